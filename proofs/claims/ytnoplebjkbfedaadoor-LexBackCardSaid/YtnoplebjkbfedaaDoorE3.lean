/- sides: the walk. -/
import Derived.Test.YtnoplebjkbfedaaDoorE1
namespace Go.Proofs.YtnoplebjkbfedaaDoor
open Go Go.RowKit
set_option linter.unusedSimpArgs false
set_option linter.unusedVariables false
set_option maxRecDepth 100000
def symT (t : Int) : Bool := (t == -3) || (t == 3)
def pairB (a b : Tok) : Bool := (b.kind == 1) && ((a.kind == 1) && (symT a.v.T == symT b.v.T))
def sidesL : List Tok → Bool
  | a :: b :: r => pairB a b || sidesL (b :: r)
  | _ => false
theorem sidesL_true : ∀ (l : List Tok) (k : Nat) (a b : Tok), l[k]? = some a → l[k + 1]? = some b → pairB a b = true → sidesL l = true
  | [], k, a, b, h, _, _ => by simp at h
  | [x], k, a, b, _, h, _ => by simp at h
  | x :: y :: r, 0, a, b, h1, h2, h => by
    simp at h1 h2
    subst h1
    subst h2
    simp [sidesL, h]
  | x :: y :: r, k + 1, a, b, h1, h2, h => by
    have := sidesL_true (y :: r) k a b (by simpa using h1) (by simpa using h2) h
    simp [sidesL, this]
theorem sidesL_false : ∀ (l : List Tok), (∀ (k : Nat) (a b : Tok), l[k]? = some a → l[k + 1]? = some b → pairB a b = false) → sidesL l = false
  | [], _ => rfl
  | [x], _ => rfl
  | x :: y :: r, h => by
    have h0 := h 0 x y rfl rfl
    have := sidesL_false (y :: r) (fun k a b h1 h2 => h (k + 1) a b (by simpa using h1) (by simpa using h2))
    simp [sidesL, h0, this]
/-- No two up to here. -/
def SideTo (toks : List Tok) (k : Nat) : Prop := ∀ (j : Nat) (a b : Tok), j + 1 < k → toks[j]? = some a → toks[j + 1]? = some b → pairB a b = false
theorem SideTo.next {toks : List Tok} {k : Nat} {a b : Tok} (h : SideTo toks (k + 1)) (ha : toks[k]? = some a) (hb : toks[k + 1]? = some b) (hp : pairB a b = false) : SideTo toks (k + 2) := by
  intro j x y hj hx hy
  by_cases e : j < k
  · exact h j x y (by omega) hx hy
  · obtain rfl : j = k := by omega
    rw [ha] at hx
    rw [hb] at hy
    cases hx
    cases hy
    exact hp
set_option maxHeartbeats 3200000 in
theorem sides_c {w : World} {base : Nat} {lv : Value} {toks : List Tok} (h : TokRow w base lv toks) (hn : toks.length ≤ 100000) :
    Calls Tryd.prog 7 #[lv] w fun e w' => e = .returned (.bool (sidesL toks)) ∧ Fr (fun _ => False) w w' := by
  obtain ⟨a, c, rfl⟩ := h.shape
  go_enter Tryd.func7, Tryd.ntmps7
  go_wp2_with (fail)
  go_loopw [3, 4, 5] (fun i _ _ w' => ∃ k : Nat, (k + 1 ≤ toks.length ∨ k = 0) ∧ i = .int .i64 ((k + 1 : Nat) : Int) ∧ Hid (SideTo toks (k + 1)) ∧ Fr (fun _ => False) w w') (fun i _ _ _ => toks.length - (intOf i).toNat)
  case atStart => exact ⟨0, .inr rfl, rfl, Lib.hid (fun j a b hj => by omega), Fr.refl _ _⟩
  case round =>
    obtain ⟨k, hk, rfl, HS, F⟩ := hrel
    by_cases hlt : k + 1 < toks.length
    · obtain ⟨ta, hta⟩ : ∃ t, toks[k]? = some t := ⟨_, List.getElem?_eq_getElem (by omega)⟩
      obtain ⟨tb, htb⟩ : ∃ t, toks[k + 1]? = some t := ⟨_, List.getElem?_eq_getElem hlt⟩
      obtain ⟨lb, cap, -, -, -, -, he, hcap, hlb, -, a0, -, -, -, a4, -⟩ := (h.keep F).tok hta
      obtain ⟨lb', cap', -, -, -, -, he', -, -, -, b0, -, -, -, b4, -⟩ := (h.keep F).tok htb
      injection he with he1 he2 he3
      injection he' with he1' he2' he3'
      subst he1
      subst he3
      subst he3'
      injection he1' with he1'
      injection he1' with he1'
      subst he1'
      clear he2 he2'
      have HA := Lib.hid hta
      have HB := Lib.hid htb
      have hk1 : (k : Int) + 1 < (toks.length : Int) := by omega
      have hk0 : (0 : Int) ≤ (k : Int) + 1 := by omega
      have hk4 : ((k : Int) + 1).toNat = k + 1 := by omega
      have hk2 : (0 : Int) ≤ (k : Int) := by omega
      have hk3 : (k : Int) < (toks.length : Int) := by omega
      have y1 : IntKind.i64.wrap ((k : Int) + 1 - 1) = (k : Int) := (IntWalk.i64_in _ (by omega)).trans (by omega)
      have y2 : IntKind.i64.wrap (k : Int) = (k : Int) := IntWalk.i64_in _ (by omega)
      clear hta htb
      cases hkb : (tb.kind == 1) with
      | false =>
        have hp : pairB ta tb = false := by simp [pairB, hkb]
        have HP := Lib.hid (HS.out.next HA.out HB.out hp)
        clear hp
        go_wp2_with (fail)
        go_quiet (fail)
        go_wp2_with (fail)
        exact ⟨⟨k + 1, by omega, by go_num, HP, F.drewN _⟩, by simp [intOf]; omega⟩
      | true =>
        cases hka : (ta.kind == 1) with
        | false =>
          have hp : pairB ta tb = false := by simp [pairB, hkb, hka]
          have HP := Lib.hid (HS.out.next HA.out HB.out hp)
          clear hp
          go_wp2_with (fail)
          go_quiet (fail)
          go_wp2_with (fail)
          exact ⟨⟨k + 1, by omega, by go_num, HP, F.drewN _⟩, by simp [intOf]; omega⟩
        | true =>
          cases ha3 : (ta.v.T == -3) <;> cases ha4 : (ta.v.T == 3) <;> cases hb3 : (tb.v.T == -3) <;> cases hb4 : (tb.v.T == 3) <;> first
            | (have hp : pairB ta tb = true := by simp only [pairB, symT, hka, hkb, ha3, ha4, hb3, hb4]; rfl
               have HP := Lib.hid (sidesL_true toks k ta tb HA.out HB.out hp)
               clear hp
               go_wp2_with (fail)
               go_quiet (fail)
               go_wp2_with (fail)
               go_ret
               exact ⟨by rw [HP.out]; rfl, F.drewN _⟩)
            | (have hp : pairB ta tb = false := by simp only [pairB, symT, hka, hkb, ha3, ha4, hb3, hb4]; rfl
               have HP := Lib.hid (HS.out.next HA.out HB.out hp)
               clear hp
               go_wp2_with (fail)
               go_quiet (fail)
               go_wp2_with (fail)
               exact ⟨⟨k + 1, by omega, by go_num, HP, F.drewN _⟩, by simp [intOf]; omega⟩)
    · have hz : decide ((k : Int) + 1 < (toks.length : Int)) = false := by simp; omega
      have hp : sidesL toks = false := sidesL_false toks (fun j a b ha hb => HS.out j a b (by have := (List.getElem?_eq_some_iff.1 hb).1; omega) ha hb)
      have HP := Lib.hid hp
      clear hp
      go_wp2_with (fail)
      go_ret
      exact ⟨by rw [HP.out]; rfl, F⟩
end Go.Proofs.YtnoplebjkbfedaaDoor
