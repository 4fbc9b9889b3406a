/- Same of two rows of tokens that are alike but for their places: the walk. -/
import Derived.Test.YtnoplebjkbfedaaDoorE4
import Derived.Test.YtnoplebjkbfedaaDoorE1
namespace Go.Proofs.YtnoplebjkbfedaaDoor
open Go Go.RowKit
set_option linter.unusedSimpArgs false
set_option linter.unusedVariables false
set_option maxRecDepth 100000
attribute [local irreducible] wpMix
def Alike (a b : Tok) : Prop := a.kind = b.kind ∧ a.text = b.text ∧ a.v = b.v
set_option maxHeartbeats 3200000 in
theorem Same_eq {w : World} {base base' : Nat} {lv lv' : Value} {ta tb : List Tok} (h : TokRow w base lv ta) (h' : TokRow w base' lv' tb) (hn : ta.length ≤ 100000) (hl : ta.length = tb.length)
    (hal : ∀ (k : Nat) (x y : Tok), ta[k]? = some x → tb[k]? = some y → Alike x y) (hsz : ∀ t ∈ ta, t.v.N.length ≤ 1000000 ∧ t.v.S.length ≤ 1000000) :
    Calls Tryd.prog 9 #[lv, lv', .bool false] w fun e w' => e = .returned (.bool true) ∧ Fr (fun _ => False) w w' := by
  obtain ⟨a, c, rfl⟩ := h.shape
  obtain ⟨a', c', rfl⟩ := h'.shape
  have HAL := Lib.hid hal
  have HSZ := Lib.hid hsz
  have HL := Lib.hid hl
  rw [← hl]
  clear hal hsz hl
  go_enter Tryd.func9, Tryd.ntmps9
  go_wp2_with (fail)
  go_loopw [7] (fun i w' => ∃ k : Nat, k ≤ ta.length ∧ i = .int .i64 k ∧ Fr (fun _ => False) w w') (fun i _ => ta.length - (intOf i).toNat)
  case atStart => exact ⟨0, Nat.zero_le _, rfl, Fr.refl _ _⟩
  case round =>
    obtain ⟨k, hk, rfl, F⟩ := hrel
    by_cases hlt : k < ta.length
    · obtain ⟨x, hx⟩ : ∃ t, ta[k]? = some t := ⟨_, List.getElem?_eq_getElem hlt⟩
      obtain ⟨y, hy⟩ : ∃ t, tb[k]? = some t := ⟨_, List.getElem?_eq_getElem (by rw [← HL.out]; exact hlt)⟩
      obtain ⟨ek, et, ev⟩ := HAL.out k x y hx hy
      obtain ⟨lb, cap, na, nc, sa, sc, he, hcap, hlb, -, a0, -, -, a3, a4, a5, a6, a7, hN, hS⟩ := (h.keep F).tok hx
      obtain ⟨lb', cap', na', nc', sa', sc', he', -, -, -, b0, -, -, b3, b4, b5, b6, b7, hN', hS'⟩ := (h'.keep F).tok hy
      rw [← ek] at b0
      rw [← et] at b3
      rw [← ev] at b4 b5 b6 hN' hS'
      injection he with he1 he2 he3
      injection he' with he1' he2' he3'
      subst he1
      subst he1'
      have hsz := HSZ.out x (List.mem_of_getElem? hx)
      clear ek et ev he2 he3 he2' he3' hx hy
      have hk1 : (k : Int) < (ta.length : Int) := by omega
      have hk0 : (0 : Int) ≤ (k : Int) := by omega
      have hM := Match_eq (w := wr.drew) (v := x.v) ⟨_, _, rfl, by exact hN, by exact hS⟩ ⟨_, _, rfl, by exact hN', by exact hS'⟩ hsz.1 hsz.2
      go_wp2_with (fail)
      refine wp_region_mix (fun _ => True) 67 [(.p, 0), (.p, 1), (.p, 2), (.p, 3), (.l [35, 24, 11, 10, 4], 4), (.p, 5), (.p, 6), (.p, 7), (.p, 8), (.l [35, 24, 11, 10, 9], 9), (.p, 10), (.p, 11), (.p, 12), (.p, 13), (.p, 14), (.p, 15), (.l [35, 24, 23, 22, 16], 16), (.p, 17), (.p, 18), (.p, 19), (.p, 20), (.l [35, 24, 23, 22, 21], 21), (.p, 22), (.p, 23), (.p, 24), (.p, 25), (.p, 26), (.p, 27), (.p, 28), (.l [35, 29], 29), (.p, 30), (.p, 31), (.p, 32), (.p, 33), (.l [35, 34], 34), (.w true, 35), (.p, 36), (.p, 37), (.p, 38), (.p, 39), (.p, 40), (.p, 41), (.p, 42), (.p, 43), (.p, 44), (.l [], 45), (.p, 46), (.p, 47), (.p, 48), (.p, 49), (.l [], 50), (.p, 51), (.p, 52), (.p, 53), (.p, 54), (.p, 55), (.p, 56), (.l [], 57), (.p, 58), (.p, 59), (.p, 60), (.p, 61), (.l [], 62), (.p, 63), (.p, 64), (.p, 65), (.p, 66)] (by kernel_rfl) (by kernel_rfl) rfl (by kernel_rfl) ?_ ?_
      · trivial
      repeat (refine wpMix_look rfl rfl (fun K hK => ?_); go_simp; refine hK _ ?_; clear hK K)
      refine wpMix_loud rfl (fun K hK => ?_)
      go_wp2_with (fail)
      refine hM.mono ?_
      rintro e w2 ⟨rfl, F2⟩
      go_wp2_with (fail)
      refine thenN_normal (hK _ _ (fun _ => trivial) ?_)
      clear hK K hM
      repeat (refine wpMix_look rfl rfl (fun K hK => ?_); go_simp; refine hK _ ?_; clear hK K)
      refine wpMix_nil ?_
      go_wp2_with (fail)
      exact ⟨⟨k + 1, by omega, by go_num, F.trans F2.of_drew⟩, by simp [intOf]; omega⟩
    · have hz : decide ((k : Int) < (ta.length : Int)) = false := by simp; omega
      go_wp2_with (fail)
      go_ret
      exact ⟨rfl, F⟩
end Go.Proofs.YtnoplebjkbfedaaDoor
