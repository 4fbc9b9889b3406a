/- strconv.ParseUint at base 16 of one or two bytes. -/
import Derived.Test.YtnoplebjkbfedaaDoorBase2
import Derived.Test.YtnoplebjkbfedaaDoorSpec4
import Derived.Test.YtnoplebjkbfedaaDoorShelf
import Derived.Lib.Walk
import Derived.Lib.ConvBytes
import Derived.Lib.ParseIntBMem
import Derived.Laws.Strings3
namespace Go.Proofs.YtnoplebjkbfedaaDoor
open Go Go.RowKit
set_option linter.unusedSimpArgs false
theorem low_eq (c : UInt8) : bits .or .u8 (c.toNat : Int) 32 = (lowI c.toNat : Int) := by
  have key : ∀ n : Fin 256, bits .or .u8 (n.val : Int) 32 = (lowI n.val : Int) := by decide +kernel
  exact key ⟨c.toNat, c.toNat_lt⟩
theorem low_some {c : UInt8} {d : Nat} (h : hexI c.toNat = some d) (hd : ¬ (48 ≤ c.toNat ∧ c.toNat ≤ 57)) : 97 ≤ lowI c.toNat ∧ lowI c.toNat ≤ 102 ∧ d = lowI c.toNat - 87 := by
  have key : ∀ n : Fin 256, ¬ (48 ≤ n.val ∧ n.val ≤ 57) → ∀ d, hexI n.val = some d → 97 ≤ lowI n.val ∧ lowI n.val ≤ 102 ∧ d = lowI n.val - 87 := by
    intro n hn d hd
    have k2 : ∀ n : Fin 256, ¬ (48 ≤ n.val ∧ n.val ≤ 57) → (hexI n.val).isSome = true → 97 ≤ lowI n.val ∧ lowI n.val ≤ 102 ∧ hexI n.val = some (lowI n.val - 87) := by decide +kernel
    obtain ⟨a, b, e⟩ := k2 n hn (by rw [hd]; rfl)
    rw [hd] at e
    exact ⟨a, b, Option.some.inj e⟩
  exact key ⟨c.toNat, c.toNat_lt⟩ hd d h
theorem low_none {c : UInt8} (h : hexI c.toNat = none) : ¬ (48 ≤ c.toNat ∧ c.toNat ≤ 57) ∧ (97 ≤ lowI c.toNat → 103 ≤ lowI c.toNat) := by
  have key : ∀ n : Fin 256, hexI n.val = none → ¬ (48 ≤ n.val ∧ n.val ≤ 57) ∧ (97 ≤ lowI n.val → 103 ≤ lowI n.val) := by decide +kernel
  exact key ⟨c.toNat, c.toNat_lt⟩ h
theorem low_le (c : UInt8) : lowI c.toNat ≤ 255 := by
  have key : ∀ n : Fin 256, lowI n.val ≤ 255 := by decide +kernel
  exact key ⟨c.toNat, c.toNat_lt⟩
set_option maxHeartbeats 32000000 in
set_option maxRecDepth 100000 in
theorem parse16_in (t : ByteArray) (hne : t.size ≠ 0) (hmax : t.size ≤ 2) (w : World) :
    Calls Tryd.prog 64 #[.string t, .int .i64 16, .int .i64 8] w fun e w' => e = .returned (Lib.uintTuple 96 (hexP 0 t.data.toList)) ∧ w' = Lib.bytesWorld w 5 t := by
  have hemp : t.toList.isEmpty = false := by
    rw [← decide_eq_emptyBytes]
    exact decide_eq_false (fun h => hne (by rw [h]; rfl))
  have hcv := Lib.run_convert_string_bytes (P := Tryd.prog) w 9 56 5 t Tryd.underlying9 Tryd.underlying56 Tryd.underlying5
  have hB : ∀ j, j < t.size → (Lib.bytesWorld w 5 t).cell? ⟨w.heap.size, j, none⟩ = some (.int .u8 (t.data.toList.getD j 0).toNat) := fun j hj => Lib.bytesWorld_cell w 5 t j hj
  obtain ⟨W1, hW1⟩ : ∃ W1, W1 = Lib.bytesWorld w 5 t := ⟨_, rfl⟩
  rw [← hW1] at hcv hB ⊢
  clear hW1
  obtain ⟨bs, hL⟩ : ∃ bs, bs = t.data.toList := ⟨_, rfl⟩
  have hLn : bs.length = t.size := by rw [hL, Lib.size_eq]
  rw [← hL] at hB ⊢
  clear hL
  have hmv : IntKind.u64.wrap (IntKind.u64.wrap 256 - 1) = 255 := by
    rw [IntKind.wrap_u64, IntKind.wrap_u64]
    decide
  go_enter Tryd.func64, Tryd.ntmps64
  go_wp2_with (fail)
  go_loop [12, 13, 101] (fun vu vn vi => ∃ (k acc : Nat) (a : Int), vu = .bool false ∧ vn = .int .u64 a ∧ vi = .int .i64 k ∧ k ≤ t.size ∧ Hid (a = (acc : Int) ∧ acc < 16 ^ k ∧ hexP 0 bs = hexP acc (bs.drop k)))
    (fun _ _ vi => t.size - (intOf vi).toNat)
  case atStart => exact ⟨0, 0, 0, rfl, rfl, rfl, by omega, rfl, by simp, rfl⟩
  case round =>
    obtain ⟨k, acc, a, rfl, rfl, rfl, hk, hh⟩ := hrel
    obtain ⟨ha, hacc, hdec⟩ := hh.out
    clear hh
    by_cases hkn : k < t.size
    · have hacc2 : acc ≤ 15 := by
        have : k ≤ 1 := by omega
        have h16 : 16 ^ k ≤ 16 ^ 1 := Nat.pow_le_pow_right (by omega) this
        omega
      have a0 : 0 ≤ a := by omega
      have a1 : a ≤ 15 := by omega
      have hc := hB k hkn
      have hdrop : bs.drop k = bs[k]'(by omega) :: bs.drop (k + 1) := List.drop_eq_getElem_cons (by omega)
      have hget : bs.getD k 0 = bs[k]'(by omega) := by simp [List.getD, List.getElem?_eq_getElem (show k < bs.length by omega)]
      rw [hdrop] at hdec
      rw [hget] at hc
      generalize bs[k]'(by omega) = c at hc hdec
      have hc256 : c.toNat < 256 := c.toNat_lt
      have hlow := low_eq c
      clear hB hdrop hget
      cases hh : hexI c.toNat with
      | some d =>
        have hd15 : d ≤ 15 := by
          unfold hexI at hh
          split at hh
          · injection hh with hh; omega
          · split at hh
            · injection hh with hh; omega
            · split at hh
              · injection hh with hh; omega
              · cases hh
        have hF : hexP acc (c :: bs.drop (k + 1)) = hexP (acc * 16 + d) (bs.drop (k + 1)) := by simp [hexP, hh]
        have HN : Hid (a * 16 + (d : Int) = ((acc * 16 + d : Nat) : Int) ∧ acc * 16 + d < 16 ^ (k + 1) ∧ hexP 0 bs = hexP (acc * 16 + d) (bs.drop (k + 1))) := Lib.hid ⟨by omega, by rw [Nat.pow_succ]; omega, by rw [hdec, hF]⟩
        clear hF hdec hacc ha hacc2
        by_cases hdig : 48 ≤ c.toNat ∧ c.toNat ≤ 57
        · have hdv : (d : Int) = (c.toNat : Int) - 48 := by
            rw [hexI, if_pos hdig] at hh; injection hh with hh; omega
          obtain ⟨hd0, hd1⟩ := hdig
          have HD := Lib.hid hdv
          clear hdv hh hlow
          go_wp2_with (fail)
          exact ⟨⟨k + 1, acc * 16 + d, a * 16 + ((c.toNat : Int) - 48), rfl, rfl, by go_num, by omega, by rw [← HD.out]; exact HN⟩, by simp [intOf]; omega⟩
        · obtain ⟨l0, l1, l2⟩ := low_some hh hdig
          have hdv : (d : Int) = (lowI c.toNat : Int) - 97 + 10 := by omega
          have hlo0 : (97 : Int) ≤ (lowI c.toNat : Int) := by omega
          have hlo1 : (lowI c.toNat : Int) ≤ 102 := by omega
          have HD := Lib.hid hdv
          have h95 : ¬ (c.toNat : Int) = 95 := by
            intro h9
            have : c.toNat = 95 := by omega
            rw [this] at hh; cases hh
          have hdig' : ¬ ((48 : Int) ≤ (c.toNat : Int) ∧ (c.toNat : Int) ≤ 57) := by omega
          clear hdv hh l0 l1 l2 hdig
          generalize lowI c.toNat = lo at *
          go_wp2_with (go_at_call 71; refine (Tryd.internal_strconv_lower _ _).mono ?_; rintro e w' ⟨rfl, rfl⟩; simp only [hlow])
          all_goals first
            | exact ⟨⟨k + 1, acc * 16 + d, a * 16 + ((lo : Int) - 97 + 10), rfl, rfl, by go_num, by omega, by rw [← HD.out]; exact HN⟩, by simp [intOf]; omega⟩
      | none =>
        obtain ⟨n1, n2⟩ := low_none hh
        have hle := low_le c
        have hF : hexP acc (c :: bs.drop (k + 1)) = synE := by simp [hexP, hh]
        rw [hF] at hdec
        have n2' : (97 : Int) ≤ (lowI c.toNat : Int) → (103 : Int) ≤ (lowI c.toNat : Int) := by omega
        have hle' : (lowI c.toNat : Int) ≤ 255 := by omega
        have hdig' : ¬ ((48 : Int) ≤ (c.toNat : Int) ∧ (c.toNat : Int) ≤ 57) := by omega
        have HDEC := Lib.hid hdec
        clear hacc hF ha hh n1 n2 hle hdec hacc2
        generalize lowI c.toNat = lo at *
        by_cases hl : (97 : Int) ≤ (lo : Int)
        · have hl2 := n2' hl
          clear n2'
          go_wp2_with (go_at_call 71; refine (Tryd.internal_strconv_lower _ _).mono ?_; rintro e w' ⟨rfl, rfl⟩; simp only [hlow])
          all_goals first
            | (go_ret2; exact ⟨by rw [HDEC.out]; rfl, rfl⟩)
        · clear n2'
          go_wp2_with (go_at_call 71; refine (Tryd.internal_strconv_lower _ _).mono ?_; rintro e w' ⟨rfl, rfl⟩; simp only [hlow])
          all_goals first
            | (go_ret2; exact ⟨by rw [HDEC.out]; rfl, rfl⟩)
    · have hkk : k = t.size := by omega
      subst hkk
      have hF : hexP acc (bs.drop t.size) = .ok acc := by rw [List.drop_eq_nil_of_le (by omega)]; rfl
      rw [hF] at hdec
      subst ha
      have HDEC := Lib.hid hdec
      clear hacc hF hdec
      go_wp2_with (fail)
      go_ret2
      exact ⟨by rw [HDEC.out]; rfl, rfl⟩
end Go.Proofs.YtnoplebjkbfedaaDoor
