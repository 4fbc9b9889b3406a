/- Word, num: the walks. -/
import Derived.Test.YtnoplebjkbfedaaDoorA2
namespace Go.Proofs.YtnoplebjkbfedaaDoor
open Go Go.RowKit
set_option linter.unusedSimpArgs false
set_option linter.unusedVariables false
set_option maxRecDepth 100000
theorem num_c (n : Int) (w : World) : Calls Tryd.prog 6 #[.int .i64 n] w fun e w' => e = .returned (.int .i64 n) ∧ w' = w := by
  go_enter Tryd.func6, Tryd.ntmps6
  go_wp2
  go_ret
  exact ⟨rfl, rfl⟩
theorem wordB_false {s : ByteArray} {k : Nat} (h : k < s.size) (hb : inI ((s[k]'h).toNat : Int) = false) : wordB s = false := by
  unfold wordB
  have : s.data.toList.all (fun c => inI c.toNat) = false := by
    rw [List.all_eq_false]
    exact ⟨s[k]'h, by rw [ByteArray.getElem_eq_getElem_data]; simp, by rw [hb]; decide⟩
  rw [this]
  rfl
theorem wordB_end {s : ByteArray} (h : ∀ k (h : k < s.size), inI ((s[k]'h).toNat : Int) = true) (h0 : 0 < s.size) : wordB s = ltI ((s[0]'h0).toNat : Int) := by
  unfold wordB
  have : s.data.toList.all (fun c => inI c.toNat) = true := by
    rw [List.all_eq_true]
    intro c hc
    obtain ⟨k, hk, rfl⟩ := List.getElem_of_mem hc
    have := h k (by simpa using hk)
    simpa [ByteArray.getElem_eq_getElem_data] using this
  rw [this]
  have e : s.data.toList = s[0]'h0 :: s.data.toList.drop 1 := by
    have h1 : 0 < s.data.toList.length := by simpa using h0
    rw [show s[0]'h0 = s.data.toList[0]'h1 by simp [ByteArray.getElem_eq_getElem_data]]
    exact (List.drop_eq_getElem_cons h1)
  rw [e]
  rfl
set_option maxHeartbeats 800000 in
theorem Word_c (s : ByteArray) (w : World) (hs : s.size ≤ 100000) (h0 : 0 < s.size) : Calls Tryd.prog 11 #[.string s] w fun e w' => e = .returned (.bool (wordB s)) ∧ w' = w := by
  have hne : s.toList ≠ [] := by
    rw [ByteArray.toList_eq]
    intro e
    have h1 : s.data.toList.length = s.size := by simp
    rw [e] at h1
    simp only [List.length_nil] at h1
    omega
  have hem : s.toList.isEmpty = false := by
    cases hq : s.toList with
    | nil => exact absurd hq hne
    | cons a b => rfl
  have HNE := Lib.hid hne
  clear hne
  go_enter Tryd.func11, Tryd.ntmps11
  go_wp2_with (fail)
  go_loop [3, 6] (fun _ i => ∃ k : Nat, k ≤ s.size ∧ i = .int .i64 k ∧ Hid (∀ j (h : j < s.size), j < k → inI ((s[j]'h).toNat : Int) = true)) (fun _ i => s.size - (intOf i).toNat)
  case atStart => exact ⟨0, Nat.zero_le _, rfl, Lib.hid (fun j h hj => by omega)⟩
  case round =>
    obtain ⟨k, hk, rfl, HK⟩ := hrel
    by_cases hlt : k < s.size
    · have hk1 : (k : Int) < (s.size : Int) := by omega
      have hk0 : (0 : Int) ≤ (k : Int) := by omega
      cases hb : inI ((s[k]'hlt).toNat : Int) with
      | false =>
        have hw := wordB_false hlt hb
        have HW := Lib.hid hw
        clear hw
        go_wp2_with (go_at_call 18; refine (inside_c _ _).mono ?_; rintro e w' ⟨rfl, rfl⟩)
        go_ret
        exact ⟨by rw [HW.out]; rfl, rfl⟩
      | true =>
        have hnx : ∀ j (h : j < s.size), j < k + 1 → inI ((s[j]'h).toNat : Int) = true := by
          intro j h hj
          by_cases e : j < k
          · exact HK.out j h e
          · obtain rfl : j = k := by omega
            exact hb
        have HN := Lib.hid hnx
        clear hnx
        go_wp2_with (go_at_call 18; refine (inside_c _ _).mono ?_; rintro e w' ⟨rfl, rfl⟩)
        go_round
        case rel => exact ⟨k + 1, by omega, by go_num, HN⟩
        case measure => simp [intOf]; omega
    · obtain rfl : k = s.size := by omega
      have hw := wordB_end (fun k h => HK.out k h h) h0
      have HW := Lib.hid hw
      clear hw
      go_wp2_with (go_at_call 19; refine (letter_c _ _).mono ?_; rintro e w' ⟨rfl, rfl⟩)
      go_ret
      exact ⟨by rw [HW.out]; rfl, rfl⟩
end Go.Proofs.YtnoplebjkbfedaaDoor
