/- The lexer's methods number, more and value. -/
import Derived.Test.YtnoplebjkbfedaaDoorA2
import Derived.Test.YtnoplebjkbfedaaDoorBase2
namespace Go.Proofs.YtnoplebjkbfedaaDoor
open Go Go.RowKit
set_option maxRecDepth 100000

theorem pk_lt {s : ByteArray} {i : Nat} (h : pkI s i ≠ 0) : i < s.size := by
  unfold pkI at h
  split at h
  · rename_i h1; simpa using h1
  · exact absurd rfl h

set_option maxHeartbeats 800000 in
theorem number_c {w : World} {B g : Nat} {s : ByteArray} {st : LxSt} {lv : Value} (h : IsLx w B g s st lv) (i : Nat) (hi : st.at_ = i) (hle : i ≤ s.size) (hs : s.size ≤ 70000) :
    Calls Tryd.prog 36 #[.pointer (some ⟨g, 0, none⟩)] w fun e' w' => e' = .returned (.string (subS s i (numLen s i))) ∧ IsLx w' B g s st lv ∧ Fr (fun k => k = g) w w' := by
  obtain ⟨c0, c1, c2, c3, c4, cf⟩ := h.cells
  have f1 := cf 1 (by omega)
  clear cf c2 c3 c4
  have hlt := h.lt
  rw [hi] at c1
  have key : ∀ n : Nat, n = numPre s i → i + n ≤ s.size ∧ (n = 0 ∨ n = 1) := by
    intro n hn
    unfold numPre at hn
    split at hn
    · rename_i h45
      have := pk_lt (s := s) (i := i) (by rw [h45]; decide)
      omega
    · omega
  by_cases h45 : pkI s i = 45
  case pos =>
    have hz : (pkI s i == 45) = true := by simpa using h45
    have hnp : numPre s i = 1 := by simp [numPre, h45]
    have hk := (key 1 hnp.symm).1
    have HP := Lib.hid hnp
    clear h45 key hnp
    go_enter Tryd.func36, Tryd.ntmps36
    go_wp2_with (go_at_call 20; refine (peek_c (by exact c0) (by exact c1) (by omega) (by omega) (by omega) (by omega) (by omega)).mono ?_; rintro e w' ⟨rfl, n1, rfl⟩)
    generalize hw1 : (w.drewN _).setCell ⟨g, 1, none⟩ _ = w1
    have F1 : Fr (fun k => k = g) w w1 := by rw [← hw1]; exact ((Fr.refl _ _).drewN _).set1 1 _
    have g1 : w1.heap[g]? = some (.cells #[.string s, .int .i64 ((i + 1 : Nat) : Int), lv, .int .i64 st.err, .int .i64 st.bad] 44 (0, 0)) := by rw [← hw1]; exact set_place h.2.1
    clear hw1 c0 c1 f1
    obtain ⟨d0, d1, d2, d3, d4, e0, e1, e2, e3, e4⟩ := blk5 g1
    refine (run_c _ _ tells_long d0 d1 (by omega) (by omega)).mono ?_
    rintro e w' ⟨rfl, n2, rfl⟩
    have hr := runN_le lnI s (i + 1) (by omega)
    clear d2 d3 d4 e0 e2 e3 e4
    go_wp2_with (fail)
    generalize hw3 : (w1.drewN _).setCell ⟨g, 1, none⟩ _ = w3
    have F3 : Fr (fun k => k = g) w w3 := by rw [← hw3]; exact (F1.drewN _).set1 1 _
    have g3 : w3.heap[g]? = some (.cells #[.string s, .int .i64 (i : Int), lv, .int .i64 st.err, .int .i64 st.bad] 44 (0, 0)) := by
      rw [← hw3]
      first | exact set_place g1 | (rw [show (i : Int) = ((i + 1 : Nat) : Int) - 1 by omega]; exact set_place g1)
    clear hw3 d0 d1 e1
    obtain ⟨d0, d1, d2, d3, d4, e0, e1, e2, e3, e4⟩ := blk5 g3
    clear d2 d3 d4 e0 e1 e2 e3 e4
    have hsz := subS_size s (i + 1) (runN lnI s (i + 1)) (by omega)
    generalize hR : runN lnI s (i + 1) = r at *
    have HR := Lib.hid hR
    clear hR
    have b1 : (i : Int) + 1 + (r : Int) ≤ (s.size : Int) := by omega
    have b0 : 0 ≤ (i : Int) + 1 + (r : Int) := by omega
    have b2 : (i : Int) ≤ (i : Int) + 1 + (r : Int) := by omega
    have b3 : ((i : Int) + 1 + (r : Int)).toNat = i + 1 + r := by omega
    have b4 : IntKind.i64.wrap ((i : Int) + 1 + (r : Int)) = (i : Int) + 1 + (r : Int) := IntWalk.i64_in _ (by omega)
    go_quiet (fail)
    go_wp2
    go_ret
    have FE := F3.drewN nq
    refine ⟨?_, h.upd (by rw [hi]; exact g3) rfl FE, FE⟩
    show Ending.returned (.string (s.extract i (i + 1 + r))) = _
    rw [numLen, HP.out, HR.out, subS, Nat.add_assoc]
  case neg =>
    have hz : (pkI s i == 45) = false := by simpa using h45
    have hnp : numPre s i = 0 := by simp [numPre, h45]
    have HP := Lib.hid hnp
    clear h45 key hnp
    go_enter Tryd.func36, Tryd.ntmps36
    go_wp2_with (go_at_call 20; refine (peek_c (by exact c0) (by exact c1) (by omega) (by omega) (by omega) (by omega) (by omega)).mono ?_; rintro e w' ⟨rfl, n1, rfl⟩)
    generalize hw1 : (w.drewN _).setCell ⟨g, 1, none⟩ _ = w1
    have F1 : Fr (fun k => k = g) w w1 := by rw [← hw1]; exact ((Fr.refl _ _).drewN _).set1 1 _
    have g1 : w1.heap[g]? = some (.cells #[.string s, .int .i64 (i : Int), lv, .int .i64 st.err, .int .i64 st.bad] 44 (0, 0)) := by rw [← hw1]; exact set_place h.2.1
    clear hw1 c0 c1 f1
    obtain ⟨d0, d1, d2, d3, d4, e0, e1, e2, e3, e4⟩ := blk5 g1
    refine (run_c _ _ tells_long d0 d1 (by omega) (by omega)).mono ?_
    rintro e w' ⟨rfl, n2, rfl⟩
    have hr := runN_le lnI s i (by omega)
    clear d2 d3 d4 e0 e2 e3 e4
    go_wp2_with (fail)
    generalize hw3 : (w1.drewN _).setCell ⟨g, 1, none⟩ _ = w3
    have F3 : Fr (fun k => k = g) w w3 := by rw [← hw3]; exact (F1.drewN _).set1 1 _
    have g3 : w3.heap[g]? = some (.cells #[.string s, .int .i64 (i : Int), lv, .int .i64 st.err, .int .i64 st.bad] 44 (0, 0)) := by
      rw [← hw3]
      exact set_place g1
    clear hw3 d0 d1 e1
    obtain ⟨d0, d1, d2, d3, d4, e0, e1, e2, e3, e4⟩ := blk5 g3
    clear d2 d3 d4 e0 e1 e2 e3 e4
    have hsz := subS_size s i (runN lnI s i) (by omega)
    generalize hR : runN lnI s i = r at *
    have HR := Lib.hid hR
    clear hR
    have b1 : (i : Int) + (r : Int) ≤ (s.size : Int) := by omega
    have b0 : 0 ≤ (i : Int) + (r : Int) := by omega
    have b2 : (i : Int) ≤ (i : Int) + (r : Int) := by omega
    have b3 : ((i : Int) + (r : Int)).toNat = i + r := by omega
    have b4 : IntKind.i64.wrap ((i : Int) + (r : Int)) = (i : Int) + (r : Int) := IntWalk.i64_in _ (by omega)
    go_quiet (fail)
    go_wp2
    go_ret
    have FE := F3.drewN nq
    refine ⟨?_, h.upd (by rw [hi]; exact g3) rfl FE, FE⟩
    show Ending.returned (.string (s.extract i (i + r))) = _
    rw [numLen, HP.out, Nat.add_zero, HR.out, subS, Nat.zero_add]
end Go.Proofs.YtnoplebjkbfedaaDoor
