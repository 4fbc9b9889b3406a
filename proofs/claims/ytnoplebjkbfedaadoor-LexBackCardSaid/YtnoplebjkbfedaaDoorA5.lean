/- The lexer's method more. -/
import Derived.Test.YtnoplebjkbfedaaDoorA2
import Derived.Test.YtnoplebjkbfedaaDoorBase2
import Derived.Test.YtnoplebjkbfedaaDoorSpec2
import Derived.Test.YtnoplebjkbfedaaDoorShelf
namespace Go.Proofs.YtnoplebjkbfedaaDoor
open Go Go.RowKit
set_option maxRecDepth 100000

set_option maxHeartbeats 1600000 in
theorem more_c {w : World} {B g : Nat} {s : ByteArray} {st : LxSt} {lv : Value} (hx : IsLx w B g s st lv) (i : Nat) (hi : st.at_ = i) (hle : i ≤ s.size) (hs : s.size ≤ 70000) :
    Calls Tryd.prog 38 #[.pointer (some ⟨g, 0, none⟩)] w fun e' w' => e' = .returned (.bool (moreS s i).isSome) ∧ IsLx w' B g s { st with at_ := ((moreS s i).getD i : Nat) } lv ∧ Fr (fun k => k = g) w w' := by
  obtain ⟨c0, c1, c2, c3, c4, cf⟩ := hx.cells
  clear cf c2 c3 c4
  have hlt := hx.lt
  rw [hi] at c1
  have hst : st = { st with at_ := (i : Int) } := by rw [← hi]
  have HST := Lib.hid hst
  clear hst
  have hrn := runN_le blI s i hle
  have hin := fun k => pk_run_in s i k
  have hend := pk_run_end s i
  have HIN := Lib.hid hin
  have HEND := Lib.hid hend
  clear hin hend
  generalize hR : runN blI s i = n at *
  have HR := Lib.hid hR
  clear hR
  go_enter Tryd.func38, Tryd.ntmps38
  go_wp2_with (fail)
  go_loopw [3] (fun v w' => ∃ k : Nat, k ≤ n ∧ v = .int .i64 k ∧ ∃ m, w' = w.drewN m) (fun v _ => n - (intOf v).toNat)
  case atStart => exact ⟨0, by omega, rfl, 0, rfl⟩
  case round =>
    obtain ⟨k, hk, rfl, m, rfl⟩ := hrel
    have hsum : pkI s ((i : Int) + (k : Int)) = pkI s ((i + k : Nat) : Int) := by norm_cast
    have HSUM := Lib.hid hsum
    clear hsum
    by_cases hkn : k < n
    · have h32 : (pkI s ((i : Int) + (k : Int)) == 32) = true := by rw [HSUM.out, HIN.out k hkn]; rfl
      go_wp2_with (go_at_call 20; refine (peek_c (by exact c0) (by exact c1) (by omega) (by omega) (by omega) (by omega) (by omega)).mono ?_; rintro e w' ⟨rfl, n1, rfl⟩)
      exact ⟨⟨k + 1, by omega, by go_num, _, rfl⟩, by simp [intOf]; omega⟩
    · obtain rfl : k = n := by omega
      have h32 : (pkI s ((i : Int) + (k : Int)) == 32) = false := by rw [HSUM.out]; simpa using HEND.out
      have hkb : k ≤ 70000 := by omega
      by_cases hk0 : k = 0
      · subst hk0
        have hz : moreS s i = none := moreS_zero HR.out
        have HZ := Lib.hid hz
        have h32' : (pkI s (i : Int) == 32) = false := by simpa using h32
        clear h32 hz
        go_wp2_with (go_at_call 20; refine (peek_c (by exact c0) (by exact c1) (by omega) (by omega) (by omega) (by omega) (by omega)).mono ?_; rintro e w' ⟨rfl, n1, rfl⟩)
        go_ret
        refine ⟨by rw [HZ.out]; rfl, ?_, ?_⟩
        · rw [HZ.out]
          exact (HST.out ▸ hx : IsLx w B g s _ lv)
        · exact (Fr.refl _ _).drewN _
      have hk0' : ((k : Int) == 0) = false := by simp; omega
      have HK := Lib.hid hk0
      clear hk0
      by_cases hd : dgI (pkI s ((i : Int) + (k : Int))) = true
      · have hstart := Or.inl (b := pkI s ((i + k : Nat) : Int) = 45 ∧ dgI (pkI s ((i + k : Nat) + 1)) = true) (show dgI (pkI s ((i + k : Nat) : Int)) = true by rw [← HSUM.out]; exact hd)
        have HST2 := Lib.hid hstart
        clear hstart
        go_wp2_with (go_at_call 20; refine (peek_c (by exact c0) (by exact c1) (by omega) (by omega) (by omega) (by omega) (by omega)).mono ?_; rintro e w' ⟨rfl, n1, rfl⟩)
        refine (digit_c _ _).mono ?_
        rintro e w' ⟨rfl, rfl⟩
        generalize hw5 : World.drewN w _ = w5
        have F5 : Fr (fun _ => False) w w5 := by rw [← hw5]; exact (Fr.refl _ _).drewN _
        have g5 := (F5.block g hlt id).trans hx.2.1
        have hlt5 : g < w5.heap.size := Nat.lt_of_lt_of_le hlt F5.size
        obtain ⟨c0, c1, -⟩ := blk5 g5
        rw [hi] at c1
        clear hw5
        go_wp2_with (fail)
        generalize hw2 : w5.alloc _ = w2
        have F2 : Fr (fun _ => False) w w2 := by rw [← hw2]; exact F5.alloc _
        have y0 : w2.cell? ⟨w5.heap.size, 0, none⟩ = some (.string s) := by rw [← hw2]; simp
        have y1 : w2.cell? ⟨w5.heap.size, 1, none⟩ = some (.int .i64 ((i + k : Nat) : Int)) := by rw [← hw2]; simp
        have g2 := (F2.block g hlt id).trans hx.2.1
        clear hw2 c0 c1
        refine (run_c _ _ tells_long y0 y1 (by omega) (by omega)).mono ?_
        rintro e w' ⟨rfl, n2, rfl⟩
        have hrl := runN_le lnI s (i + k) (by omega)
        have hsz := subS_size s (i + k) (runN lnI s (i + k)) hrl
        have HB := fun hb => moreS_bits (s := s) (i := i) HR.out hb
        have HY := fun hb => moreS_yes (s := s) (i := i) HR.out HK.out HST2.out hb
        generalize subS s (i + k) (runN lnI s (i + k)) = tx at *
        obtain ⟨d0, d1, d2, d3, d4, e0, e1, e2, e3, e4⟩ := blk5 g2
        clear c0 c1 y0 y1 d0 d2 d3 d4 e0 e2 e3 e4 g5
        by_cases q1 : Lib.hasSuffix tx.data.toList [98] = true
        case neg =>
          have q1' : Lib.hasSuffix tx.data.toList [98] = false := by simpa using q1
          have hm := HY (by simp [bitsB, q1'])
          clear HB HY q1
          have HM := Lib.hid hm
          clear hm
          go_wp2_with (go_at_call 33; refine (Tryd.strings_CutSuffix _ _ _ (by omega)).mono ?_; rintro e w' ⟨rfl, rfl⟩)
          go_ret
          have FE : Fr (fun k => k = g) w ((w2.drewN n2).setCell ⟨g, 1, none⟩ (.int .i64 ((i : Int) + (k : Int)))) := ((F2.mono (fun _ h => h.elim)).drewN _).set1 1 _
          exact ⟨by rw [HM.out]; rfl, by rw [HM.out]; exact hx.place _ FE (by simpa using set_place (w := w2.drewN n2) g2), FE⟩
        by_cases q2 : Lib.trimSuffix tx.data.toList [98] = []
        case pos =>
          have hm := HY (by simp [bitsB, q2])
          clear HB HY
          have HM := Lib.hid hm
          clear hm
          go_wp2_with (go_at_call 33; refine (Tryd.strings_CutSuffix _ _ _ (by omega)).mono ?_; rintro e w' ⟨rfl, rfl⟩)
          go_ret
          have FE : Fr (fun k => k = g) w ((w2.drewN n2).setCell ⟨g, 1, none⟩ (.int .i64 ((i : Int) + (k : Int)))) := ((F2.mono (fun _ h => h.elim)).drewN _).set1 1 _
          exact ⟨by rw [HM.out]; rfl, by rw [HM.out]; exact hx.place _ FE (by simpa using set_place (w := w2.drewN n2) g2), FE⟩
        have q2' : (Lib.trimSuffix tx.data.toList [98]).isEmpty = false := by simpa using q2
        go_wp2_with (go_at_call 33; refine (Tryd.strings_CutSuffix _ _ _ (by omega)).mono ?_; rintro e w' ⟨rfl, rfl⟩)
        refine (Tryd.strings_Trim_set _ _ _ ?_ (by decide) (ascii_of_all (by decide))).mono ?_
        · have h1 := Lib.trimSuffix_le tx.data.toList [98]
          have h2 : tx.data.toList.length = tx.size := rfl
          rw [Lib.size_eq]
          dsimp only
          omega
        rintro e w3 ⟨rfl, hw3⟩
        have F3 : Fr (fun _ => False) w w3 := F2.trans ((Fr.of_below hw3 : Fr (fun _ => False) (w2.drewN n2) w3).of_drewN)
        have g3 := (F3.block g hlt id).trans hx.2.1
        obtain ⟨d0, d1, d2, d3, d4, e0, e1, e2, e3, e4⟩ := blk5 g3
        clear d0 d2 d3 d4 e0 e2 e3 e4 hw3
        dsimp only
        by_cases q3 : Lib.trimS (Lib.trimSuffix tx.data.toList [98]) [48, 49] = []
        · have hm := HB (by simp [bitsB, q1, q2, q3])
          have q3' : (Lib.trimS (Lib.trimSuffix tx.data.toList [98]) [48, 49]).isEmpty = true := by simpa using q3
          have HM := Lib.hid hm
          clear hm HB HY
          go_wp2_with (fail)
          go_ret
          have FE := F3.mono (T := fun k => k = g) (fun _ h => h.elim)
          exact ⟨by rw [HM.out]; rfl, by rw [HM.out]; exact (HST.out ▸ hx.keep F3 (fun _ _ h => h) : IsLx w3 B g s _ lv), FE⟩
        · have hm := HY (by simp [bitsB, q3])
          have q3' : (Lib.trimS (Lib.trimSuffix tx.data.toList [98]) [48, 49]).isEmpty = false := by simpa using q3
          have HM := Lib.hid hm
          clear hm HB HY
          go_wp2_with (fail)
          go_ret
          have FE : Fr (fun k => k = g) w (w3.setCell ⟨g, 1, none⟩ (.int .i64 ((i : Int) + (k : Int)))) := (F3.mono (fun _ h => h.elim)).set1 1 _
          exact ⟨by rw [HM.out]; rfl, by rw [HM.out]; exact hx.place _ FE (by simpa using set_place g3), FE⟩
      have hd' : dgI (pkI s ((i : Int) + (k : Int))) = false := by simpa using hd
      clear hd
      by_cases h45 : pkI s ((i : Int) + (k : Int)) = 45
      · have h45' : (pkI s ((i : Int) + (k : Int)) != 45) = false := by simpa using h45
        have H45 := Lib.hid h45
        clear h45
        have hs2 : pkI s ((i : Int) + ((k : Int) + 1)) = pkI s ((i + k : Nat) + 1) := by congr 1 <;> omega
        have HS2 := Lib.hid hs2
        clear hs2
        by_cases hd2 : dgI (pkI s ((i : Int) + ((k : Int) + 1))) = true
        case neg =>
          have hd2' : dgI (pkI s ((i : Int) + ((k : Int) + 1))) = false := by simpa using hd2
          have hz : moreS s i = none := moreS_no HR.out (by rw [← HSUM.out]; exact hd') (.inr (by rw [← HS2.out]; exact hd2'))
          have HZ := Lib.hid hz
          clear hz hd2
          go_wp2_with (first
            | (go_at_call 20; refine (peek_c (by exact c0) (by exact c1) (by omega) (by omega) (by omega) (by omega) (by omega)).mono ?_; rintro e w' ⟨rfl, n1, rfl⟩)
            | (go_at_call 21; refine (digit_c _ _).mono ?_; rintro e w' ⟨rfl, rfl⟩))
          go_ret
          refine ⟨by rw [HZ.out]; rfl, ?_, ?_⟩
          · rw [HZ.out]
            exact (HST.out ▸ hx : IsLx w B g s _ lv)
          · exact (Fr.refl _ _).drewN _
        have hstart := Or.inr (a := dgI (pkI s ((i + k : Nat) : Int)) = true) (show pkI s ((i + k : Nat) : Int) = 45 ∧ dgI (pkI s ((i + k : Nat) + 1)) = true by rw [← HSUM.out, ← HS2.out]; exact ⟨H45.out, hd2⟩)
        have HST2 := Lib.hid hstart
        clear hstart
        go_wp2_with (go_at_call 20; refine (peek_c (by exact c0) (by exact c1) (by omega) (by omega) (by omega) (by omega) (by omega)).mono ?_; rintro e w' ⟨rfl, n1, rfl⟩)
        refine (digit_c _ _).mono ?_
        rintro e w' ⟨rfl, rfl⟩
        go_wp2_with (go_at_call 20; refine (peek_c (by exact c0) (by exact c1) (by omega) (by omega) (by omega) (by omega) (by omega)).mono ?_; rintro e w' ⟨rfl, n1, rfl⟩)
        refine (digit_c _ _).mono ?_
        rintro e w' ⟨rfl, rfl⟩
        generalize hw5 : World.drewN w _ = w5
        have F5 : Fr (fun _ => False) w w5 := by rw [← hw5]; exact (Fr.refl _ _).drewN _
        have g5 := (F5.block g hlt id).trans hx.2.1
        have hlt5 : g < w5.heap.size := Nat.lt_of_lt_of_le hlt F5.size
        obtain ⟨c0, c1, -⟩ := blk5 g5
        rw [hi] at c1
        clear hw5
        go_wp2_with (fail)
        generalize hw2 : w5.alloc _ = w2
        have F2 : Fr (fun _ => False) w w2 := by rw [← hw2]; exact F5.alloc _
        have y0 : w2.cell? ⟨w5.heap.size, 0, none⟩ = some (.string s) := by rw [← hw2]; simp
        have y1 : w2.cell? ⟨w5.heap.size, 1, none⟩ = some (.int .i64 ((i + k : Nat) : Int)) := by rw [← hw2]; simp
        have g2 := (F2.block g hlt id).trans hx.2.1
        clear hw2 c0 c1
        refine (run_c _ _ tells_long y0 y1 (by omega) (by omega)).mono ?_
        rintro e w' ⟨rfl, n2, rfl⟩
        have hrl := runN_le lnI s (i + k) (by omega)
        have hsz := subS_size s (i + k) (runN lnI s (i + k)) hrl
        have HB := fun hb => moreS_bits (s := s) (i := i) HR.out hb
        have HY := fun hb => moreS_yes (s := s) (i := i) HR.out HK.out HST2.out hb
        generalize subS s (i + k) (runN lnI s (i + k)) = tx at *
        obtain ⟨d0, d1, d2, d3, d4, e0, e1, e2, e3, e4⟩ := blk5 g2
        clear c0 c1 y0 y1 d0 d2 d3 d4 e0 e2 e3 e4 g5
        by_cases q1 : Lib.hasSuffix tx.data.toList [98] = true
        case neg =>
          have q1' : Lib.hasSuffix tx.data.toList [98] = false := by simpa using q1
          have hm := HY (by simp [bitsB, q1'])
          clear HB HY q1
          have HM := Lib.hid hm
          clear hm
          go_wp2_with (go_at_call 33; refine (Tryd.strings_CutSuffix _ _ _ (by omega)).mono ?_; rintro e w' ⟨rfl, rfl⟩)
          go_ret
          have FE : Fr (fun k => k = g) w ((w2.drewN n2).setCell ⟨g, 1, none⟩ (.int .i64 ((i : Int) + (k : Int)))) := ((F2.mono (fun _ h => h.elim)).drewN _).set1 1 _
          exact ⟨by rw [HM.out]; rfl, by rw [HM.out]; exact hx.place _ FE (by simpa using set_place (w := w2.drewN n2) g2), FE⟩
        by_cases q2 : Lib.trimSuffix tx.data.toList [98] = []
        case pos =>
          have hm := HY (by simp [bitsB, q2])
          clear HB HY
          have HM := Lib.hid hm
          clear hm
          go_wp2_with (go_at_call 33; refine (Tryd.strings_CutSuffix _ _ _ (by omega)).mono ?_; rintro e w' ⟨rfl, rfl⟩)
          go_ret
          have FE : Fr (fun k => k = g) w ((w2.drewN n2).setCell ⟨g, 1, none⟩ (.int .i64 ((i : Int) + (k : Int)))) := ((F2.mono (fun _ h => h.elim)).drewN _).set1 1 _
          exact ⟨by rw [HM.out]; rfl, by rw [HM.out]; exact hx.place _ FE (by simpa using set_place (w := w2.drewN n2) g2), FE⟩
        have q2' : (Lib.trimSuffix tx.data.toList [98]).isEmpty = false := by simpa using q2
        go_wp2_with (go_at_call 33; refine (Tryd.strings_CutSuffix _ _ _ (by omega)).mono ?_; rintro e w' ⟨rfl, rfl⟩)
        refine (Tryd.strings_Trim_set _ _ _ ?_ (by decide) (ascii_of_all (by decide))).mono ?_
        · have h1 := Lib.trimSuffix_le tx.data.toList [98]
          have h2 : tx.data.toList.length = tx.size := rfl
          rw [Lib.size_eq]
          dsimp only
          omega
        rintro e w3 ⟨rfl, hw3⟩
        have F3 : Fr (fun _ => False) w w3 := F2.trans ((Fr.of_below hw3 : Fr (fun _ => False) (w2.drewN n2) w3).of_drewN)
        have g3 := (F3.block g hlt id).trans hx.2.1
        obtain ⟨d0, d1, d2, d3, d4, e0, e1, e2, e3, e4⟩ := blk5 g3
        clear d0 d2 d3 d4 e0 e2 e3 e4 hw3
        dsimp only
        by_cases q3 : Lib.trimS (Lib.trimSuffix tx.data.toList [98]) [48, 49] = []
        · have hm := HB (by simp [bitsB, q1, q2, q3])
          have q3' : (Lib.trimS (Lib.trimSuffix tx.data.toList [98]) [48, 49]).isEmpty = true := by simpa using q3
          have HM := Lib.hid hm
          clear hm HB HY
          go_wp2_with (fail)
          go_ret
          have FE := F3.mono (T := fun k => k = g) (fun _ h => h.elim)
          exact ⟨by rw [HM.out]; rfl, by rw [HM.out]; exact (HST.out ▸ hx.keep F3 (fun _ _ h => h) : IsLx w3 B g s _ lv), FE⟩
        · have hm := HY (by simp [bitsB, q3])
          have q3' : (Lib.trimS (Lib.trimSuffix tx.data.toList [98]) [48, 49]).isEmpty = false := by simpa using q3
          have HM := Lib.hid hm
          clear hm HB HY
          go_wp2_with (fail)
          go_ret
          have FE : Fr (fun k => k = g) w (w3.setCell ⟨g, 1, none⟩ (.int .i64 ((i : Int) + (k : Int)))) := (F3.mono (fun _ h => h.elim)).set1 1 _
          exact ⟨by rw [HM.out]; rfl, by rw [HM.out]; exact hx.place _ FE (by simpa using set_place g3), FE⟩
      have h45' : (pkI s ((i : Int) + (k : Int)) != 45) = true := by simpa using h45
      have hz : moreS s i = none := moreS_no HR.out (by rw [← HSUM.out]; exact hd') (.inl (by rw [← HSUM.out]; exact h45))
      have HZ := Lib.hid hz
      clear hz h45
      go_wp2_with (first
        | (go_at_call 20; refine (peek_c (by exact c0) (by exact c1) (by omega) (by omega) (by omega) (by omega) (by omega)).mono ?_; rintro e w' ⟨rfl, n1, rfl⟩)
        | (go_at_call 21; refine (digit_c _ _).mono ?_; rintro e w' ⟨rfl, rfl⟩))
      go_ret
      refine ⟨by rw [HZ.out]; rfl, ?_, ?_⟩
      · rw [HZ.out]
        exact (HST.out ▸ hx : IsLx w B g s _ lv)
      · exact (Fr.refl _ _).drewN _
end Go.Proofs.YtnoplebjkbfedaaDoor
