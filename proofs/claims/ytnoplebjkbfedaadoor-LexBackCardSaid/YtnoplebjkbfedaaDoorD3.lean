/- The lexer's method token: names, symbols, texts. -/
import Derived.Test.YtnoplebjkbfedaaDoorD1
import Derived.Test.YtnoplebjkbfedaaDoorB7
import Derived.Test.YtnoplebjkbfedaaDoorD2
namespace Go.Proofs.YtnoplebjkbfedaaDoor
open Go Go.RowKit
set_option linter.unusedSimpArgs false
set_option linter.unusedVariables false
set_option maxRecDepth 100000
set_option maxHeartbeats 1600000 in
theorem token_name {w : World} {B g : Nat} {s : ByteArray} {st : LxSt} {lv : Value} (gl : Gl B w) (hx : IsLx w B g s st lv) (i : Nat) (hi : st.at_ = i) (hli : i < s.size) (hs : s.size ≤ 65536) (hn : st.toks.length ≤ 1000000) (herr : st.err = 0)
    (hpre : i ≠ 0 → pkI s (i - 1) ≠ 32 → st.toks ≠ []) (d0 : dgI (pkI s i) = false) (n0 : negB s i st.toks = false) (l0 : ltI (pkI s i) = true) (HT : Hid (tokenR s st i = .ok (addTok s st i (runN inI s i) 2 (subS s i (runN inI s i)) ⟨0, [], []⟩))) :
    Calls Tryd.prog 14 #[.pointer (some ⟨g, 0, none⟩)] w (TokOut B g s st lv i w) := by
  obtain ⟨c0, c1, c2, c3, c4, cf⟩ := hx.cells
  have f1 := cf 1 (by omega)
  clear cf c2 c3 c4
  have hlt := hx.lt
  rw [hi] at c1
  have y1 : IntKind.i64.wrap ((i : Int) + 1) = (i : Int) + 1 := IntWalk.i64_in _ (by omega)
  have y2 : IntKind.i64.wrap ((i : Int) + 1 + 1) = (i : Int) + 2 := (IntWalk.i64_in _ (by omega)).trans (by omega)
  have HPRE := Lib.hid hpre
  clear hpre
  go_enter Tryd.func14, Tryd.ntmps14
  go_wp2_with (fail)
  go_quiet ((exact quiet0 (peek_c (by exact c0) (by exact c1) (by omega) (by omega) (by omega) (by omega) (by omega))))
  generalize hw5 : World.drewN w _ = w5
  have Fw5 : Fr (fun _ => False) w w5 := by rw [← hw5]; exact (Fr.refl _ _).drewN _
  clear hw5
  have hx5 : IsLx w5 B g s st lv := hx.keep Fw5 (fun _ _ h => h)
  have gl5 : Gl B w5 := gl.keep Fw5 (fun _ h => h.elim)
  go_wp2_with (go_at_call 21; refine (digit_c _ _).mono ?_; rintro e w' ⟨rfl, rfl⟩)
  refine (negative_c hx5 i hi (by omega) (by omega) HPRE.out hn).mono ?_
  rintro e w6 ⟨rfl, F6⟩
  have Fw6 : Fr (fun _ => False) w w6 := Fw5.trans F6
  have hx6 : IsLx w6 B g s st lv := hx.keep Fw6 (fun _ _ h => h)
  have gl6 : Gl B w6 := gl.keep Fw6 (fun _ h => h.elim)
  have gw6 : w6.heap[g]? = some (.cells #[.string s, .int .i64 (i : Int), lv, .int .i64 st.err, .int .i64 st.bad] 44 (0, 0)) := by rw [← hi]; exact (Fw6.block g hlt id).trans hx.2.1
  clear c0 c1 f1
  obtain ⟨c0, c1, -, -, -, -, f1, -⟩ := blk5 gw6
  go_wp2_with (go_at_call 19; refine (letter_c _ _).mono ?_; rintro e w' ⟨rfl, rfl⟩)
  refine (run_c _ _ tells_inside c0 c1 (by omega) (by omega)).mono ?_
  rintro e w' ⟨rfl, n2, rfl⟩
  have hrl := runN_le inI s i (by omega)
  have hsz := subS_size s i (runN inI s i) hrl
  generalize subS s i (runN inI s i) = tx at *
  generalize runN inI s i = rn at *
  have y3 : IntKind.i64.wrap ((i : Int) + (rn : Int)) = (i : Int) + (rn : Int) := IntWalk.i64_in _ (by omega)
  go_wp2_with (fail)
  generalize hwa : World.setCell _ ⟨g, 1, none⟩ _ = wa
  have Fwa : Fr (fun k => k = g) w wa := by
    rw [← hwa]
    first | exact (Fw6.mono (T := fun k => k = g) (fun _ h => h.elim)).set1 1 _ | exact ((Fw6.mono (T := fun k => k = g) (fun _ h => h.elim)).drewN _).set1 1 _ | exact (((Fw6.mono (T := fun k => k = g) (fun _ h => h.elim)).drewN _).drewN _).set1 1 _
  have gwa : wa.heap[g]? = some (.cells #[.string s, .int .i64 ((i + rn : Nat) : Int), lv, .int .i64 st.err, .int .i64 st.bad] 44 (0, 0)) := by
    rw [← hwa]
    first | exact set_place gw6 | (rw [show ((i + rn : Nat) : Int) = (i : Int) + (rn : Int) by omega]; exact set_place gw6) | (rw [show ((i + rn : Nat) : Int) = (i : Int) + 1 by omega]; exact set_place gw6) | (rw [show ((i + rn : Nat) : Int) = (i : Int) + 2 by omega]; exact set_place gw6) | (rw [show ((i + rn : Nat) : Int) = ((i + 1 : Nat) : Int) + 1 by omega]; exact set_place gw6)
  clear hwa c0 c1 f1
  obtain ⟨c0, c1, -, -, -, -, f1, -⟩ := blk5 gwa
  have hxwa : IsLx wa B g s { st with at_ := ((i + rn : Nat) : Int) } lv := hx.place _ Fwa gwa
  refine (add_c (lv := lv) (st := { st with at_ := ((i + rn : Nat) : Int) }) (s := s) (B := B) (by exact hxwa) 2 i tx ⟨0, [], []⟩ _ (VCells.plain _) hn).mono ?_
  rintro e w3 ⟨rfl, lv', hx3, F3⟩
  go_wp2_with (fail)
  go_end0
  refine ⟨rfl, ?_, (Fwa.mono (fun _ h => .inl h)).trans F3⟩
  rw [HT.out]
  exact ⟨lv', hx3⟩
set_option maxHeartbeats 1600000 in
theorem token_sym {w : World} {B g : Nat} {s : ByteArray} {st : LxSt} {lv : Value} (gl : Gl B w) (hx : IsLx w B g s st lv) (i : Nat) (hi : st.at_ = i) (hli : i < s.size) (hs : s.size ≤ 65536) (hn : st.toks.length ≤ 1000000) (herr : st.err = 0)
    (hpre : i ≠ 0 → pkI s (i - 1) ≠ 32 → st.toks ≠ []) (d0 : dgI (pkI s i) = false) (n0 : negB s i st.toks = false) (l0 : ltI (pkI s i) = false) (z96 : (pkI s (i : Int) == 96) = true) (HT : Hid (tokenR s st i = symsR s st i)) :
    Calls Tryd.prog 14 #[.pointer (some ⟨g, 0, none⟩)] w (TokOut B g s st lv i w) := by
  obtain ⟨c0, c1, c2, c3, c4, cf⟩ := hx.cells
  have f1 := cf 1 (by omega)
  clear cf c2 c3 c4
  have hlt := hx.lt
  rw [hi] at c1
  have y1 : IntKind.i64.wrap ((i : Int) + 1) = (i : Int) + 1 := IntWalk.i64_in _ (by omega)
  have y2 : IntKind.i64.wrap ((i : Int) + 1 + 1) = (i : Int) + 2 := (IntWalk.i64_in _ (by omega)).trans (by omega)
  have HPRE := Lib.hid hpre
  clear hpre
  go_enter Tryd.func14, Tryd.ntmps14
  go_wp2_with (fail)
  go_quiet ((exact quiet0 (peek_c (by exact c0) (by exact c1) (by omega) (by omega) (by omega) (by omega) (by omega))))
  generalize hw5 : World.drewN w _ = w5
  have Fw5 : Fr (fun _ => False) w w5 := by rw [← hw5]; exact (Fr.refl _ _).drewN _
  clear hw5
  have hx5 : IsLx w5 B g s st lv := hx.keep Fw5 (fun _ _ h => h)
  have gl5 : Gl B w5 := gl.keep Fw5 (fun _ h => h.elim)
  go_wp2_with (go_at_call 21; refine (digit_c _ _).mono ?_; rintro e w' ⟨rfl, rfl⟩)
  refine (negative_c hx5 i hi (by omega) (by omega) HPRE.out hn).mono ?_
  rintro e w6 ⟨rfl, F6⟩
  have Fw6 : Fr (fun _ => False) w w6 := Fw5.trans F6
  have hx6 : IsLx w6 B g s st lv := hx.keep Fw6 (fun _ _ h => h)
  have gl6 : Gl B w6 := gl.keep Fw6 (fun _ h => h.elim)
  have gw6 : w6.heap[g]? = some (.cells #[.string s, .int .i64 (i : Int), lv, .int .i64 st.err, .int .i64 st.bad] 44 (0, 0)) := by rw [← hi]; exact (Fw6.block g hlt id).trans hx.2.1
  clear c0 c1 f1
  obtain ⟨c0, c1, -, -, -, -, f1, -⟩ := blk5 gw6
  go_wp2_with (go_at_call 19; refine (letter_c _ _).mono ?_; rintro e w' ⟨rfl, rfl⟩)
  refine (symbols_c gl6 hx6 i hi (by omega) (by omega) hn herr).mono ?_
  rintro e w7 ⟨rfl, h7, F7⟩
  go_wp2_with (fail)
  go_end0
  refine ⟨rfl, ?_, (Fw6.mono (fun _ h => h.elim)).trans F7⟩
  rw [HT.out]
  exact h7
set_option maxHeartbeats 1600000 in
theorem token_text {w : World} {B g : Nat} {s : ByteArray} {st : LxSt} {lv : Value} (gl : Gl B w) (hx : IsLx w B g s st lv) (i : Nat) (hi : st.at_ = i) (hli : i < s.size) (hs : s.size ≤ 65536) (hn : st.toks.length ≤ 1000000) (herr : st.err = 0)
    (hpre : i ≠ 0 → pkI s (i - 1) ≠ 32 → st.toks ≠ []) (d0 : dgI (pkI s i) = false) (n0 : negB s i st.toks = false) (l0 : ltI (pkI s i) = false) (z96 : (pkI s (i : Int) == 96) = false) (z34 : (pkI s (i : Int) == 34) = true) (b : List UInt8) (n : Nat) (hq : quotedS s i = some (b, n)) (HT : Hid (tokenR s st i = .ok (addTok s st i n 3 ⟨b.toArray⟩ ⟨0, [], []⟩))) :
    Calls Tryd.prog 14 #[.pointer (some ⟨g, 0, none⟩)] w (TokOut B g s st lv i w) := by
  obtain ⟨c0, c1, c2, c3, c4, cf⟩ := hx.cells
  have f1 := cf 1 (by omega)
  clear cf c2 c3 c4
  have hlt := hx.lt
  rw [hi] at c1
  have y1 : IntKind.i64.wrap ((i : Int) + 1) = (i : Int) + 1 := IntWalk.i64_in _ (by omega)
  have y2 : IntKind.i64.wrap ((i : Int) + 1 + 1) = (i : Int) + 2 := (IntWalk.i64_in _ (by omega)).trans (by omega)
  have HPRE := Lib.hid hpre
  clear hpre
  go_enter Tryd.func14, Tryd.ntmps14
  go_wp2_with (fail)
  go_quiet ((exact quiet0 (peek_c (by exact c0) (by exact c1) (by omega) (by omega) (by omega) (by omega) (by omega))))
  generalize hw5 : World.drewN w _ = w5
  have Fw5 : Fr (fun _ => False) w w5 := by rw [← hw5]; exact (Fr.refl _ _).drewN _
  clear hw5
  have hx5 : IsLx w5 B g s st lv := hx.keep Fw5 (fun _ _ h => h)
  have gl5 : Gl B w5 := gl.keep Fw5 (fun _ h => h.elim)
  go_wp2_with (go_at_call 21; refine (digit_c _ _).mono ?_; rintro e w' ⟨rfl, rfl⟩)
  refine (negative_c hx5 i hi (by omega) (by omega) HPRE.out hn).mono ?_
  rintro e w6 ⟨rfl, F6⟩
  have Fw6 : Fr (fun _ => False) w w6 := Fw5.trans F6
  have hx6 : IsLx w6 B g s st lv := hx.keep Fw6 (fun _ _ h => h)
  have gl6 : Gl B w6 := gl.keep Fw6 (fun _ h => h.elim)
  have gw6 : w6.heap[g]? = some (.cells #[.string s, .int .i64 (i : Int), lv, .int .i64 st.err, .int .i64 st.bad] 44 (0, 0)) := by rw [← hi]; exact (Fw6.block g hlt id).trans hx.2.1
  clear c0 c1 f1
  obtain ⟨c0, c1, -, -, -, -, f1, -⟩ := blk5 gw6
  go_wp2_with (go_at_call 19; refine (letter_c _ _).mono ?_; rintro e w' ⟨rfl, rfl⟩)
  refine (quoted_c (k := 0) gl6 hx6 i hi (by omega) (by omega)).mono ?_
  rintro e w7 ⟨hA, hB, F7⟩
  have Fw7 : Fr (fun k => k = g) w w7 := (Fw6.mono (fun _ h => h.elim)).trans F7
  obtain ⟨rfl, hx7⟩ := hA b n hq
  have hq2 := quotedS_size hq hli
  have y3 : IntKind.i64.wrap ((i : Int) + (n : Int)) = (i : Int) + (n : Int) := IntWalk.i64_in _ (by omega)
  have gw7 : w7.heap[g]? = some (.cells #[.string s, .int .i64 (i : Int), lv, .int .i64 st.err, .int .i64 st.bad] 44 (0, 0)) := by rw [← hi]; exact hx7.2.1
  clear c0 c1 f1 hA hB hq
  obtain ⟨c0, c1, -, -, -, -, f1, -⟩ := blk5 gw7
  go_wp2_with (fail)
  generalize hwa : World.setCell _ ⟨g, 1, none⟩ _ = wa
  have Fwa : Fr (fun k => k = g) w wa := by
    rw [← hwa]
    first | exact (Fw7).set1 1 _ | exact ((Fw7).drewN _).set1 1 _ | exact (((Fw7).drewN _).drewN _).set1 1 _
  have gwa : wa.heap[g]? = some (.cells #[.string s, .int .i64 ((i + n : Nat) : Int), lv, .int .i64 st.err, .int .i64 st.bad] 44 (0, 0)) := by
    rw [← hwa]
    first | exact set_place gw7 | (rw [show ((i + n : Nat) : Int) = (i : Int) + (n : Int) by omega]; exact set_place gw7) | (rw [show ((i + n : Nat) : Int) = (i : Int) + 1 by omega]; exact set_place gw7) | (rw [show ((i + n : Nat) : Int) = (i : Int) + 2 by omega]; exact set_place gw7) | (rw [show ((i + n : Nat) : Int) = ((i + 1 : Nat) : Int) + 1 by omega]; exact set_place gw7)
  clear hwa c0 c1 f1
  obtain ⟨c0, c1, -, -, -, -, f1, -⟩ := blk5 gwa
  have hxwa : IsLx wa B g s { st with at_ := ((i + n : Nat) : Int) } lv := hx.place _ Fwa gwa
  refine (add_c (lv := lv) (st := { st with at_ := ((i + n : Nat) : Int) }) (s := s) (B := B) (by exact hxwa) 3 i ⟨b.toArray⟩ ⟨0, [], []⟩ _ (VCells.plain _) hn).mono ?_
  rintro e w3 ⟨rfl, lv', hx3, F3⟩
  go_wp2_with (fail)
  go_end0
  refine ⟨rfl, ?_, (Fwa.mono (fun _ h => .inl h)).trans F3⟩
  rw [HT.out]
  exact ⟨lv', hx3⟩
set_option maxHeartbeats 1600000 in
theorem token_text_no {w : World} {B g : Nat} {s : ByteArray} {st : LxSt} {lv : Value} (gl : Gl B w) (hx : IsLx w B g s st lv) (i : Nat) (hi : st.at_ = i) (hli : i < s.size) (hs : s.size ≤ 65536) (hn : st.toks.length ≤ 1000000) (herr : st.err = 0)
    (hpre : i ≠ 0 → pkI s (i - 1) ≠ 32 → st.toks ≠ []) (d0 : dgI (pkI s i) = false) (n0 : negB s i st.toks = false) (l0 : ltI (pkI s i) = false) (z96 : (pkI s (i : Int) == 96) = false) (z34 : (pkI s (i : Int) == 34) = true) (hq : quotedS s i = none) (HT : Hid (tokenR s st i = .error (142, (i : Int)))) :
    Calls Tryd.prog 14 #[.pointer (some ⟨g, 0, none⟩)] w (TokOut B g s st lv i w) := by
  obtain ⟨c0, c1, c2, c3, c4, cf⟩ := hx.cells
  have f1 := cf 1 (by omega)
  clear cf c2 c3 c4
  have hlt := hx.lt
  rw [hi] at c1
  have y1 : IntKind.i64.wrap ((i : Int) + 1) = (i : Int) + 1 := IntWalk.i64_in _ (by omega)
  have y2 : IntKind.i64.wrap ((i : Int) + 1 + 1) = (i : Int) + 2 := (IntWalk.i64_in _ (by omega)).trans (by omega)
  have HPRE := Lib.hid hpre
  clear hpre
  go_enter Tryd.func14, Tryd.ntmps14
  go_wp2_with (fail)
  go_quiet ((exact quiet0 (peek_c (by exact c0) (by exact c1) (by omega) (by omega) (by omega) (by omega) (by omega))))
  generalize hw5 : World.drewN w _ = w5
  have Fw5 : Fr (fun _ => False) w w5 := by rw [← hw5]; exact (Fr.refl _ _).drewN _
  clear hw5
  have hx5 : IsLx w5 B g s st lv := hx.keep Fw5 (fun _ _ h => h)
  have gl5 : Gl B w5 := gl.keep Fw5 (fun _ h => h.elim)
  go_wp2_with (go_at_call 21; refine (digit_c _ _).mono ?_; rintro e w' ⟨rfl, rfl⟩)
  refine (negative_c hx5 i hi (by omega) (by omega) HPRE.out hn).mono ?_
  rintro e w6 ⟨rfl, F6⟩
  have Fw6 : Fr (fun _ => False) w w6 := Fw5.trans F6
  have hx6 : IsLx w6 B g s st lv := hx.keep Fw6 (fun _ _ h => h)
  have gl6 : Gl B w6 := gl.keep Fw6 (fun _ h => h.elim)
  have gw6 : w6.heap[g]? = some (.cells #[.string s, .int .i64 (i : Int), lv, .int .i64 st.err, .int .i64 st.bad] 44 (0, 0)) := by rw [← hi]; exact (Fw6.block g hlt id).trans hx.2.1
  clear c0 c1 f1
  obtain ⟨c0, c1, -, -, -, -, f1, -⟩ := blk5 gw6
  go_wp2_with (go_at_call 19; refine (letter_c _ _).mono ?_; rintro e w' ⟨rfl, rfl⟩)
  refine (quoted_c (k := 0) gl6 hx6 i hi (by omega) (by omega)).mono ?_
  rintro e w7 ⟨hA, hB, F7⟩
  have Fw7 : Fr (fun k => k = g) w w7 := (Fw6.mono (fun _ h => h.elim)).trans F7
  obtain ⟨rfl, hx7⟩ := hB hq
  have hf7 : failSt st 142 (i + 0 : Nat) = { st with err := 142, bad := (i : Int) } := by simp [failSt, herr]
  rw [hf7] at hx7
  have y3 : IntKind.i64.wrap (i : Int) = (i : Int) := IntWalk.i64_in _ (by omega)
  have gw7 : w7.heap[g]? = some (.cells #[.string s, .int .i64 (i : Int), lv, .int .i64 142, .int .i64 (i : Int)] 44 (0, 0)) := by
    have := hx7.2.1
    simpa [hi] using this
  clear c0 c1 f1 hA hB hq hf7
  obtain ⟨c0, c1, -, -, -, -, f1, -⟩ := blk5 gw7
  go_wp2_with (fail)
  generalize hwa : World.setCell _ ⟨g, 1, none⟩ _ = wa
  have Fwa : Fr (fun k => k = g) w wa := by
    rw [← hwa]
    exact Fw7.set1 1 _
  have gwa : wa.heap[g]? = some (.cells #[.string s, .int .i64 (i : Int), lv, .int .i64 142, .int .i64 (i : Int)] 44 (0, 0)) := by
    rw [← hwa]
    exact set_place gw7
  clear hwa
  have hxwa : IsLx wa B g s { st with at_ := (i : Int), err := 142, bad := (i : Int) } lv := hx.upd gwa rfl Fwa
  refine (add_c (lv := lv) (st := { st with at_ := (i : Int), err := 142, bad := (i : Int) }) (s := s) (B := B) (by exact hxwa) 3 i ⟨#[]⟩ ⟨0, [], []⟩ _ (VCells.plain _) hn).mono ?_
  rintro e w3 ⟨rfl, lv', hx3, F3⟩
  go_wp2_with (fail)
  go_end0
  refine ⟨rfl, ?_, (Fwa.mono (fun _ h => .inl h)).trans F3⟩
  rw [HT.out]
  exact ⟨_, lv', hx3, rfl, rfl⟩
end Go.Proofs.YtnoplebjkbfedaaDoor
