/- The lexer's method token: verbs, adverbs, marks. -/
import Derived.Test.YtnoplebjkbfedaaDoorD1
import Derived.Test.YtnoplebjkbfedaaDoorB7
import Derived.Test.YtnoplebjkbfedaaDoorD2
namespace Go.Proofs.YtnoplebjkbfedaaDoor
open Go Go.RowKit
set_option linter.unusedSimpArgs false
set_option linter.unusedVariables false
set_option maxRecDepth 100000
set_option maxHeartbeats 1600000 in
theorem token_verb {w : World} {B g : Nat} {s : ByteArray} {st : LxSt} {lv : Value} (gl : Gl B w) (hx : IsLx w B g s st lv) (i : Nat) (hi : st.at_ = i) (hli : i < s.size) (hs : s.size ≤ 65536) (hn : st.toks.length ≤ 1000000) (herr : st.err = 0)
    (hpre : i ≠ 0 → pkI s (i - 1) ≠ 32 → st.toks ≠ []) (d0 : dgI (pkI s i) = false) (n0 : negB s i st.toks = false) (l0 : ltI (pkI s i) = false) (z96 : (pkI s (i : Int) == 96) = false) (z34 : (pkI s (i : Int) == 34) = false) (Y : Int) (hV : Lib.indexByte [43, 45, 42, 37, 33, 38, 124, 60, 62, 61, 126, 44, 94, 35, 95, 63, 64, 36, 46] (pkI s (i : Int)).toNat.toUInt8 = Y) (hY : 0 ≤ Y) (z0 : (pkI s (i : Int) != 0) = true) (HT : Hid (tokenR s st i = .ok (addTok s st i 1 4 (subS s i 1) ⟨0, [], []⟩))) :
    Calls Tryd.prog 14 #[.pointer (some ⟨g, 0, none⟩)] w (TokOut B g s st lv i w) := by
  obtain ⟨c0, c1, c2, c3, c4, cf⟩ := hx.cells
  have f1 := cf 1 (by omega)
  clear cf c2 c3 c4
  have hlt := hx.lt
  rw [hi] at c1
  have y1 : IntKind.i64.wrap ((i : Int) + 1) = (i : Int) + 1 := IntWalk.i64_in _ (by omega)
  have y2 : IntKind.i64.wrap ((i : Int) + 1 + 1) = (i : Int) + 2 := (IntWalk.i64_in _ (by omega)).trans (by omega)
  have HPRE := Lib.hid hpre
  clear hpre
  go_enter Tryd.func14, Tryd.ntmps14
  go_wp2_with (fail)
  go_quiet ((exact quiet0 (peek_c (by exact c0) (by exact c1) (by omega) (by omega) (by omega) (by omega) (by omega))))
  generalize hw5 : World.drewN w _ = w5
  have Fw5 : Fr (fun _ => False) w w5 := by rw [← hw5]; exact (Fr.refl _ _).drewN _
  clear hw5
  have hx5 : IsLx w5 B g s st lv := hx.keep Fw5 (fun _ _ h => h)
  have gl5 : Gl B w5 := gl.keep Fw5 (fun _ h => h.elim)
  go_wp2_with (go_at_call 21; refine (digit_c _ _).mono ?_; rintro e w' ⟨rfl, rfl⟩)
  refine (negative_c hx5 i hi (by omega) (by omega) HPRE.out hn).mono ?_
  rintro e w6 ⟨rfl, F6⟩
  have Fw6 : Fr (fun _ => False) w w6 := Fw5.trans F6
  have hx6 : IsLx w6 B g s st lv := hx.keep Fw6 (fun _ _ h => h)
  have gl6 : Gl B w6 := gl.keep Fw6 (fun _ h => h.elim)
  have gw6 : w6.heap[g]? = some (.cells #[.string s, .int .i64 (i : Int), lv, .int .i64 st.err, .int .i64 st.bad] 44 (0, 0)) := by rw [← hi]; exact (Fw6.block g hlt id).trans hx.2.1
  clear c0 c1 f1
  obtain ⟨c0, c1, -, -, -, -, f1, -⟩ := blk5 gw6
  go_wp2_with (first | (go_at_call 19; refine (letter_c _ _).mono ?_; rintro e w' ⟨rfl, rfl⟩) | (go_at_call 27; refine (Tryd.strings_IndexByte _ _ _).mono ?_; rintro e w' ⟨rfl, rfl⟩; rw [hV]))
  generalize hwa : World.setCell _ ⟨g, 1, none⟩ _ = wa
  have Fwa : Fr (fun k => k = g) w wa := by
    rw [← hwa]
    first | exact (Fw6.mono (T := fun k => k = g) (fun _ h => h.elim)).set1 1 _ | exact ((Fw6.mono (T := fun k => k = g) (fun _ h => h.elim)).drewN _).set1 1 _ | exact (((Fw6.mono (T := fun k => k = g) (fun _ h => h.elim)).drewN _).drewN _).set1 1 _
  have gwa : wa.heap[g]? = some (.cells #[.string s, .int .i64 ((i + 1 : Nat) : Int), lv, .int .i64 st.err, .int .i64 st.bad] 44 (0, 0)) := by
    rw [← hwa]
    first | exact set_place gw6 | (rw [show ((i + 1 : Nat) : Int) = (i : Int) + 1 by omega]; exact set_place gw6) | (rw [show ((i + 1 : Nat) : Int) = (i : Int) + 2 by omega]; exact set_place gw6) | (rw [show ((i + 1 : Nat) : Int) = ((i + 1 : Nat) : Int) + 1 by omega]; exact set_place gw6)
  clear hwa c0 c1 f1
  obtain ⟨c0, c1, -, -, -, -, f1, -⟩ := blk5 gwa
  have hxwa : IsLx wa B g s { st with at_ := ((i + 1 : Nat) : Int) } lv := hx.place _ Fwa gwa
  have p1 : (i : Int) ≤ (i : Int) + 1 := by omega
  have p2 : (i : Int) + 1 ≤ (s.size : Int) := by omega
  have p3 : ((i : Int) + 1).toNat = i + 1 := by omega
  have p4 : 0 ≤ (i : Int) + 1 := by omega
  have htx : s.extract i (i + 1) = subS s i 1 := rfl
  refine wp_region_mix (fun _ => True) 16 [(.p, 0), (.p, 1), (.p, 2), (.p, 3), (.p, 4), (.p, 5), (.l [15, 13, 6], 6), (.p, 7), (.p, 8), (.p, 9), (.p, 10), (.p, 11), (.l [15, 13, 12], 12), (.p, 13), (.p, 14), (.w true, 15)] (by kernel_rfl) (by kernel_rfl) rfl (by kernel_rfl) ?_ ?_
  · trivial
  repeat (refine wpMix_look rfl rfl (fun K hK => ?_); go_simp; refine hK _ ?_; clear hK K)
  refine wpMix_loud rfl (fun K hK => ?_)
  go_wp2_with (fail)
  refine (add_c (lv := lv) (st := { st with at_ := ((i + 1 : Nat) : Int) }) (s := s) (B := B) (by exact hxwa) 4 i (subS s i 1) ⟨0, [], []⟩ _ (VCells.plain _) hn).mono ?_
  rintro e w3 ⟨rfl, lv', hx3, F3⟩
  go_wp2_with (fail)
  refine thenN_normal (hK _ _ (fun _ => trivial) (wpMix_nil ?_))
  clear hK K
  go_wp2_with (fail)
  go_end0
  refine ⟨rfl, ?_, (Fwa.mono (fun _ h => .inl h)).trans F3.of_drewN⟩
  rw [HT.out]
  exact ⟨lv', hx3⟩
set_option maxHeartbeats 1600000 in
theorem token_adv39_1 {w : World} {B g : Nat} {s : ByteArray} {st : LxSt} {lv : Value} (gl : Gl B w) (hx : IsLx w B g s st lv) (i : Nat) (hi : st.at_ = i) (hli : i < s.size) (hs : s.size ≤ 65536) (hn : st.toks.length ≤ 1000000) (herr : st.err = 0)
    (hpre : i ≠ 0 → pkI s (i - 1) ≠ 32 → st.toks ≠ []) (d0 : dgI (pkI s i) = false) (n0 : negB s i st.toks = false) (l0 : ltI (pkI s i) = false) (z96 : (pkI s (i : Int) == 96) = false) (z34 : (pkI s (i : Int) == 34) = false) (Y : Int) (hV : Lib.indexByte [43, 45, 42, 37, 33, 38, 124, 60, 62, 61, 126, 44, 94, 35, 95, 63, 64, 36, 46] (pkI s (i : Int)).toNat.toUInt8 = Y) (hY : Y < 0) (z0 : (pkI s (i : Int) != 0) = true) (za : (pkI s (i : Int) == 39) = true) (z58 : (pkI s ((i : Int) + 1) == 58) = false) (hsz2 : i + 1 ≤ s.size) (HT : Hid (tokenR s st i = .ok (addTok s st i 1 5 (subS s i 1) ⟨0, [], []⟩))) :
    Calls Tryd.prog 14 #[.pointer (some ⟨g, 0, none⟩)] w (TokOut B g s st lv i w) := by
  obtain ⟨c0, c1, c2, c3, c4, cf⟩ := hx.cells
  have f1 := cf 1 (by omega)
  clear cf c2 c3 c4
  have hlt := hx.lt
  rw [hi] at c1
  have y1 : IntKind.i64.wrap ((i : Int) + 1) = (i : Int) + 1 := IntWalk.i64_in _ (by omega)
  have y2 : IntKind.i64.wrap ((i : Int) + 1 + 1) = (i : Int) + 2 := (IntWalk.i64_in _ (by omega)).trans (by omega)
  have HPRE := Lib.hid hpre
  clear hpre
  go_enter Tryd.func14, Tryd.ntmps14
  go_wp2_with (fail)
  go_quiet ((exact quiet0 (peek_c (by exact c0) (by exact c1) (by omega) (by omega) (by omega) (by omega) (by omega))))
  generalize hw5 : World.drewN w _ = w5
  have Fw5 : Fr (fun _ => False) w w5 := by rw [← hw5]; exact (Fr.refl _ _).drewN _
  clear hw5
  have hx5 : IsLx w5 B g s st lv := hx.keep Fw5 (fun _ _ h => h)
  have gl5 : Gl B w5 := gl.keep Fw5 (fun _ h => h.elim)
  go_wp2_with (go_at_call 21; refine (digit_c _ _).mono ?_; rintro e w' ⟨rfl, rfl⟩)
  refine (negative_c hx5 i hi (by omega) (by omega) HPRE.out hn).mono ?_
  rintro e w6 ⟨rfl, F6⟩
  have Fw6 : Fr (fun _ => False) w w6 := Fw5.trans F6
  have hx6 : IsLx w6 B g s st lv := hx.keep Fw6 (fun _ _ h => h)
  have gl6 : Gl B w6 := gl.keep Fw6 (fun _ h => h.elim)
  have gw6 : w6.heap[g]? = some (.cells #[.string s, .int .i64 (i : Int), lv, .int .i64 st.err, .int .i64 st.bad] 44 (0, 0)) := by rw [← hi]; exact (Fw6.block g hlt id).trans hx.2.1
  clear c0 c1 f1
  obtain ⟨c0, c1, -, -, -, -, f1, -⟩ := blk5 gw6
  go_wp2_with (first | (go_at_call 19; refine (letter_c _ _).mono ?_; rintro e w' ⟨rfl, rfl⟩) | (go_at_call 27; refine (Tryd.strings_IndexByte _ _ _).mono ?_; rintro e w' ⟨rfl, rfl⟩; rw [hV]))
  generalize hwa : World.setCell _ ⟨g, 1, none⟩ _ = wa
  have Fwa : Fr (fun k => k = g) w wa := by
    rw [← hwa]
    first | exact (Fw6.mono (T := fun k => k = g) (fun _ h => h.elim)).set1 1 _ | exact ((Fw6.mono (T := fun k => k = g) (fun _ h => h.elim)).drewN _).set1 1 _ | exact (((Fw6.mono (T := fun k => k = g) (fun _ h => h.elim)).drewN _).drewN _).set1 1 _
  have gwa : wa.heap[g]? = some (.cells #[.string s, .int .i64 ((i + 1 : Nat) : Int), lv, .int .i64 st.err, .int .i64 st.bad] 44 (0, 0)) := by
    rw [← hwa]
    first | exact set_place gw6 | (rw [show ((i + 1 : Nat) : Int) = (i : Int) + 1 by omega]; exact set_place gw6) | (rw [show ((i + 1 : Nat) : Int) = (i : Int) + 2 by omega]; exact set_place gw6) | (rw [show ((i + 1 : Nat) : Int) = ((i + 1 : Nat) : Int) + 1 by omega]; exact set_place gw6)
  clear hwa c0 c1 f1
  obtain ⟨c0, c1, -, -, -, -, f1, -⟩ := blk5 gwa
  have hxwa : IsLx wa B g s { st with at_ := ((i + 1 : Nat) : Int) } lv := hx.place _ Fwa gwa
  go_wp2_with (go_at_call 20; refine (peek_c (by exact c0) (by exact c1) (by omega) (by omega) (by omega) (by omega) (by omega)).mono ?_; rintro e w' ⟨rfl, n1, rfl⟩)
  generalize hwb : World.drewN wa _ = wb
  have Fwb : Fr (fun k => k = g) w wb := by rw [← hwb]; exact Fwa.drewN _
  have gwb : wb.heap[g]? = some (.cells #[.string s, .int .i64 ((i + 1 : Nat) : Int), lv, .int .i64 st.err, .int .i64 st.bad] 44 (0, 0)) := by rw [← hwb]; exact gwa
  clear hwb c0 c1 f1
  obtain ⟨c0, c1, -, -, -, -, f1, -⟩ := blk5 gwb
  have hxwb : IsLx wb B g s { st with at_ := ((i + 1 : Nat) : Int) } lv := hx.place _ Fwb gwb
  have p1 : (i : Int) ≤ (i : Int) + 1 := by omega
  have p2 : (i : Int) + 1 ≤ (s.size : Int) := by omega
  have p3 : ((i : Int) + 1).toNat = i + 1 := by omega
  have p4 : 0 ≤ (i : Int) + 1 := by omega
  have htx : s.extract i (i + 1) = subS s i 1 := rfl
  refine wp_region_mix (fun _ => True) 16 [(.p, 0), (.p, 1), (.p, 2), (.p, 3), (.p, 4), (.p, 5), (.l [15, 13, 6], 6), (.p, 7), (.p, 8), (.p, 9), (.p, 10), (.p, 11), (.l [15, 13, 12], 12), (.p, 13), (.p, 14), (.w true, 15)] (by kernel_rfl) (by kernel_rfl) rfl (by kernel_rfl) ?_ ?_
  · trivial
  repeat (refine wpMix_look rfl rfl (fun K hK => ?_); go_simp; refine hK _ ?_; clear hK K)
  refine wpMix_loud rfl (fun K hK => ?_)
  go_wp2_with (fail)
  refine (add_c (lv := lv) (st := { st with at_ := ((i + 1 : Nat) : Int) }) (s := s) (B := B) (by exact hxwb) 5 i (subS s i 1) ⟨0, [], []⟩ _ (VCells.plain _) hn).mono ?_
  rintro e w3 ⟨rfl, lv', hx3, F3⟩
  go_wp2_with (fail)
  refine thenN_normal (hK _ _ (fun _ => trivial) (wpMix_nil ?_))
  clear hK K
  go_wp2_with (fail)
  go_end0
  refine ⟨rfl, ?_, (Fwb.mono (fun _ h => .inl h)).trans F3.of_drewN⟩
  rw [HT.out]
  exact ⟨lv', hx3⟩
set_option maxHeartbeats 1600000 in
theorem token_adv39_2 {w : World} {B g : Nat} {s : ByteArray} {st : LxSt} {lv : Value} (gl : Gl B w) (hx : IsLx w B g s st lv) (i : Nat) (hi : st.at_ = i) (hli : i < s.size) (hs : s.size ≤ 65536) (hn : st.toks.length ≤ 1000000) (herr : st.err = 0)
    (hpre : i ≠ 0 → pkI s (i - 1) ≠ 32 → st.toks ≠ []) (d0 : dgI (pkI s i) = false) (n0 : negB s i st.toks = false) (l0 : ltI (pkI s i) = false) (z96 : (pkI s (i : Int) == 96) = false) (z34 : (pkI s (i : Int) == 34) = false) (Y : Int) (hV : Lib.indexByte [43, 45, 42, 37, 33, 38, 124, 60, 62, 61, 126, 44, 94, 35, 95, 63, 64, 36, 46] (pkI s (i : Int)).toNat.toUInt8 = Y) (hY : Y < 0) (z0 : (pkI s (i : Int) != 0) = true) (za : (pkI s (i : Int) == 39) = true) (z58 : (pkI s ((i : Int) + 1) == 58) = true) (hsz2 : i + 2 ≤ s.size) (HT : Hid (tokenR s st i = .ok (addTok s st i 2 5 (subS s i 2) ⟨0, [], []⟩))) :
    Calls Tryd.prog 14 #[.pointer (some ⟨g, 0, none⟩)] w (TokOut B g s st lv i w) := by
  obtain ⟨c0, c1, c2, c3, c4, cf⟩ := hx.cells
  have f1 := cf 1 (by omega)
  clear cf c2 c3 c4
  have hlt := hx.lt
  rw [hi] at c1
  have y1 : IntKind.i64.wrap ((i : Int) + 1) = (i : Int) + 1 := IntWalk.i64_in _ (by omega)
  have y2 : IntKind.i64.wrap ((i : Int) + 1 + 1) = (i : Int) + 2 := (IntWalk.i64_in _ (by omega)).trans (by omega)
  have HPRE := Lib.hid hpre
  clear hpre
  go_enter Tryd.func14, Tryd.ntmps14
  go_wp2_with (fail)
  go_quiet ((exact quiet0 (peek_c (by exact c0) (by exact c1) (by omega) (by omega) (by omega) (by omega) (by omega))))
  generalize hw5 : World.drewN w _ = w5
  have Fw5 : Fr (fun _ => False) w w5 := by rw [← hw5]; exact (Fr.refl _ _).drewN _
  clear hw5
  have hx5 : IsLx w5 B g s st lv := hx.keep Fw5 (fun _ _ h => h)
  have gl5 : Gl B w5 := gl.keep Fw5 (fun _ h => h.elim)
  go_wp2_with (go_at_call 21; refine (digit_c _ _).mono ?_; rintro e w' ⟨rfl, rfl⟩)
  refine (negative_c hx5 i hi (by omega) (by omega) HPRE.out hn).mono ?_
  rintro e w6 ⟨rfl, F6⟩
  have Fw6 : Fr (fun _ => False) w w6 := Fw5.trans F6
  have hx6 : IsLx w6 B g s st lv := hx.keep Fw6 (fun _ _ h => h)
  have gl6 : Gl B w6 := gl.keep Fw6 (fun _ h => h.elim)
  have gw6 : w6.heap[g]? = some (.cells #[.string s, .int .i64 (i : Int), lv, .int .i64 st.err, .int .i64 st.bad] 44 (0, 0)) := by rw [← hi]; exact (Fw6.block g hlt id).trans hx.2.1
  clear c0 c1 f1
  obtain ⟨c0, c1, -, -, -, -, f1, -⟩ := blk5 gw6
  go_wp2_with (first | (go_at_call 19; refine (letter_c _ _).mono ?_; rintro e w' ⟨rfl, rfl⟩) | (go_at_call 27; refine (Tryd.strings_IndexByte _ _ _).mono ?_; rintro e w' ⟨rfl, rfl⟩; rw [hV]))
  generalize hwa : World.setCell _ ⟨g, 1, none⟩ _ = wz
  have Fwz : Fr (fun k => k = g) w wz := by
    rw [← hwa]
    first | exact (Fw6.mono (T := fun k => k = g) (fun _ h => h.elim)).set1 1 _ | exact ((Fw6.mono (T := fun k => k = g) (fun _ h => h.elim)).drewN _).set1 1 _ | exact (((Fw6.mono (T := fun k => k = g) (fun _ h => h.elim)).drewN _).drewN _).set1 1 _
  have gwz : wz.heap[g]? = some (.cells #[.string s, .int .i64 ((i + 1 : Nat) : Int), lv, .int .i64 st.err, .int .i64 st.bad] 44 (0, 0)) := by
    rw [← hwa]
    first | exact set_place gw6 | (rw [show ((i + 1 : Nat) : Int) = (i : Int) + 1 by omega]; exact set_place gw6) | (rw [show ((i + 1 : Nat) : Int) = (i : Int) + 2 by omega]; exact set_place gw6) | (rw [show ((i + 1 : Nat) : Int) = ((i + 1 : Nat) : Int) + 1 by omega]; exact set_place gw6)
  clear hwa c0 c1 f1
  obtain ⟨c0, c1, -, -, -, -, f1, -⟩ := blk5 gwz
  have hxwz : IsLx wz B g s { st with at_ := ((i + 1 : Nat) : Int) } lv := hx.place _ Fwz gwz
  go_wp2_with (go_at_call 20; refine (peek_c (by exact c0) (by exact c1) (by omega) (by omega) (by omega) (by omega) (by omega)).mono ?_; rintro e w' ⟨rfl, n1, rfl⟩)
  generalize hwa : World.setCell _ ⟨g, 1, none⟩ _ = wa
  have Fwa : Fr (fun k => k = g) w wa := by
    rw [← hwa]
    first | exact (Fwz).set1 1 _ | exact ((Fwz).drewN _).set1 1 _ | exact (((Fwz).drewN _).drewN _).set1 1 _
  have gwa : wa.heap[g]? = some (.cells #[.string s, .int .i64 ((i + 2 : Nat) : Int), lv, .int .i64 st.err, .int .i64 st.bad] 44 (0, 0)) := by
    rw [← hwa]
    first | exact set_place gwz | (rw [show ((i + 2 : Nat) : Int) = (i : Int) + 1 by omega]; exact set_place gwz) | (rw [show ((i + 2 : Nat) : Int) = (i : Int) + 2 by omega]; exact set_place gwz) | (rw [show ((i + 2 : Nat) : Int) = ((i + 1 : Nat) : Int) + 1 by omega]; exact set_place gwz)
  clear hwa c0 c1 f1
  obtain ⟨c0, c1, -, -, -, -, f1, -⟩ := blk5 gwa
  have hxwa : IsLx wa B g s { st with at_ := ((i + 2 : Nat) : Int) } lv := hx.place _ Fwa gwa
  have p1 : (i : Int) ≤ (i : Int) + 2 := by omega
  have p2 : (i : Int) + 2 ≤ (s.size : Int) := by omega
  have p3 : ((i : Int) + 2).toNat = i + 2 := by omega
  have p4 : 0 ≤ (i : Int) + 2 := by omega
  have htx : s.extract i (i + 2) = subS s i 2 := rfl
  refine wp_region_mix (fun _ => True) 16 [(.p, 0), (.p, 1), (.p, 2), (.p, 3), (.p, 4), (.p, 5), (.l [15, 13, 6], 6), (.p, 7), (.p, 8), (.p, 9), (.p, 10), (.p, 11), (.l [15, 13, 12], 12), (.p, 13), (.p, 14), (.w true, 15)] (by kernel_rfl) (by kernel_rfl) rfl (by kernel_rfl) ?_ ?_
  · trivial
  repeat (refine wpMix_look rfl rfl (fun K hK => ?_); go_simp; refine hK _ ?_; clear hK K)
  refine wpMix_loud rfl (fun K hK => ?_)
  go_wp2_with (fail)
  refine (add_c (lv := lv) (st := { st with at_ := ((i + 2 : Nat) : Int) }) (s := s) (B := B) (by exact hxwa) 5 i (subS s i 2) ⟨0, [], []⟩ _ (VCells.plain _) hn).mono ?_
  rintro e w3 ⟨rfl, lv', hx3, F3⟩
  go_wp2_with (fail)
  refine thenN_normal (hK _ _ (fun _ => trivial) (wpMix_nil ?_))
  clear hK K
  go_wp2_with (fail)
  go_end0
  refine ⟨rfl, ?_, (Fwa.mono (fun _ h => .inl h)).trans F3.of_drewN⟩
  rw [HT.out]
  exact ⟨lv', hx3⟩
set_option maxHeartbeats 1600000 in
theorem token_adv47_1 {w : World} {B g : Nat} {s : ByteArray} {st : LxSt} {lv : Value} (gl : Gl B w) (hx : IsLx w B g s st lv) (i : Nat) (hi : st.at_ = i) (hli : i < s.size) (hs : s.size ≤ 65536) (hn : st.toks.length ≤ 1000000) (herr : st.err = 0)
    (hpre : i ≠ 0 → pkI s (i - 1) ≠ 32 → st.toks ≠ []) (d0 : dgI (pkI s i) = false) (n0 : negB s i st.toks = false) (l0 : ltI (pkI s i) = false) (z96 : (pkI s (i : Int) == 96) = false) (z34 : (pkI s (i : Int) == 34) = false) (Y : Int) (hV : Lib.indexByte [43, 45, 42, 37, 33, 38, 124, 60, 62, 61, 126, 44, 94, 35, 95, 63, 64, 36, 46] (pkI s (i : Int)).toNat.toUInt8 = Y) (hY : Y < 0) (z0 : (pkI s (i : Int) != 0) = true) (za : (pkI s (i : Int) == 39) = false) (zb : (pkI s (i : Int) == 47) = true) (z58 : (pkI s ((i : Int) + 1) == 58) = false) (hsz2 : i + 1 ≤ s.size) (HT : Hid (tokenR s st i = .ok (addTok s st i 1 5 (subS s i 1) ⟨0, [], []⟩))) :
    Calls Tryd.prog 14 #[.pointer (some ⟨g, 0, none⟩)] w (TokOut B g s st lv i w) := by
  obtain ⟨c0, c1, c2, c3, c4, cf⟩ := hx.cells
  have f1 := cf 1 (by omega)
  clear cf c2 c3 c4
  have hlt := hx.lt
  rw [hi] at c1
  have y1 : IntKind.i64.wrap ((i : Int) + 1) = (i : Int) + 1 := IntWalk.i64_in _ (by omega)
  have y2 : IntKind.i64.wrap ((i : Int) + 1 + 1) = (i : Int) + 2 := (IntWalk.i64_in _ (by omega)).trans (by omega)
  have HPRE := Lib.hid hpre
  clear hpre
  go_enter Tryd.func14, Tryd.ntmps14
  go_wp2_with (fail)
  go_quiet ((exact quiet0 (peek_c (by exact c0) (by exact c1) (by omega) (by omega) (by omega) (by omega) (by omega))))
  generalize hw5 : World.drewN w _ = w5
  have Fw5 : Fr (fun _ => False) w w5 := by rw [← hw5]; exact (Fr.refl _ _).drewN _
  clear hw5
  have hx5 : IsLx w5 B g s st lv := hx.keep Fw5 (fun _ _ h => h)
  have gl5 : Gl B w5 := gl.keep Fw5 (fun _ h => h.elim)
  go_wp2_with (go_at_call 21; refine (digit_c _ _).mono ?_; rintro e w' ⟨rfl, rfl⟩)
  refine (negative_c hx5 i hi (by omega) (by omega) HPRE.out hn).mono ?_
  rintro e w6 ⟨rfl, F6⟩
  have Fw6 : Fr (fun _ => False) w w6 := Fw5.trans F6
  have hx6 : IsLx w6 B g s st lv := hx.keep Fw6 (fun _ _ h => h)
  have gl6 : Gl B w6 := gl.keep Fw6 (fun _ h => h.elim)
  have gw6 : w6.heap[g]? = some (.cells #[.string s, .int .i64 (i : Int), lv, .int .i64 st.err, .int .i64 st.bad] 44 (0, 0)) := by rw [← hi]; exact (Fw6.block g hlt id).trans hx.2.1
  clear c0 c1 f1
  obtain ⟨c0, c1, -, -, -, -, f1, -⟩ := blk5 gw6
  go_wp2_with (first | (go_at_call 19; refine (letter_c _ _).mono ?_; rintro e w' ⟨rfl, rfl⟩) | (go_at_call 27; refine (Tryd.strings_IndexByte _ _ _).mono ?_; rintro e w' ⟨rfl, rfl⟩; rw [hV]))
  generalize hwa : World.setCell _ ⟨g, 1, none⟩ _ = wa
  have Fwa : Fr (fun k => k = g) w wa := by
    rw [← hwa]
    first | exact (Fw6.mono (T := fun k => k = g) (fun _ h => h.elim)).set1 1 _ | exact ((Fw6.mono (T := fun k => k = g) (fun _ h => h.elim)).drewN _).set1 1 _ | exact (((Fw6.mono (T := fun k => k = g) (fun _ h => h.elim)).drewN _).drewN _).set1 1 _
  have gwa : wa.heap[g]? = some (.cells #[.string s, .int .i64 ((i + 1 : Nat) : Int), lv, .int .i64 st.err, .int .i64 st.bad] 44 (0, 0)) := by
    rw [← hwa]
    first | exact set_place gw6 | (rw [show ((i + 1 : Nat) : Int) = (i : Int) + 1 by omega]; exact set_place gw6) | (rw [show ((i + 1 : Nat) : Int) = (i : Int) + 2 by omega]; exact set_place gw6) | (rw [show ((i + 1 : Nat) : Int) = ((i + 1 : Nat) : Int) + 1 by omega]; exact set_place gw6)
  clear hwa c0 c1 f1
  obtain ⟨c0, c1, -, -, -, -, f1, -⟩ := blk5 gwa
  have hxwa : IsLx wa B g s { st with at_ := ((i + 1 : Nat) : Int) } lv := hx.place _ Fwa gwa
  go_wp2_with (go_at_call 20; refine (peek_c (by exact c0) (by exact c1) (by omega) (by omega) (by omega) (by omega) (by omega)).mono ?_; rintro e w' ⟨rfl, n1, rfl⟩)
  generalize hwb : World.drewN wa _ = wb
  have Fwb : Fr (fun k => k = g) w wb := by rw [← hwb]; exact Fwa.drewN _
  have gwb : wb.heap[g]? = some (.cells #[.string s, .int .i64 ((i + 1 : Nat) : Int), lv, .int .i64 st.err, .int .i64 st.bad] 44 (0, 0)) := by rw [← hwb]; exact gwa
  clear hwb c0 c1 f1
  obtain ⟨c0, c1, -, -, -, -, f1, -⟩ := blk5 gwb
  have hxwb : IsLx wb B g s { st with at_ := ((i + 1 : Nat) : Int) } lv := hx.place _ Fwb gwb
  have p1 : (i : Int) ≤ (i : Int) + 1 := by omega
  have p2 : (i : Int) + 1 ≤ (s.size : Int) := by omega
  have p3 : ((i : Int) + 1).toNat = i + 1 := by omega
  have p4 : 0 ≤ (i : Int) + 1 := by omega
  have htx : s.extract i (i + 1) = subS s i 1 := rfl
  refine wp_region_mix (fun _ => True) 16 [(.p, 0), (.p, 1), (.p, 2), (.p, 3), (.p, 4), (.p, 5), (.l [15, 13, 6], 6), (.p, 7), (.p, 8), (.p, 9), (.p, 10), (.p, 11), (.l [15, 13, 12], 12), (.p, 13), (.p, 14), (.w true, 15)] (by kernel_rfl) (by kernel_rfl) rfl (by kernel_rfl) ?_ ?_
  · trivial
  repeat (refine wpMix_look rfl rfl (fun K hK => ?_); go_simp; refine hK _ ?_; clear hK K)
  refine wpMix_loud rfl (fun K hK => ?_)
  go_wp2_with (fail)
  refine (add_c (lv := lv) (st := { st with at_ := ((i + 1 : Nat) : Int) }) (s := s) (B := B) (by exact hxwb) 5 i (subS s i 1) ⟨0, [], []⟩ _ (VCells.plain _) hn).mono ?_
  rintro e w3 ⟨rfl, lv', hx3, F3⟩
  go_wp2_with (fail)
  refine thenN_normal (hK _ _ (fun _ => trivial) (wpMix_nil ?_))
  clear hK K
  go_wp2_with (fail)
  go_end0
  refine ⟨rfl, ?_, (Fwb.mono (fun _ h => .inl h)).trans F3.of_drewN⟩
  rw [HT.out]
  exact ⟨lv', hx3⟩
set_option maxHeartbeats 1600000 in
theorem token_adv47_2 {w : World} {B g : Nat} {s : ByteArray} {st : LxSt} {lv : Value} (gl : Gl B w) (hx : IsLx w B g s st lv) (i : Nat) (hi : st.at_ = i) (hli : i < s.size) (hs : s.size ≤ 65536) (hn : st.toks.length ≤ 1000000) (herr : st.err = 0)
    (hpre : i ≠ 0 → pkI s (i - 1) ≠ 32 → st.toks ≠ []) (d0 : dgI (pkI s i) = false) (n0 : negB s i st.toks = false) (l0 : ltI (pkI s i) = false) (z96 : (pkI s (i : Int) == 96) = false) (z34 : (pkI s (i : Int) == 34) = false) (Y : Int) (hV : Lib.indexByte [43, 45, 42, 37, 33, 38, 124, 60, 62, 61, 126, 44, 94, 35, 95, 63, 64, 36, 46] (pkI s (i : Int)).toNat.toUInt8 = Y) (hY : Y < 0) (z0 : (pkI s (i : Int) != 0) = true) (za : (pkI s (i : Int) == 39) = false) (zb : (pkI s (i : Int) == 47) = true) (z58 : (pkI s ((i : Int) + 1) == 58) = true) (hsz2 : i + 2 ≤ s.size) (HT : Hid (tokenR s st i = .ok (addTok s st i 2 5 (subS s i 2) ⟨0, [], []⟩))) :
    Calls Tryd.prog 14 #[.pointer (some ⟨g, 0, none⟩)] w (TokOut B g s st lv i w) := by
  obtain ⟨c0, c1, c2, c3, c4, cf⟩ := hx.cells
  have f1 := cf 1 (by omega)
  clear cf c2 c3 c4
  have hlt := hx.lt
  rw [hi] at c1
  have y1 : IntKind.i64.wrap ((i : Int) + 1) = (i : Int) + 1 := IntWalk.i64_in _ (by omega)
  have y2 : IntKind.i64.wrap ((i : Int) + 1 + 1) = (i : Int) + 2 := (IntWalk.i64_in _ (by omega)).trans (by omega)
  have HPRE := Lib.hid hpre
  clear hpre
  go_enter Tryd.func14, Tryd.ntmps14
  go_wp2_with (fail)
  go_quiet ((exact quiet0 (peek_c (by exact c0) (by exact c1) (by omega) (by omega) (by omega) (by omega) (by omega))))
  generalize hw5 : World.drewN w _ = w5
  have Fw5 : Fr (fun _ => False) w w5 := by rw [← hw5]; exact (Fr.refl _ _).drewN _
  clear hw5
  have hx5 : IsLx w5 B g s st lv := hx.keep Fw5 (fun _ _ h => h)
  have gl5 : Gl B w5 := gl.keep Fw5 (fun _ h => h.elim)
  go_wp2_with (go_at_call 21; refine (digit_c _ _).mono ?_; rintro e w' ⟨rfl, rfl⟩)
  refine (negative_c hx5 i hi (by omega) (by omega) HPRE.out hn).mono ?_
  rintro e w6 ⟨rfl, F6⟩
  have Fw6 : Fr (fun _ => False) w w6 := Fw5.trans F6
  have hx6 : IsLx w6 B g s st lv := hx.keep Fw6 (fun _ _ h => h)
  have gl6 : Gl B w6 := gl.keep Fw6 (fun _ h => h.elim)
  have gw6 : w6.heap[g]? = some (.cells #[.string s, .int .i64 (i : Int), lv, .int .i64 st.err, .int .i64 st.bad] 44 (0, 0)) := by rw [← hi]; exact (Fw6.block g hlt id).trans hx.2.1
  clear c0 c1 f1
  obtain ⟨c0, c1, -, -, -, -, f1, -⟩ := blk5 gw6
  go_wp2_with (first | (go_at_call 19; refine (letter_c _ _).mono ?_; rintro e w' ⟨rfl, rfl⟩) | (go_at_call 27; refine (Tryd.strings_IndexByte _ _ _).mono ?_; rintro e w' ⟨rfl, rfl⟩; rw [hV]))
  generalize hwa : World.setCell _ ⟨g, 1, none⟩ _ = wz
  have Fwz : Fr (fun k => k = g) w wz := by
    rw [← hwa]
    first | exact (Fw6.mono (T := fun k => k = g) (fun _ h => h.elim)).set1 1 _ | exact ((Fw6.mono (T := fun k => k = g) (fun _ h => h.elim)).drewN _).set1 1 _ | exact (((Fw6.mono (T := fun k => k = g) (fun _ h => h.elim)).drewN _).drewN _).set1 1 _
  have gwz : wz.heap[g]? = some (.cells #[.string s, .int .i64 ((i + 1 : Nat) : Int), lv, .int .i64 st.err, .int .i64 st.bad] 44 (0, 0)) := by
    rw [← hwa]
    first | exact set_place gw6 | (rw [show ((i + 1 : Nat) : Int) = (i : Int) + 1 by omega]; exact set_place gw6) | (rw [show ((i + 1 : Nat) : Int) = (i : Int) + 2 by omega]; exact set_place gw6) | (rw [show ((i + 1 : Nat) : Int) = ((i + 1 : Nat) : Int) + 1 by omega]; exact set_place gw6)
  clear hwa c0 c1 f1
  obtain ⟨c0, c1, -, -, -, -, f1, -⟩ := blk5 gwz
  have hxwz : IsLx wz B g s { st with at_ := ((i + 1 : Nat) : Int) } lv := hx.place _ Fwz gwz
  go_wp2_with (go_at_call 20; refine (peek_c (by exact c0) (by exact c1) (by omega) (by omega) (by omega) (by omega) (by omega)).mono ?_; rintro e w' ⟨rfl, n1, rfl⟩)
  generalize hwa : World.setCell _ ⟨g, 1, none⟩ _ = wa
  have Fwa : Fr (fun k => k = g) w wa := by
    rw [← hwa]
    first | exact (Fwz).set1 1 _ | exact ((Fwz).drewN _).set1 1 _ | exact (((Fwz).drewN _).drewN _).set1 1 _
  have gwa : wa.heap[g]? = some (.cells #[.string s, .int .i64 ((i + 2 : Nat) : Int), lv, .int .i64 st.err, .int .i64 st.bad] 44 (0, 0)) := by
    rw [← hwa]
    first | exact set_place gwz | (rw [show ((i + 2 : Nat) : Int) = (i : Int) + 1 by omega]; exact set_place gwz) | (rw [show ((i + 2 : Nat) : Int) = (i : Int) + 2 by omega]; exact set_place gwz) | (rw [show ((i + 2 : Nat) : Int) = ((i + 1 : Nat) : Int) + 1 by omega]; exact set_place gwz)
  clear hwa c0 c1 f1
  obtain ⟨c0, c1, -, -, -, -, f1, -⟩ := blk5 gwa
  have hxwa : IsLx wa B g s { st with at_ := ((i + 2 : Nat) : Int) } lv := hx.place _ Fwa gwa
  have p1 : (i : Int) ≤ (i : Int) + 2 := by omega
  have p2 : (i : Int) + 2 ≤ (s.size : Int) := by omega
  have p3 : ((i : Int) + 2).toNat = i + 2 := by omega
  have p4 : 0 ≤ (i : Int) + 2 := by omega
  have htx : s.extract i (i + 2) = subS s i 2 := rfl
  refine wp_region_mix (fun _ => True) 16 [(.p, 0), (.p, 1), (.p, 2), (.p, 3), (.p, 4), (.p, 5), (.l [15, 13, 6], 6), (.p, 7), (.p, 8), (.p, 9), (.p, 10), (.p, 11), (.l [15, 13, 12], 12), (.p, 13), (.p, 14), (.w true, 15)] (by kernel_rfl) (by kernel_rfl) rfl (by kernel_rfl) ?_ ?_
  · trivial
  repeat (refine wpMix_look rfl rfl (fun K hK => ?_); go_simp; refine hK _ ?_; clear hK K)
  refine wpMix_loud rfl (fun K hK => ?_)
  go_wp2_with (fail)
  refine (add_c (lv := lv) (st := { st with at_ := ((i + 2 : Nat) : Int) }) (s := s) (B := B) (by exact hxwa) 5 i (subS s i 2) ⟨0, [], []⟩ _ (VCells.plain _) hn).mono ?_
  rintro e w3 ⟨rfl, lv', hx3, F3⟩
  go_wp2_with (fail)
  refine thenN_normal (hK _ _ (fun _ => trivial) (wpMix_nil ?_))
  clear hK K
  go_wp2_with (fail)
  go_end0
  refine ⟨rfl, ?_, (Fwa.mono (fun _ h => .inl h)).trans F3.of_drewN⟩
  rw [HT.out]
  exact ⟨lv', hx3⟩
set_option maxHeartbeats 1600000 in
theorem token_adv92_1 {w : World} {B g : Nat} {s : ByteArray} {st : LxSt} {lv : Value} (gl : Gl B w) (hx : IsLx w B g s st lv) (i : Nat) (hi : st.at_ = i) (hli : i < s.size) (hs : s.size ≤ 65536) (hn : st.toks.length ≤ 1000000) (herr : st.err = 0)
    (hpre : i ≠ 0 → pkI s (i - 1) ≠ 32 → st.toks ≠ []) (d0 : dgI (pkI s i) = false) (n0 : negB s i st.toks = false) (l0 : ltI (pkI s i) = false) (z96 : (pkI s (i : Int) == 96) = false) (z34 : (pkI s (i : Int) == 34) = false) (Y : Int) (hV : Lib.indexByte [43, 45, 42, 37, 33, 38, 124, 60, 62, 61, 126, 44, 94, 35, 95, 63, 64, 36, 46] (pkI s (i : Int)).toNat.toUInt8 = Y) (hY : Y < 0) (z0 : (pkI s (i : Int) != 0) = true) (za : (pkI s (i : Int) == 39) = false) (zb : (pkI s (i : Int) == 47) = false) (zc : (pkI s (i : Int) == 92) = true) (z58 : (pkI s ((i : Int) + 1) == 58) = false) (hsz2 : i + 1 ≤ s.size) (HT : Hid (tokenR s st i = .ok (addTok s st i 1 5 (subS s i 1) ⟨0, [], []⟩))) :
    Calls Tryd.prog 14 #[.pointer (some ⟨g, 0, none⟩)] w (TokOut B g s st lv i w) := by
  obtain ⟨c0, c1, c2, c3, c4, cf⟩ := hx.cells
  have f1 := cf 1 (by omega)
  clear cf c2 c3 c4
  have hlt := hx.lt
  rw [hi] at c1
  have y1 : IntKind.i64.wrap ((i : Int) + 1) = (i : Int) + 1 := IntWalk.i64_in _ (by omega)
  have y2 : IntKind.i64.wrap ((i : Int) + 1 + 1) = (i : Int) + 2 := (IntWalk.i64_in _ (by omega)).trans (by omega)
  have HPRE := Lib.hid hpre
  clear hpre
  go_enter Tryd.func14, Tryd.ntmps14
  go_wp2_with (fail)
  go_quiet ((exact quiet0 (peek_c (by exact c0) (by exact c1) (by omega) (by omega) (by omega) (by omega) (by omega))))
  generalize hw5 : World.drewN w _ = w5
  have Fw5 : Fr (fun _ => False) w w5 := by rw [← hw5]; exact (Fr.refl _ _).drewN _
  clear hw5
  have hx5 : IsLx w5 B g s st lv := hx.keep Fw5 (fun _ _ h => h)
  have gl5 : Gl B w5 := gl.keep Fw5 (fun _ h => h.elim)
  go_wp2_with (go_at_call 21; refine (digit_c _ _).mono ?_; rintro e w' ⟨rfl, rfl⟩)
  refine (negative_c hx5 i hi (by omega) (by omega) HPRE.out hn).mono ?_
  rintro e w6 ⟨rfl, F6⟩
  have Fw6 : Fr (fun _ => False) w w6 := Fw5.trans F6
  have hx6 : IsLx w6 B g s st lv := hx.keep Fw6 (fun _ _ h => h)
  have gl6 : Gl B w6 := gl.keep Fw6 (fun _ h => h.elim)
  have gw6 : w6.heap[g]? = some (.cells #[.string s, .int .i64 (i : Int), lv, .int .i64 st.err, .int .i64 st.bad] 44 (0, 0)) := by rw [← hi]; exact (Fw6.block g hlt id).trans hx.2.1
  clear c0 c1 f1
  obtain ⟨c0, c1, -, -, -, -, f1, -⟩ := blk5 gw6
  go_wp2_with (first | (go_at_call 19; refine (letter_c _ _).mono ?_; rintro e w' ⟨rfl, rfl⟩) | (go_at_call 27; refine (Tryd.strings_IndexByte _ _ _).mono ?_; rintro e w' ⟨rfl, rfl⟩; rw [hV]))
  generalize hwa : World.setCell _ ⟨g, 1, none⟩ _ = wa
  have Fwa : Fr (fun k => k = g) w wa := by
    rw [← hwa]
    first | exact (Fw6.mono (T := fun k => k = g) (fun _ h => h.elim)).set1 1 _ | exact ((Fw6.mono (T := fun k => k = g) (fun _ h => h.elim)).drewN _).set1 1 _ | exact (((Fw6.mono (T := fun k => k = g) (fun _ h => h.elim)).drewN _).drewN _).set1 1 _
  have gwa : wa.heap[g]? = some (.cells #[.string s, .int .i64 ((i + 1 : Nat) : Int), lv, .int .i64 st.err, .int .i64 st.bad] 44 (0, 0)) := by
    rw [← hwa]
    first | exact set_place gw6 | (rw [show ((i + 1 : Nat) : Int) = (i : Int) + 1 by omega]; exact set_place gw6) | (rw [show ((i + 1 : Nat) : Int) = (i : Int) + 2 by omega]; exact set_place gw6) | (rw [show ((i + 1 : Nat) : Int) = ((i + 1 : Nat) : Int) + 1 by omega]; exact set_place gw6)
  clear hwa c0 c1 f1
  obtain ⟨c0, c1, -, -, -, -, f1, -⟩ := blk5 gwa
  have hxwa : IsLx wa B g s { st with at_ := ((i + 1 : Nat) : Int) } lv := hx.place _ Fwa gwa
  go_wp2_with (go_at_call 20; refine (peek_c (by exact c0) (by exact c1) (by omega) (by omega) (by omega) (by omega) (by omega)).mono ?_; rintro e w' ⟨rfl, n1, rfl⟩)
  generalize hwb : World.drewN wa _ = wb
  have Fwb : Fr (fun k => k = g) w wb := by rw [← hwb]; exact Fwa.drewN _
  have gwb : wb.heap[g]? = some (.cells #[.string s, .int .i64 ((i + 1 : Nat) : Int), lv, .int .i64 st.err, .int .i64 st.bad] 44 (0, 0)) := by rw [← hwb]; exact gwa
  clear hwb c0 c1 f1
  obtain ⟨c0, c1, -, -, -, -, f1, -⟩ := blk5 gwb
  have hxwb : IsLx wb B g s { st with at_ := ((i + 1 : Nat) : Int) } lv := hx.place _ Fwb gwb
  have p1 : (i : Int) ≤ (i : Int) + 1 := by omega
  have p2 : (i : Int) + 1 ≤ (s.size : Int) := by omega
  have p3 : ((i : Int) + 1).toNat = i + 1 := by omega
  have p4 : 0 ≤ (i : Int) + 1 := by omega
  have htx : s.extract i (i + 1) = subS s i 1 := rfl
  refine wp_region_mix (fun _ => True) 16 [(.p, 0), (.p, 1), (.p, 2), (.p, 3), (.p, 4), (.p, 5), (.l [15, 13, 6], 6), (.p, 7), (.p, 8), (.p, 9), (.p, 10), (.p, 11), (.l [15, 13, 12], 12), (.p, 13), (.p, 14), (.w true, 15)] (by kernel_rfl) (by kernel_rfl) rfl (by kernel_rfl) ?_ ?_
  · trivial
  repeat (refine wpMix_look rfl rfl (fun K hK => ?_); go_simp; refine hK _ ?_; clear hK K)
  refine wpMix_loud rfl (fun K hK => ?_)
  go_wp2_with (fail)
  refine (add_c (lv := lv) (st := { st with at_ := ((i + 1 : Nat) : Int) }) (s := s) (B := B) (by exact hxwb) 5 i (subS s i 1) ⟨0, [], []⟩ _ (VCells.plain _) hn).mono ?_
  rintro e w3 ⟨rfl, lv', hx3, F3⟩
  go_wp2_with (fail)
  refine thenN_normal (hK _ _ (fun _ => trivial) (wpMix_nil ?_))
  clear hK K
  go_wp2_with (fail)
  go_end0
  refine ⟨rfl, ?_, (Fwb.mono (fun _ h => .inl h)).trans F3.of_drewN⟩
  rw [HT.out]
  exact ⟨lv', hx3⟩
set_option maxHeartbeats 1600000 in
theorem token_adv92_2 {w : World} {B g : Nat} {s : ByteArray} {st : LxSt} {lv : Value} (gl : Gl B w) (hx : IsLx w B g s st lv) (i : Nat) (hi : st.at_ = i) (hli : i < s.size) (hs : s.size ≤ 65536) (hn : st.toks.length ≤ 1000000) (herr : st.err = 0)
    (hpre : i ≠ 0 → pkI s (i - 1) ≠ 32 → st.toks ≠ []) (d0 : dgI (pkI s i) = false) (n0 : negB s i st.toks = false) (l0 : ltI (pkI s i) = false) (z96 : (pkI s (i : Int) == 96) = false) (z34 : (pkI s (i : Int) == 34) = false) (Y : Int) (hV : Lib.indexByte [43, 45, 42, 37, 33, 38, 124, 60, 62, 61, 126, 44, 94, 35, 95, 63, 64, 36, 46] (pkI s (i : Int)).toNat.toUInt8 = Y) (hY : Y < 0) (z0 : (pkI s (i : Int) != 0) = true) (za : (pkI s (i : Int) == 39) = false) (zb : (pkI s (i : Int) == 47) = false) (zc : (pkI s (i : Int) == 92) = true) (z58 : (pkI s ((i : Int) + 1) == 58) = true) (hsz2 : i + 2 ≤ s.size) (HT : Hid (tokenR s st i = .ok (addTok s st i 2 5 (subS s i 2) ⟨0, [], []⟩))) :
    Calls Tryd.prog 14 #[.pointer (some ⟨g, 0, none⟩)] w (TokOut B g s st lv i w) := by
  obtain ⟨c0, c1, c2, c3, c4, cf⟩ := hx.cells
  have f1 := cf 1 (by omega)
  clear cf c2 c3 c4
  have hlt := hx.lt
  rw [hi] at c1
  have y1 : IntKind.i64.wrap ((i : Int) + 1) = (i : Int) + 1 := IntWalk.i64_in _ (by omega)
  have y2 : IntKind.i64.wrap ((i : Int) + 1 + 1) = (i : Int) + 2 := (IntWalk.i64_in _ (by omega)).trans (by omega)
  have HPRE := Lib.hid hpre
  clear hpre
  go_enter Tryd.func14, Tryd.ntmps14
  go_wp2_with (fail)
  go_quiet ((exact quiet0 (peek_c (by exact c0) (by exact c1) (by omega) (by omega) (by omega) (by omega) (by omega))))
  generalize hw5 : World.drewN w _ = w5
  have Fw5 : Fr (fun _ => False) w w5 := by rw [← hw5]; exact (Fr.refl _ _).drewN _
  clear hw5
  have hx5 : IsLx w5 B g s st lv := hx.keep Fw5 (fun _ _ h => h)
  have gl5 : Gl B w5 := gl.keep Fw5 (fun _ h => h.elim)
  go_wp2_with (go_at_call 21; refine (digit_c _ _).mono ?_; rintro e w' ⟨rfl, rfl⟩)
  refine (negative_c hx5 i hi (by omega) (by omega) HPRE.out hn).mono ?_
  rintro e w6 ⟨rfl, F6⟩
  have Fw6 : Fr (fun _ => False) w w6 := Fw5.trans F6
  have hx6 : IsLx w6 B g s st lv := hx.keep Fw6 (fun _ _ h => h)
  have gl6 : Gl B w6 := gl.keep Fw6 (fun _ h => h.elim)
  have gw6 : w6.heap[g]? = some (.cells #[.string s, .int .i64 (i : Int), lv, .int .i64 st.err, .int .i64 st.bad] 44 (0, 0)) := by rw [← hi]; exact (Fw6.block g hlt id).trans hx.2.1
  clear c0 c1 f1
  obtain ⟨c0, c1, -, -, -, -, f1, -⟩ := blk5 gw6
  go_wp2_with (first | (go_at_call 19; refine (letter_c _ _).mono ?_; rintro e w' ⟨rfl, rfl⟩) | (go_at_call 27; refine (Tryd.strings_IndexByte _ _ _).mono ?_; rintro e w' ⟨rfl, rfl⟩; rw [hV]))
  generalize hwa : World.setCell _ ⟨g, 1, none⟩ _ = wz
  have Fwz : Fr (fun k => k = g) w wz := by
    rw [← hwa]
    first | exact (Fw6.mono (T := fun k => k = g) (fun _ h => h.elim)).set1 1 _ | exact ((Fw6.mono (T := fun k => k = g) (fun _ h => h.elim)).drewN _).set1 1 _ | exact (((Fw6.mono (T := fun k => k = g) (fun _ h => h.elim)).drewN _).drewN _).set1 1 _
  have gwz : wz.heap[g]? = some (.cells #[.string s, .int .i64 ((i + 1 : Nat) : Int), lv, .int .i64 st.err, .int .i64 st.bad] 44 (0, 0)) := by
    rw [← hwa]
    first | exact set_place gw6 | (rw [show ((i + 1 : Nat) : Int) = (i : Int) + 1 by omega]; exact set_place gw6) | (rw [show ((i + 1 : Nat) : Int) = (i : Int) + 2 by omega]; exact set_place gw6) | (rw [show ((i + 1 : Nat) : Int) = ((i + 1 : Nat) : Int) + 1 by omega]; exact set_place gw6)
  clear hwa c0 c1 f1
  obtain ⟨c0, c1, -, -, -, -, f1, -⟩ := blk5 gwz
  have hxwz : IsLx wz B g s { st with at_ := ((i + 1 : Nat) : Int) } lv := hx.place _ Fwz gwz
  go_wp2_with (go_at_call 20; refine (peek_c (by exact c0) (by exact c1) (by omega) (by omega) (by omega) (by omega) (by omega)).mono ?_; rintro e w' ⟨rfl, n1, rfl⟩)
  generalize hwa : World.setCell _ ⟨g, 1, none⟩ _ = wa
  have Fwa : Fr (fun k => k = g) w wa := by
    rw [← hwa]
    first | exact (Fwz).set1 1 _ | exact ((Fwz).drewN _).set1 1 _ | exact (((Fwz).drewN _).drewN _).set1 1 _
  have gwa : wa.heap[g]? = some (.cells #[.string s, .int .i64 ((i + 2 : Nat) : Int), lv, .int .i64 st.err, .int .i64 st.bad] 44 (0, 0)) := by
    rw [← hwa]
    first | exact set_place gwz | (rw [show ((i + 2 : Nat) : Int) = (i : Int) + 1 by omega]; exact set_place gwz) | (rw [show ((i + 2 : Nat) : Int) = (i : Int) + 2 by omega]; exact set_place gwz) | (rw [show ((i + 2 : Nat) : Int) = ((i + 1 : Nat) : Int) + 1 by omega]; exact set_place gwz)
  clear hwa c0 c1 f1
  obtain ⟨c0, c1, -, -, -, -, f1, -⟩ := blk5 gwa
  have hxwa : IsLx wa B g s { st with at_ := ((i + 2 : Nat) : Int) } lv := hx.place _ Fwa gwa
  have p1 : (i : Int) ≤ (i : Int) + 2 := by omega
  have p2 : (i : Int) + 2 ≤ (s.size : Int) := by omega
  have p3 : ((i : Int) + 2).toNat = i + 2 := by omega
  have p4 : 0 ≤ (i : Int) + 2 := by omega
  have htx : s.extract i (i + 2) = subS s i 2 := rfl
  refine wp_region_mix (fun _ => True) 16 [(.p, 0), (.p, 1), (.p, 2), (.p, 3), (.p, 4), (.p, 5), (.l [15, 13, 6], 6), (.p, 7), (.p, 8), (.p, 9), (.p, 10), (.p, 11), (.l [15, 13, 12], 12), (.p, 13), (.p, 14), (.w true, 15)] (by kernel_rfl) (by kernel_rfl) rfl (by kernel_rfl) ?_ ?_
  · trivial
  repeat (refine wpMix_look rfl rfl (fun K hK => ?_); go_simp; refine hK _ ?_; clear hK K)
  refine wpMix_loud rfl (fun K hK => ?_)
  go_wp2_with (fail)
  refine (add_c (lv := lv) (st := { st with at_ := ((i + 2 : Nat) : Int) }) (s := s) (B := B) (by exact hxwa) 5 i (subS s i 2) ⟨0, [], []⟩ _ (VCells.plain _) hn).mono ?_
  rintro e w3 ⟨rfl, lv', hx3, F3⟩
  go_wp2_with (fail)
  refine thenN_normal (hK _ _ (fun _ => trivial) (wpMix_nil ?_))
  clear hK K
  go_wp2_with (fail)
  go_end0
  refine ⟨rfl, ?_, (Fwa.mono (fun _ h => .inl h)).trans F3.of_drewN⟩
  rw [HT.out]
  exact ⟨lv', hx3⟩
set_option maxHeartbeats 1600000 in
theorem token_mark {w : World} {B g : Nat} {s : ByteArray} {st : LxSt} {lv : Value} (gl : Gl B w) (hx : IsLx w B g s st lv) (i : Nat) (hi : st.at_ = i) (hli : i < s.size) (hs : s.size ≤ 65536) (hn : st.toks.length ≤ 1000000) (herr : st.err = 0)
    (hpre : i ≠ 0 → pkI s (i - 1) ≠ 32 → st.toks ≠ []) (d0 : dgI (pkI s i) = false) (n0 : negB s i st.toks = false) (l0 : ltI (pkI s i) = false) (z96 : (pkI s (i : Int) == 96) = false) (z34 : (pkI s (i : Int) == 34) = false) (Y : Int) (hV : Lib.indexByte [43, 45, 42, 37, 33, 38, 124, 60, 62, 61, 126, 44, 94, 35, 95, 63, 64, 36, 46] (pkI s (i : Int)).toNat.toUInt8 = Y) (hY : (pkI s (i : Int) != 0) = false ∨ Y < 0) (za : (pkI s (i : Int) == 39) = false) (zb : (pkI s (i : Int) == 47) = false) (zc : (pkI s (i : Int) == 92) = false) (HT : Hid (tokenR s st i = (match markS s i with | some (n, k, v) => .ok (addTok s st i n k (subS s i n) v) | none => .error (140, (i : Int))))) :
    Calls Tryd.prog 14 #[.pointer (some ⟨g, 0, none⟩)] w (TokOut B g s st lv i w) := by
  cases z0 : (pkI s (i : Int) != 0)
  all_goals
    have hYY : (pkI s (i : Int) != 0) = true → Y < 0 := fun h => by
      rcases hY with hY | hY
      · rw [hY] at h; cases h
      · exact hY
    first | (have hYn : Y < 0 := hYY z0) | skip
    clear hY hYY
    obtain ⟨c0, c1, c2, c3, c4, cf⟩ := hx.cells
    have f1 := cf 1 (by omega)
    clear cf c2 c3 c4
    have hlt := hx.lt
    rw [hi] at c1
    have y1 : IntKind.i64.wrap ((i : Int) + 1) = (i : Int) + 1 := IntWalk.i64_in _ (by omega)
    have y2 : IntKind.i64.wrap ((i : Int) + 1 + 1) = (i : Int) + 2 := (IntWalk.i64_in _ (by omega)).trans (by omega)
    have HPRE := Lib.hid hpre
    clear hpre
    go_enter Tryd.func14, Tryd.ntmps14
    go_wp2_with (fail)
    go_quiet ((exact quiet0 (peek_c (by exact c0) (by exact c1) (by omega) (by omega) (by omega) (by omega) (by omega))))
    generalize hw5 : World.drewN w _ = w5
    have Fw5 : Fr (fun _ => False) w w5 := by rw [← hw5]; exact (Fr.refl _ _).drewN _
    clear hw5
    have hx5 : IsLx w5 B g s st lv := hx.keep Fw5 (fun _ _ h => h)
    have gl5 : Gl B w5 := gl.keep Fw5 (fun _ h => h.elim)
    go_wp2_with (go_at_call 21; refine (digit_c _ _).mono ?_; rintro e w' ⟨rfl, rfl⟩)
    refine (negative_c hx5 i hi (by omega) (by omega) HPRE.out hn).mono ?_
    rintro e w6 ⟨rfl, F6⟩
    have Fw6 : Fr (fun _ => False) w w6 := Fw5.trans F6
    have hx6 : IsLx w6 B g s st lv := hx.keep Fw6 (fun _ _ h => h)
    have gl6 : Gl B w6 := gl.keep Fw6 (fun _ h => h.elim)
    have gw6 : w6.heap[g]? = some (.cells #[.string s, .int .i64 (i : Int), lv, .int .i64 st.err, .int .i64 st.bad] 44 (0, 0)) := by rw [← hi]; exact (Fw6.block g hlt id).trans hx.2.1
    clear c0 c1 f1
    obtain ⟨c0, c1, -, -, -, -, f1, -⟩ := blk5 gw6
    go_wp2_with (first | (go_at_call 19; refine (letter_c _ _).mono ?_; rintro e w' ⟨rfl, rfl⟩) | (go_at_call 27; refine (Tryd.strings_IndexByte _ _ _).mono ?_; rintro e w' ⟨rfl, rfl⟩; rw [hV]))
    refine (mark_c gl6 hx6 i hi (by omega) (by omega) hn).mono ?_
    rintro e w7 ⟨rfl, hA, hB, F7⟩
    have hres : LxRes (tokenR s st i) B g s w7 := by
      rw [HT.out]
      cases hm : markS s i with
      | none =>
        refine ⟨_, lv, hB hm, ?_, ?_⟩ <;> simp [failSt, herr]
      | some p =>
        obtain ⟨n, k, v⟩ := p
        exact hA n k v hm
    clear hA hB HT
    go_wp2_with (fail)
    go_end0
    exact ⟨rfl, hres, (Fw6.mono (fun _ h => h.elim)).trans F7⟩
end Go.Proofs.YtnoplebjkbfedaaDoor
