/- The lexer's method mark. -/
import Derived.Test.YtnoplebjkbfedaaDoorB5
import Derived.Test.YtnoplebjkbfedaaDoorA1
import Derived.Test.YtnoplebjkbfedaaDoorA2
namespace Go.Proofs.YtnoplebjkbfedaaDoor
open Go Go.RowKit
set_option linter.unusedSimpArgs false
set_option linter.unusedVariables false
set_option maxRecDepth 100000
theorem quiet0 {P : Program} {f : FuncId} {args : Array Value} {w : World} {n : Nat} {v : Value} (h : Calls P f args (w.drewN n) fun e w' => e = .returned v ∧ ∃ k, w' = (w.drewN n).drewN k) :
    Calls P f args (w.drewN n) fun e w'' => e = .returned v ∧ ∃ k, w'' = w.drewN k := h.mono fun _ _ ⟨he, k, hm⟩ => ⟨he, n + k, by rw [hm, World.drewN_drewN]⟩
theorem quiet0s {P : Program} {f : FuncId} {args : Array Value} {w : World} {n : Nat} {v : Value} (h : Calls P f args (w.drewN n) fun e w' => e = .returned v ∧ w' = w.drewN n) :
    Calls P f args (w.drewN n) fun e w'' => e = .returned v ∧ ∃ k, w'' = w.drewN k := h.mono fun _ _ ⟨he, hm⟩ => ⟨he, n, hm⟩
def idxE (c : Int) : Int := Lib.indexByte [98, 105, 115, 116, 100] c.toNat.toUInt8
def idxM (c : Int) : Int := Lib.indexByte [40, 41, 91, 93, 123, 125, 59, 58] c.toNat.toUInt8
/-- Does an empty vector stand at a place? -/
def empB (s : ByteArray) (i : Nat) : Bool := (pkI s i == 40) && ((pkI s ((i : Int) + 1) == 41) && (!inI (pkI s ((i : Int) + 3)) && (decide (0 ≤ idxE (pkI s ((i : Int) + 2))) && (pkI s ((i : Int) + 2) != 0))))
/-- The mark, or the empty vector, at a place: its length, its kind, its worth. -/
def markS (s : ByteArray) (i : Nat) : Option (Nat × Int × FV) :=
  if empB s i then some (3, 1, ⟨idxE (pkI s ((i : Int) + 2)) + 1, [], []⟩)
  else if pkI s i == 0 || decide (idxM (pkI s i) < 0) then none
  else if pkI s i == 58 && pkI s ((i : Int) + 1) == 58 then some (2, 6, ⟨0, [], []⟩) else some (1, 6, ⟨0, [], []⟩)
theorem VCells.plain {w : World} {F : Nat → Prop} (T : Int) : VCells w F ⟨T, [], []⟩ [.int .i64 T, .slice none 0 0, .slice none 0 0, .slice none 0 0] := ⟨_, _, rfl, Rd1.nil, Rd1.nil⟩
theorem pkI_range (s : ByteArray) (i : Int) : 0 ≤ pkI s i ∧ pkI s i < 256 := by
  unfold pkI
  split
  · rename_i h
    have := (s[i.toNat]'h).toNat_lt
    omega
  · omega
theorem pkI_pos {s : ByteArray} {i : Nat} (h : pkI s i ≠ 0) : i < s.size := by
  unfold pkI at h
  split at h
  · simpa using ‹_›
  · exact absurd rfl h
def MarkOut (B g : Nat) (s : ByteArray) (st : LxSt) (lv : Value) (i : Nat) (w : World) (e : Ending) (w' : World) : Prop :=
  e = .returned (.tuple #[]) ∧ (∀ n kd v, markS s i = some (n, kd, v) → ∃ lv', IsLx w' B g s { st with at_ := ((i + n : Nat) : Int), toks := st.toks ++ [⟨kd, i, ((i + n : Nat) : Int), s.extract i (i + n), v⟩] } lv') ∧
  (markS s i = none → IsLx w' B g s (failSt st 140 i) lv) ∧ Fr (LxS g lv) w w'

--GEN7
set_option maxHeartbeats 1600000 in
theorem mark_emp {w : World} {B g : Nat} {s : ByteArray} {st : LxSt} {lv : Value} (gl : Gl B w) (hx : IsLx w B g s st lv) (i : Nat) (hi : st.at_ = i) (hle : i ≤ s.size) (hs : s.size ≤ 70000) (hn : st.toks.length ≤ 1000000) (e0 : (pkI s (i : Int) == 40) = true) (e1 : (pkI s ((i : Int) + 1) == 41) = true) (e2 : inI (pkI s ((i : Int) + 3)) = false) (X : Int) (hXb : X < 5) (e3 : decide (0 ≤ X) = true) (e4 : (pkI s ((i : Int) + 2) != 0) = true) (hX2 : Lib.indexByte (({ data := #[32, 98, 105, 115, 116, 100] } : ByteArray).extract 1 6).data.toList (pkI s ((i : Int) + 2)).toNat.toUInt8 = X) (hsz : i + 3 ≤ s.size) (HM : Hid (markS s i = some (3, 1, ⟨X + 1, [], []⟩))) :
    Calls Tryd.prog 28 #[.pointer (some ⟨g, 0, none⟩)] w (MarkOut B g s st lv i w) := by
  obtain ⟨c0, c1, c2, c3, c4, cf⟩ := hx.cells
  have f1 := cf 1 (by omega)
  clear cf c2 c3 c4
  have hlt := hx.lt
  rw [hi] at c1
  have y1 : IntKind.i64.wrap ((i : Int) + 1) = (i : Int) + 1 := IntWalk.i64_in _ (by omega)
  have y2 : IntKind.i64.wrap ((i : Int) + 1 + 1) = (i : Int) + 2 := (IntWalk.i64_in _ (by omega)).trans (by omega)
  have y3 : IntKind.i64.wrap ((i : Int) + 3) = (i : Int) + 3 := IntWalk.i64_in _ (by omega)
  have hp2 := pkI_range s ((i : Int) + 2)
  have yX : IntKind.i64.wrap (X + 1) = X + 1 := IntWalk.i64_in _ (by simp at e3; omega)
  go_enter Tryd.func28, Tryd.ntmps28
  go_wp2_with (fail)
  go_quiet ((exact quiet0 (peek_c (by exact c0) (by exact c1) (by omega) (by omega) (by omega) (by omega) (by omega))))
  go_wp2_with (first | (go_at_call 20; refine (peek_c (by exact c0) (by exact c1) (by omega) (by omega) (by omega) (by omega) (by omega)).mono ?_; rintro e w' ⟨rfl, n1, rfl⟩) | (go_at_call 18; refine (inside_c _ _).mono ?_; rintro e w' ⟨rfl, rfl⟩) | (go_at_call 27; refine (Tryd.strings_IndexByte _ _ _).mono ?_; rintro e w' ⟨rfl, rfl⟩; try rw [hY2]))
  generalize hw5 : World.drewN w _ = w5
  have Fw5 : Fr (fun _ => False) w w5 := by rw [← hw5]; exact (Fr.refl _ _).drewN _
  have gw5 : w5.heap[g]? = some (.cells #[.string s, .int .i64 (i : Int), lv, .int .i64 st.err, .int .i64 st.bad] 44 (0, 0)) := by rw [← hi]; exact (Fw5.block g hlt id).trans hx.2.1
  obtain ⟨c0, c1, -, -, -, -, f1, -⟩ := blk5 gw5
  clear hw5
  go_quiet ((first | (exact quiet0 (peek_c (by exact c0) (by exact c1) (by omega) (by omega) (by omega) (by omega) (by omega))) | (exact quiet0s (Tryd.strings_IndexByte _ _ _))))
  rw [hX2]
  clear hX2
  go_wp2_with (first | (go_at_call 20; refine (peek_c (by exact c0) (by exact c1) (by omega) (by omega) (by omega) (by omega) (by omega)).mono ?_; rintro e w' ⟨rfl, n1, rfl⟩) | (go_at_call 18; refine (inside_c _ _).mono ?_; rintro e w' ⟨rfl, rfl⟩) | (go_at_call 27; refine (Tryd.strings_IndexByte _ _ _).mono ?_; rintro e w' ⟨rfl, rfl⟩; try rw [hY2]))
  generalize hwa : World.setCell _ ⟨g, 1, none⟩ _ = wa
  have Fwa : Fr (fun k => k = g) w wa := by
    rw [← hwa]
    first | exact (Fw5.mono (fun _ h => h.elim)).set1 1 _ | exact ((Fw5.mono (fun _ h => h.elim)).drewN _).set1 1 _ | exact (((Fw5.mono (fun _ h => h.elim)).drewN _).drewN _).set1 1 _ | exact ((((Fw5.mono (fun _ h => h.elim)).drewN _).drewN _).drewN _).set1 1 _ | exact (((((Fw5.mono (fun _ h => h.elim)).drewN _).drewN _).drewN _).drewN _).set1 1 _ | exact ((((((Fw5.mono (fun _ h => h.elim)).drewN _).drewN _).drewN _).drewN _).drewN _).set1 1 _
  have gwa : wa.heap[g]? = some (.cells #[.string s, .int .i64 ((i + 3 : Nat) : Int), lv, .int .i64 st.err, .int .i64 st.bad] 44 (0, 0)) := by
    rw [← hwa]
    first | exact set_place gw5 | (rw [show ((i + 3 : Nat) : Int) = (i : Int) + 3 by omega]; exact set_place gw5) | (rw [show ((i + 3 : Nat) : Int) = ((i + 1 : Nat) : Int) + 1 by omega]; exact set_place gw5)
  clear hwa
  obtain ⟨c0, c1, -⟩ := blk5 gwa
  have hx1 : IsLx wa B g s { st with at_ := ((i + 3 : Nat) : Int) } lv := hx.place _ Fwa gwa
  have p1 : (i : Int) ≤ (i : Int) + 3 := by omega
  have p2 : (i : Int) + 3 ≤ (s.size : Int) := by omega
  have p3 : ((i : Int) + 3).toNat = i + 3 := by omega
  have p4 : 0 ≤ (i : Int) + 3 := by omega
  refine wp_region_mix (fun _ => True) 18 [(.p, 0), (.p, 1), (.p, 2), (.p, 3), (.p, 4), (.p, 5), (.l [17, 13, 6], 6), (.p, 7), (.p, 8), (.p, 9), (.p, 10), (.p, 11), (.l [17, 13, 12], 12), (.p, 13), (.p, 14), (.p, 15), (.p, 16), (.w true, 17)] (by kernel_rfl) (by kernel_rfl) rfl (by kernel_rfl) ?_ ?_
  · trivial
  repeat (refine wpMix_look rfl rfl (fun K hK => ?_); go_simp; refine hK _ ?_; clear hK K)
  refine wpMix_loud rfl (fun K hK => ?_)
  go_wp2_with (fail)
  refine (add_c (lv := lv) (st := { st with at_ := ((i + 3 : Nat) : Int) }) (s := s) (B := B) (by exact hx1) 1 i (s.extract i (i + 3)) ⟨X + 1, [], []⟩ _ (VCells.plain _) hn).mono ?_
  rintro e w3 ⟨rfl, lv', hx3, F3⟩
  go_wp2_with (fail)
  refine thenN_normal (hK _ _ (fun _ => trivial) (wpMix_nil ?_))
  clear hK K
  go_wp2_with (fail)
  go_end0
  refine ⟨rfl, fun n kd v h => ?_, fun h => ?_, (Fwa.mono (fun _ h => .inl h)).trans F3.of_drewN⟩
  · rw [HM.out] at h
    simp at h
    obtain ⟨rfl, rfl, rfl⟩ := h
    exact ⟨lv', hx3⟩
  · rw [HM.out] at h
    cases h
set_option maxHeartbeats 1600000 in
theorem mark_40a {w : World} {B g : Nat} {s : ByteArray} {st : LxSt} {lv : Value} (gl : Gl B w) (hx : IsLx w B g s st lv) (i : Nat) (hi : st.at_ = i) (hle : i ≤ s.size) (hs : s.size ≤ 70000) (hn : st.toks.length ≤ 1000000) (z0 : (pkI s (i : Int) == 40) = true) (hs1 : i + 1 ≤ s.size) (HM : Hid (markS s i = some (1, 6, ⟨0, [], []⟩))) (z1 : (pkI s (i : Int) == 0) = false) (z2 : (pkI s (i : Int) == 58) = false) (hY2 : Lib.indexByte [40, 41, 91, 93, 123, 125, 59, 58] (pkI s (i : Int)).toNat.toUInt8 = 0) (h1 : (pkI s ((i : Int) + 1) == 41) = false) :
    Calls Tryd.prog 28 #[.pointer (some ⟨g, 0, none⟩)] w (MarkOut B g s st lv i w) := by
  obtain ⟨c0, c1, c2, c3, c4, cf⟩ := hx.cells
  have f1 := cf 1 (by omega)
  clear cf c2 c3 c4
  have hlt := hx.lt
  rw [hi] at c1
  have y1 : IntKind.i64.wrap ((i : Int) + 1) = (i : Int) + 1 := IntWalk.i64_in _ (by omega)
  have y2 : IntKind.i64.wrap ((i : Int) + 1 + 1) = (i : Int) + 2 := (IntWalk.i64_in _ (by omega)).trans (by omega)
  have y3 : IntKind.i64.wrap ((i : Int) + 3) = (i : Int) + 3 := IntWalk.i64_in _ (by omega)
  go_enter Tryd.func28, Tryd.ntmps28
  go_wp2_with (fail)
  go_quiet ((exact quiet0 (peek_c (by exact c0) (by exact c1) (by omega) (by omega) (by omega) (by omega) (by omega))))
  go_wp2_with (first | (go_at_call 20; refine (peek_c (by exact c0) (by exact c1) (by omega) (by omega) (by omega) (by omega) (by omega)).mono ?_; rintro e w' ⟨rfl, n1, rfl⟩) | (go_at_call 18; refine (inside_c _ _).mono ?_; rintro e w' ⟨rfl, rfl⟩) | (go_at_call 27; refine (Tryd.strings_IndexByte _ _ _).mono ?_; rintro e w' ⟨rfl, rfl⟩; try rw [hY2]))
  generalize hwa : World.setCell _ ⟨g, 1, none⟩ _ = wa
  have Fwa : Fr (fun k => k = g) w wa := by
    rw [← hwa]
    first | exact (Fr.refl (fun k => k = g) w).set1 1 _ | exact ((Fr.refl (fun k => k = g) w).drewN _).set1 1 _ | exact (((Fr.refl (fun k => k = g) w).drewN _).drewN _).set1 1 _ | exact ((((Fr.refl (fun k => k = g) w).drewN _).drewN _).drewN _).set1 1 _ | exact (((((Fr.refl (fun k => k = g) w).drewN _).drewN _).drewN _).drewN _).set1 1 _ | exact ((((((Fr.refl (fun k => k = g) w).drewN _).drewN _).drewN _).drewN _).drewN _).set1 1 _
  have gwa : wa.heap[g]? = some (.cells #[.string s, .int .i64 ((i + 1 : Nat) : Int), lv, .int .i64 st.err, .int .i64 st.bad] 44 (0, 0)) := by
    rw [← hwa]
    first | exact set_place (hi ▸ hx.2.1) | (rw [show ((i + 1 : Nat) : Int) = (i : Int) + 1 by omega]; exact set_place (hi ▸ hx.2.1)) | (rw [show ((i + 1 : Nat) : Int) = ((i + 1 : Nat) : Int) + 1 by omega]; exact set_place (hi ▸ hx.2.1))
  clear hwa
  obtain ⟨c0, c1, -⟩ := blk5 gwa
  have hx1 : IsLx wa B g s { st with at_ := ((i + 1 : Nat) : Int) } lv := hx.place _ Fwa gwa
  have p1 : (i : Int) ≤ (i : Int) + 1 := by omega
  have p2 : (i : Int) + 1 ≤ (s.size : Int) := by omega
  have p3 : ((i : Int) + 1).toNat = i + 1 := by omega
  have p4 : 0 ≤ (i : Int) + 1 := by omega
  refine wp_region_mix (fun _ => True) 16 [(.p, 0), (.p, 1), (.p, 2), (.p, 3), (.p, 4), (.p, 5), (.l [15, 13, 6], 6), (.p, 7), (.p, 8), (.p, 9), (.p, 10), (.p, 11), (.l [15, 13, 12], 12), (.p, 13), (.p, 14), (.w true, 15)] (by kernel_rfl) (by kernel_rfl) rfl (by kernel_rfl) ?_ ?_
  · trivial
  repeat (refine wpMix_look rfl rfl (fun K hK => ?_); go_simp; refine hK _ ?_; clear hK K)
  refine wpMix_loud rfl (fun K hK => ?_)
  go_wp2_with (fail)
  refine (add_c (lv := lv) (st := { st with at_ := ((i + 1 : Nat) : Int) }) (s := s) (B := B) (by exact hx1) 6 i (s.extract i (i + 1)) ⟨0, [], []⟩ _ (VCells.plain _) hn).mono ?_
  rintro e w3 ⟨rfl, lv', hx3, F3⟩
  go_wp2_with (fail)
  refine thenN_normal (hK _ _ (fun _ => trivial) (wpMix_nil ?_))
  clear hK K
  go_wp2_with (fail)
  go_end0
  refine ⟨rfl, fun n kd v h => ?_, fun h => ?_, (Fwa.mono (fun _ h => .inl h)).trans F3.of_drewN⟩
  · rw [HM.out] at h
    simp at h
    obtain ⟨rfl, rfl, rfl⟩ := h
    exact ⟨lv', hx3⟩
  · rw [HM.out] at h
    cases h
set_option maxHeartbeats 1600000 in
theorem mark_40b {w : World} {B g : Nat} {s : ByteArray} {st : LxSt} {lv : Value} (gl : Gl B w) (hx : IsLx w B g s st lv) (i : Nat) (hi : st.at_ = i) (hle : i ≤ s.size) (hs : s.size ≤ 70000) (hn : st.toks.length ≤ 1000000) (z0 : (pkI s (i : Int) == 40) = true) (hs1 : i + 1 ≤ s.size) (HM : Hid (markS s i = some (1, 6, ⟨0, [], []⟩))) (z1 : (pkI s (i : Int) == 0) = false) (z2 : (pkI s (i : Int) == 58) = false) (hY2 : Lib.indexByte [40, 41, 91, 93, 123, 125, 59, 58] (pkI s (i : Int)).toNat.toUInt8 = 0) (h1 : (pkI s ((i : Int) + 1) == 41) = true) (h3 : inI (pkI s ((i : Int) + 3)) = true) :
    Calls Tryd.prog 28 #[.pointer (some ⟨g, 0, none⟩)] w (MarkOut B g s st lv i w) := by
  obtain ⟨c0, c1, c2, c3, c4, cf⟩ := hx.cells
  have f1 := cf 1 (by omega)
  clear cf c2 c3 c4
  have hlt := hx.lt
  rw [hi] at c1
  have y1 : IntKind.i64.wrap ((i : Int) + 1) = (i : Int) + 1 := IntWalk.i64_in _ (by omega)
  have y2 : IntKind.i64.wrap ((i : Int) + 1 + 1) = (i : Int) + 2 := (IntWalk.i64_in _ (by omega)).trans (by omega)
  have y3 : IntKind.i64.wrap ((i : Int) + 3) = (i : Int) + 3 := IntWalk.i64_in _ (by omega)
  go_enter Tryd.func28, Tryd.ntmps28
  go_wp2_with (fail)
  go_quiet ((exact quiet0 (peek_c (by exact c0) (by exact c1) (by omega) (by omega) (by omega) (by omega) (by omega))))
  go_wp2_with (first | (go_at_call 20; refine (peek_c (by exact c0) (by exact c1) (by omega) (by omega) (by omega) (by omega) (by omega)).mono ?_; rintro e w' ⟨rfl, n1, rfl⟩) | (go_at_call 18; refine (inside_c _ _).mono ?_; rintro e w' ⟨rfl, rfl⟩) | (go_at_call 27; refine (Tryd.strings_IndexByte _ _ _).mono ?_; rintro e w' ⟨rfl, rfl⟩; try rw [hY2]))
  generalize hwa : World.setCell _ ⟨g, 1, none⟩ _ = wa
  have Fwa : Fr (fun k => k = g) w wa := by
    rw [← hwa]
    first | exact (Fr.refl (fun k => k = g) w).set1 1 _ | exact ((Fr.refl (fun k => k = g) w).drewN _).set1 1 _ | exact (((Fr.refl (fun k => k = g) w).drewN _).drewN _).set1 1 _ | exact ((((Fr.refl (fun k => k = g) w).drewN _).drewN _).drewN _).set1 1 _ | exact (((((Fr.refl (fun k => k = g) w).drewN _).drewN _).drewN _).drewN _).set1 1 _ | exact ((((((Fr.refl (fun k => k = g) w).drewN _).drewN _).drewN _).drewN _).drewN _).set1 1 _
  have gwa : wa.heap[g]? = some (.cells #[.string s, .int .i64 ((i + 1 : Nat) : Int), lv, .int .i64 st.err, .int .i64 st.bad] 44 (0, 0)) := by
    rw [← hwa]
    first | exact set_place (hi ▸ hx.2.1) | (rw [show ((i + 1 : Nat) : Int) = (i : Int) + 1 by omega]; exact set_place (hi ▸ hx.2.1)) | (rw [show ((i + 1 : Nat) : Int) = ((i + 1 : Nat) : Int) + 1 by omega]; exact set_place (hi ▸ hx.2.1))
  clear hwa
  obtain ⟨c0, c1, -⟩ := blk5 gwa
  have hx1 : IsLx wa B g s { st with at_ := ((i + 1 : Nat) : Int) } lv := hx.place _ Fwa gwa
  have p1 : (i : Int) ≤ (i : Int) + 1 := by omega
  have p2 : (i : Int) + 1 ≤ (s.size : Int) := by omega
  have p3 : ((i : Int) + 1).toNat = i + 1 := by omega
  have p4 : 0 ≤ (i : Int) + 1 := by omega
  refine wp_region_mix (fun _ => True) 16 [(.p, 0), (.p, 1), (.p, 2), (.p, 3), (.p, 4), (.p, 5), (.l [15, 13, 6], 6), (.p, 7), (.p, 8), (.p, 9), (.p, 10), (.p, 11), (.l [15, 13, 12], 12), (.p, 13), (.p, 14), (.w true, 15)] (by kernel_rfl) (by kernel_rfl) rfl (by kernel_rfl) ?_ ?_
  · trivial
  repeat (refine wpMix_look rfl rfl (fun K hK => ?_); go_simp; refine hK _ ?_; clear hK K)
  refine wpMix_loud rfl (fun K hK => ?_)
  go_wp2_with (fail)
  refine (add_c (lv := lv) (st := { st with at_ := ((i + 1 : Nat) : Int) }) (s := s) (B := B) (by exact hx1) 6 i (s.extract i (i + 1)) ⟨0, [], []⟩ _ (VCells.plain _) hn).mono ?_
  rintro e w3 ⟨rfl, lv', hx3, F3⟩
  go_wp2_with (fail)
  refine thenN_normal (hK _ _ (fun _ => trivial) (wpMix_nil ?_))
  clear hK K
  go_wp2_with (fail)
  go_end0
  refine ⟨rfl, fun n kd v h => ?_, fun h => ?_, (Fwa.mono (fun _ h => .inl h)).trans F3.of_drewN⟩
  · rw [HM.out] at h
    simp at h
    obtain ⟨rfl, rfl, rfl⟩ := h
    exact ⟨lv', hx3⟩
  · rw [HM.out] at h
    cases h
set_option maxHeartbeats 1600000 in
theorem mark_40c {w : World} {B g : Nat} {s : ByteArray} {st : LxSt} {lv : Value} (gl : Gl B w) (hx : IsLx w B g s st lv) (i : Nat) (hi : st.at_ = i) (hle : i ≤ s.size) (hs : s.size ≤ 70000) (hn : st.toks.length ≤ 1000000) (z0 : (pkI s (i : Int) == 40) = true) (hs1 : i + 1 ≤ s.size) (HM : Hid (markS s i = some (1, 6, ⟨0, [], []⟩))) (z1 : (pkI s (i : Int) == 0) = false) (z2 : (pkI s (i : Int) == 58) = false) (hY2 : Lib.indexByte [40, 41, 91, 93, 123, 125, 59, 58] (pkI s (i : Int)).toNat.toUInt8 = 0) (h1 : (pkI s ((i : Int) + 1) == 41) = true) (h3 : inI (pkI s ((i : Int) + 3)) = false) (X : Int) (hXn : X < 0) (hX2 : Lib.indexByte (({ data := #[32, 98, 105, 115, 116, 100] } : ByteArray).extract 1 6).data.toList (pkI s ((i : Int) + 2)).toNat.toUInt8 = X) :
    Calls Tryd.prog 28 #[.pointer (some ⟨g, 0, none⟩)] w (MarkOut B g s st lv i w) := by
  obtain ⟨c0, c1, c2, c3, c4, cf⟩ := hx.cells
  have f1 := cf 1 (by omega)
  clear cf c2 c3 c4
  have hlt := hx.lt
  rw [hi] at c1
  have y1 : IntKind.i64.wrap ((i : Int) + 1) = (i : Int) + 1 := IntWalk.i64_in _ (by omega)
  have y2 : IntKind.i64.wrap ((i : Int) + 1 + 1) = (i : Int) + 2 := (IntWalk.i64_in _ (by omega)).trans (by omega)
  have y3 : IntKind.i64.wrap ((i : Int) + 3) = (i : Int) + 3 := IntWalk.i64_in _ (by omega)
  have hp2 := pkI_range s ((i : Int) + 2)
  go_enter Tryd.func28, Tryd.ntmps28
  go_wp2_with (fail)
  go_quiet ((exact quiet0 (peek_c (by exact c0) (by exact c1) (by omega) (by omega) (by omega) (by omega) (by omega))))
  go_wp2_with (first | (go_at_call 20; refine (peek_c (by exact c0) (by exact c1) (by omega) (by omega) (by omega) (by omega) (by omega)).mono ?_; rintro e w' ⟨rfl, n1, rfl⟩) | (go_at_call 18; refine (inside_c _ _).mono ?_; rintro e w' ⟨rfl, rfl⟩) | (go_at_call 27; refine (Tryd.strings_IndexByte _ _ _).mono ?_; rintro e w' ⟨rfl, rfl⟩; try rw [hY2]))
  generalize hw5 : World.drewN w _ = w5
  have Fw5 : Fr (fun _ => False) w w5 := by rw [← hw5]; exact (Fr.refl _ _).drewN _
  have gw5 : w5.heap[g]? = some (.cells #[.string s, .int .i64 (i : Int), lv, .int .i64 st.err, .int .i64 st.bad] 44 (0, 0)) := by rw [← hi]; exact (Fw5.block g hlt id).trans hx.2.1
  obtain ⟨c0, c1, -, -, -, -, f1, -⟩ := blk5 gw5
  clear hw5
  go_quiet ((first | (exact quiet0 (peek_c (by exact c0) (by exact c1) (by omega) (by omega) (by omega) (by omega) (by omega))) | (exact quiet0s (Tryd.strings_IndexByte _ _ _))))
  rw [hX2]
  clear hX2
  go_wp2_with (first | (go_at_call 20; refine (peek_c (by exact c0) (by exact c1) (by omega) (by omega) (by omega) (by omega) (by omega)).mono ?_; rintro e w' ⟨rfl, n1, rfl⟩) | (go_at_call 18; refine (inside_c _ _).mono ?_; rintro e w' ⟨rfl, rfl⟩) | (go_at_call 27; refine (Tryd.strings_IndexByte _ _ _).mono ?_; rintro e w' ⟨rfl, rfl⟩; try rw [hY2]))
  generalize hwa : World.setCell _ ⟨g, 1, none⟩ _ = wa
  have Fwa : Fr (fun k => k = g) w wa := by
    rw [← hwa]
    first | exact (Fw5.mono (fun _ h => h.elim)).set1 1 _ | exact ((Fw5.mono (fun _ h => h.elim)).drewN _).set1 1 _ | exact (((Fw5.mono (fun _ h => h.elim)).drewN _).drewN _).set1 1 _ | exact ((((Fw5.mono (fun _ h => h.elim)).drewN _).drewN _).drewN _).set1 1 _ | exact (((((Fw5.mono (fun _ h => h.elim)).drewN _).drewN _).drewN _).drewN _).set1 1 _ | exact ((((((Fw5.mono (fun _ h => h.elim)).drewN _).drewN _).drewN _).drewN _).drewN _).set1 1 _
  have gwa : wa.heap[g]? = some (.cells #[.string s, .int .i64 ((i + 1 : Nat) : Int), lv, .int .i64 st.err, .int .i64 st.bad] 44 (0, 0)) := by
    rw [← hwa]
    first | exact set_place gw5 | (rw [show ((i + 1 : Nat) : Int) = (i : Int) + 1 by omega]; exact set_place gw5) | (rw [show ((i + 1 : Nat) : Int) = ((i + 1 : Nat) : Int) + 1 by omega]; exact set_place gw5)
  clear hwa
  obtain ⟨c0, c1, -⟩ := blk5 gwa
  have hx1 : IsLx wa B g s { st with at_ := ((i + 1 : Nat) : Int) } lv := hx.place _ Fwa gwa
  have p1 : (i : Int) ≤ (i : Int) + 1 := by omega
  have p2 : (i : Int) + 1 ≤ (s.size : Int) := by omega
  have p3 : ((i : Int) + 1).toNat = i + 1 := by omega
  have p4 : 0 ≤ (i : Int) + 1 := by omega
  refine wp_region_mix (fun _ => True) 16 [(.p, 0), (.p, 1), (.p, 2), (.p, 3), (.p, 4), (.p, 5), (.l [15, 13, 6], 6), (.p, 7), (.p, 8), (.p, 9), (.p, 10), (.p, 11), (.l [15, 13, 12], 12), (.p, 13), (.p, 14), (.w true, 15)] (by kernel_rfl) (by kernel_rfl) rfl (by kernel_rfl) ?_ ?_
  · trivial
  repeat (refine wpMix_look rfl rfl (fun K hK => ?_); go_simp; refine hK _ ?_; clear hK K)
  refine wpMix_loud rfl (fun K hK => ?_)
  go_wp2_with (fail)
  refine (add_c (lv := lv) (st := { st with at_ := ((i + 1 : Nat) : Int) }) (s := s) (B := B) (by exact hx1) 6 i (s.extract i (i + 1)) ⟨0, [], []⟩ _ (VCells.plain _) hn).mono ?_
  rintro e w3 ⟨rfl, lv', hx3, F3⟩
  go_wp2_with (fail)
  refine thenN_normal (hK _ _ (fun _ => trivial) (wpMix_nil ?_))
  clear hK K
  go_wp2_with (fail)
  go_end0
  refine ⟨rfl, fun n kd v h => ?_, fun h => ?_, (Fwa.mono (fun _ h => .inl h)).trans F3.of_drewN⟩
  · rw [HM.out] at h
    simp at h
    obtain ⟨rfl, rfl, rfl⟩ := h
    exact ⟨lv', hx3⟩
  · rw [HM.out] at h
    cases h
set_option maxHeartbeats 1600000 in
theorem mark_zero {w : World} {B g : Nat} {s : ByteArray} {st : LxSt} {lv : Value} (gl : Gl B w) (hx : IsLx w B g s st lv) (i : Nat) (hi : st.at_ = i) (hle : i ≤ s.size) (hs : s.size ≤ 70000) (hn : st.toks.length ≤ 1000000) (z0 : (pkI s (i : Int) == 40) = false) (z1 : (pkI s (i : Int) == 0) = true) (HM : Hid (markS s i = none)) :
    Calls Tryd.prog 28 #[.pointer (some ⟨g, 0, none⟩)] w (MarkOut B g s st lv i w) := by
  obtain ⟨c0, c1, c2, c3, c4, cf⟩ := hx.cells
  have f1 := cf 1 (by omega)
  clear cf c2 c3 c4
  have hlt := hx.lt
  rw [hi] at c1
  have y1 : IntKind.i64.wrap ((i : Int) + 1) = (i : Int) + 1 := IntWalk.i64_in _ (by omega)
  have y2 : IntKind.i64.wrap ((i : Int) + 1 + 1) = (i : Int) + 2 := (IntWalk.i64_in _ (by omega)).trans (by omega)
  have y3 : IntKind.i64.wrap ((i : Int) + 3) = (i : Int) + 3 := IntWalk.i64_in _ (by omega)
  go_enter Tryd.func28, Tryd.ntmps28
  go_wp2_with (fail)
  go_quiet ((exact quiet0 (peek_c (by exact c0) (by exact c1) (by omega) (by omega) (by omega) (by omega) (by omega))))
  go_wp2_with ((go_at_call 27; refine (Tryd.strings_IndexByte _ _ _).mono ?_; rintro e w' ⟨rfl, rfl⟩; try rw [hY2]))
  refine (fail_c (lv := lv) (st := st) (by exact hx) 140 _).mono ?_
  rintro e w2 ⟨rfl, hx2, F2⟩
  go_wp2_with (fail)
  go_end0
  exact ⟨rfl, fun n kd v h => (by rw [HM.out] at h; cases h), fun _ => hx2, (F2.mono (fun _ h => .inl h)).of_drewN⟩
set_option maxHeartbeats 1600000 in
theorem mark_none {w : World} {B g : Nat} {s : ByteArray} {st : LxSt} {lv : Value} (gl : Gl B w) (hx : IsLx w B g s st lv) (i : Nat) (hi : st.at_ = i) (hle : i ≤ s.size) (hs : s.size ≤ 70000) (hn : st.toks.length ≤ 1000000) (z0 : (pkI s (i : Int) == 40) = false) (z1 : (pkI s (i : Int) == 0) = false) (hs1 : i + 1 ≤ s.size) (Y : Int) (hY2 : Lib.indexByte [40, 41, 91, 93, 123, 125, 59, 58] (pkI s (i : Int)).toNat.toUInt8 = Y) (hYn : Y < 0) (HM : Hid (markS s i = none)) :
    Calls Tryd.prog 28 #[.pointer (some ⟨g, 0, none⟩)] w (MarkOut B g s st lv i w) := by
  obtain ⟨c0, c1, c2, c3, c4, cf⟩ := hx.cells
  have f1 := cf 1 (by omega)
  clear cf c2 c3 c4
  have hlt := hx.lt
  rw [hi] at c1
  have y1 : IntKind.i64.wrap ((i : Int) + 1) = (i : Int) + 1 := IntWalk.i64_in _ (by omega)
  have y2 : IntKind.i64.wrap ((i : Int) + 1 + 1) = (i : Int) + 2 := (IntWalk.i64_in _ (by omega)).trans (by omega)
  have y3 : IntKind.i64.wrap ((i : Int) + 3) = (i : Int) + 3 := IntWalk.i64_in _ (by omega)
  go_enter Tryd.func28, Tryd.ntmps28
  go_wp2_with (fail)
  go_quiet ((exact quiet0 (peek_c (by exact c0) (by exact c1) (by omega) (by omega) (by omega) (by omega) (by omega))))
  go_wp2_with ((go_at_call 27; refine (Tryd.strings_IndexByte _ _ _).mono ?_; rintro e w' ⟨rfl, rfl⟩; try rw [hY2]))
  refine (fail_c (lv := lv) (st := st) (by exact hx) 140 _).mono ?_
  rintro e w2 ⟨rfl, hx2, F2⟩
  go_wp2_with (fail)
  go_end0
  exact ⟨rfl, fun n kd v h => (by rw [HM.out] at h; cases h), fun _ => hx2, (F2.mono (fun _ h => .inl h)).of_drewN⟩
set_option maxHeartbeats 1600000 in
theorem mark_one {w : World} {B g : Nat} {s : ByteArray} {st : LxSt} {lv : Value} (gl : Gl B w) (hx : IsLx w B g s st lv) (i : Nat) (hi : st.at_ = i) (hle : i ≤ s.size) (hs : s.size ≤ 70000) (hn : st.toks.length ≤ 1000000) (z0 : (pkI s (i : Int) == 40) = false) (z1 : (pkI s (i : Int) == 0) = false) (hs1 : i + 1 ≤ s.size) (Y : Int) (hY2 : Lib.indexByte [40, 41, 91, 93, 123, 125, 59, 58] (pkI s (i : Int)).toNat.toUInt8 = Y) (hYn : 0 ≤ Y) (z2 : (pkI s (i : Int) == 58) = false) (HM : Hid (markS s i = some (1, 6, ⟨0, [], []⟩))) :
    Calls Tryd.prog 28 #[.pointer (some ⟨g, 0, none⟩)] w (MarkOut B g s st lv i w) := by
  obtain ⟨c0, c1, c2, c3, c4, cf⟩ := hx.cells
  have f1 := cf 1 (by omega)
  clear cf c2 c3 c4
  have hlt := hx.lt
  rw [hi] at c1
  have y1 : IntKind.i64.wrap ((i : Int) + 1) = (i : Int) + 1 := IntWalk.i64_in _ (by omega)
  have y2 : IntKind.i64.wrap ((i : Int) + 1 + 1) = (i : Int) + 2 := (IntWalk.i64_in _ (by omega)).trans (by omega)
  have y3 : IntKind.i64.wrap ((i : Int) + 3) = (i : Int) + 3 := IntWalk.i64_in _ (by omega)
  go_enter Tryd.func28, Tryd.ntmps28
  go_wp2_with (fail)
  go_quiet ((exact quiet0 (peek_c (by exact c0) (by exact c1) (by omega) (by omega) (by omega) (by omega) (by omega))))
  go_wp2_with ((go_at_call 27; refine (Tryd.strings_IndexByte _ _ _).mono ?_; rintro e w' ⟨rfl, rfl⟩; try rw [hY2]))
  generalize hwa : World.setCell _ ⟨g, 1, none⟩ _ = wa
  have Fwa : Fr (fun k => k = g) w wa := by
    rw [← hwa]
    first | exact (Fr.refl (fun k => k = g) w).set1 1 _ | exact ((Fr.refl (fun k => k = g) w).drewN _).set1 1 _ | exact (((Fr.refl (fun k => k = g) w).drewN _).drewN _).set1 1 _ | exact ((((Fr.refl (fun k => k = g) w).drewN _).drewN _).drewN _).set1 1 _ | exact (((((Fr.refl (fun k => k = g) w).drewN _).drewN _).drewN _).drewN _).set1 1 _ | exact ((((((Fr.refl (fun k => k = g) w).drewN _).drewN _).drewN _).drewN _).drewN _).set1 1 _
  have gwa : wa.heap[g]? = some (.cells #[.string s, .int .i64 ((i + 1 : Nat) : Int), lv, .int .i64 st.err, .int .i64 st.bad] 44 (0, 0)) := by
    rw [← hwa]
    first | exact set_place (hi ▸ hx.2.1) | (rw [show ((i + 1 : Nat) : Int) = (i : Int) + 1 by omega]; exact set_place (hi ▸ hx.2.1)) | (rw [show ((i + 1 : Nat) : Int) = ((i + 1 : Nat) : Int) + 1 by omega]; exact set_place (hi ▸ hx.2.1))
  clear hwa
  obtain ⟨c0, c1, -⟩ := blk5 gwa
  have hx1 : IsLx wa B g s { st with at_ := ((i + 1 : Nat) : Int) } lv := hx.place _ Fwa gwa
  have p1 : (i : Int) ≤ (i : Int) + 1 := by omega
  have p2 : (i : Int) + 1 ≤ (s.size : Int) := by omega
  have p3 : ((i : Int) + 1).toNat = i + 1 := by omega
  have p4 : 0 ≤ (i : Int) + 1 := by omega
  refine wp_region_mix (fun _ => True) 16 [(.p, 0), (.p, 1), (.p, 2), (.p, 3), (.p, 4), (.p, 5), (.l [15, 13, 6], 6), (.p, 7), (.p, 8), (.p, 9), (.p, 10), (.p, 11), (.l [15, 13, 12], 12), (.p, 13), (.p, 14), (.w true, 15)] (by kernel_rfl) (by kernel_rfl) rfl (by kernel_rfl) ?_ ?_
  · trivial
  repeat (refine wpMix_look rfl rfl (fun K hK => ?_); go_simp; refine hK _ ?_; clear hK K)
  refine wpMix_loud rfl (fun K hK => ?_)
  go_wp2_with (fail)
  refine (add_c (lv := lv) (st := { st with at_ := ((i + 1 : Nat) : Int) }) (s := s) (B := B) (by exact hx1) 6 i (s.extract i (i + 1)) ⟨0, [], []⟩ _ (VCells.plain _) hn).mono ?_
  rintro e w3 ⟨rfl, lv', hx3, F3⟩
  go_wp2_with (fail)
  refine thenN_normal (hK _ _ (fun _ => trivial) (wpMix_nil ?_))
  clear hK K
  go_wp2_with (fail)
  go_end0
  refine ⟨rfl, fun n kd v h => ?_, fun h => ?_, (Fwa.mono (fun _ h => .inl h)).trans F3.of_drewN⟩
  · rw [HM.out] at h
    simp at h
    obtain ⟨rfl, rfl, rfl⟩ := h
    exact ⟨lv', hx3⟩
  · rw [HM.out] at h
    cases h
set_option maxHeartbeats 1600000 in
theorem mark_58a {w : World} {B g : Nat} {s : ByteArray} {st : LxSt} {lv : Value} (gl : Gl B w) (hx : IsLx w B g s st lv) (i : Nat) (hi : st.at_ = i) (hle : i ≤ s.size) (hs : s.size ≤ 70000) (hn : st.toks.length ≤ 1000000) (z2 : (pkI s (i : Int) == 58) = true) (hs1 : i + 1 ≤ s.size) (z0 : (pkI s (i : Int) == 40) = false) (z1 : (pkI s (i : Int) == 0) = false) (hY2 : Lib.indexByte [40, 41, 91, 93, 123, 125, 59, 58] (pkI s (i : Int)).toNat.toUInt8 = 7) (z3 : (pkI s ((i : Int) + 1) == 58) = false) (HM : Hid (markS s i = some (1, 6, ⟨0, [], []⟩))) :
    Calls Tryd.prog 28 #[.pointer (some ⟨g, 0, none⟩)] w (MarkOut B g s st lv i w) := by
  obtain ⟨c0, c1, c2, c3, c4, cf⟩ := hx.cells
  have f1 := cf 1 (by omega)
  clear cf c2 c3 c4
  have hlt := hx.lt
  rw [hi] at c1
  have y1 : IntKind.i64.wrap ((i : Int) + 1) = (i : Int) + 1 := IntWalk.i64_in _ (by omega)
  have y2 : IntKind.i64.wrap ((i : Int) + 1 + 1) = (i : Int) + 2 := (IntWalk.i64_in _ (by omega)).trans (by omega)
  have y3 : IntKind.i64.wrap ((i : Int) + 3) = (i : Int) + 3 := IntWalk.i64_in _ (by omega)
  go_enter Tryd.func28, Tryd.ntmps28
  go_wp2_with (fail)
  go_quiet ((exact quiet0 (peek_c (by exact c0) (by exact c1) (by omega) (by omega) (by omega) (by omega) (by omega))))
  go_wp2_with ((go_at_call 27; refine (Tryd.strings_IndexByte _ _ _).mono ?_; rintro e w' ⟨rfl, rfl⟩; try rw [hY2]))
  generalize hwa : World.setCell _ ⟨g, 1, none⟩ _ = wa
  have Fwa : Fr (fun k => k = g) w wa := by
    rw [← hwa]
    first | exact (Fr.refl (fun k => k = g) w).set1 1 _ | exact ((Fr.refl (fun k => k = g) w).drewN _).set1 1 _ | exact (((Fr.refl (fun k => k = g) w).drewN _).drewN _).set1 1 _ | exact ((((Fr.refl (fun k => k = g) w).drewN _).drewN _).drewN _).set1 1 _ | exact (((((Fr.refl (fun k => k = g) w).drewN _).drewN _).drewN _).drewN _).set1 1 _ | exact ((((((Fr.refl (fun k => k = g) w).drewN _).drewN _).drewN _).drewN _).drewN _).set1 1 _
  have gwa : wa.heap[g]? = some (.cells #[.string s, .int .i64 ((i + 1 : Nat) : Int), lv, .int .i64 st.err, .int .i64 st.bad] 44 (0, 0)) := by
    rw [← hwa]
    first | exact set_place (hi ▸ hx.2.1) | (rw [show ((i + 1 : Nat) : Int) = (i : Int) + 1 by omega]; exact set_place (hi ▸ hx.2.1)) | (rw [show ((i + 1 : Nat) : Int) = ((i + 1 : Nat) : Int) + 1 by omega]; exact set_place (hi ▸ hx.2.1))
  clear hwa
  obtain ⟨c0, c1, -, -, -, -, f1, -⟩ := blk5 gwa
  refine (peek_c (by exact c0) (by exact c1) (by omega) (by omega) (by omega) (by omega) (by omega)).mono ?_
  rintro e w' ⟨rfl, n1, rfl⟩
  go_wp2_with (fail)
  obtain ⟨c0, c1, -⟩ := blk5 gwa
  have hx1 : IsLx wa B g s { st with at_ := ((i + 1 : Nat) : Int) } lv := hx.place _ Fwa gwa
  have p1 : (i : Int) ≤ (i : Int) + 1 := by omega
  have p2 : (i : Int) + 1 ≤ (s.size : Int) := by omega
  have p3 : ((i : Int) + 1).toNat = i + 1 := by omega
  have p4 : 0 ≤ (i : Int) + 1 := by omega
  refine wp_region_mix (fun _ => True) 16 [(.p, 0), (.p, 1), (.p, 2), (.p, 3), (.p, 4), (.p, 5), (.l [15, 13, 6], 6), (.p, 7), (.p, 8), (.p, 9), (.p, 10), (.p, 11), (.l [15, 13, 12], 12), (.p, 13), (.p, 14), (.w true, 15)] (by kernel_rfl) (by kernel_rfl) rfl (by kernel_rfl) ?_ ?_
  · trivial
  repeat (refine wpMix_look rfl rfl (fun K hK => ?_); go_simp; refine hK _ ?_; clear hK K)
  refine wpMix_loud rfl (fun K hK => ?_)
  go_wp2_with (fail)
  refine (add_c (lv := lv) (st := { st with at_ := ((i + 1 : Nat) : Int) }) (s := s) (B := B) (by exact hx1) 6 i (s.extract i (i + 1)) ⟨0, [], []⟩ _ (VCells.plain _) hn).mono ?_
  rintro e w3 ⟨rfl, lv', hx3, F3⟩
  go_wp2_with (fail)
  refine thenN_normal (hK _ _ (fun _ => trivial) (wpMix_nil ?_))
  clear hK K
  go_wp2_with (fail)
  go_end0
  refine ⟨rfl, fun n kd v h => ?_, fun h => ?_, (Fwa.mono (fun _ h => .inl h)).trans F3.of_drewN⟩
  · rw [HM.out] at h
    simp at h
    obtain ⟨rfl, rfl, rfl⟩ := h
    exact ⟨lv', hx3⟩
  · rw [HM.out] at h
    cases h
set_option maxHeartbeats 1600000 in
theorem mark_58b {w : World} {B g : Nat} {s : ByteArray} {st : LxSt} {lv : Value} (gl : Gl B w) (hx : IsLx w B g s st lv) (i : Nat) (hi : st.at_ = i) (hle : i ≤ s.size) (hs : s.size ≤ 70000) (hn : st.toks.length ≤ 1000000) (z2 : (pkI s (i : Int) == 58) = true) (hs1 : i + 1 ≤ s.size) (z0 : (pkI s (i : Int) == 40) = false) (z1 : (pkI s (i : Int) == 0) = false) (hY2 : Lib.indexByte [40, 41, 91, 93, 123, 125, 59, 58] (pkI s (i : Int)).toNat.toUInt8 = 7) (hs2 : i + 2 ≤ s.size) (z3 : (pkI s ((i : Int) + 1) == 58) = true) (HM : Hid (markS s i = some (2, 6, ⟨0, [], []⟩))) :
    Calls Tryd.prog 28 #[.pointer (some ⟨g, 0, none⟩)] w (MarkOut B g s st lv i w) := by
  obtain ⟨c0, c1, c2, c3, c4, cf⟩ := hx.cells
  have f1 := cf 1 (by omega)
  clear cf c2 c3 c4
  have hlt := hx.lt
  rw [hi] at c1
  have y1 : IntKind.i64.wrap ((i : Int) + 1) = (i : Int) + 1 := IntWalk.i64_in _ (by omega)
  have y2 : IntKind.i64.wrap ((i : Int) + 1 + 1) = (i : Int) + 2 := (IntWalk.i64_in _ (by omega)).trans (by omega)
  have y3 : IntKind.i64.wrap ((i : Int) + 3) = (i : Int) + 3 := IntWalk.i64_in _ (by omega)
  go_enter Tryd.func28, Tryd.ntmps28
  go_wp2_with (fail)
  go_quiet ((exact quiet0 (peek_c (by exact c0) (by exact c1) (by omega) (by omega) (by omega) (by omega) (by omega))))
  go_wp2_with ((go_at_call 27; refine (Tryd.strings_IndexByte _ _ _).mono ?_; rintro e w' ⟨rfl, rfl⟩; try rw [hY2]))
  generalize hwa : World.setCell _ ⟨g, 1, none⟩ _ = wa
  have Fwa : Fr (fun k => k = g) w wa := by
    rw [← hwa]
    first | exact (Fr.refl (fun k => k = g) w).set1 1 _ | exact ((Fr.refl (fun k => k = g) w).drewN _).set1 1 _ | exact (((Fr.refl (fun k => k = g) w).drewN _).drewN _).set1 1 _ | exact ((((Fr.refl (fun k => k = g) w).drewN _).drewN _).drewN _).set1 1 _ | exact (((((Fr.refl (fun k => k = g) w).drewN _).drewN _).drewN _).drewN _).set1 1 _ | exact ((((((Fr.refl (fun k => k = g) w).drewN _).drewN _).drewN _).drewN _).drewN _).set1 1 _
  have gwa : wa.heap[g]? = some (.cells #[.string s, .int .i64 ((i + 1 : Nat) : Int), lv, .int .i64 st.err, .int .i64 st.bad] 44 (0, 0)) := by
    rw [← hwa]
    first | exact set_place (hi ▸ hx.2.1) | (rw [show ((i + 1 : Nat) : Int) = (i : Int) + 1 by omega]; exact set_place (hi ▸ hx.2.1)) | (rw [show ((i + 1 : Nat) : Int) = ((i + 1 : Nat) : Int) + 1 by omega]; exact set_place (hi ▸ hx.2.1))
  clear hwa
  obtain ⟨c0, c1, -, -, -, -, f1, -⟩ := blk5 gwa
  refine (peek_c (by exact c0) (by exact c1) (by omega) (by omega) (by omega) (by omega) (by omega)).mono ?_
  rintro e w' ⟨rfl, n1, rfl⟩
  go_wp2_with (fail)
  generalize hwb : World.setCell _ ⟨g, 1, none⟩ _ = wb
  have Fwb : Fr (fun k => k = g) w wb := by
    rw [← hwb]
    first | exact (Fwa).set1 1 _ | exact ((Fwa).drewN _).set1 1 _ | exact (((Fwa).drewN _).drewN _).set1 1 _ | exact ((((Fwa).drewN _).drewN _).drewN _).set1 1 _ | exact (((((Fwa).drewN _).drewN _).drewN _).drewN _).set1 1 _ | exact ((((((Fwa).drewN _).drewN _).drewN _).drewN _).drewN _).set1 1 _
  have gwb : wb.heap[g]? = some (.cells #[.string s, .int .i64 ((i + 2 : Nat) : Int), lv, .int .i64 st.err, .int .i64 st.bad] 44 (0, 0)) := by
    rw [← hwb]
    first | exact set_place gwa | (rw [show ((i + 2 : Nat) : Int) = (i : Int) + 2 by omega]; exact set_place gwa) | (rw [show ((i + 2 : Nat) : Int) = ((i + 1 : Nat) : Int) + 1 by omega]; exact set_place gwa)
  clear hwb
  obtain ⟨c0, c1, -⟩ := blk5 gwb
  have hx1 : IsLx wb B g s { st with at_ := ((i + 2 : Nat) : Int) } lv := hx.place _ Fwb gwb
  have p1 : (i : Int) ≤ (i : Int) + 2 := by omega
  have p2 : (i : Int) + 2 ≤ (s.size : Int) := by omega
  have p3 : ((i : Int) + 2).toNat = i + 2 := by omega
  have p4 : 0 ≤ (i : Int) + 2 := by omega
  refine wp_region_mix (fun _ => True) 16 [(.p, 0), (.p, 1), (.p, 2), (.p, 3), (.p, 4), (.p, 5), (.l [15, 13, 6], 6), (.p, 7), (.p, 8), (.p, 9), (.p, 10), (.p, 11), (.l [15, 13, 12], 12), (.p, 13), (.p, 14), (.w true, 15)] (by kernel_rfl) (by kernel_rfl) rfl (by kernel_rfl) ?_ ?_
  · trivial
  repeat (refine wpMix_look rfl rfl (fun K hK => ?_); go_simp; refine hK _ ?_; clear hK K)
  refine wpMix_loud rfl (fun K hK => ?_)
  go_wp2_with (fail)
  refine (add_c (lv := lv) (st := { st with at_ := ((i + 2 : Nat) : Int) }) (s := s) (B := B) (by exact hx1) 6 i (s.extract i (i + 2)) ⟨0, [], []⟩ _ (VCells.plain _) hn).mono ?_
  rintro e w3 ⟨rfl, lv', hx3, F3⟩
  go_wp2_with (fail)
  refine thenN_normal (hK _ _ (fun _ => trivial) (wpMix_nil ?_))
  clear hK K
  go_wp2_with (fail)
  go_end0
  refine ⟨rfl, fun n kd v h => ?_, fun h => ?_, (Fwb.mono (fun _ h => .inl h)).trans F3.of_drewN⟩
  · rw [HM.out] at h
    simp at h
    obtain ⟨rfl, rfl, rfl⟩ := h
    exact ⟨lv', hx3⟩
  · rw [HM.out] at h
    cases h
end Go.Proofs.YtnoplebjkbfedaaDoor
