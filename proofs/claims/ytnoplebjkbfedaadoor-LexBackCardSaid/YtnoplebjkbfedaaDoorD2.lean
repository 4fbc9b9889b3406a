/- The lexer's method token: a number. -/
import Derived.Test.YtnoplebjkbfedaaDoorD1
import Derived.Test.YtnoplebjkbfedaaDoorB7
import Derived.Test.YtnoplebjkbfedaaDoorC4
namespace Go.Proofs.YtnoplebjkbfedaaDoor
open Go Go.RowKit
set_option linter.unusedSimpArgs false
set_option linter.unusedVariables false
set_option maxRecDepth 100000
def TokOut (B g : Nat) (s : ByteArray) (st : LxSt) (lv : Value) (i : Nat) (w : World) (e : Ending) (w' : World) : Prop := e = .returned (.tuple #[]) ∧ LxRes (tokenR s st i) B g s w' ∧ Fr (LxS g lv) w w'
set_option maxHeartbeats 1600000 in
theorem token_dig {w : World} {B g : Nat} {s : ByteArray} {st : LxSt} {lv : Value} (gl : Gl B w) (hx : IsLx w B g s st lv) (i : Nat) (hi : st.at_ = i) (hli : i < s.size) (hs : s.size ≤ 65536) (hn : st.toks.length ≤ 1000000) (herr : st.err = 0)
    (hpre : i ≠ 0 → pkI s (i - 1) ≠ 32 → st.toks ≠ []) (d0 : dgI (pkI s i) = true) (HT : Hid (tokenR s st i = numeralR s st i)) :
    Calls Tryd.prog 14 #[.pointer (some ⟨g, 0, none⟩)] w (TokOut B g s st lv i w) := by
  obtain ⟨c0, c1, c2, c3, c4, cf⟩ := hx.cells
  have f1 := cf 1 (by omega)
  clear cf c2 c3 c4
  have hlt := hx.lt
  rw [hi] at c1
  have y1 : IntKind.i64.wrap ((i : Int) + 1) = (i : Int) + 1 := IntWalk.i64_in _ (by omega)
  have y2 : IntKind.i64.wrap ((i : Int) + 1 + 1) = (i : Int) + 2 := (IntWalk.i64_in _ (by omega)).trans (by omega)
  have HPRE := Lib.hid hpre
  clear hpre
  go_enter Tryd.func14, Tryd.ntmps14
  go_wp2_with (fail)
  go_quiet ((exact quiet0 (peek_c (by exact c0) (by exact c1) (by omega) (by omega) (by omega) (by omega) (by omega))))
  generalize hw5 : World.drewN w _ = w5
  have Fw5 : Fr (fun _ => False) w w5 := by rw [← hw5]; exact (Fr.refl _ _).drewN _
  clear hw5
  have hx5 : IsLx w5 B g s st lv := hx.keep Fw5 (fun _ _ h => h)
  have gl5 : Gl B w5 := gl.keep Fw5 (fun _ h => h.elim)
  go_wp2_with (go_at_call 21; refine (digit_c _ _).mono ?_; rintro e w' ⟨rfl, rfl⟩)
  refine (numeral_c gl5 hx5 i hi (by omega) hs hn herr).mono ?_
  rintro e w7 ⟨rfl, h7, F7⟩
  go_wp2_with (fail)
  go_end0
  refine ⟨rfl, ?_, (Fw5.mono (fun _ h => h.elim)).trans F7⟩
  rw [HT.out]
  exact h7
set_option maxHeartbeats 1600000 in
theorem token_neg {w : World} {B g : Nat} {s : ByteArray} {st : LxSt} {lv : Value} (gl : Gl B w) (hx : IsLx w B g s st lv) (i : Nat) (hi : st.at_ = i) (hli : i < s.size) (hs : s.size ≤ 65536) (hn : st.toks.length ≤ 1000000) (herr : st.err = 0)
    (hpre : i ≠ 0 → pkI s (i - 1) ≠ 32 → st.toks ≠ []) (d0 : dgI (pkI s i) = false) (n0 : negB s i st.toks = true) (HT : Hid (tokenR s st i = numeralR s st i)) :
    Calls Tryd.prog 14 #[.pointer (some ⟨g, 0, none⟩)] w (TokOut B g s st lv i w) := by
  obtain ⟨c0, c1, c2, c3, c4, cf⟩ := hx.cells
  have f1 := cf 1 (by omega)
  clear cf c2 c3 c4
  have hlt := hx.lt
  rw [hi] at c1
  have y1 : IntKind.i64.wrap ((i : Int) + 1) = (i : Int) + 1 := IntWalk.i64_in _ (by omega)
  have y2 : IntKind.i64.wrap ((i : Int) + 1 + 1) = (i : Int) + 2 := (IntWalk.i64_in _ (by omega)).trans (by omega)
  have HPRE := Lib.hid hpre
  clear hpre
  go_enter Tryd.func14, Tryd.ntmps14
  go_wp2_with (fail)
  go_quiet ((exact quiet0 (peek_c (by exact c0) (by exact c1) (by omega) (by omega) (by omega) (by omega) (by omega))))
  generalize hw5 : World.drewN w _ = w5
  have Fw5 : Fr (fun _ => False) w w5 := by rw [← hw5]; exact (Fr.refl _ _).drewN _
  clear hw5
  have hx5 : IsLx w5 B g s st lv := hx.keep Fw5 (fun _ _ h => h)
  have gl5 : Gl B w5 := gl.keep Fw5 (fun _ h => h.elim)
  go_wp2_with (go_at_call 21; refine (digit_c _ _).mono ?_; rintro e w' ⟨rfl, rfl⟩)
  refine (negative_c hx5 i hi (by omega) (by omega) HPRE.out hn).mono ?_
  rintro e w6 ⟨rfl, F6⟩
  have Fw6 : Fr (fun _ => False) w w6 := Fw5.trans F6
  have hx6 : IsLx w6 B g s st lv := hx.keep Fw6 (fun _ _ h => h)
  have gl6 : Gl B w6 := gl.keep Fw6 (fun _ h => h.elim)
  have gw6 : w6.heap[g]? = some (.cells #[.string s, .int .i64 (i : Int), lv, .int .i64 st.err, .int .i64 st.bad] 44 (0, 0)) := by rw [← hi]; exact (Fw6.block g hlt id).trans hx.2.1
  clear c0 c1 f1
  obtain ⟨c0, c1, -, -, -, -, f1, -⟩ := blk5 gw6
  go_wp2_with (fail)
  refine (numeral_c gl6 hx6 i hi (by omega) hs hn herr).mono ?_
  rintro e w7 ⟨rfl, h7, F7⟩
  go_wp2_with (fail)
  go_end0
  refine ⟨rfl, ?_, (Fw6.mono (fun _ h => h.elim)).trans F7⟩
  rw [HT.out]
  exact h7
end Go.Proofs.YtnoplebjkbfedaaDoor
