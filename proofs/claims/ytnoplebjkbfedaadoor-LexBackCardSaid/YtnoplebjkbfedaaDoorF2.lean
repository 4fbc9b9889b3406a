/- live: the walk. -/
import Derived.Test.YtnoplebjkbfedaaDoorF1
import Derived.Test.YtnoplebjkbfedaaDoorD6
import Derived.Test.YtnoplebjkbfedaaDoorE4
import Derived.Test.YtnoplebjkbfedaaDoorE2
namespace Go.Proofs.YtnoplebjkbfedaaDoor
open Go Go.RowKit
set_option linter.unusedSimpArgs false
set_option linter.unusedVariables false
set_option maxRecDepth 100000
def LexTo (toks : List Tok) (w : World) (e : Ending) (w' : World) : Prop := ∃ lv, e = .returned (.tuple #[lv, .int .i64 0, .int .i64 0]) ∧ TokRow w' w.heap.size lv toks ∧ Fr (fun _ => False) w w'
def LexBad (er b : Int) (w : World) (e : Ending) (w' : World) : Prop := e = .returned (.tuple #[.slice none 0 0, .int .i64 er, .int .i64 b]) ∧ Fr (fun _ => False) w w'
theorem Lex_to {w : World} {B : Nat} (gl : Gl B w) {s : ByteArray} {toks : List Tok} (h : lexS s = .ok toks) : Calls Tryd.prog 5 #[.string s] w (LexTo toks w) := by
  refine (Lex_c gl s).mono ?_
  rintro e w' ⟨h1, F⟩
  rw [h] at h1
  obtain ⟨lv, rfl, hr⟩ := h1
  exact ⟨lv, rfl, hr, F⟩
theorem Lex_bad {w : World} {B : Nat} (gl : Gl B w) {s : ByteArray} {er b : Int} (h : lexS s = .error (er, b)) : Calls Tryd.prog 5 #[.string s] w (LexBad er b w) := by
  refine (Lex_c gl s).mono ?_
  rintro e w' ⟨h1, F⟩
  rw [h] at h1
  exact ⟨h1, F⟩
theorem num_k (n : Int) (w : World) : Calls Tryd.prog 6 #[.int .i64 n] w fun e w' => e = .returned (.int .i64 n) ∧ w = w' := (num_c n w).mono fun _ _ h => ⟨h.1, h.2.symm⟩
theorem Word_k (s : ByteArray) (w : World) (hs : s.size ≤ 100000) (h0 : 0 < s.size) {b : Bool} (hb : wordB s = b) : Calls Tryd.prog 11 #[.string s] w fun e w' => e = .returned (.bool b) ∧ w = w' := (Word_c s w hs h0).mono fun _ _ h => ⟨by rw [h.1, hb], h.2.symm⟩
theorem Join_live {w : World} {base : Nat} {lv : Value} (h : TokRow w base lv liveA) : Calls Tryd.prog 8 #[lv] w fun e w' => e = .returned (.string ⟨#[97, 32, 58, 32, 49, 32, 45, 50, 32, 43, 32, 98]⟩) ∧ Fr (fun _ => False) w w' := by
  have hs : ∀ t ∈ liveA, t.text.size ≤ 100000 := by
    intro t ht
    simp only [liveA, List.mem_cons, List.mem_nil_iff, or_false] at ht
    rcases ht with rfl | rfl | rfl | rfl | rfl <;> exact of_decide_eq_true rfl
  refine (Join_c h (by decide) hs (by rw [live_j]; decide)).mono ?_
  rintro e w' ⟨rfl, F⟩
  rw [live_j]
  exact ⟨rfl, F⟩
theorem rd_pair {w : World} {F : Nat → Prop} {b : Nat} {x y : Int} {t : TypeId} (h : w.heap[b]? = some (.cells #[.int .i64 x, .int .i64 y] t (0, 0))) (hF : F b) : Rd1 (.int .i64) w F (.slice (some ⟨b, 0, none⟩) 2 2) [x, y] := by
  refine .inr ⟨b, 0, 2, rfl, hF, Nat.le_refl _, by omega, ?_⟩
  intro j u hj
  obtain ⟨h0, h1, -⟩ := blk2 h
  match j, hj with
  | 0, hj => simp at hj; subst hj; exact h0
  | 1, hj => simp at hj; subst hj; exact h1
  | j + 2, hj => simp at hj
set_option maxHeartbeats 3200000 in
theorem live_c {w : World} {B : Nat} (gl : Gl B w) : Calls Tryd.prog 4 #[] w fun e w' => e = .returned (.bool true) ∧ Fr (fun _ => False) w w' := by
  go_enter Tryd.func4, Tryd.ntmps4
  go_wp2_with (fail)
  refine (Lex_to gl live_a).mono ?_
  rintro e w1 ⟨la, rfl, ra, F1⟩
  have gl1 : Gl B w1 := gl.keep F1 (fun _ h => h.elim)
  go_wp2_with (fail)
  refine (Lex_to gl1 live_b).mono ?_
  rintro e w2 ⟨lm, rfl, rm, F2⟩
  have gl2 : Gl B w2 := gl1.keep F2 (fun _ h => h.elim)
  go_wp2_with (fail)
  refine (Lex_to gl2 live_n).mono ?_
  rintro e w3 ⟨ln, rfl, rn, F3⟩
  have gl3 : Gl B w3 := gl2.keep F3 (fun _ h => h.elim)
  go_wp2_with (fail)
  refine (Lex_bad gl3 live_h).mono ?_
  rintro e w4 ⟨rfl, F4⟩
  have gl4 : Gl B w4 := gl3.keep F4 (fun _ h => h.elim)
  go_wp2_with (fail)
  refine (Lex_bad gl4 live_i).mono ?_
  rintro e w5 ⟨rfl, F5⟩
  have gl5 : Gl B w5 := gl4.keep F5 (fun _ h => h.elim)
  have ra5 := ra.keep (((F2.trans F3).trans F4).trans F5)
  have rm5 := rm.keep ((F3.trans F4).trans F5)
  have rn5 := rn.keep (F4.trans F5)
  have F15 : Fr (fun _ => False) w w5 := (((F1.trans F2).trans F3).trans F4).trans F5
  clear ra rm rn F1 F2 F3 F4 F5 gl gl1 gl2 gl3 gl4 gl5
  obtain ⟨ma, mc, rfl⟩ := rm5.shape
  obtain ⟨ab, ac, na, nc, sa, sc, rfl, hca, hla, -, a0, a1, a2, a3, a4, a5, a6, a7, aN, aS⟩ := ra5.tok (k := 2) (t := ⟨1, 2, 6, bs [49, 32, 45, 50], ⟨2, [1, -2], []⟩⟩) rfl
  obtain ⟨nb, nac, -, -, -, -, rfl, hcn, hln, -, n0, -, -, -, n4, -⟩ := rn5.tok (k := 0) (t := ⟨1, 0, 8, bs [96, 97, 96, 34, 98, 32, 99, 34], ⟨3, [], [bs [97], bs [98, 32, 99]]⟩⟩) rfl
  obtain ⟨nb', nac', -, -, -, -, he, -, -, -, m0, -, -, -, m4, -⟩ := rn5.tok (k := 1) (t := ⟨1, 9, 12, bs [40, 41, 105], ⟨2, [], []⟩⟩) rfl
  injection he with he1 he2 he3
  injection he1 with he1
  injection he1 with he1
  subst he1
  clear he2 he3
  have hl5 : liveA.length = 5 := rfl
  go_wp2_with (go_at_call 6; refine (num_k _ _).mono ?_; rintro e w' ⟨rfl, rfl⟩)
  generalize hw6 : w5.alloc _ = w6
  have F6 : Fr (fun _ => False) w5 w6 := by rw [← hw6]; exact (Fr.refl _ _).alloc _
  have b6 : w6.heap[w5.heap.size]? = some (.cells #[.int .i64 1, .int .i64 (-2)] 2 (0, 0)) := by rw [← hw6]; exact heap_alloc_new w5 _
  have hw6s : w6.heap.size = w5.heap.size + 1 := by rw [← hw6]; simp
  clear hw6
  have aN6 := aN.kept (G := fun b => b < w6.heap.size) (fun b hb => F6.block b hb id) (fun b hb => Nat.lt_of_lt_of_le hb F6.size)
  have aS6 := aS.kept (G := fun b => b < w6.heap.size) (fun b hb => F6.block b hb id) (fun b hb => Nat.lt_of_lt_of_le hb F6.size)
  refine (Match_eq (w := w6) (v := ⟨2, [1, -2], []⟩) ⟨_, _, rfl, aN6, aS6⟩ ⟨_, _, rfl, rd_pair b6 (by omega), Rd1.nil⟩ (by decide) (by decide)).mono ?_
  rintro e w7 ⟨rfl, F7⟩
  have F57 : Fr (fun _ => False) w5 w7 := F6.trans F7
  have ra7 := ra5.keep F57
  have k1 := F57.cell a1 id
  have k2 := F57.cell a2 id
  have k3 := F57.cell n4 id
  have k4 := F57.cell m4 id
  clear a0 a1 a2 a3 a4 a5 a6 a7 n0 n4 m0 m4 aN6 aS6 b6 F6 F7
  go_wp2_with (go_at_call 6; refine (num_k _ _).mono ?_; rintro e w' ⟨rfl, rfl⟩)
  have hra : TokRow w7 w.heap.size (.slice (some ⟨ab, 0, none⟩) 5 ac) liveA := ra7
  refine (Join_live hra).mono ?_
  rintro e w8 ⟨rfl, F8⟩
  go_wp2_with (fail)
  refine (Word_k _ _ (by decide) (by decide) live_w).mono ?_
  rintro e w' ⟨rfl, rfl⟩
  go_wp2_with (fail)
  refine (Word_k _ _ (by decide) (by decide) live_v).mono ?_
  rintro e w' ⟨rfl, rfl⟩
  go_wp2_with (fail)
  go_ret
  exact ⟨rfl, (F15.trans F57).trans F8⟩
end Go.Proofs.YtnoplebjkbfedaaDoor
