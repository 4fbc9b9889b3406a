/- The lexer's method value. -/
import Derived.Test.YtnoplebjkbfedaaDoorA1
import Derived.Test.YtnoplebjkbfedaaDoorBase2
namespace Go.Proofs.YtnoplebjkbfedaaDoor
open Go Go.RowKit
set_option maxRecDepth 100000
set_option linter.unusedSimpArgs false

def vAtom (v : FV) : FV := if v.N.length + v.S.length = 1 then { v with T := -v.T } else v
theorem Rd1.shape {α : Type} {enc : α → Value} {w : World} {F : Nat → Prop} {v : Value} {xs : List α} (h : Rd1 enc w F v xs) : ∃ a c, v = .slice a xs.length c := by
  rcases h with ⟨rfl, rfl⟩ | ⟨b, o, cap, rfl, _⟩ <;> exact ⟨_, _, rfl⟩
/-- What the lexer's other memory may be: neither the lexer nor the row of its tokens. -/
def LxF (w : World) (g : Nat) (lv : Value) (b : Nat) : Prop := b < w.heap.size ∧ b ≠ g ∧ some b ≠ lv.ownBlock

set_option maxHeartbeats 800000 in
theorem value_c {w : World} {B g : Nat} {s : ByteArray} {st : LxSt} {lv : Value} (hx : IsLx w B g s st lv) (a0 i : Nat) (hi : st.at_ = i) (ha : a0 ≤ i) (hle : i ≤ s.size) (hs : s.size ≤ 70000) (v : FV) (cs : List Value)
    (hv : VCells w (LxF w g lv) v cs) (hn : st.toks.length ≤ 1000000) (hT0 : 0 ≤ v.T) (hT1 : v.T ≤ 200) (hN : v.N.length ≤ 1000000) (hS : v.S.length ≤ 1000000) :
    Calls Tryd.prog 35 #[.pointer (some ⟨g, 0, none⟩), .int .i64 (a0 : Int), .agg cs.toArray] w fun e w' =>
      e = .returned (.tuple #[]) ∧ ∃ lv', IsLx w' B g s { st with toks := st.toks ++ [⟨1, a0, i, s.extract a0 i, vAtom v⟩] } lv' ∧ Fr (LxS g lv) w w' := by
  have hlt := hx.lt
  obtain ⟨nv, sv, rfl, hNr, hSr⟩ := hv
  obtain ⟨na, nc, rfl⟩ := hNr.shape
  obtain ⟨sa, sc, rfl⟩ := hSr.shape
  have hwr : IntKind.i64.wrap ((v.N.length : Int) + (v.S.length : Int)) = (v.N.length : Int) + (v.S.length : Int) := IntWalk.i64_in _ (by omega)
  by_cases hone : v.N.length + v.S.length = 1
  case pos =>
    have hz : ((v.N.length : Int) + (v.S.length : Int) == 1) = true := by simp; omega
    have HO := Lib.hid hone
    clear hone
    go_enter Tryd.func35, Tryd.ntmps35
    go_wp2_with (fail)
    generalize hw1 : w.alloc _ = w1
    have F1 : Fr (fun _ => False) w w1 := by rw [← hw1]; exact (Fr.refl _ _).alloc _
    have b1 : w1.heap[w.heap.size]? = some (.cells #[.int .i64 (-v.T), .slice na v.N.length nc, .slice sa v.S.length sc, .slice none 0 0] 36 (0, 0)) := by rw [← hw1]; exact heap_alloc_new w _
    clear hw1
    obtain ⟨p0, p1, p2, p3, -⟩ := blk4 b1
    have hx1 : IsLx w1.drew B g s st lv := hx.keep F1.drew (fun _ _ h => h)
    obtain ⟨c0, c1, -⟩ := hx1.cells
    rw [hi] at c1
    have hv1 : VCells w1.drew (fun b => b < w1.drew.heap.size ∧ b ≠ g ∧ some b ≠ lv.ownBlock) ⟨(-v.T), v.N, v.S⟩ [.int .i64 (-v.T), .slice na v.N.length nc, .slice sa v.S.length sc, .slice none 0 0] :=
      ⟨_, _, rfl, hNr.kept (fun b hb => F1.block b hb.1 id) (fun b hb => ⟨Nat.lt_of_lt_of_le hb.1 F1.size, hb.2.1, hb.2.2⟩), hSr.kept (fun b hb => F1.block b hb.1 id) (fun b hb => ⟨Nat.lt_of_lt_of_le hb.1 F1.size, hb.2.1, hb.2.2⟩)⟩
    have ha' : (a0 : Int) ≤ (i : Int) := by omega
    have hle' : (i : Int) ≤ (s.size : Int) := by omega
    refine wp_region_mix (fun _ => True) 16 [(.p, 0), (.p, 1), (.p, 2), (.p, 3), (.p, 4), (.p, 5), (.l [15, 13, 6], 6), (.p, 7), (.p, 8), (.p, 9), (.p, 10), (.p, 11), (.l [15, 13, 12], 12), (.p, 13), (.l [15, 14], 14), (.w true, 15)] (by kernel_rfl) (by kernel_rfl) rfl (by kernel_rfl) ?_ ?_
    · trivial
    repeat (refine wpMix_look rfl rfl (fun K hK => ?_); go_simp; refine hK _ ?_; clear hK K)
    refine wpMix_loud rfl (fun K hK => ?_)
    go_wp2_with (fail)
    refine (add_c hx1 1 a0 (s.extract a0 i) ⟨(-v.T), v.N, v.S⟩ _ hv1 hn).mono ?_
    rintro e w3 ⟨rfl, lv', hx3, F3⟩
    go_wp2_with (fail)
    refine thenN_normal (hK _ _ (fun _ => trivial) (wpMix_nil ?_))
    clear hK K
    go_wp2_with (fail)
    go_end0
    have hva : vAtom v = ⟨(-v.T), v.N, v.S⟩ := by rw [vAtom, if_pos HO.out]
    refine ⟨rfl, lv', ?_, (F1.drew.mono (fun _ h => h.elim)).trans F3⟩
    rw [hva, ← hi]
    exact hx3
  case neg =>
    have hz : ((v.N.length : Int) + (v.S.length : Int) == 1) = false := by simp; omega
    have HO := Lib.hid hone
    clear hone
    go_enter Tryd.func35, Tryd.ntmps35
    go_wp2_with (fail)
    generalize hw1 : w.alloc _ = w1
    have F1 : Fr (fun _ => False) w w1 := by rw [← hw1]; exact (Fr.refl _ _).alloc _
    have b1 : w1.heap[w.heap.size]? = some (.cells #[.int .i64 v.T, .slice na v.N.length nc, .slice sa v.S.length sc, .slice none 0 0] 36 (0, 0)) := by rw [← hw1]; exact heap_alloc_new w _
    clear hw1
    obtain ⟨p0, p1, p2, p3, -⟩ := blk4 b1
    have hx1 : IsLx w1.drew B g s st lv := hx.keep F1.drew (fun _ _ h => h)
    obtain ⟨c0, c1, -⟩ := hx1.cells
    rw [hi] at c1
    have hv1 : VCells w1.drew (fun b => b < w1.drew.heap.size ∧ b ≠ g ∧ some b ≠ lv.ownBlock) ⟨v.T, v.N, v.S⟩ [.int .i64 v.T, .slice na v.N.length nc, .slice sa v.S.length sc, .slice none 0 0] :=
      ⟨_, _, rfl, hNr.kept (fun b hb => F1.block b hb.1 id) (fun b hb => ⟨Nat.lt_of_lt_of_le hb.1 F1.size, hb.2.1, hb.2.2⟩), hSr.kept (fun b hb => F1.block b hb.1 id) (fun b hb => ⟨Nat.lt_of_lt_of_le hb.1 F1.size, hb.2.1, hb.2.2⟩)⟩
    have ha' : (a0 : Int) ≤ (i : Int) := by omega
    have hle' : (i : Int) ≤ (s.size : Int) := by omega
    refine wp_region_mix (fun _ => True) 16 [(.p, 0), (.p, 1), (.p, 2), (.p, 3), (.p, 4), (.p, 5), (.l [15, 13, 6], 6), (.p, 7), (.p, 8), (.p, 9), (.p, 10), (.p, 11), (.l [15, 13, 12], 12), (.p, 13), (.l [15, 14], 14), (.w true, 15)] (by kernel_rfl) (by kernel_rfl) rfl (by kernel_rfl) ?_ ?_
    · trivial
    repeat (refine wpMix_look rfl rfl (fun K hK => ?_); go_simp; refine hK _ ?_; clear hK K)
    refine wpMix_loud rfl (fun K hK => ?_)
    go_wp2_with (fail)
    refine (add_c hx1 1 a0 (s.extract a0 i) ⟨v.T, v.N, v.S⟩ _ hv1 hn).mono ?_
    rintro e w3 ⟨rfl, lv', hx3, F3⟩
    go_wp2_with (fail)
    refine thenN_normal (hK _ _ (fun _ => trivial) (wpMix_nil ?_))
    clear hK K
    go_wp2_with (fail)
    go_end0
    have hva : vAtom v = ⟨v.T, v.N, v.S⟩ := by rw [vAtom, if_neg HO.out]
    refine ⟨rfl, lv', ?_, (F1.drew.mono (fun _ h => h.elim)).trans F3⟩
    rw [hva, ← hi]
    exact hx3
end Go.Proofs.YtnoplebjkbfedaaDoor
