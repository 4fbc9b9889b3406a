/- More lemmas on blocks. -/
import Derived.Test.YtnoplebjkbfedaaDoorBase
import Derived.Test.YtnoplebjkbfedaaDoorChecked
namespace Go.Proofs.YtnoplebjkbfedaaDoor
open Go Go.RowKit
theorem blk5 {w : World} {g : Nat} {a b c d e : Value} {t : TypeId} (h : w.heap[g]? = some (.cells #[a, b, c, d, e] t (0, 0))) :
    w.cell? ⟨g, 0, none⟩ = some a ∧ w.cell? ⟨g, 1, none⟩ = some b ∧ w.cell? ⟨g, 2, none⟩ = some c ∧ w.cell? ⟨g, 3, none⟩ = some d ∧ w.cell? ⟨g, 4, none⟩ = some e ∧
    w.frozen? ⟨g, 0, none⟩ = false ∧ w.frozen? ⟨g, 1, none⟩ = false ∧ w.frozen? ⟨g, 2, none⟩ = false ∧ w.frozen? ⟨g, 3, none⟩ = false ∧ w.frozen? ⟨g, 4, none⟩ = false := by
  refine ⟨?_, ?_, ?_, ?_, ?_, ?_, ?_, ?_, ?_, ?_⟩ <;> simp [World.cell?, World.frozen?, h]
theorem blk4 {w : World} {g : Nat} {a b c d : Value} {t : TypeId} (h : w.heap[g]? = some (.cells #[a, b, c, d] t (0, 0))) :
    w.cell? ⟨g, 0, none⟩ = some a ∧ w.cell? ⟨g, 1, none⟩ = some b ∧ w.cell? ⟨g, 2, none⟩ = some c ∧ w.cell? ⟨g, 3, none⟩ = some d ∧
    w.frozen? ⟨g, 0, none⟩ = false ∧ w.frozen? ⟨g, 1, none⟩ = false ∧ w.frozen? ⟨g, 2, none⟩ = false ∧ w.frozen? ⟨g, 3, none⟩ = false := by
  refine ⟨?_, ?_, ?_, ?_, ?_, ?_, ?_, ?_⟩ <;> simp [World.cell?, World.frozen?, h]
theorem blk2 {w : World} {g : Nat} {a b : Value} {t : TypeId} (h : w.heap[g]? = some (.cells #[a, b] t (0, 0))) :
    w.cell? ⟨g, 0, none⟩ = some a ∧ w.cell? ⟨g, 1, none⟩ = some b ∧ w.frozen? ⟨g, 0, none⟩ = false ∧ w.frozen? ⟨g, 1, none⟩ = false := by
  refine ⟨?_, ?_, ?_, ?_⟩ <;> simp [World.cell?, World.frozen?, h]
/-- The lexer's place is moved. -/
theorem IsLx.place {w w' : World} {B g : Nat} {s : ByteArray} {st : LxSt} {lv : Value} (h : IsLx w B g s st lv) (n : Int) (F : Fr (fun k => k = g) w w')
    (hb : w'.heap[g]? = some (.cells #[.string s, .int .i64 n, lv, .int .i64 st.err, .int .i64 st.bad] 44 (0, 0))) : IsLx w' B g s { st with at_ := n } lv := h.upd hb rfl F
theorem set_place {w : World} {g : Nat} {s : ByteArray} {n m : Int} {lv e b : Value} {t : TypeId} (h : w.heap[g]? = some (.cells #[.string s, .int .i64 n, lv, e, b] t (0, 0))) :
    (w.setCell ⟨g, 1, none⟩ (.int .i64 m)).heap[g]? = some (.cells #[.string s, .int .i64 m, lv, e, b] t (0, 0)) := by
  rw [heap_cell5 h 1 _]; rfl
end Go.Proofs.YtnoplebjkbfedaaDoor
