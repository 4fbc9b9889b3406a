/- Match of two values that are alike: the walk. -/
import Derived.Test.YtnoplebjkbfedaaDoorD6
namespace Go.Proofs.YtnoplebjkbfedaaDoor
open Go Go.RowKit
set_option linter.unusedSimpArgs false
set_option linter.unusedVariables false
set_option maxRecDepth 100000
theorem Rd1.get {α : Type} {enc : α → Value} {w : World} {F : Nat → Prop} {a : Option Addr} {n c k : Nat} {xs : List α} (h : Rd1 enc w F (.slice a n c) xs) (hk : k < xs.length) :
    ∃ b o, a = some ⟨b, o, none⟩ ∧ n = xs.length ∧ xs.length ≤ c ∧ w.cell? ⟨b, o + k, none⟩ = some (enc (xs[k]'hk)) := by
  rcases h with ⟨h1, rfl⟩ | ⟨b, o, cap, hv, hf, hl, hc, hx⟩
  · simp at hk
  · injection hv with h1 h2 h3
    subst h1
    subst h2
    subst h3
    exact ⟨b, o, rfl, rfl, hl, hx k _ (List.getElem?_eq_getElem hk)⟩
theorem Rd1.len {α : Type} {enc : α → Value} {w : World} {F : Nat → Prop} {a : Option Addr} {n c : Nat} {xs : List α} (h : Rd1 enc w F (.slice a n c) xs) : n = xs.length := by
  rcases h with ⟨h1, rfl⟩ | ⟨b, o, cap, hv, hf, hl, hc, hx⟩
  · injection h1
  · injection hv
set_option maxHeartbeats 3200000 in
theorem Match_eq {w : World} {v : FV} {cs cs' : List Value} (h : VCells w (fun b => b < w.heap.size) v cs) (h' : VCells w (fun b => b < w.heap.size) v cs') (hN : v.N.length ≤ 1000000) (hS : v.S.length ≤ 1000000) :
    Calls Tryd.prog 10 #[.agg cs.toArray, .agg cs'.toArray] w fun e w' => e = .returned (.bool true) ∧ Fr (fun _ => False) w w' := by
  obtain ⟨nv, sv, rfl, hNr, hSr⟩ := h
  obtain ⟨nv', sv', rfl, hNr', hSr'⟩ := h'
  obtain ⟨na, nc, rfl⟩ := hNr.shape
  obtain ⟨sa, sc, rfl⟩ := hSr.shape
  obtain ⟨na', nc', rfl⟩ := hNr'.shape
  obtain ⟨sa', sc', rfl⟩ := hSr'.shape
  go_enter Tryd.func10, Tryd.ntmps10
  go_wp2_with (fail)
  generalize hw1 : (w.alloc _).alloc _ = w1
  have F1 : Fr (fun _ => False) w w1 := by rw [← hw1]; exact ((Fr.refl _ _).alloc _).alloc _
  have b1 : w1.heap[w.heap.size]? = some (.cells #[.int .i64 v.T, .slice na v.N.length nc, .slice sa v.S.length sc, .slice none 0 0] 36 (0, 0)) := by
    rw [← hw1]
    exact (heap_alloc_old _ _ (by simp)).trans (heap_alloc_new w _)
  have b2 : w1.heap[w.heap.size + 1]? = some (.cells #[.int .i64 v.T, .slice na' v.N.length nc', .slice sa' v.S.length sc', .slice none 0 0] 36 (0, 0)) := by
    rw [← hw1]
    have := heap_alloc_new (w.alloc (.cells #[.int .i64 v.T, .slice na v.N.length nc, .slice sa v.S.length sc, .slice none 0 0] 36)) (.cells #[.int .i64 v.T, .slice na' v.N.length nc', .slice sa' v.S.length sc', .slice none 0 0] 36)
    simpa using this
  clear hw1
  obtain ⟨p, hp⟩ : ∃ p, p = w.heap.size := ⟨_, rfl⟩
  rw [← hp] at b1 b2 ⊢
  have kN := hNr.kept (G := fun _ => True) (w' := w1) (fun b hb => F1.block b hb id) (fun _ _ => trivial)
  have kS := hSr.kept (G := fun _ => True) (w' := w1) (fun b hb => F1.block b hb id) (fun _ _ => trivial)
  have kN' := hNr'.kept (G := fun _ => True) (w' := w1) (fun b hb => F1.block b hb id) (fun _ _ => trivial)
  have kS' := hSr'.kept (G := fun _ => True) (w' := w1) (fun b hb => F1.block b hb id) (fun _ _ => trivial)
  have HP := Lib.hid hp
  clear hp hNr hSr hNr' hSr'
  go_loopw [5] (fun i w' => ∃ k m : Nat, k ≤ v.N.length ∧ i = .int .i64 k ∧ w' = w1.drewN m) (fun i _ => v.N.length - (intOf i).toNat)
  case atStart => exact ⟨0, 0, Nat.zero_le _, rfl, rfl⟩
  case round =>
    obtain ⟨k, m, hk, rfl, rfl⟩ := hrel
    obtain ⟨c0, c1, c2, c3, -⟩ := blk4 b1
    obtain ⟨d0, d1, d2, d3, -⟩ := blk4 b2
    by_cases hlt : k < v.N.length
    · obtain ⟨na, no, rfl, -, -, hx⟩ := kN.get hlt
      obtain ⟨na', no', rfl, -, -, hx'⟩ := kN'.get hlt
      have hk1 : (k : Int) < (v.N.length : Int) := by omega
      have hk0 : (0 : Int) ≤ (k : Int) := by omega
      generalize v.N[k]'hlt = x at *
      go_wp2_with (fail)
      go_quiet (fail)
      go_wp2_with (fail)
      refine ⟨⟨k + 1, m + nq, by omega, by go_num, by first | rfl | rw [World.drewN_drewN]⟩, by simp [intOf]; omega⟩
    · obtain rfl : k = v.N.length := by omega
      have hz : decide ((v.N.length : Int) < (v.N.length : Int)) = false := by simp
      go_wp2_with (fail)
      clear hz hlt
      go_loopw [6] (fun i w' => ∃ k m : Nat, k ≤ v.S.length ∧ i = .int .i64 k ∧ w' = w1.drewN m) (fun i _ => v.S.length - (intOf i).toNat)
      case atStart => exact ⟨0, m, Nat.zero_le _, rfl, rfl⟩
      case round =>
        obtain ⟨k, m, hk, rfl, rfl⟩ := hrel
        by_cases hlt : k < v.S.length
        · obtain ⟨na, no, rfl, -, -, hx⟩ := kS.get hlt
          obtain ⟨na', no', rfl, -, -, hx'⟩ := kS'.get hlt
          have hk1 : (k : Int) < (v.S.length : Int) := by omega
          have hk0 : (0 : Int) ≤ (k : Int) := by omega
          generalize v.S[k]'hlt = x at *
          go_wp2_with (fail)
          go_quiet (fail)
          go_wp2_with (fail)
          refine ⟨⟨k + 1, m + nq, by omega, by go_num, by first | rfl | rw [World.drewN_drewN]⟩, by simp [intOf]; omega⟩
        · obtain rfl : k = v.S.length := by omega
          have hz : decide ((v.S.length : Int) < (v.S.length : Int)) = false := by simp
          go_wp2_with (fail)
          clear hz hlt
          go_loopw [7] (fun i w' => i = .int .i64 0 ∧ w' = w1.drewN m) (fun _ _ => 0)
          case atStart => exact ⟨rfl, rfl⟩
          case round =>
            obtain ⟨rfl, rfl⟩ := hrel
            go_wp2_with (fail)
            go_ret
            exact ⟨rfl, F1.drewN _⟩
end Go.Proofs.YtnoplebjkbfedaaDoor
