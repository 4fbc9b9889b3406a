/- The lexer's method quoted. -/
import Derived.Test.YtnoplebjkbfedaaDoorB4
import Derived.Test.YtnoplebjkbfedaaDoorA3
namespace Go.Proofs.YtnoplebjkbfedaaDoor
open Go Go.RowKit
set_option linter.unusedSimpArgs false
set_option linter.unusedVariables false
set_option maxRecDepth 100000
/-- The quoted text that begins at a place: its bytes, its length. -/
def quotedS (s : ByteArray) (fr : Nat) : Option (List UInt8 × Nat) :=
  if 0 ≤ Lib.indexByte (s.data.toList.drop (fr + 1)) 34 then
    (unqL (s.extract fr (fr + (Lib.indexByte (s.data.toList.drop (fr + 1)) 34).toNat + 2)).data.toList).map (fun b => (b, (Lib.indexByte (s.data.toList.drop (fr + 1)) 34).toNat + 2))
  else none
theorem indexByte_lt (c : UInt8) : ∀ l : List UInt8, -1 ≤ Lib.indexByte l c ∧ Lib.indexByte l c < l.length ∨ l = [] ∧ Lib.indexByte l c = -1
  | [] => .inr ⟨rfl, rfl⟩
  | b :: l => by
    left
    unfold Lib.indexByte
    split
    · simp
    · split
      · simp
        omega
      · rename_i h1 h2
        have := indexByte_lt c l
        simp only [List.length_cons]
        rcases this with h | ⟨rfl, h⟩
        · omega
        · rw [h] at h2; simp at h2
theorem unqL_size {l b : List UInt8} (h : unqL l = some b) : b.length + 2 ≤ l.length := by
  unfold unqL at h
  split at h
  · cases h
  · split at h
    · split at h
      · rename_i hq
        injection h with h
        subst h
        rw [← hq]
        have hl : ∀ l : List UInt8, l.length ≤ (l.flatMap qByte).length := by
          intro l
          induction l with
          | nil => simp
          | cons c r ih =>
            have := (qByte_len c).2
            simp only [List.flatMap_cons, List.length_append, List.length_cons]
            omega
        unfold quoteL
        simp only [List.length_cons, List.length_append, List.length_nil]
        have := hl ‹_›
        omega
      · cases h
    · cases h
theorem quotedS_size {s : ByteArray} {fr n : Nat} {b : List UInt8} (h : quotedS s fr = some (b, n)) (hf : fr < s.size) : fr + n ≤ s.size ∧ 2 ≤ n ∧ b.length ≤ n := by
  unfold quotedS at h
  split at h
  · rename_i h0
    have hlen : (s.data.toList.drop (fr + 1)).length = s.size - (fr + 1) := by simp
    have h1 := indexByte_lt 34 (s.data.toList.drop (fr + 1))
    rw [Option.map_eq_some_iff] at h
    obtain ⟨b', hb, he⟩ := h
    injection he with he1 he2
    subst he1
    have h2 := unqL_size hb
    rw [← Lib.size_eq, ByteArray.size_extract] at h2
    omega
  · cases h

set_option maxHeartbeats 1600000 in
theorem quoted_c {w : World} {B g : Nat} {s : ByteArray} {st : LxSt} {lv : Value} (gl : Gl B w) (hx : IsLx w B g s st lv) (i k : Nat) (hi : st.at_ = i) (hle : i + k < s.size) (hs : s.size ≤ 70000) :
    Calls Tryd.prog 26 #[.pointer (some ⟨g, 0, none⟩), .int .i64 k] w fun e w' =>
      (∀ b n, quotedS s (i + k) = some (b, n) → e = .returned (.tuple #[.string ⟨b.toArray⟩, .int .i64 n]) ∧ IsLx w' B g s st lv) ∧
      (quotedS s (i + k) = none → e = .returned (.tuple #[.string ⟨#[]⟩, .int .i64 0]) ∧ IsLx w' B g s (failSt st 142 (i + k : Nat)) lv) ∧ Fr (fun k => k = g) w w' := by
  obtain ⟨c0, c1, c2, c3, c4, cf⟩ := hx.cells
  clear cf c2 c3 c4
  have hlt := hx.lt
  rw [hi] at c1
  have w1 : IntKind.i64.wrap ((i : Int) + (k : Int)) = (i : Int) + (k : Int) := IntWalk.i64_in _ (by omega)
  have w2 : IntKind.i64.wrap ((i : Int) + (k : Int) + 1) = (i : Int) + (k : Int) + 1 := IntWalk.i64_in _ (by omega)
  have w3 : 0 ≤ (i : Int) + (k : Int) + 1 := by omega
  have w4 : (i : Int) + (k : Int) + 1 ≤ (s.size : Int) := by omega
  have w5 : ((i : Int) + (k : Int) + 1).toNat = i + k + 1 := by omega
  obtain ⟨N, hN⟩ : ∃ N, N = Lib.indexByte (s.data.toList.drop (i + k + 1)) 34 := ⟨_, rfl⟩
  have hN' : Lib.indexByte (s.extract (i + k + 1) s.size).data.toList (34 : Int).toNat.toUInt8 = N := by rw [Lib.extract_to_end, hN]; rfl
  have hlen : (s.data.toList.drop (i + k + 1)).length = s.size - (i + k + 1) := by simp
  have hNb := indexByte_lt 34 (s.data.toList.drop (i + k + 1))
  rw [← hN, hlen] at hNb
  have hN1 : -1 ≤ N ∧ N < 70000 := by omega
  go_enter Tryd.func26, Tryd.ntmps26
  go_wp2_with (fail)
  refine (Tryd.strings_IndexByte _ _ _).mono ?_
  rintro e w ⟨rfl, rfl⟩
  rw [hN']
  clear hN'
  by_cases hN0 : 0 ≤ N
  · obtain ⟨m, rfl⟩ : ∃ m : Nat, N = m := ⟨N.toNat, by omega⟩
    have hm : i + k + m + 2 ≤ s.size := by omega
    have hq : quotedS s (i + k) = (unqL (s.extract (i + k) (i + k + m + 2)).data.toList).map (fun b => (b, m + 2)) := by
      unfold quotedS
      rw [← hN, if_pos hN0]
      rfl
    have w6 : IntKind.i64.wrap ((i : Int) + (k : Int) + (m : Int)) = (i : Int) + (k : Int) + (m : Int) := IntWalk.i64_in _ (by omega)
    have w7 : IntKind.i64.wrap ((i : Int) + (k : Int) + (m : Int) + 2) = (i : Int) + (k : Int) + (m : Int) + 2 := IntWalk.i64_in _ (by omega)
    have w8 : (i : Int) + (k : Int) + (m : Int) + 2 ≤ (s.size : Int) := by omega
    have w9 : 0 ≤ (i : Int) + (k : Int) := by omega
    have w10 : ((i : Int) + (k : Int)).toNat = i + k := by omega
    have w11 : ((i : Int) + (k : Int) + (m : Int) + 2).toNat = i + k + m + 2 := by omega
    have w12 : (i : Int) + (k : Int) ≤ (i : Int) + (k : Int) + (m : Int) + 2 := by omega
    have w13 : IntKind.i64.wrap ((m : Int) + 2) = (m : Int) + 2 := IntWalk.i64_in _ (by omega)
    clear hN
    have hsu : (s.extract (i + k) (i + k + m + 2)).size ≤ 70000 := by rw [ByteArray.size_extract]; omega
    cases hU : unqL (s.extract (i + k) (i + k + m + 2)).data.toList with
    | some b =>
      have hUV : unqV (s.extract (i + k) (i + k + m + 2)) = .tuple #[.string ⟨b.toArray⟩, .bool true] := by unfold unqV; rw [hU]
      have HQ := Lib.hid hq
      have HU := Lib.hid hU
      clear hq hU
      go_wp2_with (fail)
      refine (unquote_c gl gl.size _ hsu).mono ?_
      rintro e w1 ⟨rfl, F1⟩
      rw [hUV]
      have hx1 := hx.keep F1 (fun _ _ h => h)
      go_wp2_with (fail)
      go_ret2
      refine ⟨fun b' n' h => ?_, fun h => ?_, F1.mono (fun _ h => h.elim)⟩
      · rw [HQ.out, HU.out] at h
        simp at h
        obtain ⟨rfl, rfl⟩ := h
        exact ⟨by simp, hx1⟩
      · rw [HQ.out, HU.out] at h
        cases h
    | none =>
      have hUV : unqV (s.extract (i + k) (i + k + m + 2)) = .tuple #[.string ⟨#[]⟩, .bool false] := by unfold unqV; rw [hU]
      have HQ := Lib.hid hq
      have HU := Lib.hid hU
      clear hq hU
      go_wp2_with (fail)
      refine (unquote_c gl gl.size _ hsu).mono ?_
      rintro e w1 ⟨rfl, F1⟩
      rw [hUV]
      have hx1 := hx.keep F1 (fun _ _ h => h)
      go_wp2_with (fail)
      refine (fail_c hx1 142 _).mono ?_
      rintro e w2 ⟨rfl, hx2, F2⟩
      go_wp2_with (fail)
      go_ret2
      refine ⟨fun b' n' h => ?_, fun h => ?_, (F1.mono (fun _ h => h.elim)).trans F2⟩
      · rw [HQ.out, HU.out] at h
        cases h
      · exact ⟨rfl, by simpa using hx2⟩
  · have hq : quotedS s (i + k) = none := by
      unfold quotedS
      rw [← hN, if_neg hN0]
    have HQ := Lib.hid hq
    clear hq hN
    go_wp2_with (fail)
    refine (fail_c hx 142 _).mono ?_
    rintro e w2 ⟨rfl, hx2, F2⟩
    go_wp2_with (fail)
    go_ret2
    refine ⟨fun b' n' h => ?_, fun h => ?_, F2⟩
    · rw [HQ.out] at h
      cases h
    · exact ⟨rfl, by simpa using hx2⟩
end Go.Proofs.YtnoplebjkbfedaaDoor
