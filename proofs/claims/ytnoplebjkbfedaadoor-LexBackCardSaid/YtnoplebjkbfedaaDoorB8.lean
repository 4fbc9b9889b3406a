/- The lexer's method symbols. -/
import Derived.Test.YtnoplebjkbfedaaDoorB5
import Derived.Test.YtnoplebjkbfedaaDoorA7
import Derived.Test.YtnoplebjkbfedaaDoorA2
import Derived.Deep.CutBlock
namespace Go.Proofs.YtnoplebjkbfedaaDoor
open Go Go.RowKit
set_option linter.unusedSimpArgs false
set_option linter.unusedVariables false
set_option maxRecDepth 100000
/-- How a method of the lexer ends: well, or with an error at a place. -/
abbrev LxEnd := Except (Int × Int)
/-- A symbol's text behind its tick at j, and how far it reaches. -/
def symRaw (s : ByteArray) (j : Nat) : LxEnd (ByteArray × Nat) :=
  if pkI s ((j : Int) + 1) = 34 then (match quotedS s (j + 1) with
    | some (b, n) => .ok (⟨b.toArray⟩, n)
    | none => .error (142, ((j + 1 : Nat) : Int)))
  else if ltI (pkI s ((j : Int) + 1)) then .ok (subS s (j + 1) (runN lnI s (j + 1)), runN lnI s (j + 1)) else .ok (⟨#[]⟩, 0)
def symChk (b : ByteArray) (j : Nat) : Option (Int × Int) :=
  if 64 < b.size then some (1, (j : Int)) else if 0 ≤ Lib.indexByte b.data.toList 0 then some (140, (j : Int)) else none
def symsS : Nat → ByteArray → Nat → List ByteArray → LxEnd (Nat × List ByteArray)
  | 0, _, j, S => .ok (j, S)
  | f + 1, s, j, S =>
    if pkI s j = 96 then
      if 65536 ≤ S.length then .error (6, (j : Int))
      else match symRaw s j with
        | .error e => .error e
        | .ok (b, n) => match symChk b j with
          | some e => .error e
          | none => symsS f s (j + 1 + n) (S ++ [b])
    else .ok (j, S)
/-- The lexer behind a method: as the state says; behind an error only the error and its place are told. -/
def LxRes (r : LxEnd LxSt) (B g : Nat) (s : ByteArray) (w' : World) : Prop := match r with
  | .ok st' => ∃ lv', IsLx w' B g s st' lv'
  | .error (e, b) => ∃ st' lv', IsLx w' B g s st' lv' ∧ st'.err = e ∧ st'.bad = b
def symsR (s : ByteArray) (st : LxSt) (i : Nat) : LxEnd LxSt := match symsS (s.size + 1) s i [] with
  | .ok (j, S) => .ok { st with at_ := (j : Int), toks := st.toks ++ [⟨1, (i : Int), (j : Int), s.extract i j, vAtom ⟨3, [], S⟩⟩] }
  | .error e => .error e
def placeOf (w : World) (g : Nat) : Nat := match w.cell? ⟨g, 1, none⟩ with
  | some (.int _ n) => n.toNat
  | _ => 0
theorem symRaw_size {s : ByteArray} {j n : Nat} {b : ByteArray} (h : symRaw s j = .ok (b, n)) (hj : j < s.size) : j + 1 + n ≤ s.size ∧ b.size ≤ n := by
  unfold symRaw at h
  split at h
  · rename_i h34
    have hj1 : j + 1 < s.size := by
      have h2 : pkI s ((j + 1 : Nat) : Int) ≠ 0 := by
        have : (((j + 1 : Nat) : Int)) = (j : Int) + 1 := by omega
        rw [this, h34]
        decide
      unfold pkI at h2
      split at h2
      · simpa using ‹_›
      · exact absurd rfl h2
    split at h
    · rename_i b' n' hq
      injection h with h
      injection h with h1 h2
      subst h2
      subst h1
      have := quotedS_size hq hj1
      exact ⟨this.1, by show (b'.toArray).size ≤ _; simp; exact this.2.2⟩
    · cases h
  · split at h
    · injection h with h
      injection h with h1 h2
      subst h2
      subst h1
      have := runN_le lnI s (j + 1) (by omega)
      exact ⟨this, by rw [subS_size _ _ _ this]; exact Nat.le_refl _⟩
    · injection h with h
      injection h with h1 h2
      subst h2
      subst h1
      exact ⟨by omega, by show (#[] : Array UInt8).size ≤ 0; simp⟩
theorem Tryd.infoStr : (Tryd.prog.info? 9).map (fun i => (i.zero, i.size, i.bytes)) = some (some (.string ⟨#[]⟩), 1, 16) := by kernel_rfl
end Go.Proofs.YtnoplebjkbfedaaDoor
