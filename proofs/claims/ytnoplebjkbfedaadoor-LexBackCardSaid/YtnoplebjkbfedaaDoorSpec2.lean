/- What the lexer computes, on: lemmas. Plain Lean. -/
import Derived.Test.YtnoplebjkbfedaaDoorSpec
namespace Go.Proofs.YtnoplebjkbfedaaDoor
open Go
theorem moreS_zero {s : ByteArray} {i : Nat} (h : runN blI s i = 0) : moreS s i = none := by
  simp [moreS, h]
theorem moreS_no {s : ByteArray} {i n : Nat} (h : runN blI s i = n) (hd : dgI (pkI s ((i + n : Nat) : Int)) = false) (hc : pkI s ((i + n : Nat) : Int) ≠ 45 ∨ dgI (pkI s ((i + n : Nat) + 1)) = false) : moreS s i = none := by
  subst h
  unfold moreS
  simp only
  split
  · rfl
  · rw [if_pos]
    generalize dgI (pkI s (((i + runN blI s i : Nat) : Int) + 1)) = b at *
    generalize pkI s ((i + runN blI s i : Nat) : Int) = a at *
    rcases hc with hc | hc <;> simp [hd, hc]
theorem moreS_bits {s : ByteArray} {i n : Nat} (h : runN blI s i = n) (hb : bitsB ((subS s (i + n) (runN lnI s (i + n))).data.toList) = true) : moreS s i = none := by
  subst h
  unfold moreS
  simp only [hb]
  split
  · rfl
  · split <;> rfl
theorem moreS_yes {s : ByteArray} {i n : Nat} (h : runN blI s i = n) (hn : n ≠ 0) (hd : dgI (pkI s ((i + n : Nat) : Int)) = true ∨ (pkI s ((i + n : Nat) : Int) = 45 ∧ dgI (pkI s ((i + n : Nat) + 1)) = true))
    (hb : bitsB ((subS s (i + n) (runN lnI s (i + n))).data.toList) = false) : moreS s i = some (i + n) := by
  subst h
  unfold moreS
  simp only
  rw [if_neg hn, if_neg, if_neg (by simp [hb])]
  generalize dgI (pkI s (((i + runN blI s i : Nat) : Int) + 1)) = b at *
  generalize pkI s ((i + runN blI s i : Nat) : Int) = a at *
  rcases hd with hd | ⟨hd, hd'⟩
  · simp [hd]
  · simp [hd, hd']
end Go.Proofs.YtnoplebjkbfedaaDoor
