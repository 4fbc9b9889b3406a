/- Quoted texts: plain Lean. -/
import Derived.Test.YtnoplebjkbfedaaDoorSpec
import Derived.Lib.AtoiAll
namespace Go.Proofs.YtnoplebjkbfedaaDoor
open Go
def hexI (c : Nat) : Option Nat := if 48 ≤ c ∧ c ≤ 57 then some (c - 48) else if 97 ≤ c ∧ c ≤ 102 then some (c - 87) else if 65 ≤ c ∧ c ≤ 70 then some (c - 55) else none
def hexP (acc : Nat) : List UInt8 → Lib.NumEnd Nat
  | [] => .ok acc
  | c :: r => match hexI c.toNat with | none => synE | some d => hexP (acc * 16 + d) r
def lowI (c : Nat) : Nat := c ||| 32
def hexdig (n : Nat) : UInt8 := if n < 10 then UInt8.ofNat (48 + n) else UInt8.ofNat (87 + n)
/-- Is a byte written as an escape? -/
def escB (c : UInt8) : Bool := decide (c.toNat < 32) || (decide (126 < c.toNat) || (decide (c.toNat = 34) || decide (c.toNat = 92)))
def qByte (c : UInt8) : List UInt8 := if escB c then [92, 120, hexdig (c.toNat / 16), hexdig (c.toNat % 16)] else [c]
def quoteL (l : List UInt8) : List UInt8 := 34 :: (l.flatMap qByte ++ [34])
/-- The bytes that the inside of a quoted text stands for, as they are read. -/
def unqF : Nat → List UInt8 → Option (List UInt8)
  | 0, _ => none
  | _ + 1, [] => some []
  | n + 1, c :: t => if c ≠ 92 then (unqF n t).map (c :: ·)
    else match t with
      | _ :: a :: b :: r => match hexP 0 [a, b] with
        | .ok v => (unqF n r).map (UInt8.ofNat v :: ·)
        | _ => none
      | _ => none
def unqL (l : List UInt8) : Option (List UInt8) := if l.length < 2 then none else match unqF l.length ((l.drop 1).take (l.length - 2)) with
  | some b => if quoteL b = l then some b else none
  | none => none
end Go.Proofs.YtnoplebjkbfedaaDoor
