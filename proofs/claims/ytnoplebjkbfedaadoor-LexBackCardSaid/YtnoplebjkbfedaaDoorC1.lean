/- The lexer's method numeral: what it computes. -/
import Derived.Test.YtnoplebjkbfedaaDoorB9
import Derived.Test.YtnoplebjkbfedaaDoorA5
import Derived.Test.YtnoplebjkbfedaaDoorA4
namespace Go.Proofs.YtnoplebjkbfedaaDoor
open Go Go.RowKit
set_option linter.unusedSimpArgs false
set_option linter.unusedVariables false
set_option maxRecDepth 100000
/-- The numbers from a place on, one behind the other. -/
def numsS : Nat → ByteArray → Nat → Int → List Int → LxEnd (Nat × Int × List Int)
  | 0, _, j, T, N => .ok (j, T, N)
  | f + 1, s, j, T, N =>
    let x := worthV (subS s j (numLen s j)).data.toList
    if x.2.2 = false then .error (141, (j : Int))
    else if N ≠ [] ∧ x.1 ≠ T then .error (143, (j : Int))
    else match moreS s (j + numLen s j) with
      | none => .ok (j + numLen s j, x.1, N ++ [x.2.1])
      | some k => numsS f s k x.1 (N ++ [x.2.1])
def litTok (s : ByteArray) (st : LxSt) (i j : Nat) (v : FV) : LxSt := { st with at_ := (j : Int), toks := st.toks ++ [⟨1, (i : Int), (j : Int), s.extract i j, vAtom v⟩] }
def bitsOf (s : ByteArray) (i : Nat) : List UInt8 := Lib.trimSuffix (subS s i (runN lnI s i)).data.toList [98]
def numeralR (s : ByteArray) (st : LxSt) (i : Nat) : LxEnd LxSt :=
  if bitsB (subS s i (runN lnI s i)).data.toList then .ok (litTok s st i (i + runN lnI s i) ⟨1, (bitsOf s i).map (fun c => (c.toNat : Int) - 48), []⟩)
  else match numsS (s.size + 1) s i 0 [] with
    | .ok (j, T, N) => .ok (litTok s st i j ⟨T, N, []⟩)
    | .error e => .error e
end Go.Proofs.YtnoplebjkbfedaaDoor
