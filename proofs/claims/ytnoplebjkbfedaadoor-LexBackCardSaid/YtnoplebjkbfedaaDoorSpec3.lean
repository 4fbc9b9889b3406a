/- What a number's text is worth. Plain Lean. -/
import Derived.Test.YtnoplebjkbfedaaDoorSpec
import Derived.Lib.ParseIntB
import Derived.Lib.IndexMore
namespace Go.Proofs.YtnoplebjkbfedaaDoor
open Go
def allDig (l : List UInt8) : Bool := (Lib.trimS l [48, 49, 50, 51, 52, 53, 54, 55, 56, 57]).isEmpty
def worthFin (t : Int) (minus : Bool) (whole rest : List UInt8) (point : Bool) : Option (Int × Int) :=
  if whole.isEmpty || (!allDig whole || (!allDig rest || (point && decide (whole.length = 4)))) then none
  else match Lib.parseUintB 64 whole with
    | .ok u => if u ≤ 9223372036854775807 then some (t, if minus then -(u : Int) else (u : Int)) else none
    | _ => none
def nullI : Int := -9223372036854775808
def worthCut (tm minus : Bool) (c1 c2 : List UInt8) (p : Bool) : Option (Int × Int) :=
  if p then
    if tm || (c2.isEmpty || decide (4 < c2.length)) then none
    else worthFin 5 minus (c1 ++ (c2 ++ ([48, 48, 48, 48] : List UInt8).drop c2.length)) c2 true
  else worthFin (if tm then 4 else 2) minus c1 c2 false
def worthS (l : List UInt8) : Option (Int × Int) :=
  if l = [48, 78] then some (2, nullI) else if l = [48, 78, 116] then some (4, nullI) else if l = [48, 78, 100] then some (5, nullI) else
  worthCut (Lib.hasSuffix l [116]) (Lib.hasPrefix (Lib.trimSuffix l [116]) [45]) (Lib.cut (Lib.trimPrefix (Lib.trimSuffix l [116]) [45]) [46]).1 (Lib.cut (Lib.trimPrefix (Lib.trimSuffix l [116]) [45]) [46]).2.1 (Lib.cut (Lib.trimPrefix (Lib.trimSuffix l [116]) [45]) [46]).2.2
theorem worthS_cut {l : List UInt8} (h1 : ¬ l = [48, 78]) (h2 : ¬ l = [48, 78, 116]) (h3 : ¬ l = [48, 78, 100]) :
    worthS l = worthCut (Lib.hasSuffix l [116]) (Lib.hasPrefix (Lib.trimSuffix l [116]) [45]) (Lib.cut (Lib.trimPrefix (Lib.trimSuffix l [116]) [45]) [46]).1 (Lib.cut (Lib.trimPrefix (Lib.trimSuffix l [116]) [45]) [46]).2.1 (Lib.cut (Lib.trimPrefix (Lib.trimSuffix l [116]) [45]) [46]).2.2 := by
  rw [worthS, if_neg h1, if_neg h2, if_neg h3]
theorem cut_le (s sep : List UInt8) : (Lib.cut s sep).1.length + (Lib.cut s sep).2.1.length ≤ s.length := by
  unfold Lib.cut
  split
  · simp only [List.length_take, List.length_drop]; omega
  · simp
def worthV (l : List UInt8) : Int × Int × Bool := match worthS l with | some (t, n) => (t, n, true) | none => (0, 0, false)
theorem worthFin_ok {t : Int} {minus p : Bool} {W R : List UInt8} (h1 : ¬ W = []) (h2 : allDig W = true) (h3 : allDig R = true) (h4 : p = false ∨ ¬ W.length = 4) :
    worthFin t minus W R p = (match Lib.parseUintB 64 W with | .ok u => if u ≤ 9223372036854775807 then some (t, if minus then -(u : Int) else (u : Int)) else none | _ => none) := by
  rw [worthFin, if_neg]
  rcases h4 with h4 | h4 <;> simp [h1, h2, h3, h4]
theorem worthCut_no (tm minus : Bool) (c1 c2 : List UInt8) : worthCut tm minus c1 c2 false = worthFin (if tm then 4 else 2) minus c1 c2 false := by simp [worthCut]
theorem worthCut_yes {minus : Bool} {c1 c2 : List UInt8} (h : ¬ c2 = []) (h4 : c2.length ≤ 4) : worthCut false minus c1 c2 true = worthFin 5 minus (c1 ++ (c2 ++ ([48, 48, 48, 48] : List UInt8).drop c2.length)) c2 true := by
  have : ¬ 4 < c2.length := by omega
  simp [worthCut, h, this]
end Go.Proofs.YtnoplebjkbfedaaDoor
