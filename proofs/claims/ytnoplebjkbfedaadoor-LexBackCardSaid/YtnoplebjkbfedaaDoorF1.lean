/- What the lexer makes of the texts of live. Plain Lean, reckoned by the kernel. -/
import Derived.Test.YtnoplebjkbfedaaDoorD1
import Derived.Test.YtnoplebjkbfedaaDoorE1
import Derived.Test.YtnoplebjkbfedaaDoorE2
import Derived.KernelRfl
namespace Go.Proofs.YtnoplebjkbfedaaDoor
open Go Go.RowKit
set_option maxRecDepth 100000
def bs (l : List UInt8) : ByteArray := ⟨l.toArray⟩
def liveA : List Tok := [⟨2, 0, 1, bs [97], ⟨0, [], []⟩⟩, ⟨6, 1, 2, bs [58], ⟨0, [], []⟩⟩, ⟨1, 2, 6, bs [49, 32, 45, 50], ⟨2, [1, -2], []⟩⟩, ⟨4, 6, 7, bs [43], ⟨0, [], []⟩⟩, ⟨2, 7, 8, bs [98], ⟨0, [], []⟩⟩]
theorem live_a : lexS (bs [97, 58, 49, 32, 45, 50, 43, 98]) = .ok liveA := by kernel_rfl
theorem live_b : lexS (bs [120, 45, 49]) = .ok [⟨2, 0, 1, bs [120], ⟨0, [], []⟩⟩, ⟨4, 1, 2, bs [45], ⟨0, [], []⟩⟩, ⟨1, 2, 3, bs [49], ⟨-2, [1], []⟩⟩] := by kernel_rfl
theorem live_n : lexS (bs [96, 97, 96, 34, 98, 32, 99, 34, 32, 40, 41, 105]) = .ok [⟨1, 0, 8, bs [96, 97, 96, 34, 98, 32, 99, 34], ⟨3, [], [bs [97], bs [98, 32, 99]]⟩⟩, ⟨1, 9, 12, bs [40, 41, 105], ⟨2, [], []⟩⟩] := by kernel_rfl
theorem live_h : lexS (bs [49, 46, 53, 32, 50]) = .error (143, 4) := by kernel_rfl
theorem live_i : lexS (bs [40, 34, 97]) = .error (142, 1) := by kernel_rfl
theorem live_j : joinS liveA = [97, 32, 58, 32, 49, 32, 45, 50, 32, 43, 32, 98] := by kernel_rfl
theorem live_w : wordB (bs [97, 95, 49]) = true := by kernel_rfl
theorem live_v : wordB (bs [49]) = false := by kernel_rfl
end Go.Proofs.YtnoplebjkbfedaaDoor
