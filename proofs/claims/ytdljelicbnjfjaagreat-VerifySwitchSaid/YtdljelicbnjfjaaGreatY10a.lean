/- What is looked at must have a way for each of its shapes: some cases. -/
import Derived.Test.YtdljelicbnjfjaaGreatYl
set_option linter.unusedVariables false
set_option maxRecDepth 100000
namespace Go.Proofs.YtdljelicbnjfjaaGreat.X
open Go Go.RowKit

theorem e10_0000 : gives ((evGZ S1 tabQ 61).1 10 [.bool false, .bool false, .bool false, .bool false] Mem.empty) (.bool true) = true := by kernel_rfl
theorem e10_0001 : gives ((evGZ S1 tabQ 61).1 10 [.bool false, .bool false, .bool false, .bool true] Mem.empty) (.bool true) = true := by kernel_rfl
theorem e10_0010 : gives ((evGZ S1 tabQ 61).1 10 [.bool false, .bool false, .bool true, .bool false] Mem.empty) (.bool true) = true := by kernel_rfl
theorem e10_0011 : gives ((evGZ S1 tabQ 61).1 10 [.bool false, .bool false, .bool true, .bool true] Mem.empty) (.bool true) = true := by kernel_rfl
end Go.Proofs.YtdljelicbnjfjaaGreat.X
