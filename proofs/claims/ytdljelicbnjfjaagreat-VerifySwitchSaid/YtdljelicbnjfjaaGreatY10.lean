/- What is looked at must have a way for each of its shapes: the law. -/
import Derived.Test.YtdljelicbnjfjaaGreatY10a
import Derived.Test.YtdljelicbnjfjaaGreatY10b
import Derived.Test.YtdljelicbnjfjaaGreatY10c
set_option linter.unusedVariables false
set_option maxRecDepth 100000
namespace Go.Proofs.YtdljelicbnjfjaaGreat.X
open Go Go.RowKit

theorem e10_1100 : gives ((evGZ S1 tabQ 61).1 10 [.bool true, .bool true, .bool false, .bool false] Mem.empty) (.bool true) = true := by kernel_rfl
theorem e10_1101 : gives ((evGZ S1 tabQ 61).1 10 [.bool true, .bool true, .bool false, .bool true] Mem.empty) (.bool true) = true := by kernel_rfl
theorem e10_1110 : gives ((evGZ S1 tabQ 61).1 10 [.bool true, .bool true, .bool true, .bool false] Mem.empty) (.bool true) = true := by kernel_rfl
theorem e10_1111 : gives ((evGZ S1 tabQ 61).1 10 [.bool true, .bool true, .bool true, .bool true] Mem.empty) (.bool true) = true := by kernel_rfl
theorem ev10 (a b c d : Bool) : ∃ k m', (evGG S1 tabQ k).1 10 [.bool a, .bool b, .bool c, .bool d] Mem.empty = some (.bool true, m') := by
  cases a <;> cases b <;> cases c <;> cases d
  · exact ev_z e10_0000
  · exact ev_z e10_0001
  · exact ev_z e10_0010
  · exact ev_z e10_0011
  · exact ev_z e10_0100
  · exact ev_z e10_0101
  · exact ev_z e10_0110
  · exact ev_z e10_0111
  · exact ev_z e10_1000
  · exact ev_z e10_1001
  · exact ev_z e10_1010
  · exact ev_z e10_1011
  · exact ev_z e10_1100
  · exact ev_z e10_1101
  · exact ev_z e10_1110
  · exact ev_z e10_1111
theorem law10 (m : Mem) (ls : List (List AV)) (hl : SitsA reachBytes m [.bool, .bool, .bool, .bool] ls) : scal (argsOf [.bool, .bool, .bool, .bool] ls) = true ∧ ∃ k m', (evGG S1 tabQ k).1 10 (argsOf [.bool, .bool, .bool, .bool] ls) Mem.empty = some (.bool true, m') := by
  obtain ⟨l0, ls, rfl, h0, hl⟩ := sitsA_cons hl
  obtain ⟨l1, ls, rfl, h1, hl⟩ := sitsA_cons hl
  obtain ⟨l2, ls, rfl, h2, hl⟩ := sitsA_cons hl
  obtain ⟨l3, ls, rfl, h3, hl⟩ := sitsA_cons hl
  obtain rfl := sitsA_nil hl
  obtain ⟨a, rfl⟩ := sits_bool h0
  obtain ⟨b, rfl⟩ := sits_bool h1
  obtain ⟨c, rfl⟩ := sits_bool h2
  obtain ⟨d, rfl⟩ := sits_bool h3
  exact ⟨rfl, ev10 a b c d⟩
end Go.Proofs.YtdljelicbnjfjaaGreat.X
