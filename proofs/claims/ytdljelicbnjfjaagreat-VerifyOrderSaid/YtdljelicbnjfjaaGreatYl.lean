/- The examples hold; the laws of few inputs. -/
import Derived.Test.YtdljelicbnjfjaaGreatYf
import Derived.Test.YtdljelicbnjfjaaGreatYr
import Derived.Test.YtdljelicbnjfjaaGreatYg
import Derived.Test.YtdljelicbnjfjaaGreatYh
import Derived.Test.YtdljelicbnjfjaaGreatYp
set_option linter.unusedVariables false
set_option maxRecDepth 100000
namespace Go.Proofs.YtdljelicbnjfjaaGreat.X
open Go Go.RowKit

def S0 : Sp := ⟨161, 119, 4, none, none⟩
theorem lives_z : gives ((evGZ S0 tabQ 60).1 26 [] Mem.empty) (.bool true) = true := by kernel_rfl
theorem lives26 : LiveOk Tryz.prog 26 := by
  obtain ⟨m', h⟩ := gives_some lives_z
  rw [evGZ_eq] at h
  exact live_of (S := S0) htabQ hmixQ mustOk holdOk ⟨fun f h => (by cases h), fun f h => (by cases h)⟩ h
theorem lives1 : KnownOk Tryz.prog S1 := ⟨fun f h => by
  have : f = 26 := Nat.eq_of_beq_eq_true h
  subst this; exact lives26, fun f h => by
  have : f = 64 := Nat.eq_of_beq_eq_true h
  subst this; exact sortOk⟩
theorem ev_z {k f : Nat} {args : List AV} (h : gives ((evGZ S1 tabQ k).1 f args Mem.empty) (.bool true) = true) : ∃ k m', (evGG S1 tabQ k).1 f args Mem.empty = some (.bool true, m') := by
  obtain ⟨m', h⟩ := gives_some h
  rw [evGZ_eq] at h
  exact ⟨k, m', h⟩
end Go.Proofs.YtdljelicbnjfjaaGreat.X
