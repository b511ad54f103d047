/-
  No cell of these rows narrows 'for every input' (looked for: loops, veiled, ifaces, maps, wideKeys, modest, calm, conditions, laid).
  DERIVED. THE GIVEN ROWS OF THIS SEAT. 7 by the template 'for every input the law returns true; each argument reads behind the call as it read before'; 0 by the template 'total and deterministic' (their statements: YtgcnliikibbcnaaTotals.lean).
  GIVEN WITH THE SEED: the statements are not yours to turn. If you find one false, say at which input.
  Laid BY PROGRAM, IN A SANDBOX (cutbox-rows.mjs): the forced cells as the released guide's own fill.sh prints them over the translation 50ca5d7316172671… (all of the seat's roots in one cut). By AI agents, Wed Nov 11 2026. No macro, syntax, notation, axiom, sorry.
-/
import Derived.Test.YtgcnliikibbcnaaChecked
import GoSem.Claim
import GoSem.ClaimJoined
import GoSem.ClaimMapViews
import Derived.JoinedTies
import Derived.KernelRfl
namespace Go.Proofs.Ytgcnliikibbcnaa
/- THE CELL 'sum', in the pinned program and in every row, IS THE sha256 OF THE DUMP (.gsa) THAT YtgcnliikibbcnaaProg.lean LOADS. Nothing in Lean hashes anything: it is a label: what it is worth is what the hold of that sum in a sandbox is worth. -/
noncomputable def Try.pinned : Pinned := { name := "ytgcnliikibbcnaa", sum := "50ca5d73161726710105e413557319f0c8f00a58814abc9b1cad3693f3829fe7", checked := Try.checked }
namespace Rows
def none {H : Type} : Left H := { results := [], args := [] }

/-- 'bellowslaw04.CodeInstrs': WHATEVER THE INPUT: true; the input reads as it did. -/
def codeInstrsSpec : ChangeSpec := { name := "codeInstrs", fn := fun _ => fun
  | [d1, d2] => { results := [.lit (.bool true)], args := [d1, d2] }
  | _ => none }
def codeInstrsRow : OpenClaim := { program := "ytgcnliikibbcnaa", sum := "50ca5d73161726710105e413557319f0c8f00a58814abc9b1cad3693f3829fe7", func := "bellows/bellowslaw04.CodeInstrs", spec := "codeInstrs", unfollowed := true, recurses := true, apart := false }
def CodeInstrsSaid : Prop := codeInstrsRow.holds Try.pinned (OpenSpec.ofChange codeInstrsSpec)

/-- ITS FALSE NEIGHBOUR: 'it returns false'. Refute it at one input. -/
def codeInstrsWrong : ChangeSpec := { name := "codeInstrs", fn := fun _ => fun
  | [d1, d2] => { results := [.lit (.bool false)], args := [d1, d2] }
  | _ => none }
def CodeInstrsWrongFalsely : Prop := codeInstrsRow.holds Try.pinned (OpenSpec.ofChange codeInstrsWrong)

/-- 'bellowslaw04.CodeEncodes': WHATEVER THE INPUT: true; the input reads as it did. -/
def codeEncodesSpec : ChangeSpec := { name := "codeEncodes", fn := fun _ => fun
  | [d] => { results := [.lit (.bool true)], args := [d] }
  | _ => none }
def codeEncodesRow : OpenClaim := { program := "ytgcnliikibbcnaa", sum := "50ca5d73161726710105e413557319f0c8f00a58814abc9b1cad3693f3829fe7", func := "bellows/bellowslaw04.CodeEncodes", spec := "codeEncodes", unfollowed := true, recurses := true, apart := false }
def CodeEncodesSaid : Prop := codeEncodesRow.holds Try.pinned (OpenSpec.ofChange codeEncodesSpec)

/-- ITS FALSE NEIGHBOUR: 'it returns false'. Refute it at one input. -/
def codeEncodesWrong : ChangeSpec := { name := "codeEncodes", fn := fun _ => fun
  | [d] => { results := [.lit (.bool false)], args := [d] }
  | _ => none }
def CodeEncodesWrongFalsely : Prop := codeEncodesRow.holds Try.pinned (OpenSpec.ofChange codeEncodesWrong)

/-- 'bellowslaw04.CodeCuts': WHATEVER THE INPUT: true; the input reads as it did. -/
def codeCutsSpec : ChangeSpec := { name := "codeCuts", fn := fun _ => fun
  | [d1, d2, d3] => { results := [.lit (.bool true)], args := [d1, d2, d3] }
  | _ => none }
def codeCutsRow : OpenClaim := { program := "ytgcnliikibbcnaa", sum := "50ca5d73161726710105e413557319f0c8f00a58814abc9b1cad3693f3829fe7", func := "bellows/bellowslaw04.CodeCuts", spec := "codeCuts", unfollowed := true, recurses := true, apart := false }
def CodeCutsSaid : Prop := codeCutsRow.holds Try.pinned (OpenSpec.ofChange codeCutsSpec)

/-- ITS FALSE NEIGHBOUR: 'it returns false'. Refute it at one input. -/
def codeCutsWrong : ChangeSpec := { name := "codeCuts", fn := fun _ => fun
  | [d1, d2, d3] => { results := [.lit (.bool false)], args := [d1, d2, d3] }
  | _ => none }
def CodeCutsWrongFalsely : Prop := codeCutsRow.holds Try.pinned (OpenSpec.ofChange codeCutsWrong)

/-- 'bellowslaw04.CodeBack': WHATEVER THE INPUT: true; the input reads as it did. -/
def codeBackSpec : ChangeSpec := { name := "codeBack", fn := fun _ => fun
  | [d1, d2] => { results := [.lit (.bool true)], args := [d1, d2] }
  | _ => none }
def codeBackRow : OpenClaim := { program := "ytgcnliikibbcnaa", sum := "50ca5d73161726710105e413557319f0c8f00a58814abc9b1cad3693f3829fe7", func := "bellows/bellowslaw04.CodeBack", spec := "codeBack", unfollowed := true, recurses := true, apart := false }
def CodeBackSaid : Prop := codeBackRow.holds Try.pinned (OpenSpec.ofChange codeBackSpec)

/-- ITS FALSE NEIGHBOUR: 'it returns false'. Refute it at one input. -/
def codeBackWrong : ChangeSpec := { name := "codeBack", fn := fun _ => fun
  | [d1, d2] => { results := [.lit (.bool false)], args := [d1, d2] }
  | _ => none }
def CodeBackWrongFalsely : Prop := codeBackRow.holds Try.pinned (OpenSpec.ofChange codeBackWrong)

/-- 'bellowslaw04.CodeTurns': WHATEVER THE INPUT: true; the input reads as it did. -/
def codeTurnsSpec : ChangeSpec := { name := "codeTurns", fn := fun _ => fun
  | [d1, d2, d3] => { results := [.lit (.bool true)], args := [d1, d2, d3] }
  | _ => none }
def codeTurnsRow : OpenClaim := { program := "ytgcnliikibbcnaa", sum := "50ca5d73161726710105e413557319f0c8f00a58814abc9b1cad3693f3829fe7", func := "bellows/bellowslaw04.CodeTurns", spec := "codeTurns", unfollowed := true, recurses := true, apart := false }
def CodeTurnsSaid : Prop := codeTurnsRow.holds Try.pinned (OpenSpec.ofChange codeTurnsSpec)

/-- ITS FALSE NEIGHBOUR: 'it returns false'. Refute it at one input. -/
def codeTurnsWrong : ChangeSpec := { name := "codeTurns", fn := fun _ => fun
  | [d1, d2, d3] => { results := [.lit (.bool false)], args := [d1, d2, d3] }
  | _ => none }
def CodeTurnsWrongFalsely : Prop := codeTurnsRow.holds Try.pinned (OpenSpec.ofChange codeTurnsWrong)

/-- 'bellowslaw04.CodeLimits': WHATEVER THE INPUT: true; the input reads as it did. -/
def codeLimitsSpec : ChangeSpec := { name := "codeLimits", fn := fun _ => fun
  | [d1, d2] => { results := [.lit (.bool true)], args := [d1, d2] }
  | _ => none }
def codeLimitsRow : OpenClaim := { program := "ytgcnliikibbcnaa", sum := "50ca5d73161726710105e413557319f0c8f00a58814abc9b1cad3693f3829fe7", func := "bellows/bellowslaw04.CodeLimits", spec := "codeLimits", unfollowed := true, recurses := true, apart := false }
def CodeLimitsSaid : Prop := codeLimitsRow.holds Try.pinned (OpenSpec.ofChange codeLimitsSpec)

/-- ITS FALSE NEIGHBOUR: 'it returns false'. Refute it at one input. -/
def codeLimitsWrong : ChangeSpec := { name := "codeLimits", fn := fun _ => fun
  | [d1, d2] => { results := [.lit (.bool false)], args := [d1, d2] }
  | _ => none }
def CodeLimitsWrongFalsely : Prop := codeLimitsRow.holds Try.pinned (OpenSpec.ofChange codeLimitsWrong)

/-- 'bellowslaw04.CodeFields': WHATEVER THE INPUT: true; the input reads as it did. -/
def codeFieldsSpec : ChangeSpec := { name := "codeFields", fn := fun _ => fun
  | [d] => { results := [.lit (.bool true)], args := [d] }
  | _ => none }
def codeFieldsRow : OpenClaim := { program := "ytgcnliikibbcnaa", sum := "50ca5d73161726710105e413557319f0c8f00a58814abc9b1cad3693f3829fe7", func := "bellows/bellowslaw04.CodeFields", spec := "codeFields", unfollowed := true, recurses := true, apart := false }
def CodeFieldsSaid : Prop := codeFieldsRow.holds Try.pinned (OpenSpec.ofChange codeFieldsSpec)

/-- ITS FALSE NEIGHBOUR: 'it returns false'. Refute it at one input. -/
def codeFieldsWrong : ChangeSpec := { name := "codeFields", fn := fun _ => fun
  | [d] => { results := [.lit (.bool false)], args := [d] }
  | _ => none }
def CodeFieldsWrongFalsely : Prop := codeFieldsRow.holds Try.pinned (OpenSpec.ofChange codeFieldsWrong)

/- THE SECOND FORM. 'bulk': how many values and letters a reading holds, each counted each time it is reached (what is shared counts as often as it is met; a slice's spare places count too). A statement '..UptoSaid' is the law's where the arguments, and the package variables that the reading takes, are together of bulk at most 1048576: NARROWER than '..Said'. Prove '..Said' where nothing that the law and all that it calls make is longer than what came in: it says more and counts as full. Else prove '..UptoSaid'. A law counts once. -/
mutual
def uptoBulk {H : Type} : DataW H → Nat
  | .lit (.string bytes) => bytes.length + 1
  | .lit _ => 1
  | .nil => 1
  | .ptr d => uptoBulk d + 1
  | .slice elems spare => uptoBulkAll elems + uptoBulkAll spare + 1
  | .agg parts => uptoBulkAll parts + 1
  | .iface _ d => uptoBulk d + 1
  | .map entries => uptoBulkEntries entries + 1
  | .held _ => 1
def uptoBulkAll {H : Type} : List (DataW H) → Nat
  | [] => 0
  | d :: r => uptoBulk d + uptoBulkAll r
def uptoBulkEntries {H : Type} : List (Lit × DataW H) → Nat
  | [] => 0
  | x :: r => uptoBulkEntry x + uptoBulkEntries r
def uptoBulkEntry {H : Type} : Lit × DataW H → Nat
  | (.string bytes, d) => bytes.length + uptoBulk d + 1
  | (_, d) => uptoBulk d + 1
 end
def uptoSmall : (H : Type) → List (DataW H) → Bool := fun _ ds => decide (uptoBulkAll ds ≤ 1048576)
def OpenSpec.upto (s : _root_.Go.ChangeSpec) : _root_.Go.OpenSpec := { _root_.Go.OpenSpec.ofChange s with cond := some uptoSmall }

/-- 'bellowslaw04.CodeInstrs', WHERE WHAT IT READS IS OF BULK AT MOST 1048576: true; the input reads as it did. -/
def codeInstrsUptoRow : OpenClaim := { program := "ytgcnliikibbcnaa", sum := "50ca5d73161726710105e413557319f0c8f00a58814abc9b1cad3693f3829fe7", func := "bellows/bellowslaw04.CodeInstrs", spec := "codeInstrs", unfollowed := true, recurses := true, apart := false, narrowed := true }
def CodeInstrsUptoSaid : Prop := codeInstrsUptoRow.holds Try.pinned (OpenSpec.upto codeInstrsSpec)

/-- 'bellowslaw04.CodeEncodes', WHERE WHAT IT READS IS OF BULK AT MOST 1048576: true; the input reads as it did. -/
def codeEncodesUptoRow : OpenClaim := { program := "ytgcnliikibbcnaa", sum := "50ca5d73161726710105e413557319f0c8f00a58814abc9b1cad3693f3829fe7", func := "bellows/bellowslaw04.CodeEncodes", spec := "codeEncodes", unfollowed := true, recurses := true, apart := false, narrowed := true }
def CodeEncodesUptoSaid : Prop := codeEncodesUptoRow.holds Try.pinned (OpenSpec.upto codeEncodesSpec)

/-- 'bellowslaw04.CodeCuts', WHERE WHAT IT READS IS OF BULK AT MOST 1048576: true; the input reads as it did. -/
def codeCutsUptoRow : OpenClaim := { program := "ytgcnliikibbcnaa", sum := "50ca5d73161726710105e413557319f0c8f00a58814abc9b1cad3693f3829fe7", func := "bellows/bellowslaw04.CodeCuts", spec := "codeCuts", unfollowed := true, recurses := true, apart := false, narrowed := true }
def CodeCutsUptoSaid : Prop := codeCutsUptoRow.holds Try.pinned (OpenSpec.upto codeCutsSpec)

/-- 'bellowslaw04.CodeBack', WHERE WHAT IT READS IS OF BULK AT MOST 1048576: true; the input reads as it did. -/
def codeBackUptoRow : OpenClaim := { program := "ytgcnliikibbcnaa", sum := "50ca5d73161726710105e413557319f0c8f00a58814abc9b1cad3693f3829fe7", func := "bellows/bellowslaw04.CodeBack", spec := "codeBack", unfollowed := true, recurses := true, apart := false, narrowed := true }
def CodeBackUptoSaid : Prop := codeBackUptoRow.holds Try.pinned (OpenSpec.upto codeBackSpec)

/-- 'bellowslaw04.CodeTurns', WHERE WHAT IT READS IS OF BULK AT MOST 1048576: true; the input reads as it did. -/
def codeTurnsUptoRow : OpenClaim := { program := "ytgcnliikibbcnaa", sum := "50ca5d73161726710105e413557319f0c8f00a58814abc9b1cad3693f3829fe7", func := "bellows/bellowslaw04.CodeTurns", spec := "codeTurns", unfollowed := true, recurses := true, apart := false, narrowed := true }
def CodeTurnsUptoSaid : Prop := codeTurnsUptoRow.holds Try.pinned (OpenSpec.upto codeTurnsSpec)

/-- 'bellowslaw04.CodeLimits', WHERE WHAT IT READS IS OF BULK AT MOST 1048576: true; the input reads as it did. -/
def codeLimitsUptoRow : OpenClaim := { program := "ytgcnliikibbcnaa", sum := "50ca5d73161726710105e413557319f0c8f00a58814abc9b1cad3693f3829fe7", func := "bellows/bellowslaw04.CodeLimits", spec := "codeLimits", unfollowed := true, recurses := true, apart := false, narrowed := true }
def CodeLimitsUptoSaid : Prop := codeLimitsUptoRow.holds Try.pinned (OpenSpec.upto codeLimitsSpec)

/-- 'bellowslaw04.CodeFields', WHERE WHAT IT READS IS OF BULK AT MOST 1048576: true; the input reads as it did. -/
def codeFieldsUptoRow : OpenClaim := { program := "ytgcnliikibbcnaa", sum := "50ca5d73161726710105e413557319f0c8f00a58814abc9b1cad3693f3829fe7", func := "bellows/bellowslaw04.CodeFields", spec := "codeFields", unfollowed := true, recurses := true, apart := false, narrowed := true }
def CodeFieldsUptoSaid : Prop := codeFieldsUptoRow.holds Try.pinned (OpenSpec.upto codeFieldsSpec)

end Rows
end Go.Proofs.Ytgcnliikibbcnaa
