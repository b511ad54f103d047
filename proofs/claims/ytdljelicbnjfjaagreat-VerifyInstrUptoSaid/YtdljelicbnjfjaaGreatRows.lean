/-
  No cell of these rows narrows 'for every input' (looked for: loops, veiled, ifaces, maps, wideKeys, modest, calm, conditions, laid).
  DERIVED. THE GIVEN ROWS OF THIS SEAT. 9 by the template 'for every input the law returns true; each argument reads behind the call as it read before'; 0 by the template 'total and deterministic' (their statements: YtdljelicbnjfjaaGreatTotals.lean).
  GIVEN WITH THE SEED: the statements are not yours to turn. If you find one false, say at which input.
  Laid BY PROGRAM, IN A SANDBOX (cutbox-rows.mjs): the forced cells as the released guide's own fill.sh prints them over the translation 500c5ed454ad7bd9… (all of the seat's roots in one cut). By AI agents, Wed Nov 11 2026. No macro, syntax, notation, axiom, sorry.
-/
import Derived.Test.YtdljelicbnjfjaaGreatChecked
import GoSem.Claim
import GoSem.ClaimJoined
import GoSem.ClaimMapViews
import Derived.JoinedTies
import Derived.KernelRfl
namespace Go.Proofs.YtdljelicbnjfjaaGreat
/- THE CELL 'sum', in the pinned program and in every row, IS THE sha256 OF THE DUMP (.gsa) THAT YtdljelicbnjfjaaGreatProg.lean LOADS. Nothing in Lean hashes anything: it is a label: what it is worth is what the hold of that sum in a sandbox is worth. -/
noncomputable def Tryz.pinned : Pinned := { name := "ytdljelicbnjfjaagreat", sum := "500c5ed454ad7bd9edb9473d8796968cee4ae20400493e62916cf59cd3befd16", checked := Tryz.checked }
namespace Rows
def none {H : Type} : Left H := { results := [], args := [] }

/-- 'bellowslaw04.CodeDecodes': WHATEVER THE INPUT: true; the input reads as it did. -/
def codeDecodesSpec : ChangeSpec := { name := "codeDecodes", fn := fun _ => fun
  | [d] => { results := [.lit (.bool true)], args := [d] }
  | _ => none }
def codeDecodesRow : OpenClaim := { program := "ytdljelicbnjfjaagreat", sum := "500c5ed454ad7bd9edb9473d8796968cee4ae20400493e62916cf59cd3befd16", func := "bellows/bellowslaw04.CodeDecodes", spec := "codeDecodes", unfollowed := true, recurses := true, apart := false }
def CodeDecodesSaid : Prop := codeDecodesRow.holds Tryz.pinned (OpenSpec.ofChange codeDecodesSpec)

/-- ITS FALSE NEIGHBOUR: 'it returns false'. Refute it at one input. -/
def codeDecodesWrong : ChangeSpec := { name := "codeDecodes", fn := fun _ => fun
  | [d] => { results := [.lit (.bool false)], args := [d] }
  | _ => none }
def CodeDecodesWrongFalsely : Prop := codeDecodesRow.holds Tryz.pinned (OpenSpec.ofChange codeDecodesWrong)

/-- 'bellowslaw04.CodeSame': WHATEVER THE INPUT: true; the input reads as it did. -/
def codeSameSpec : ChangeSpec := { name := "codeSame", fn := fun _ => fun
  | [d1, d2] => { results := [.lit (.bool true)], args := [d1, d2] }
  | _ => none }
def codeSameRow : OpenClaim := { program := "ytdljelicbnjfjaagreat", sum := "500c5ed454ad7bd9edb9473d8796968cee4ae20400493e62916cf59cd3befd16", func := "bellows/bellowslaw04.CodeSame", spec := "codeSame", unfollowed := true, recurses := true, apart := false }
def CodeSameSaid : Prop := codeSameRow.holds Tryz.pinned (OpenSpec.ofChange codeSameSpec)

/-- ITS FALSE NEIGHBOUR: 'it returns false'. Refute it at one input. -/
def codeSameWrong : ChangeSpec := { name := "codeSame", fn := fun _ => fun
  | [d1, d2] => { results := [.lit (.bool false)], args := [d1, d2] }
  | _ => none }
def CodeSameWrongFalsely : Prop := codeSameRow.holds Tryz.pinned (OpenSpec.ofChange codeSameWrong)

/-- 'bellowslaw05.VerifyTypes': WHATEVER THE INPUT: true; the input reads as it did. -/
def verifyTypesSpec : ChangeSpec := { name := "verifyTypes", fn := fun _ => fun
  | [d1, d2] => { results := [.lit (.bool true)], args := [d1, d2] }
  | _ => none }
def verifyTypesRow : OpenClaim := { program := "ytdljelicbnjfjaagreat", sum := "500c5ed454ad7bd9edb9473d8796968cee4ae20400493e62916cf59cd3befd16", func := "bellows/bellowslaw05.VerifyTypes", spec := "verifyTypes", unfollowed := true, recurses := true, apart := false }
def VerifyTypesSaid : Prop := verifyTypesRow.holds Tryz.pinned (OpenSpec.ofChange verifyTypesSpec)

/-- ITS FALSE NEIGHBOUR: 'it returns false'. Refute it at one input. -/
def verifyTypesWrong : ChangeSpec := { name := "verifyTypes", fn := fun _ => fun
  | [d1, d2] => { results := [.lit (.bool false)], args := [d1, d2] }
  | _ => none }
def VerifyTypesWrongFalsely : Prop := verifyTypesRow.holds Tryz.pinned (OpenSpec.ofChange verifyTypesWrong)

/-- 'bellowslaw05.VerifyOrder': WHATEVER THE INPUT: true; the input reads as it did. -/
def verifyOrderSpec : ChangeSpec := { name := "verifyOrder", fn := fun _ => fun
  | [d1, d2, d3] => { results := [.lit (.bool true)], args := [d1, d2, d3] }
  | _ => none }
def verifyOrderRow : OpenClaim := { program := "ytdljelicbnjfjaagreat", sum := "500c5ed454ad7bd9edb9473d8796968cee4ae20400493e62916cf59cd3befd16", func := "bellows/bellowslaw05.VerifyOrder", spec := "verifyOrder", unfollowed := true, recurses := true, apart := false }
def VerifyOrderSaid : Prop := verifyOrderRow.holds Tryz.pinned (OpenSpec.ofChange verifyOrderSpec)

/-- ITS FALSE NEIGHBOUR: 'it returns false'. Refute it at one input. -/
def verifyOrderWrong : ChangeSpec := { name := "verifyOrder", fn := fun _ => fun
  | [d1, d2, d3] => { results := [.lit (.bool false)], args := [d1, d2, d3] }
  | _ => none }
def VerifyOrderWrongFalsely : Prop := verifyOrderRow.holds Tryz.pinned (OpenSpec.ofChange verifyOrderWrong)

/-- 'bellowslaw05.VerifyImages': WHATEVER THE INPUT: true; the input reads as it did. -/
def verifyImagesSpec : ChangeSpec := { name := "verifyImages", fn := fun _ => fun
  | [d] => { results := [.lit (.bool true)], args := [d] }
  | _ => none }
def verifyImagesRow : OpenClaim := { program := "ytdljelicbnjfjaagreat", sum := "500c5ed454ad7bd9edb9473d8796968cee4ae20400493e62916cf59cd3befd16", func := "bellows/bellowslaw05.VerifyImages", spec := "verifyImages", unfollowed := true, recurses := true, apart := false }
def VerifyImagesSaid : Prop := verifyImagesRow.holds Tryz.pinned (OpenSpec.ofChange verifyImagesSpec)

/-- ITS FALSE NEIGHBOUR: 'it returns false'. Refute it at one input. -/
def verifyImagesWrong : ChangeSpec := { name := "verifyImages", fn := fun _ => fun
  | [d] => { results := [.lit (.bool false)], args := [d] }
  | _ => none }
def VerifyImagesWrongFalsely : Prop := verifyImagesRow.holds Tryz.pinned (OpenSpec.ofChange verifyImagesWrong)

/-- 'bellowslaw05.VerifyInstr': WHATEVER THE INPUT: true; the input reads as it did. -/
def verifyInstrSpec : ChangeSpec := { name := "verifyInstr", fn := fun _ => fun
  | [d1, d2, d3] => { results := [.lit (.bool true)], args := [d1, d2, d3] }
  | _ => none }
def verifyInstrRow : OpenClaim := { program := "ytdljelicbnjfjaagreat", sum := "500c5ed454ad7bd9edb9473d8796968cee4ae20400493e62916cf59cd3befd16", func := "bellows/bellowslaw05.VerifyInstr", spec := "verifyInstr", unfollowed := true, recurses := true, apart := false }
def VerifyInstrSaid : Prop := verifyInstrRow.holds Tryz.pinned (OpenSpec.ofChange verifyInstrSpec)

/-- ITS FALSE NEIGHBOUR: 'it returns false'. Refute it at one input. -/
def verifyInstrWrong : ChangeSpec := { name := "verifyInstr", fn := fun _ => fun
  | [d1, d2, d3] => { results := [.lit (.bool false)], args := [d1, d2, d3] }
  | _ => none }
def VerifyInstrWrongFalsely : Prop := verifyInstrRow.holds Tryz.pinned (OpenSpec.ofChange verifyInstrWrong)

/-- 'bellowslaw05.VerifyLive': WHATEVER THE INPUT: true; the input reads as it did. -/
def verifyLiveSpec : ChangeSpec := { name := "verifyLive", fn := fun _ => fun
  | [d1, d2] => { results := [.lit (.bool true)], args := [d1, d2] }
  | _ => none }
def verifyLiveRow : OpenClaim := { program := "ytdljelicbnjfjaagreat", sum := "500c5ed454ad7bd9edb9473d8796968cee4ae20400493e62916cf59cd3befd16", func := "bellows/bellowslaw05.VerifyLive", spec := "verifyLive", unfollowed := true, recurses := true, apart := false }
def VerifyLiveSaid : Prop := verifyLiveRow.holds Tryz.pinned (OpenSpec.ofChange verifyLiveSpec)

/-- ITS FALSE NEIGHBOUR: 'it returns false'. Refute it at one input. -/
def verifyLiveWrong : ChangeSpec := { name := "verifyLive", fn := fun _ => fun
  | [d1, d2] => { results := [.lit (.bool false)], args := [d1, d2] }
  | _ => none }
def VerifyLiveWrongFalsely : Prop := verifyLiveRow.holds Tryz.pinned (OpenSpec.ofChange verifyLiveWrong)

/-- 'bellowslaw05.VerifySwitch': WHATEVER THE INPUT: true; the input reads as it did. -/
def verifySwitchSpec : ChangeSpec := { name := "verifySwitch", fn := fun _ => fun
  | [d1, d2, d3, d4] => { results := [.lit (.bool true)], args := [d1, d2, d3, d4] }
  | _ => none }
def verifySwitchRow : OpenClaim := { program := "ytdljelicbnjfjaagreat", sum := "500c5ed454ad7bd9edb9473d8796968cee4ae20400493e62916cf59cd3befd16", func := "bellows/bellowslaw05.VerifySwitch", spec := "verifySwitch", unfollowed := true, recurses := true, apart := false }
def VerifySwitchSaid : Prop := verifySwitchRow.holds Tryz.pinned (OpenSpec.ofChange verifySwitchSpec)

/-- ITS FALSE NEIGHBOUR: 'it returns false'. Refute it at one input. -/
def verifySwitchWrong : ChangeSpec := { name := "verifySwitch", fn := fun _ => fun
  | [d1, d2, d3, d4] => { results := [.lit (.bool false)], args := [d1, d2, d3, d4] }
  | _ => none }
def VerifySwitchWrongFalsely : Prop := verifySwitchRow.holds Tryz.pinned (OpenSpec.ofChange verifySwitchWrong)

/-- 'bellowslaw05.VerifyReturns': WHATEVER THE INPUT: true; the input reads as it did. -/
def verifyReturnsSpec : ChangeSpec := { name := "verifyReturns", fn := fun _ => fun
  | [d1, d2] => { results := [.lit (.bool true)], args := [d1, d2] }
  | _ => none }
def verifyReturnsRow : OpenClaim := { program := "ytdljelicbnjfjaagreat", sum := "500c5ed454ad7bd9edb9473d8796968cee4ae20400493e62916cf59cd3befd16", func := "bellows/bellowslaw05.VerifyReturns", spec := "verifyReturns", unfollowed := true, recurses := true, apart := false }
def VerifyReturnsSaid : Prop := verifyReturnsRow.holds Tryz.pinned (OpenSpec.ofChange verifyReturnsSpec)

/-- ITS FALSE NEIGHBOUR: 'it returns false'. Refute it at one input. -/
def verifyReturnsWrong : ChangeSpec := { name := "verifyReturns", fn := fun _ => fun
  | [d1, d2] => { results := [.lit (.bool false)], args := [d1, d2] }
  | _ => none }
def VerifyReturnsWrongFalsely : Prop := verifyReturnsRow.holds Tryz.pinned (OpenSpec.ofChange verifyReturnsWrong)

/- THE SECOND FORM. 'bulk': how many values and letters a reading holds, each counted each time it is reached (what is shared counts as often as it is met; a slice's spare places count too). A statement '..UptoSaid' is the law's where the arguments, and the package variables that the reading takes, are together of bulk at most 1048576: NARROWER than '..Said'. Prove '..Said' where nothing that the law and all that it calls make is longer than what came in: it says more and counts as full. Else prove '..UptoSaid'. A law counts once. -/
mutual
def uptoBulk {H : Type} : DataW H → Nat
  | .lit (.string bytes) => bytes.length + 1
  | .lit _ => 1
  | .nil => 1
  | .ptr d => uptoBulk d + 1
  | .slice elems spare => uptoBulkAll elems + uptoBulkAll spare + 1
  | .agg parts => uptoBulkAll parts + 1
  | .iface _ d => uptoBulk d + 1
  | .map entries => uptoBulkEntries entries + 1
  | .held _ => 1
def uptoBulkAll {H : Type} : List (DataW H) → Nat
  | [] => 0
  | d :: r => uptoBulk d + uptoBulkAll r
def uptoBulkEntries {H : Type} : List (Lit × DataW H) → Nat
  | [] => 0
  | x :: r => uptoBulkEntry x + uptoBulkEntries r
def uptoBulkEntry {H : Type} : Lit × DataW H → Nat
  | (.string bytes, d) => bytes.length + uptoBulk d + 1
  | (_, d) => uptoBulk d + 1
 end
def uptoSmall : (H : Type) → List (DataW H) → Bool := fun _ ds => decide (uptoBulkAll ds ≤ 1048576)
def OpenSpec.upto (s : _root_.Go.ChangeSpec) : _root_.Go.OpenSpec := { _root_.Go.OpenSpec.ofChange s with cond := some uptoSmall }

/-- 'bellowslaw04.CodeDecodes', WHERE WHAT IT READS IS OF BULK AT MOST 1048576: true; the input reads as it did. -/
def codeDecodesUptoRow : OpenClaim := { program := "ytdljelicbnjfjaagreat", sum := "500c5ed454ad7bd9edb9473d8796968cee4ae20400493e62916cf59cd3befd16", func := "bellows/bellowslaw04.CodeDecodes", spec := "codeDecodes", unfollowed := true, recurses := true, apart := false, narrowed := true }
def CodeDecodesUptoSaid : Prop := codeDecodesUptoRow.holds Tryz.pinned (OpenSpec.upto codeDecodesSpec)

/-- 'bellowslaw04.CodeSame', WHERE WHAT IT READS IS OF BULK AT MOST 1048576: true; the input reads as it did. -/
def codeSameUptoRow : OpenClaim := { program := "ytdljelicbnjfjaagreat", sum := "500c5ed454ad7bd9edb9473d8796968cee4ae20400493e62916cf59cd3befd16", func := "bellows/bellowslaw04.CodeSame", spec := "codeSame", unfollowed := true, recurses := true, apart := false, narrowed := true }
def CodeSameUptoSaid : Prop := codeSameUptoRow.holds Tryz.pinned (OpenSpec.upto codeSameSpec)

/-- 'bellowslaw05.VerifyTypes', WHERE WHAT IT READS IS OF BULK AT MOST 1048576: true; the input reads as it did. -/
def verifyTypesUptoRow : OpenClaim := { program := "ytdljelicbnjfjaagreat", sum := "500c5ed454ad7bd9edb9473d8796968cee4ae20400493e62916cf59cd3befd16", func := "bellows/bellowslaw05.VerifyTypes", spec := "verifyTypes", unfollowed := true, recurses := true, apart := false, narrowed := true }
def VerifyTypesUptoSaid : Prop := verifyTypesUptoRow.holds Tryz.pinned (OpenSpec.upto verifyTypesSpec)

/-- 'bellowslaw05.VerifyOrder', WHERE WHAT IT READS IS OF BULK AT MOST 1048576: true; the input reads as it did. -/
def verifyOrderUptoRow : OpenClaim := { program := "ytdljelicbnjfjaagreat", sum := "500c5ed454ad7bd9edb9473d8796968cee4ae20400493e62916cf59cd3befd16", func := "bellows/bellowslaw05.VerifyOrder", spec := "verifyOrder", unfollowed := true, recurses := true, apart := false, narrowed := true }
def VerifyOrderUptoSaid : Prop := verifyOrderUptoRow.holds Tryz.pinned (OpenSpec.upto verifyOrderSpec)

/-- 'bellowslaw05.VerifyImages', WHERE WHAT IT READS IS OF BULK AT MOST 1048576: true; the input reads as it did. -/
def verifyImagesUptoRow : OpenClaim := { program := "ytdljelicbnjfjaagreat", sum := "500c5ed454ad7bd9edb9473d8796968cee4ae20400493e62916cf59cd3befd16", func := "bellows/bellowslaw05.VerifyImages", spec := "verifyImages", unfollowed := true, recurses := true, apart := false, narrowed := true }
def VerifyImagesUptoSaid : Prop := verifyImagesUptoRow.holds Tryz.pinned (OpenSpec.upto verifyImagesSpec)

/-- 'bellowslaw05.VerifyInstr', WHERE WHAT IT READS IS OF BULK AT MOST 1048576: true; the input reads as it did. -/
def verifyInstrUptoRow : OpenClaim := { program := "ytdljelicbnjfjaagreat", sum := "500c5ed454ad7bd9edb9473d8796968cee4ae20400493e62916cf59cd3befd16", func := "bellows/bellowslaw05.VerifyInstr", spec := "verifyInstr", unfollowed := true, recurses := true, apart := false, narrowed := true }
def VerifyInstrUptoSaid : Prop := verifyInstrUptoRow.holds Tryz.pinned (OpenSpec.upto verifyInstrSpec)

/-- 'bellowslaw05.VerifyLive', WHERE WHAT IT READS IS OF BULK AT MOST 1048576: true; the input reads as it did. -/
def verifyLiveUptoRow : OpenClaim := { program := "ytdljelicbnjfjaagreat", sum := "500c5ed454ad7bd9edb9473d8796968cee4ae20400493e62916cf59cd3befd16", func := "bellows/bellowslaw05.VerifyLive", spec := "verifyLive", unfollowed := true, recurses := true, apart := false, narrowed := true }
def VerifyLiveUptoSaid : Prop := verifyLiveUptoRow.holds Tryz.pinned (OpenSpec.upto verifyLiveSpec)

/-- 'bellowslaw05.VerifySwitch', WHERE WHAT IT READS IS OF BULK AT MOST 1048576: true; the input reads as it did. -/
def verifySwitchUptoRow : OpenClaim := { program := "ytdljelicbnjfjaagreat", sum := "500c5ed454ad7bd9edb9473d8796968cee4ae20400493e62916cf59cd3befd16", func := "bellows/bellowslaw05.VerifySwitch", spec := "verifySwitch", unfollowed := true, recurses := true, apart := false, narrowed := true }
def VerifySwitchUptoSaid : Prop := verifySwitchUptoRow.holds Tryz.pinned (OpenSpec.upto verifySwitchSpec)

/-- 'bellowslaw05.VerifyReturns', WHERE WHAT IT READS IS OF BULK AT MOST 1048576: true; the input reads as it did. -/
def verifyReturnsUptoRow : OpenClaim := { program := "ytdljelicbnjfjaagreat", sum := "500c5ed454ad7bd9edb9473d8796968cee4ae20400493e62916cf59cd3befd16", func := "bellows/bellowslaw05.VerifyReturns", spec := "verifyReturns", unfollowed := true, recurses := true, apart := false, narrowed := true }
def VerifyReturnsUptoSaid : Prop := verifyReturnsUptoRow.holds Tryz.pinned (OpenSpec.upto verifyReturnsSpec)

end Rows
end Go.Proofs.YtdljelicbnjfjaaGreat
