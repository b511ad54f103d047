/-
  No cell of these rows narrows 'for every input' (looked for: loops, veiled, ifaces, maps, wideKeys, modest, calm, conditions, laid).
  DERIVED. THE GIVEN ROWS OF THIS SEAT. 25 by the template 'for every input the law returns true; each argument reads behind the call as it read before'; 0 by the template 'total and deterministic' (their statements: YtljkkfcokpimkaaTotals.lean).
  GIVEN WITH THE SEED: the statements are not yours to turn. If you find one false, say at which input.
  Laid BY PROGRAM, IN A SANDBOX (cutbox-rows.mjs): the forced cells as the released guide's own fill.sh prints them over the translation 56edfc62479c1eaf… (all of the seat's roots in one cut). By AI agents, Wed Nov 11 2026. No macro, syntax, notation, axiom, sorry.
-/
import Derived.Test.YtljkkfcokpimkaaChecked
import GoSem.Claim
import GoSem.ClaimJoined
import GoSem.ClaimMapViews
import Derived.JoinedTies
import Derived.KernelRfl
namespace Go.Proofs.Ytljkkfcokpimkaa
/- THE CELL 'sum', in the pinned program and in every row, IS THE sha256 OF THE DUMP (.gsa) THAT YtljkkfcokpimkaaProg.lean LOADS. Nothing in Lean hashes anything: it is a label: what it is worth is what the hold of that sum in a sandbox is worth. -/
noncomputable def Try.pinned : Pinned := { name := "ytljkkfcokpimkaa", sum := "56edfc62479c1eaf089a18e3aa75843e0c17a1ca5f36412988c7c7ee2f619146", checked := Try.checked }
namespace Rows
def none {H : Type} : Left H := { results := [], args := [] }

/-- 'bellowslaw01.WordProducts': WHATEVER THE INPUT: true; the input reads as it did. -/
def wordProductsSpec : ChangeSpec := { name := "wordProducts", fn := fun _ => fun
  | [d1, d2] => { results := [.lit (.bool true)], args := [d1, d2] }
  | _ => none }
def wordProductsRow : OpenClaim := { program := "ytljkkfcokpimkaa", sum := "56edfc62479c1eaf089a18e3aa75843e0c17a1ca5f36412988c7c7ee2f619146", func := "bellows/bellowslaw01.WordProducts", spec := "wordProducts", apart := false }
def WordProductsSaid : Prop := wordProductsRow.holds Try.pinned (OpenSpec.ofChange wordProductsSpec)

/-- ITS FALSE NEIGHBOUR: 'it returns false'. Refute it at one input. -/
def wordProductsWrong : ChangeSpec := { name := "wordProducts", fn := fun _ => fun
  | [d1, d2] => { results := [.lit (.bool false)], args := [d1, d2] }
  | _ => none }
def WordProductsWrongFalsely : Prop := wordProductsRow.holds Try.pinned (OpenSpec.ofChange wordProductsWrong)

/-- 'bellowslaw01.WordHeads': WHATEVER THE INPUT: true; the input reads as it did. -/
def wordHeadsSpec : ChangeSpec := { name := "wordHeads", fn := fun _ => fun
  | [d1, d2, d3] => { results := [.lit (.bool true)], args := [d1, d2, d3] }
  | _ => none }
def wordHeadsRow : OpenClaim := { program := "ytljkkfcokpimkaa", sum := "56edfc62479c1eaf089a18e3aa75843e0c17a1ca5f36412988c7c7ee2f619146", func := "bellows/bellowslaw01.WordHeads", spec := "wordHeads", apart := false }
def WordHeadsSaid : Prop := wordHeadsRow.holds Try.pinned (OpenSpec.ofChange wordHeadsSpec)

/-- ITS FALSE NEIGHBOUR: 'it returns false'. Refute it at one input. -/
def wordHeadsWrong : ChangeSpec := { name := "wordHeads", fn := fun _ => fun
  | [d1, d2, d3] => { results := [.lit (.bool false)], args := [d1, d2, d3] }
  | _ => none }
def WordHeadsWrongFalsely : Prop := wordHeadsRow.holds Try.pinned (OpenSpec.ofChange wordHeadsWrong)

/-- 'bellowslaw01.WordRing': WHATEVER THE INPUT: true; the input reads as it did. -/
def wordRingSpec : ChangeSpec := { name := "wordRing", fn := fun _ => fun
  | [d1, d2, d3] => { results := [.lit (.bool true)], args := [d1, d2, d3] }
  | _ => none }
def wordRingRow : OpenClaim := { program := "ytljkkfcokpimkaa", sum := "56edfc62479c1eaf089a18e3aa75843e0c17a1ca5f36412988c7c7ee2f619146", func := "bellows/bellowslaw01.WordRing", spec := "wordRing", apart := false }
def WordRingSaid : Prop := wordRingRow.holds Try.pinned (OpenSpec.ofChange wordRingSpec)

/-- ITS FALSE NEIGHBOUR: 'it returns false'. Refute it at one input. -/
def wordRingWrong : ChangeSpec := { name := "wordRing", fn := fun _ => fun
  | [d1, d2, d3] => { results := [.lit (.bool false)], args := [d1, d2, d3] }
  | _ => none }
def WordRingWrongFalsely : Prop := wordRingRow.holds Try.pinned (OpenSpec.ofChange wordRingWrong)

/-- 'bellowslaw01.WordMarks': WHATEVER THE INPUT: true; the input reads as it did. -/
def wordMarksSpec : ChangeSpec := { name := "wordMarks", fn := fun _ => fun
  | [d1, d2, d3] => { results := [.lit (.bool true)], args := [d1, d2, d3] }
  | _ => none }
def wordMarksRow : OpenClaim := { program := "ytljkkfcokpimkaa", sum := "56edfc62479c1eaf089a18e3aa75843e0c17a1ca5f36412988c7c7ee2f619146", func := "bellows/bellowslaw01.WordMarks", spec := "wordMarks", apart := false }
def WordMarksSaid : Prop := wordMarksRow.holds Try.pinned (OpenSpec.ofChange wordMarksSpec)

/-- ITS FALSE NEIGHBOUR: 'it returns false'. Refute it at one input. -/
def wordMarksWrong : ChangeSpec := { name := "wordMarks", fn := fun _ => fun
  | [d1, d2, d3] => { results := [.lit (.bool false)], args := [d1, d2, d3] }
  | _ => none }
def WordMarksWrongFalsely : Prop := wordMarksRow.holds Try.pinned (OpenSpec.ofChange wordMarksWrong)

/-- 'bellowslaw01.WordBytes': WHATEVER THE INPUT: true; the input reads as it did. -/
def wordBytesSpec : ChangeSpec := { name := "wordBytes", fn := fun _ => fun
  | [d1, d2, d3] => { results := [.lit (.bool true)], args := [d1, d2, d3] }
  | _ => none }
def wordBytesRow : OpenClaim := { program := "ytljkkfcokpimkaa", sum := "56edfc62479c1eaf089a18e3aa75843e0c17a1ca5f36412988c7c7ee2f619146", func := "bellows/bellowslaw01.WordBytes", spec := "wordBytes", apart := false }
def WordBytesSaid : Prop := wordBytesRow.holds Try.pinned (OpenSpec.ofChange wordBytesSpec)

/-- ITS FALSE NEIGHBOUR: 'it returns false'. Refute it at one input. -/
def wordBytesWrong : ChangeSpec := { name := "wordBytes", fn := fun _ => fun
  | [d1, d2, d3] => { results := [.lit (.bool false)], args := [d1, d2, d3] }
  | _ => none }
def WordBytesWrongFalsely : Prop := wordBytesRow.holds Try.pinned (OpenSpec.ofChange wordBytesWrong)

/-- 'bellowslaw01.WordBack': WHATEVER THE INPUT: true; the input reads as it did. -/
def wordBackSpec : ChangeSpec := { name := "wordBack", fn := fun _ => fun
  | [d1, d2, d3] => { results := [.lit (.bool true)], args := [d1, d2, d3] }
  | _ => none }
def wordBackRow : OpenClaim := { program := "ytljkkfcokpimkaa", sum := "56edfc62479c1eaf089a18e3aa75843e0c17a1ca5f36412988c7c7ee2f619146", func := "bellows/bellowslaw01.WordBack", spec := "wordBack", apart := false }
def WordBackSaid : Prop := wordBackRow.holds Try.pinned (OpenSpec.ofChange wordBackSpec)

/-- ITS FALSE NEIGHBOUR: 'it returns false'. Refute it at one input. -/
def wordBackWrong : ChangeSpec := { name := "wordBack", fn := fun _ => fun
  | [d1, d2, d3] => { results := [.lit (.bool false)], args := [d1, d2, d3] }
  | _ => none }
def WordBackWrongFalsely : Prop := wordBackRow.holds Try.pinned (OpenSpec.ofChange wordBackWrong)

/-- 'bellowslaw01.WordApart': WHATEVER THE INPUT: true; the input reads as it did. -/
def wordApartSpec : ChangeSpec := { name := "wordApart", fn := fun _ => fun
  | [d1, d2] => { results := [.lit (.bool true)], args := [d1, d2] }
  | _ => none }
def wordApartRow : OpenClaim := { program := "ytljkkfcokpimkaa", sum := "56edfc62479c1eaf089a18e3aa75843e0c17a1ca5f36412988c7c7ee2f619146", func := "bellows/bellowslaw01.WordApart", spec := "wordApart", apart := false }
def WordApartSaid : Prop := wordApartRow.holds Try.pinned (OpenSpec.ofChange wordApartSpec)

/-- ITS FALSE NEIGHBOUR: 'it returns false'. Refute it at one input. -/
def wordApartWrong : ChangeSpec := { name := "wordApart", fn := fun _ => fun
  | [d1, d2] => { results := [.lit (.bool false)], args := [d1, d2] }
  | _ => none }
def WordApartWrongFalsely : Prop := wordApartRow.holds Try.pinned (OpenSpec.ofChange wordApartWrong)

/-- 'bellowslaw02.HeapNeeds': WHATEVER THE INPUT: true; the input reads as it did. -/
def heapNeedsSpec : ChangeSpec := { name := "heapNeeds", fn := fun _ => fun
  | [d1, d2, d3] => { results := [.lit (.bool true)], args := [d1, d2, d3] }
  | _ => none }
def heapNeedsRow : OpenClaim := { program := "ytljkkfcokpimkaa", sum := "56edfc62479c1eaf089a18e3aa75843e0c17a1ca5f36412988c7c7ee2f619146", func := "bellows/bellowslaw02.HeapNeeds", spec := "heapNeeds", apart := false }
def HeapNeedsSaid : Prop := heapNeedsRow.holds Try.pinned (OpenSpec.ofChange heapNeedsSpec)

/-- ITS FALSE NEIGHBOUR: 'it returns false'. Refute it at one input. -/
def heapNeedsWrong : ChangeSpec := { name := "heapNeeds", fn := fun _ => fun
  | [d1, d2, d3] => { results := [.lit (.bool false)], args := [d1, d2, d3] }
  | _ => none }
def HeapNeedsWrongFalsely : Prop := heapNeedsRow.holds Try.pinned (OpenSpec.ofChange heapNeedsWrong)

/-- 'bellowslaw02.HeapRoom': WHATEVER THE INPUT: true; the input reads as it did. -/
def heapRoomSpec : ChangeSpec := { name := "heapRoom", fn := fun _ => fun
  | [d1, d2, d3] => { results := [.lit (.bool true)], args := [d1, d2, d3] }
  | _ => none }
def heapRoomRow : OpenClaim := { program := "ytljkkfcokpimkaa", sum := "56edfc62479c1eaf089a18e3aa75843e0c17a1ca5f36412988c7c7ee2f619146", func := "bellows/bellowslaw02.HeapRoom", spec := "heapRoom", apart := false }
def HeapRoomSaid : Prop := heapRoomRow.holds Try.pinned (OpenSpec.ofChange heapRoomSpec)

/-- ITS FALSE NEIGHBOUR: 'it returns false'. Refute it at one input. -/
def heapRoomWrong : ChangeSpec := { name := "heapRoom", fn := fun _ => fun
  | [d1, d2, d3] => { results := [.lit (.bool false)], args := [d1, d2, d3] }
  | _ => none }
def HeapRoomWrongFalsely : Prop := heapRoomRow.holds Try.pinned (OpenSpec.ofChange heapRoomWrong)

/-- 'bellowslaw02.HeapMakes': WHATEVER THE INPUT: true; the input reads as it did. -/
def heapMakesSpec : ChangeSpec := { name := "heapMakes", fn := fun _ => fun
  | [d1, d2] => { results := [.lit (.bool true)], args := [d1, d2] }
  | _ => none }
def heapMakesRow : OpenClaim := { program := "ytljkkfcokpimkaa", sum := "56edfc62479c1eaf089a18e3aa75843e0c17a1ca5f36412988c7c7ee2f619146", func := "bellows/bellowslaw02.HeapMakes", spec := "heapMakes", apart := false }
def HeapMakesSaid : Prop := heapMakesRow.holds Try.pinned (OpenSpec.ofChange heapMakesSpec)

/-- ITS FALSE NEIGHBOUR: 'it returns false'. Refute it at one input. -/
def heapMakesWrong : ChangeSpec := { name := "heapMakes", fn := fun _ => fun
  | [d1, d2] => { results := [.lit (.bool false)], args := [d1, d2] }
  | _ => none }
def HeapMakesWrongFalsely : Prop := heapMakesRow.holds Try.pinned (OpenSpec.ofChange heapMakesWrong)

/-- 'bellowslaw02.HeapBack': WHATEVER THE INPUT: true; the input reads as it did. -/
def heapBackSpec : ChangeSpec := { name := "heapBack", fn := fun _ => fun
  | [d1, d2, d3] => { results := [.lit (.bool true)], args := [d1, d2, d3] }
  | _ => none }
def heapBackRow : OpenClaim := { program := "ytljkkfcokpimkaa", sum := "56edfc62479c1eaf089a18e3aa75843e0c17a1ca5f36412988c7c7ee2f619146", func := "bellows/bellowslaw02.HeapBack", spec := "heapBack", apart := false }
def HeapBackSaid : Prop := heapBackRow.holds Try.pinned (OpenSpec.ofChange heapBackSpec)

/-- ITS FALSE NEIGHBOUR: 'it returns false'. Refute it at one input. -/
def heapBackWrong : ChangeSpec := { name := "heapBack", fn := fun _ => fun
  | [d1, d2, d3] => { results := [.lit (.bool false)], args := [d1, d2, d3] }
  | _ => none }
def HeapBackWrongFalsely : Prop := heapBackRow.holds Try.pinned (OpenSpec.ofChange heapBackWrong)

/-- 'bellowslaw02.HeapTells': WHATEVER THE INPUT: true; the input reads as it did. -/
def heapTellsSpec : ChangeSpec := { name := "heapTells", fn := fun _ => fun
  | [d1, d2, d3] => { results := [.lit (.bool true)], args := [d1, d2, d3] }
  | _ => none }
def heapTellsRow : OpenClaim := { program := "ytljkkfcokpimkaa", sum := "56edfc62479c1eaf089a18e3aa75843e0c17a1ca5f36412988c7c7ee2f619146", func := "bellows/bellowslaw02.HeapTells", spec := "heapTells", apart := false }
def HeapTellsSaid : Prop := heapTellsRow.holds Try.pinned (OpenSpec.ofChange heapTellsSpec)

/-- ITS FALSE NEIGHBOUR: 'it returns false'. Refute it at one input. -/
def heapTellsWrong : ChangeSpec := { name := "heapTells", fn := fun _ => fun
  | [d1, d2, d3] => { results := [.lit (.bool false)], args := [d1, d2, d3] }
  | _ => none }
def HeapTellsWrongFalsely : Prop := heapTellsRow.holds Try.pinned (OpenSpec.ofChange heapTellsWrong)

/-- 'bellowslaw02.HeapDoes': WHATEVER THE INPUT: true; the input reads as it did. -/
def heapDoesSpec : ChangeSpec := { name := "heapDoes", fn := fun _ => fun
  | [d1, d2, d3] => { results := [.lit (.bool true)], args := [d1, d2, d3] }
  | _ => none }
def heapDoesRow : OpenClaim := { program := "ytljkkfcokpimkaa", sum := "56edfc62479c1eaf089a18e3aa75843e0c17a1ca5f36412988c7c7ee2f619146", func := "bellows/bellowslaw02.HeapDoes", spec := "heapDoes", apart := false }
def HeapDoesSaid : Prop := heapDoesRow.holds Try.pinned (OpenSpec.ofChange heapDoesSpec)

/-- ITS FALSE NEIGHBOUR: 'it returns false'. Refute it at one input. -/
def heapDoesWrong : ChangeSpec := { name := "heapDoes", fn := fun _ => fun
  | [d1, d2, d3] => { results := [.lit (.bool false)], args := [d1, d2, d3] }
  | _ => none }
def HeapDoesWrongFalsely : Prop := heapDoesRow.holds Try.pinned (OpenSpec.ofChange heapDoesWrong)

/-- 'bellowslaw02.HeapCloses': WHATEVER THE INPUT: true; the input reads as it did. -/
def heapClosesSpec : ChangeSpec := { name := "heapCloses", fn := fun _ => fun
  | [d] => { results := [.lit (.bool true)], args := [d] }
  | _ => none }
def heapClosesRow : OpenClaim := { program := "ytljkkfcokpimkaa", sum := "56edfc62479c1eaf089a18e3aa75843e0c17a1ca5f36412988c7c7ee2f619146", func := "bellows/bellowslaw02.HeapCloses", spec := "heapCloses", apart := false }
def HeapClosesSaid : Prop := heapClosesRow.holds Try.pinned (OpenSpec.ofChange heapClosesSpec)

/-- ITS FALSE NEIGHBOUR: 'it returns false'. Refute it at one input. -/
def heapClosesWrong : ChangeSpec := { name := "heapCloses", fn := fun _ => fun
  | [d] => { results := [.lit (.bool false)], args := [d] }
  | _ => none }
def HeapClosesWrongFalsely : Prop := heapClosesRow.holds Try.pinned (OpenSpec.ofChange heapClosesWrong)

/-- 'bellowslaw02.HeapAsIs': WHATEVER THE INPUT: true; the input reads as it did. -/
def heapAsIsSpec : ChangeSpec := { name := "heapAsIs", fn := fun _ => fun
  | [d1, d2, d3] => { results := [.lit (.bool true)], args := [d1, d2, d3] }
  | _ => none }
def heapAsIsRow : OpenClaim := { program := "ytljkkfcokpimkaa", sum := "56edfc62479c1eaf089a18e3aa75843e0c17a1ca5f36412988c7c7ee2f619146", func := "bellows/bellowslaw02.HeapAsIs", spec := "heapAsIs", apart := false }
def HeapAsIsSaid : Prop := heapAsIsRow.holds Try.pinned (OpenSpec.ofChange heapAsIsSpec)

/-- ITS FALSE NEIGHBOUR: 'it returns false'. Refute it at one input. -/
def heapAsIsWrong : ChangeSpec := { name := "heapAsIs", fn := fun _ => fun
  | [d1, d2, d3] => { results := [.lit (.bool false)], args := [d1, d2, d3] }
  | _ => none }
def HeapAsIsWrongFalsely : Prop := heapAsIsRow.holds Try.pinned (OpenSpec.ofChange heapAsIsWrong)

/-- 'bellowslaw02.HeapNobody': WHATEVER THE INPUT: true; the input reads as it did. -/
def heapNobodySpec : ChangeSpec := { name := "heapNobody", fn := fun _ => fun
  | [d1, d2, d3] => { results := [.lit (.bool true)], args := [d1, d2, d3] }
  | _ => none }
def heapNobodyRow : OpenClaim := { program := "ytljkkfcokpimkaa", sum := "56edfc62479c1eaf089a18e3aa75843e0c17a1ca5f36412988c7c7ee2f619146", func := "bellows/bellowslaw02.HeapNobody", spec := "heapNobody", apart := false }
def HeapNobodySaid : Prop := heapNobodyRow.holds Try.pinned (OpenSpec.ofChange heapNobodySpec)

/-- ITS FALSE NEIGHBOUR: 'it returns false'. Refute it at one input. -/
def heapNobodyWrong : ChangeSpec := { name := "heapNobody", fn := fun _ => fun
  | [d1, d2, d3] => { results := [.lit (.bool false)], args := [d1, d2, d3] }
  | _ => none }
def HeapNobodyWrongFalsely : Prop := heapNobodyRow.holds Try.pinned (OpenSpec.ofChange heapNobodyWrong)

/-- 'bellowslaw03.GcLong': WHATEVER THE INPUT: true; the input reads as it did. -/
def gcLongSpec : ChangeSpec := { name := "gcLong", fn := fun _ => fun
  | [d1, d2, d3] => { results := [.lit (.bool true)], args := [d1, d2, d3] }
  | _ => none }
def gcLongRow : OpenClaim := { program := "ytljkkfcokpimkaa", sum := "56edfc62479c1eaf089a18e3aa75843e0c17a1ca5f36412988c7c7ee2f619146", func := "bellows/bellowslaw03.GcLong", spec := "gcLong", unfollowed := true, recurses := true, apart := false }
def GcLongSaid : Prop := gcLongRow.holds Try.pinned (OpenSpec.ofChange gcLongSpec)

/-- ITS FALSE NEIGHBOUR: 'it returns false'. Refute it at one input. -/
def gcLongWrong : ChangeSpec := { name := "gcLong", fn := fun _ => fun
  | [d1, d2, d3] => { results := [.lit (.bool false)], args := [d1, d2, d3] }
  | _ => none }
def GcLongWrongFalsely : Prop := gcLongRow.holds Try.pinned (OpenSpec.ofChange gcLongWrong)

/-- 'bellowslaw03.GcNobody': WHATEVER THE INPUT: true; the input reads as it did. -/
def gcNobodySpec : ChangeSpec := { name := "gcNobody", fn := fun _ => fun
  | [d1, d2] => { results := [.lit (.bool true)], args := [d1, d2] }
  | _ => none }
def gcNobodyRow : OpenClaim := { program := "ytljkkfcokpimkaa", sum := "56edfc62479c1eaf089a18e3aa75843e0c17a1ca5f36412988c7c7ee2f619146", func := "bellows/bellowslaw03.GcNobody", spec := "gcNobody", unfollowed := true, recurses := true, apart := false }
def GcNobodySaid : Prop := gcNobodyRow.holds Try.pinned (OpenSpec.ofChange gcNobodySpec)

/-- ITS FALSE NEIGHBOUR: 'it returns false'. Refute it at one input. -/
def gcNobodyWrong : ChangeSpec := { name := "gcNobody", fn := fun _ => fun
  | [d1, d2] => { results := [.lit (.bool false)], args := [d1, d2] }
  | _ => none }
def GcNobodyWrongFalsely : Prop := gcNobodyRow.holds Try.pinned (OpenSpec.ofChange gcNobodyWrong)

/-- 'bellowslaw03.GcCollects': WHATEVER THE INPUT: true; the input reads as it did. -/
def gcCollectsSpec : ChangeSpec := { name := "gcCollects", fn := fun _ => fun
  | [d] => { results := [.lit (.bool true)], args := [d] }
  | _ => none }
def gcCollectsRow : OpenClaim := { program := "ytljkkfcokpimkaa", sum := "56edfc62479c1eaf089a18e3aa75843e0c17a1ca5f36412988c7c7ee2f619146", func := "bellows/bellowslaw03.GcCollects", spec := "gcCollects", unfollowed := true, recurses := true, apart := false }
def GcCollectsSaid : Prop := gcCollectsRow.holds Try.pinned (OpenSpec.ofChange gcCollectsSpec)

/-- ITS FALSE NEIGHBOUR: 'it returns false'. Refute it at one input. -/
def gcCollectsWrong : ChangeSpec := { name := "gcCollects", fn := fun _ => fun
  | [d] => { results := [.lit (.bool false)], args := [d] }
  | _ => none }
def GcCollectsWrongFalsely : Prop := gcCollectsRow.holds Try.pinned (OpenSpec.ofChange gcCollectsWrong)

/-- 'bellowslaw03.GcMarks': WHATEVER THE INPUT: true; the input reads as it did. -/
def gcMarksSpec : ChangeSpec := { name := "gcMarks", fn := fun _ => fun
  | [d] => { results := [.lit (.bool true)], args := [d] }
  | _ => none }
def gcMarksRow : OpenClaim := { program := "ytljkkfcokpimkaa", sum := "56edfc62479c1eaf089a18e3aa75843e0c17a1ca5f36412988c7c7ee2f619146", func := "bellows/bellowslaw03.GcMarks", spec := "gcMarks", unfollowed := true, recurses := true, apart := false }
def GcMarksSaid : Prop := gcMarksRow.holds Try.pinned (OpenSpec.ofChange gcMarksSpec)

/-- ITS FALSE NEIGHBOUR: 'it returns false'. Refute it at one input. -/
def gcMarksWrong : ChangeSpec := { name := "gcMarks", fn := fun _ => fun
  | [d] => { results := [.lit (.bool false)], args := [d] }
  | _ => none }
def GcMarksWrongFalsely : Prop := gcMarksRow.holds Try.pinned (OpenSpec.ofChange gcMarksWrong)

/-- 'bellowslaw03.GcTwice': WHATEVER THE INPUT: true; the input reads as it did. -/
def gcTwiceSpec : ChangeSpec := { name := "gcTwice", fn := fun _ => fun
  | [d] => { results := [.lit (.bool true)], args := [d] }
  | _ => none }
def gcTwiceRow : OpenClaim := { program := "ytljkkfcokpimkaa", sum := "56edfc62479c1eaf089a18e3aa75843e0c17a1ca5f36412988c7c7ee2f619146", func := "bellows/bellowslaw03.GcTwice", spec := "gcTwice", unfollowed := true, recurses := true, apart := false }
def GcTwiceSaid : Prop := gcTwiceRow.holds Try.pinned (OpenSpec.ofChange gcTwiceSpec)

/-- ITS FALSE NEIGHBOUR: 'it returns false'. Refute it at one input. -/
def gcTwiceWrong : ChangeSpec := { name := "gcTwice", fn := fun _ => fun
  | [d] => { results := [.lit (.bool false)], args := [d] }
  | _ => none }
def GcTwiceWrongFalsely : Prop := gcTwiceRow.holds Try.pinned (OpenSpec.ofChange gcTwiceWrong)

/-- 'bellowslaw03.GcOrder': WHATEVER THE INPUT: true; the input reads as it did. -/
def gcOrderSpec : ChangeSpec := { name := "gcOrder", fn := fun _ => fun
  | [d] => { results := [.lit (.bool true)], args := [d] }
  | _ => none }
def gcOrderRow : OpenClaim := { program := "ytljkkfcokpimkaa", sum := "56edfc62479c1eaf089a18e3aa75843e0c17a1ca5f36412988c7c7ee2f619146", func := "bellows/bellowslaw03.GcOrder", spec := "gcOrder", unfollowed := true, recurses := true, apart := false }
def GcOrderSaid : Prop := gcOrderRow.holds Try.pinned (OpenSpec.ofChange gcOrderSpec)

/-- ITS FALSE NEIGHBOUR: 'it returns false'. Refute it at one input. -/
def gcOrderWrong : ChangeSpec := { name := "gcOrder", fn := fun _ => fun
  | [d] => { results := [.lit (.bool false)], args := [d] }
  | _ => none }
def GcOrderWrongFalsely : Prop := gcOrderRow.holds Try.pinned (OpenSpec.ofChange gcOrderWrong)

/-- 'bellowslaw03.GcAll': WHATEVER THE INPUT: true; the input reads as it did. -/
def gcAllSpec : ChangeSpec := { name := "gcAll", fn := fun _ => fun
  | [d] => { results := [.lit (.bool true)], args := [d] }
  | _ => none }
def gcAllRow : OpenClaim := { program := "ytljkkfcokpimkaa", sum := "56edfc62479c1eaf089a18e3aa75843e0c17a1ca5f36412988c7c7ee2f619146", func := "bellows/bellowslaw03.GcAll", spec := "gcAll", unfollowed := true, recurses := true, apart := false }
def GcAllSaid : Prop := gcAllRow.holds Try.pinned (OpenSpec.ofChange gcAllSpec)

/-- ITS FALSE NEIGHBOUR: 'it returns false'. Refute it at one input. -/
def gcAllWrong : ChangeSpec := { name := "gcAll", fn := fun _ => fun
  | [d] => { results := [.lit (.bool false)], args := [d] }
  | _ => none }
def GcAllWrongFalsely : Prop := gcAllRow.holds Try.pinned (OpenSpec.ofChange gcAllWrong)

/-- 'bellowslaw03.GcRoom': WHATEVER THE INPUT: true; the input reads as it did. -/
def gcRoomSpec : ChangeSpec := { name := "gcRoom", fn := fun _ => fun
  | [d1, d2] => { results := [.lit (.bool true)], args := [d1, d2] }
  | _ => none }
def gcRoomRow : OpenClaim := { program := "ytljkkfcokpimkaa", sum := "56edfc62479c1eaf089a18e3aa75843e0c17a1ca5f36412988c7c7ee2f619146", func := "bellows/bellowslaw03.GcRoom", spec := "gcRoom", unfollowed := true, recurses := true, apart := false }
def GcRoomSaid : Prop := gcRoomRow.holds Try.pinned (OpenSpec.ofChange gcRoomSpec)

/-- ITS FALSE NEIGHBOUR: 'it returns false'. Refute it at one input. -/
def gcRoomWrong : ChangeSpec := { name := "gcRoom", fn := fun _ => fun
  | [d1, d2] => { results := [.lit (.bool false)], args := [d1, d2] }
  | _ => none }
def GcRoomWrongFalsely : Prop := gcRoomRow.holds Try.pinned (OpenSpec.ofChange gcRoomWrong)

/-- 'bellowslaw03.GcSame': WHATEVER THE INPUT: true; the input reads as it did. -/
def gcSameSpec : ChangeSpec := { name := "gcSame", fn := fun _ => fun
  | [d] => { results := [.lit (.bool true)], args := [d] }
  | _ => none }
def gcSameRow : OpenClaim := { program := "ytljkkfcokpimkaa", sum := "56edfc62479c1eaf089a18e3aa75843e0c17a1ca5f36412988c7c7ee2f619146", func := "bellows/bellowslaw03.GcSame", spec := "gcSame", unfollowed := true, recurses := true, apart := false }
def GcSameSaid : Prop := gcSameRow.holds Try.pinned (OpenSpec.ofChange gcSameSpec)

/-- ITS FALSE NEIGHBOUR: 'it returns false'. Refute it at one input. -/
def gcSameWrong : ChangeSpec := { name := "gcSame", fn := fun _ => fun
  | [d] => { results := [.lit (.bool false)], args := [d] }
  | _ => none }
def GcSameWrongFalsely : Prop := gcSameRow.holds Try.pinned (OpenSpec.ofChange gcSameWrong)

/- THE SECOND FORM. 'bulk': how many values and letters a reading holds, each counted each time it is reached (what is shared counts as often as it is met; a slice's spare places count too). A statement '..UptoSaid' is the law's where the arguments, and the package variables that the reading takes, are together of bulk at most 1048576: NARROWER than '..Said'. Prove '..Said' where nothing that the law and all that it calls make is longer than what came in: it says more and counts as full. Else prove '..UptoSaid'. A law counts once. -/
mutual
def uptoBulk {H : Type} : DataW H → Nat
  | .lit (.string bytes) => bytes.length + 1
  | .lit _ => 1
  | .nil => 1
  | .ptr d => uptoBulk d + 1
  | .slice elems spare => uptoBulkAll elems + uptoBulkAll spare + 1
  | .agg parts => uptoBulkAll parts + 1
  | .iface _ d => uptoBulk d + 1
  | .map entries => uptoBulkEntries entries + 1
  | .held _ => 1
def uptoBulkAll {H : Type} : List (DataW H) → Nat
  | [] => 0
  | d :: r => uptoBulk d + uptoBulkAll r
def uptoBulkEntries {H : Type} : List (Lit × DataW H) → Nat
  | [] => 0
  | x :: r => uptoBulkEntry x + uptoBulkEntries r
def uptoBulkEntry {H : Type} : Lit × DataW H → Nat
  | (.string bytes, d) => bytes.length + uptoBulk d + 1
  | (_, d) => uptoBulk d + 1
 end
def uptoSmall : (H : Type) → List (DataW H) → Bool := fun _ ds => decide (uptoBulkAll ds ≤ 1048576)
def OpenSpec.upto (s : _root_.Go.ChangeSpec) : _root_.Go.OpenSpec := { _root_.Go.OpenSpec.ofChange s with cond := some uptoSmall }

/-- 'bellowslaw01.WordProducts', WHERE WHAT IT READS IS OF BULK AT MOST 1048576: true; the input reads as it did. -/
def wordProductsUptoRow : OpenClaim := { program := "ytljkkfcokpimkaa", sum := "56edfc62479c1eaf089a18e3aa75843e0c17a1ca5f36412988c7c7ee2f619146", func := "bellows/bellowslaw01.WordProducts", spec := "wordProducts", apart := false, narrowed := true }
def WordProductsUptoSaid : Prop := wordProductsUptoRow.holds Try.pinned (OpenSpec.upto wordProductsSpec)

/-- 'bellowslaw01.WordHeads', WHERE WHAT IT READS IS OF BULK AT MOST 1048576: true; the input reads as it did. -/
def wordHeadsUptoRow : OpenClaim := { program := "ytljkkfcokpimkaa", sum := "56edfc62479c1eaf089a18e3aa75843e0c17a1ca5f36412988c7c7ee2f619146", func := "bellows/bellowslaw01.WordHeads", spec := "wordHeads", apart := false, narrowed := true }
def WordHeadsUptoSaid : Prop := wordHeadsUptoRow.holds Try.pinned (OpenSpec.upto wordHeadsSpec)

/-- 'bellowslaw01.WordRing', WHERE WHAT IT READS IS OF BULK AT MOST 1048576: true; the input reads as it did. -/
def wordRingUptoRow : OpenClaim := { program := "ytljkkfcokpimkaa", sum := "56edfc62479c1eaf089a18e3aa75843e0c17a1ca5f36412988c7c7ee2f619146", func := "bellows/bellowslaw01.WordRing", spec := "wordRing", apart := false, narrowed := true }
def WordRingUptoSaid : Prop := wordRingUptoRow.holds Try.pinned (OpenSpec.upto wordRingSpec)

/-- 'bellowslaw01.WordMarks', WHERE WHAT IT READS IS OF BULK AT MOST 1048576: true; the input reads as it did. -/
def wordMarksUptoRow : OpenClaim := { program := "ytljkkfcokpimkaa", sum := "56edfc62479c1eaf089a18e3aa75843e0c17a1ca5f36412988c7c7ee2f619146", func := "bellows/bellowslaw01.WordMarks", spec := "wordMarks", apart := false, narrowed := true }
def WordMarksUptoSaid : Prop := wordMarksUptoRow.holds Try.pinned (OpenSpec.upto wordMarksSpec)

/-- 'bellowslaw01.WordBytes', WHERE WHAT IT READS IS OF BULK AT MOST 1048576: true; the input reads as it did. -/
def wordBytesUptoRow : OpenClaim := { program := "ytljkkfcokpimkaa", sum := "56edfc62479c1eaf089a18e3aa75843e0c17a1ca5f36412988c7c7ee2f619146", func := "bellows/bellowslaw01.WordBytes", spec := "wordBytes", apart := false, narrowed := true }
def WordBytesUptoSaid : Prop := wordBytesUptoRow.holds Try.pinned (OpenSpec.upto wordBytesSpec)

/-- 'bellowslaw01.WordBack', WHERE WHAT IT READS IS OF BULK AT MOST 1048576: true; the input reads as it did. -/
def wordBackUptoRow : OpenClaim := { program := "ytljkkfcokpimkaa", sum := "56edfc62479c1eaf089a18e3aa75843e0c17a1ca5f36412988c7c7ee2f619146", func := "bellows/bellowslaw01.WordBack", spec := "wordBack", apart := false, narrowed := true }
def WordBackUptoSaid : Prop := wordBackUptoRow.holds Try.pinned (OpenSpec.upto wordBackSpec)

/-- 'bellowslaw01.WordApart', WHERE WHAT IT READS IS OF BULK AT MOST 1048576: true; the input reads as it did. -/
def wordApartUptoRow : OpenClaim := { program := "ytljkkfcokpimkaa", sum := "56edfc62479c1eaf089a18e3aa75843e0c17a1ca5f36412988c7c7ee2f619146", func := "bellows/bellowslaw01.WordApart", spec := "wordApart", apart := false, narrowed := true }
def WordApartUptoSaid : Prop := wordApartUptoRow.holds Try.pinned (OpenSpec.upto wordApartSpec)

/-- 'bellowslaw02.HeapNeeds', WHERE WHAT IT READS IS OF BULK AT MOST 1048576: true; the input reads as it did. -/
def heapNeedsUptoRow : OpenClaim := { program := "ytljkkfcokpimkaa", sum := "56edfc62479c1eaf089a18e3aa75843e0c17a1ca5f36412988c7c7ee2f619146", func := "bellows/bellowslaw02.HeapNeeds", spec := "heapNeeds", apart := false, narrowed := true }
def HeapNeedsUptoSaid : Prop := heapNeedsUptoRow.holds Try.pinned (OpenSpec.upto heapNeedsSpec)

/-- 'bellowslaw02.HeapRoom', WHERE WHAT IT READS IS OF BULK AT MOST 1048576: true; the input reads as it did. -/
def heapRoomUptoRow : OpenClaim := { program := "ytljkkfcokpimkaa", sum := "56edfc62479c1eaf089a18e3aa75843e0c17a1ca5f36412988c7c7ee2f619146", func := "bellows/bellowslaw02.HeapRoom", spec := "heapRoom", apart := false, narrowed := true }
def HeapRoomUptoSaid : Prop := heapRoomUptoRow.holds Try.pinned (OpenSpec.upto heapRoomSpec)

/-- 'bellowslaw02.HeapMakes', WHERE WHAT IT READS IS OF BULK AT MOST 1048576: true; the input reads as it did. -/
def heapMakesUptoRow : OpenClaim := { program := "ytljkkfcokpimkaa", sum := "56edfc62479c1eaf089a18e3aa75843e0c17a1ca5f36412988c7c7ee2f619146", func := "bellows/bellowslaw02.HeapMakes", spec := "heapMakes", apart := false, narrowed := true }
def HeapMakesUptoSaid : Prop := heapMakesUptoRow.holds Try.pinned (OpenSpec.upto heapMakesSpec)

/-- 'bellowslaw02.HeapBack', WHERE WHAT IT READS IS OF BULK AT MOST 1048576: true; the input reads as it did. -/
def heapBackUptoRow : OpenClaim := { program := "ytljkkfcokpimkaa", sum := "56edfc62479c1eaf089a18e3aa75843e0c17a1ca5f36412988c7c7ee2f619146", func := "bellows/bellowslaw02.HeapBack", spec := "heapBack", apart := false, narrowed := true }
def HeapBackUptoSaid : Prop := heapBackUptoRow.holds Try.pinned (OpenSpec.upto heapBackSpec)

/-- 'bellowslaw02.HeapTells', WHERE WHAT IT READS IS OF BULK AT MOST 1048576: true; the input reads as it did. -/
def heapTellsUptoRow : OpenClaim := { program := "ytljkkfcokpimkaa", sum := "56edfc62479c1eaf089a18e3aa75843e0c17a1ca5f36412988c7c7ee2f619146", func := "bellows/bellowslaw02.HeapTells", spec := "heapTells", apart := false, narrowed := true }
def HeapTellsUptoSaid : Prop := heapTellsUptoRow.holds Try.pinned (OpenSpec.upto heapTellsSpec)

/-- 'bellowslaw02.HeapDoes', WHERE WHAT IT READS IS OF BULK AT MOST 1048576: true; the input reads as it did. -/
def heapDoesUptoRow : OpenClaim := { program := "ytljkkfcokpimkaa", sum := "56edfc62479c1eaf089a18e3aa75843e0c17a1ca5f36412988c7c7ee2f619146", func := "bellows/bellowslaw02.HeapDoes", spec := "heapDoes", apart := false, narrowed := true }
def HeapDoesUptoSaid : Prop := heapDoesUptoRow.holds Try.pinned (OpenSpec.upto heapDoesSpec)

/-- 'bellowslaw02.HeapCloses', WHERE WHAT IT READS IS OF BULK AT MOST 1048576: true; the input reads as it did. -/
def heapClosesUptoRow : OpenClaim := { program := "ytljkkfcokpimkaa", sum := "56edfc62479c1eaf089a18e3aa75843e0c17a1ca5f36412988c7c7ee2f619146", func := "bellows/bellowslaw02.HeapCloses", spec := "heapCloses", apart := false, narrowed := true }
def HeapClosesUptoSaid : Prop := heapClosesUptoRow.holds Try.pinned (OpenSpec.upto heapClosesSpec)

/-- 'bellowslaw02.HeapAsIs', WHERE WHAT IT READS IS OF BULK AT MOST 1048576: true; the input reads as it did. -/
def heapAsIsUptoRow : OpenClaim := { program := "ytljkkfcokpimkaa", sum := "56edfc62479c1eaf089a18e3aa75843e0c17a1ca5f36412988c7c7ee2f619146", func := "bellows/bellowslaw02.HeapAsIs", spec := "heapAsIs", apart := false, narrowed := true }
def HeapAsIsUptoSaid : Prop := heapAsIsUptoRow.holds Try.pinned (OpenSpec.upto heapAsIsSpec)

/-- 'bellowslaw02.HeapNobody', WHERE WHAT IT READS IS OF BULK AT MOST 1048576: true; the input reads as it did. -/
def heapNobodyUptoRow : OpenClaim := { program := "ytljkkfcokpimkaa", sum := "56edfc62479c1eaf089a18e3aa75843e0c17a1ca5f36412988c7c7ee2f619146", func := "bellows/bellowslaw02.HeapNobody", spec := "heapNobody", apart := false, narrowed := true }
def HeapNobodyUptoSaid : Prop := heapNobodyUptoRow.holds Try.pinned (OpenSpec.upto heapNobodySpec)

/-- 'bellowslaw03.GcLong', WHERE WHAT IT READS IS OF BULK AT MOST 1048576: true; the input reads as it did. -/
def gcLongUptoRow : OpenClaim := { program := "ytljkkfcokpimkaa", sum := "56edfc62479c1eaf089a18e3aa75843e0c17a1ca5f36412988c7c7ee2f619146", func := "bellows/bellowslaw03.GcLong", spec := "gcLong", unfollowed := true, recurses := true, apart := false, narrowed := true }
def GcLongUptoSaid : Prop := gcLongUptoRow.holds Try.pinned (OpenSpec.upto gcLongSpec)

/-- 'bellowslaw03.GcNobody', WHERE WHAT IT READS IS OF BULK AT MOST 1048576: true; the input reads as it did. -/
def gcNobodyUptoRow : OpenClaim := { program := "ytljkkfcokpimkaa", sum := "56edfc62479c1eaf089a18e3aa75843e0c17a1ca5f36412988c7c7ee2f619146", func := "bellows/bellowslaw03.GcNobody", spec := "gcNobody", unfollowed := true, recurses := true, apart := false, narrowed := true }
def GcNobodyUptoSaid : Prop := gcNobodyUptoRow.holds Try.pinned (OpenSpec.upto gcNobodySpec)

/-- 'bellowslaw03.GcCollects', WHERE WHAT IT READS IS OF BULK AT MOST 1048576: true; the input reads as it did. -/
def gcCollectsUptoRow : OpenClaim := { program := "ytljkkfcokpimkaa", sum := "56edfc62479c1eaf089a18e3aa75843e0c17a1ca5f36412988c7c7ee2f619146", func := "bellows/bellowslaw03.GcCollects", spec := "gcCollects", unfollowed := true, recurses := true, apart := false, narrowed := true }
def GcCollectsUptoSaid : Prop := gcCollectsUptoRow.holds Try.pinned (OpenSpec.upto gcCollectsSpec)

/-- 'bellowslaw03.GcMarks', WHERE WHAT IT READS IS OF BULK AT MOST 1048576: true; the input reads as it did. -/
def gcMarksUptoRow : OpenClaim := { program := "ytljkkfcokpimkaa", sum := "56edfc62479c1eaf089a18e3aa75843e0c17a1ca5f36412988c7c7ee2f619146", func := "bellows/bellowslaw03.GcMarks", spec := "gcMarks", unfollowed := true, recurses := true, apart := false, narrowed := true }
def GcMarksUptoSaid : Prop := gcMarksUptoRow.holds Try.pinned (OpenSpec.upto gcMarksSpec)

/-- 'bellowslaw03.GcTwice', WHERE WHAT IT READS IS OF BULK AT MOST 1048576: true; the input reads as it did. -/
def gcTwiceUptoRow : OpenClaim := { program := "ytljkkfcokpimkaa", sum := "56edfc62479c1eaf089a18e3aa75843e0c17a1ca5f36412988c7c7ee2f619146", func := "bellows/bellowslaw03.GcTwice", spec := "gcTwice", unfollowed := true, recurses := true, apart := false, narrowed := true }
def GcTwiceUptoSaid : Prop := gcTwiceUptoRow.holds Try.pinned (OpenSpec.upto gcTwiceSpec)

/-- 'bellowslaw03.GcOrder', WHERE WHAT IT READS IS OF BULK AT MOST 1048576: true; the input reads as it did. -/
def gcOrderUptoRow : OpenClaim := { program := "ytljkkfcokpimkaa", sum := "56edfc62479c1eaf089a18e3aa75843e0c17a1ca5f36412988c7c7ee2f619146", func := "bellows/bellowslaw03.GcOrder", spec := "gcOrder", unfollowed := true, recurses := true, apart := false, narrowed := true }
def GcOrderUptoSaid : Prop := gcOrderUptoRow.holds Try.pinned (OpenSpec.upto gcOrderSpec)

/-- 'bellowslaw03.GcAll', WHERE WHAT IT READS IS OF BULK AT MOST 1048576: true; the input reads as it did. -/
def gcAllUptoRow : OpenClaim := { program := "ytljkkfcokpimkaa", sum := "56edfc62479c1eaf089a18e3aa75843e0c17a1ca5f36412988c7c7ee2f619146", func := "bellows/bellowslaw03.GcAll", spec := "gcAll", unfollowed := true, recurses := true, apart := false, narrowed := true }
def GcAllUptoSaid : Prop := gcAllUptoRow.holds Try.pinned (OpenSpec.upto gcAllSpec)

/-- 'bellowslaw03.GcRoom', WHERE WHAT IT READS IS OF BULK AT MOST 1048576: true; the input reads as it did. -/
def gcRoomUptoRow : OpenClaim := { program := "ytljkkfcokpimkaa", sum := "56edfc62479c1eaf089a18e3aa75843e0c17a1ca5f36412988c7c7ee2f619146", func := "bellows/bellowslaw03.GcRoom", spec := "gcRoom", unfollowed := true, recurses := true, apart := false, narrowed := true }
def GcRoomUptoSaid : Prop := gcRoomUptoRow.holds Try.pinned (OpenSpec.upto gcRoomSpec)

/-- 'bellowslaw03.GcSame', WHERE WHAT IT READS IS OF BULK AT MOST 1048576: true; the input reads as it did. -/
def gcSameUptoRow : OpenClaim := { program := "ytljkkfcokpimkaa", sum := "56edfc62479c1eaf089a18e3aa75843e0c17a1ca5f36412988c7c7ee2f619146", func := "bellows/bellowslaw03.GcSame", spec := "gcSame", unfollowed := true, recurses := true, apart := false, narrowed := true }
def GcSameUptoSaid : Prop := gcSameUptoRow.holds Try.pinned (OpenSpec.upto gcSameSpec)

end Rows
end Go.Proofs.Ytljkkfcokpimkaa
