/- The plain machine with panics: a run that panics, what catches it; a run of both. -/
import Derived.Test.YtdljelicbnjfjaaGreatXj
set_option linter.unusedVariables false
namespace Go.Proofs.YtdljelicbnjfjaaGreat.X
open Go Go.RowKit

abbrev CallP := Nat → List AV → Mem → Option Mem
/-- Where a region panics: how many steps are left behind that one, and memory. -/
def panAt (call : CallF) (callP : CallP) (base : Nat) : List Step → St → Option (Nat × Mem)
  | [], _ => none
  | i :: r, s =>
    if wants s.tm i.guard then
      match evOp call base s.tm s.m i.op with
      | some (v, m') => if i.chk.all (chkOk base s.tm m') then panAt call callP base r ⟨put s.tm i.dst v, m'⟩ else none
      | none => match i.op with
        | .call f args => match callP f (args.map (·.eval s.tm)) s.m with | some m' => some (r.length, m') | none => none
        | _ => none
    else panAt call callP base r ⟨put s.tm i.dst .undef, s.m⟩
/-- All that comes behind needs what panics. -/
def lateOk (pi : List Nat) (anc : List (List Nat)) (n l : Nat) : Bool :=
  match pi.drop (n - l - 1) with
  | x :: post => post.all fun y => (ancOf anc y).contains x
  | [] => true
def loopNP (body : St → Option (Ex × St)) (bodyP : St → Option Mem) : Nat → St → Option Mem
  | 0, _ => none
  | k + 1, s => match body s with
    | some (.norm, s') => loopNP body bodyP k s'
    | some _ => none
    | none => bodyP s
def evCP (call : CallF) (callP : CallP) (k : Nat) : ICode → St → Option Mem
  | .reg n pi anc ops, s => match panAt call callP s.m.next ops ⟨s.tm, ⟨s.m.next + n, s.m.t⟩⟩ with
    | some (l, m') => if lateOk pi anc ops.length l then some m' else none
    | none => none
  | .seq a b, s => match evC call k a s with
    | some (.norm, s') => evCP call callP k b s'
    | some _ => none
    | none => evCP call callP k a s
  | .cond c a b, s => match c.eval s.tm with
    | .bool true => evCP call callP k a s
    | .bool false => evCP call callP k b s
    | _ => none
  | .block _ c, s => evCP call callP k c s
  | .loop c, s => loopNP (evC call k c) (evCP call callP k c) k s
  | _, _ => none
/-- Which functions panic and catch. -/
structure Sp where
  must : Nat
  hold : Nat
  okTy : Nat
  live : Option Nat
  sort : Option Nat
/-- What is known to return true. -/
def Sp.isLive (S : Sp) (f : Nat) : Bool := match S.live with | some l => Nat.beq f l | none => false
def Sp.isSort (S : Sp) (f : Nat) : Bool := match S.sort with | some l => Nat.beq f l | none => false
def Sp.knows (S : Sp) (f : Nat) : Bool := cond (S.isLive f) true (S.isSort f)
def inFun (fn : IFun) (args : List AV) (m : Mem) : St := ⟨args ++ List.replicate (fn.ntmps - args.length) .undef, m⟩
def evFun (call : CallF) (k : Nat) (fn : IFun) (args : List AV) (m : Mem) : Option (AV × Mem) :=
  match evC call k fn.body (inFun fn args m) with
  | some (.norm, s) | some (.ret, s) => match resAll s.tm s.m fn.results with | some vs => some (pack vs, s.m) | none => none
  | _ => none
def evHold (call : CallF) (callP : CallP) (ty : Nat) (args : List AV) (m : Mem) : Option (AV × Mem) :=
  match args with
  | [.fn g first cap] => match m.new none [.bool false] ty with
    | some (b, m1) => match call g (first ++ cap) m1 with
      | some (_, m2) => match m2.write b 0 [.bool true] with | some m3 => some (.bool true, m3) | none => none
      | none => match callP g (first ++ cap) m1 with
        | some m2 => match m2.write b 0 [.bool false] with | some m3 => some (.bool false, m3) | none => none
        | none => none
    | none => none
  | _ => none
def evMust (args : List AV) (m : Mem) : Option (AV × Mem) := match args with | [.bool true] => some (.tup [], m) | _ => none
/-- What is known to return true, whatever memory is. -/
def evLive (args : List AV) (m : Mem) : Option (AV × Mem) := match args with | [] => some (.bool true, m) | _ => none
/-- Numbers. -/
def intsOf : List AV → Option (List Int)
  | [] => some []
  | .int .i64 n :: l => match intsOf l with | some r => some (n :: r) | none => none
  | _ :: _ => none
def sorted (zs : List Int) : List Int := zs.mergeSort fun x y => decide (x ≤ y)
/-- What is known to sort. -/
def evSort (args : List AV) (m : Mem) : Option (AV × Mem) := match args with
  | [.nilsl] => some (.tup [], m)
  | [.sl b off len _] => if len = 0 then some (.tup [], m) else if len < 4611686018427387904 then match m.read b off len with
    | some cs => match intsOf cs with
      | some zs => match m.write b off ((sorted zs).map fun n => .int .i64 n) with | some m' => some (.tup [], m') | none => none
      | none => none
    | none => none
    else none
  | _ => none
def evKnown (S : Sp) (f : Nat) (args : List AV) (m : Mem) : Option (AV × Mem) := cond (S.isLive f) (evLive args m) (evSort args m)
def evMustP (args : List AV) (m : Mem) : Option Mem := match args with | [.bool false] => some m | _ => none
def evGG (S : Sp) (tab : Nat → Option IFun) : Nat → CallF × CallP
  | 0 => (fun _ _ _ => none, fun _ _ _ => none)
  | k + 1 =>
    (fun f args m => if f = S.must then evMust args m else if f = S.hold then evHold (evGG S tab k).1 (evGG S tab k).2 S.okTy args m else if S.knows f = true then evKnown S f args m else
      match tab f with | some fn => evFun (evGG S tab k).1 k fn args m | none => none,
     fun f args m => if f = S.must then evMustP args m else if f = S.hold then none else if S.knows f = true then none else
      match tab f with | some fn => evCP (evGG S tab k).1 (evGG S tab k).2 k fn.body (inFun fn args m) | none => none)
def Mem.empty : Mem := ⟨0, .nil⟩
def gives (r : Option (AV × Mem)) (v : AV) : Bool := match r with | some (u, _) => AV.same u v | none => false
end Go.Proofs.YtdljelicbnjfjaaGreat.X
