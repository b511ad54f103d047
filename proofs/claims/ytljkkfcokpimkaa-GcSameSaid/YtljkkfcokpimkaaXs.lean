/- Steps of the plain machine by simp. -/
import Derived.Test.YtljkkfcokpimkaaXj
namespace Go.Proofs.Ytljkkfcokpimkaa.X
open Go

theorem evF_some {P : Nat → Option IFun} {f : Nat} {fn : IFun} (h : P f = some fn) (k : Nat) (args : List AV) (m : Mem) :
    evF P (k + 1) f args m = match evC (evF P k) k fn.body ⟨args ++ List.replicate (fn.ntmps - args.length) .undef, m⟩ with
      | some (.norm, s) | some (.ret, s) => match resAll s.tm s.m fn.results with | some vs => some (pack vs, s.m) | none => none
      | _ => none := by
  simp only [evF, h]
  rcases evC (evF P k) k fn.body ⟨args ++ List.replicate (fn.ntmps - args.length) .undef, m⟩ with _ | ⟨_ | _ | _, s⟩ <;> rfl
theorem m_add0 (m : Mem) : (⟨m.next + 0, m.t⟩ : Mem) = m := rfl
theorem set0 (x v : AV) (l : List AV) : (x :: l).set 0 v = v :: l := rfl
theorem setS (x v : AV) (l : List AV) (n : Nat) : (x :: l).set (n + 1) v = x :: l.set n v := rfl
theorem get0 (x : AV) (l : List AV) : (x :: l).getD 0 .undef = x := rfl
theorem getS (x : AV) (l : List AV) (n : Nat) : (x :: l).getD (n + 1) .undef = l.getD n .undef := rfl
theorem rep0 (v : AV) : List.replicate 0 v = [] := rfl
theorem repS (v : AV) (n : Nat) : List.replicate (n + 1) v = v :: List.replicate n v := rfl

theorem evS_nil (call : CallF) (b : Nat) (s : St) : evSteps call b [] s = some s := rfl
theorem evS_go {call : CallF} {b : Nat} {d : Option Nat} {op : IOp} {r : List Step} {s : St} {v : AV} {m' : Mem} (h : evOp call b s.tm s.m op = some (v, m')) :
    evSteps call b (⟨d, none, op, []⟩ :: r) s = evSteps call b r ⟨put s.tm d v, m'⟩ := by
  simp only [evSteps, wants, if_true, h, List.all_nil]
end Go.Proofs.Ytljkkfcokpimkaa.X
