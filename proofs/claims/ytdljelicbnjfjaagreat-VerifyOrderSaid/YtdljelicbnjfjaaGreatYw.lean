/- A law that is told by what must hold ahead of a run that may panic. -/
import Derived.Test.YtdljelicbnjfjaaGreatYe
import Derived.Test.YtdljelicbnjfjaaGreatYv
set_option linter.unusedVariables false
namespace Go.Proofs.YtdljelicbnjfjaaGreat.X
open Go Go.RowKit
section
variable {P : Program} {w : World} {H' : Type} {enc : TypeId × Value → H'} {pv : Value}
theorem law_callB {bd : Nat} (hbd : bd ≤ reachBytes) {S : Sp} {tab : Nat → Option IFun} (htab : ∀ f i, tab f = some i → okFun P f i = true) (hmix : P.follows .mixedOrders = true) (hm : MustOk P pv S.must) (hh : HoldOk P pv S.hold S.okTy) (hl : KnownOk P S)
    {f : Nat} {ts : List TypeId} (ss : List Sh) (hok : okTs P ts ss = true) (contract : ∀ h ls, LiesA h ss ls → Short bd ls → callB S tab never f (argsOf ss ls) h yes) {r : Reach} {b : Nat} {args : Array Value} {ds : List (DataW H')} {p : List MemPlace}
    (hsz : ∀ k ∈ DataW.weightsEach P ts ds, k ≤ bd) (hA : DataW.TrodAll enc P w 0 (fun _ => true) true ts args.toList ds p) (hval : ∀ (j : Nat) t v, ts[j]? = some t → args.toList[j]? = some v → Value.okWide P w r b t v) :
    Calls P f args w fun e W' => e = .returned (.bool true) ∧ Below w.heap.size w W' := by
  obtain ⟨ρ, m, ls, _, g2, _, g4, g5⟩ := args_laid (base := w.heap.size) ts ss args.toList ds p hok hsz hA hval _ _ (MR_none P w) (fun b cs e own h => by unfold Mem.get T.get at h; cases h)
  have hok : m.ok := fun b hb => by
    cases hg : m.get b with
    | none => rfl
    | some o => have := (g2.dom b o hg).1; omega
  obtain ⟨k, ⟨v, m', h', h1, _, _, rfl⟩ | ⟨_, _, _, _, _, x⟩⟩ := contract ⟨m.get, m.next, hok⟩ ls (SitsA.lies hbd (fun _ => rfl) ss ls g5) (SitsA.short ss ls g5) m ⟨hok, fun _ => rfl⟩
  · have h2 := ((evGG_sound (base := w.heap.size) htab hmix hm hh hl k).1 _ _ _ _ _ h1).2 ρ w args.toList g4 g2
    simp only [Array.toArray_toList] at h2
    refine h2.mono ?_
    rintro e w' ⟨ρ', u, _, rfl, hv, _, hb⟩
    simp only [VR] at hv
    subst hv
    exact ⟨rfl, hb⟩
  · exact x.elim
theorem law_callF {S : Sp} {tab : Nat → Option IFun} (htab : ∀ f i, tab f = some i → okFun P f i = true) (hmix : P.follows .mixedOrders = true) (hm : MustOk P pv S.must) (hh : HoldOk P pv S.hold S.okTy) (hl : KnownOk P S)
    {f : Nat} {ts : List TypeId} (ss : List Sh) (hok : okTs P ts ss = true) (contract : ∀ h ls, LiesA h ss ls → callB S tab never f (argsOf ss ls) h yes) {r : Reach} {b : Nat} {args : Array Value} {ds : List (DataW H')} {p : List MemPlace}
    (hsz : (DataW.weightsEach P ts ds).all (· ≤ reachBytes) = true) (hA : DataW.TrodAll enc P w 0 (fun _ => true) true ts args.toList ds p) (hval : ∀ (j : Nat) t v, ts[j]? = some t → args.toList[j]? = some v → Value.okWide P w r b t v) :
    Calls P f args w fun e W' => e = .returned (.bool true) ∧ Below w.heap.size w W' :=
  law_callB (Nat.le_refl _) htab hmix hm hh hl ss hok (fun h ls hl _ => contract h ls hl) (fun k hk => of_decide_eq_true (List.all_eq_true.1 hsz k hk)) hA hval
end
end Go.Proofs.YtdljelicbnjfjaaGreat.X
