/- A law of bools and numbers, told by runs from empty memory. -/
import Derived.Test.YtdljelicbnjfjaaGreatYe
import Derived.Test.YtdljelicbnjfjaaGreatXk
set_option linter.unusedVariables false
namespace Go.Proofs.YtdljelicbnjfjaaGreat.X
open Go Go.RowKit

/-- Bools and numbers: they read the same whatever memory is. -/
def scal : List AV → Bool
  | [] => true
  | .int .. :: l => scal l
  | .bool _ :: l => scal l
  | _ :: _ => false
theorem scal_VRL {ρ ρ' : Map} : ∀ {l : List AV} {vs : List Value}, scal l = true → VRL ρ l vs → VRL ρ' l vs
  | [], vs, _, h => by simpa [VRL] using h
  | x :: l, vs, hs, h => by
    simp only [VRL] at h ⊢
    obtain ⟨y, ys, rfl, h1, h2⟩ := h
    cases x <;> simp only [scal, Bool.false_eq_true] at hs
    · exact ⟨y, ys, rfl, by simpa [VR] using h1, scal_VRL hs h2⟩
    · exact ⟨y, ys, rfl, by simpa [VR] using h1, scal_VRL hs h2⟩
section
variable {P : Program} {w : World} {H' : Type} {enc : TypeId × Value → H'} {pv : Value}
theorem live_of {S : Sp} {tab : Nat → Option IFun} (htab : ∀ f i, tab f = some i → okFun P f i = true) (hmix : P.follows .mixedOrders = true) (hm : MustOk P pv S.must) (hh : HoldOk P pv S.hold S.okTy) (hl : KnownOk P S)
    {f k : Nat} {m' : Mem} (h : (evGG S tab k).1 f [] Mem.empty = some (.bool true, m')) : LiveOk P f := by
  refine ⟨((evGG_sound (base := 0) htab hmix hm hh hl k).1 _ _ _ _ _ h).1, fun base ρ m w hmr => ?_⟩
  have h2 := ((evGG_sound (base := w.heap.size) htab hmix hm hh hl k).1 _ _ _ _ _ h).2 (fun _ => none) w [] VRL.nil' (MR_none P w)
  refine Calls.mono h2 ?_
  rintro e w' ⟨ρ', u, _, rfl, hv, _, hb⟩
  simp only [VR] at hv
  subst hv
  refine ⟨rfl, ?_, hb.mono hmr.low⟩
  exact ⟨fun b o ho => let ⟨h1, r, h2, h3⟩ := hmr.dom b o ho; ⟨h1, r, h2, by
    cases o with
    | dead => trivial
    | live cs e own =>
      have h' := h3
      obtain ⟨carr, e', fr, q1, _⟩ := h'
      exact OR.same (hb.block r.cb (Array.getElem?_eq_some_iff.1 q1).1) h3⟩, hmr.used, Nat.le_trans hmr.low hb.size, hmr.inj⟩
theorem law_ev {S : Sp} {tab : Nat → Option IFun} (htab : ∀ f i, tab f = some i → okFun P f i = true) (hmix : P.follows .mixedOrders = true) (hm : MustOk P pv S.must) (hh : HoldOk P pv S.hold S.okTy) (hl : KnownOk P S)
    {f : Nat} {ts : List TypeId} (ss : List Sh) (hok : okTs P ts ss = true) (contract : ∀ m ls, SitsA reachBytes m ss ls → scal (argsOf ss ls) = true ∧ ∃ k m', (evGG S tab k).1 f (argsOf ss ls) Mem.empty = some (.bool true, m'))
    {r : Reach} {b : Nat} {args : Array Value} {ds : List (DataW H')} {p : List MemPlace}
    (hsz : (DataW.weightsEach P ts ds).all (· ≤ reachBytes) = true) (hA : DataW.TrodAll enc P w 0 (fun _ => true) true ts args.toList ds p) (hval : ∀ (j : Nat) t v, ts[j]? = some t → args.toList[j]? = some v → Value.okWide P w r b t v) :
    Calls P f args w fun e W' => e = .returned (.bool true) ∧ Below w.heap.size w W' := by
  obtain ⟨ρ, m, ls, _, g2, _, g4, g5⟩ := args_laid (base := w.heap.size) ts ss args.toList ds p hok (fun k hk => of_decide_eq_true (List.all_eq_true.1 hsz k hk)) hA hval _ _ (MR_none P w) (fun b cs e own h => by unfold Mem.get T.get at h; cases h)
  obtain ⟨hs, k, m', h1⟩ := contract m ls g5
  have h2 := ((evGG_sound (base := w.heap.size) htab hmix hm hh hl k).1 _ _ _ _ _ h1).2 (fun _ => none) w args.toList (scal_VRL hs g4) (MR_none P w)
  simp only [Array.toArray_toList] at h2
  refine h2.mono ?_
  rintro e w' ⟨ρ', u, _, rfl, hv, _, hb⟩
  simp only [VR] at hv
  subst hv
  exact ⟨rfl, hb⟩
end
theorem evGG_fun {S : Sp} {tab : Nat → Option IFun} {k f : Nat} {fn : IFun} (h1 : Nat.beq f S.must = false) (h2 : Nat.beq f S.hold = false) (h3 : S.knows f = false) (ht : tab f = some fn) (args : List AV) (m : Mem) : (evGG S tab (k + 1)).1 f args m = evFun (evGG S tab k).1 k fn args m := by
  have ne : ∀ {a b : Nat}, Nat.beq a b = false → ¬ a = b := fun h e => by subst e; rw [Nat.beq_refl] at h; cases h
  simp only [evGG]
  rw [if_neg (ne h1), if_neg (ne h2), if_neg (by rw [h3]; decide), ht]
theorem sitsA_cons {bd : Nat} {m : Mem} {s : Sh} {ss : List Sh} {ls : List (List AV)} (hl : SitsA bd m (s :: ss) ls) : ∃ l ls', ls = l :: ls' ∧ Sits bd m s l ∧ SitsA bd m ss ls' := by
  cases ls with
  | nil => exact hl.elim
  | cons l ls => exact ⟨l, ls, rfl, hl.1, hl.2⟩
theorem sitsA_nil {bd : Nat} {m : Mem} {ls : List (List AV)} (hl : SitsA bd m [] ls) : ls = [] := by
  cases ls with
  | nil => rfl
  | cons l ls => exact hl.elim
theorem sits_bool {bd : Nat} {m : Mem} {l : List AV} (hl : Sits bd m .bool l) : ∃ b, l = [.bool b] := by simpa only [Sits] using hl
theorem sits_int {bd : Nat} {m : Mem} {k : IntKind} {l : List AV} (hl : Sits bd m (.int k) l) : ∃ n, l = [.int k n] ∧ (Lit.int k n).wf = true := by simpa only [Sits] using hl
theorem gives_some {r : Option (AV × Mem)} {v : AV} (h : gives r v = true) : ∃ m', r = some (v, m') := by
  unfold gives at h
  split at h
  · rename_i u m' 
    exact ⟨m', by rw [AV.same_eq _ _ h]⟩
  · cases h
end Go.Proofs.YtdljelicbnjfjaaGreat.X
