/- What must hold ahead of a run that may panic: runs with more fuel; a call that may panic; that what must hold is enough. -/
import Derived.Test.YtdljelicbnjfjaaGreatYb
import Derived.Test.YtdljelicbnjfjaaGreatXp
set_option linter.unusedVariables false
set_option linter.unusedSimpArgs false
namespace Go.Proofs.YtdljelicbnjfjaaGreat.X
open Go Go.RowKit

/-! ### More fuel -/
def CallPLe (c c' : CallP) : Prop := ∀ f a m r, c f a m = some r → c' f a m = some r
section
variable {call call' : CallF} {callP callP' : CallP}
theorem panAt_le (h : CallLe call call') (hp : CallPLe callP callP') (hx : Excl call' callP') {b : Nat} : ∀ (l : List Step) (s : St) (r : Nat × Mem), panAt call callP b l s = some r → panAt call' callP' b l s = some r
  | [], s, r, he => by simp [panAt] at he
  | i :: l, s, r, he => by
    simp only [panAt] at he ⊢
    split at he
    · rename_i hw
      rw [if_pos hw]
      split at he
      · rename_i v m' hv
        rw [evOp_le h hv]
        simp only
        split at he
        · rename_i hc
          rw [if_pos hc]
          exact panAt_le h hp hx l _ _ he
        · cases he
      · split at he
        · rename_i f args hop
          split at he
          · rename_i m2 hc
            have hc' := hp _ _ _ _ hc
            have hn : evOp call' b s.tm s.m i.op = none := by
              rw [hop]
              show call' f (args.map (·.eval s.tm)) s.m = none
              exact hx _ _ _ _ hc'
            rw [hn]
            simp only [hc']
            exact he
          · cases he
        · cases he
    · rename_i hw
      rw [if_neg hw]
      exact panAt_le h hp hx l _ _ he
theorem loopNP_le {f g : St → Option (Ex × St)} {fp gp : St → Option Mem} (h : ∀ s r, f s = some r → g s = some r) (hp : ∀ s r, fp s = some r → gp s = some r) (hx : ∀ s r, gp s = some r → g s = none) : ∀ {k k' : Nat} {s : St} {r : Mem}, k ≤ k' → loopNP f fp k s = some r → loopNP g gp k' s = some r
  | 0, _, _, _, _, he => by simp [loopNP] at he
  | k + 1, 0, _, _, hk, _ => by omega
  | k + 1, k' + 1, s, r, hk, he => by
    simp only [loopNP] at he ⊢
    split at he
    · rename_i s1 h1
      rw [h _ _ h1]
      exact loopNP_le h hp hx (by omega) he
    · cases he
    · have := hp _ _ he
      rw [hx _ _ this]
      exact this
theorem evCP_le (h : CallLe call call') (hp : CallPLe callP callP') (hx : Excl call' callP') {k k' : Nat} (hk : k ≤ k') : ∀ {c : ICode} {s : St} {r : Mem}, evCP call callP k c s = some r → evCP call' callP' k' c s = some r
  | .skip, _, _, he => by simp [evCP] at he
  | .exit _, _, _, he => by simp [evCP] at he
  | .ret, _, _, he => by simp [evCP] at he
  | .reg n _ _ ops, s, r, he => by
    simp only [evCP] at he ⊢
    split at he
    · rename_i l m' hs
      rw [panAt_le h hp hx _ _ _ hs]
      exact he
    · cases he
  | .seq a b, s, r, he => by
    simp only [evCP] at he ⊢
    split at he
    · rename_i s1 h1
      rw [evC_le h hk h1]
      exact evCP_le h hp hx hk he
    · cases he
    · have := evCP_le h hp hx hk he
      rw [evCP_excl _ _ _ this]
      exact this
  | .cond x a b, s, r, he => by
    simp only [evCP] at he ⊢
    split at he
    · exact evCP_le h hp hx hk he
    · exact evCP_le h hp hx hk he
    · cases he
  | .block id b, s, r, he => by
    simp only [evCP] at he ⊢
    exact evCP_le h hp hx hk he
  | .loop b, s, r, he => by
    simp only [evCP] at he ⊢
    exact loopNP_le (fun s r h' => evC_le h hk h') (fun s r h' => evCP_le h hp hx hk h') (fun s r h' => evCP_excl _ _ _ h') hk he
theorem evFun_le (h : CallLe call call') {k k' : Nat} (hk : k ≤ k') {fn : IFun} {args : List AV} {m : Mem} {r : AV × Mem} (he : evFun call k fn args m = some r) : evFun call' k' fn args m = some r := by
  unfold evFun at he ⊢
  cases hc : evC call k fn.body (inFun fn args m) with
  | none => simp [hc] at he
  | some x => rw [evC_le h hk hc]; rw [hc] at he; exact he
theorem evHold_le (h : CallLe call call') (hp : CallPLe callP callP') (hx : Excl call' callP') {ty : Nat} {args : List AV} {m : Mem} {r : AV × Mem} (he : evHold call callP ty args m = some r) : evHold call' callP' ty args m = some r := by
  unfold evHold at he ⊢
  split at he
  · split at he
    · rename_i b m1 hn
      split at he
      · rename_i v m2 hc
        rw [h _ _ _ _ hc]
        exact he
      · split at he
        · rename_i m2 hc
          have := hp _ _ _ _ hc
          rw [hx _ _ _ _ this]
          simp only [this]
          exact he
        · cases he
    · cases he
  · cases he
end
theorem evGG_le (S : Sp) (tab : Nat → Option IFun) : ∀ {k k' : Nat}, k ≤ k' → CallLe (evGG S tab k).1 (evGG S tab k').1 ∧ CallPLe (evGG S tab k).2 (evGG S tab k').2
  | 0, _, _ => ⟨fun f a m r h => by simp [evGG] at h, fun f a m r h => by simp [evGG] at h⟩
  | k + 1, 0, hk => by omega
  | k + 1, k' + 1, hk => by
    obtain ⟨i1, i2⟩ := evGG_le S tab (k := k) (k' := k') (by omega)
    have ix := evGG_excl S tab k'
    refine ⟨fun f a m r h => ?_, fun f a m r h => ?_⟩
    · simp only [evGG] at h ⊢
      by_cases h1 : f = S.must
      · rw [if_pos h1] at h ⊢; exact h
      rw [if_neg h1] at h ⊢
      by_cases h2 : f = S.hold
      · rw [if_pos h2] at h ⊢; exact evHold_le i1 i2 ix h
      rw [if_neg h2] at h ⊢
      by_cases h3 : S.knows f = true
      · rw [if_pos h3] at h ⊢; exact h
      rw [if_neg h3] at h ⊢
      cases hf : tab f with
      | none => simp [hf] at h
      | some fn =>
        simp only [hf] at h ⊢
        exact evFun_le i1 (by omega) h
    · simp only [evGG] at h ⊢
      by_cases h1 : f = S.must
      · rw [if_pos h1] at h ⊢; exact h
      rw [if_neg h1] at h ⊢
      by_cases h2 : f = S.hold
      · rw [if_pos h2] at h; cases h
      rw [if_neg h2] at h ⊢
      by_cases h3 : S.knows f = true
      · rw [if_pos h3] at h; cases h
      rw [if_neg h3] at h ⊢
      cases hf : tab f with
      | none => simp [hf] at h
      | some fn =>
        simp only [hf] at h ⊢
        exact evCP_le i1 i2 ix (by omega) h
/-- What runs without the special functions runs with them. -/
theorem evF_GG {S : Sp} {tab : Nat → Option IFun} (hm : tab S.must = none) (hh : tab S.hold = none) (hk : ∀ f, S.knows f = true → tab f = none) : ∀ k, CallLe (evF tab k) (evGG S tab k).1
  | 0 => fun f a m r h => by simp [evF] at h
  | k + 1 => fun f a m r h => by
    have ih := evF_GG hm hh hk k
    cases hf : tab f with
    | none => simp [evF, hf] at h
    | some fn =>
      rw [evF_some hf] at h
      have h1 : f ≠ S.must := fun e => by rw [e, hm] at hf; cases hf
      have h2 : f ≠ S.hold := fun e => by rw [e, hh] at hf; cases hf
      have h3 : S.knows f ≠ true := fun e => by rw [hk f e] at hf; cases hf
      simp only [evGG, if_neg h1, if_neg h2, if_neg h3, hf]
      unfold evFun inFun
      cases hc : evC (evF tab k) k fn.body ⟨a ++ List.replicate (fn.ntmps - a.length) .undef, m⟩ with
      | none => simp [hc] at h
      | some x =>
        rw [evC_le ih (Nat.le_refl _) hc]
        rw [hc] at h
        exact h

/-! ### A call that may panic -/
def EndsP (o : Option Mem) (m : Mem) (K : H → Prop) : Prop := ∃ m' h', o = some m' ∧ Rep m' h' ∧ Keep nobody m m' ∧ K h'
def never : H → Prop := fun _ => False
def callB (S : Sp) (tab : Nat → Option IFun) (PK : H → Prop) : CallA := fun f a h K => ∀ m, Rep m h → ∃ k, Ends ((evGG S tab k).1 f a m) nobody m K ∨ EndsP ((evGG S tab k).2 f a m) m PK
section
variable {S : Sp} {tab : Nat → Option IFun} {PK : H → Prop}
theorem callB.mono {PK' : H → Prop} {f : Nat} {a : List AV} {h : H} {K K' : AV → H → Prop} (hc : callB S tab PK f a h K) (hk : ∀ v h', K v h' → K' v h') (hp : ∀ h', PK h' → PK' h') : callB S tab PK' f a h K' := fun m r => by
  obtain ⟨k, ⟨v, m', h', h1, h2, h3, h4⟩ | ⟨m', h', h1, h2, h3, h4⟩⟩ := hc m r
  · exact ⟨k, .inl ⟨v, m', h', h1, h2, h3, hk _ _ h4⟩⟩
  · exact ⟨k, .inr ⟨m', h', h1, h2, h3, hp _ h4⟩⟩
theorem callB.quiet {f : Nat} {a : List AV} {h : H} {K : AV → H → Prop} (hc : callB S tab never f a h K) : callB S tab PK f a h K := hc.mono (fun _ _ x => x) (fun _ x => x.elim)
theorem callB_of (hm : tab S.must = none) (hh : tab S.hold = none) (hk : ∀ f, S.knows f = true → tab f = none) {f : Nat} {a : List AV} {h : H} {K : AV → H → Prop} (hc : callA tab f a h K) : callB S tab PK f a h K := fun m r => by
  obtain ⟨k, v, m', h', h1, h2⟩ := hc m r
  exact ⟨k, .inl ⟨v, m', h', evF_GG hm hh hk k _ _ _ _ h1, h2⟩⟩
/-- A call whose end is known. -/
theorem callB_eq {f : Nat} {a : List AV} {h h' : H} {v : AV} (hc : callB S tab never f a h fun v' h'' => v' = v ∧ h'' = h') (K : AV → H → Prop) : callB S tab PK f a h K = K v h' := by
  apply propext
  constructor
  · intro hk
    obtain ⟨m, r⟩ := rep_exists h
    obtain ⟨k, ⟨v1, m1, h1, e1, r1, _, rfl, rfl⟩ | ⟨_, _, _, _, _, x⟩⟩ := hc m r
    · obtain ⟨k2, ⟨v2, m2, h2, e2, r2, _, hk⟩ | ⟨m2, h2, e2, _⟩⟩ := hk m r
      · have g1 := (evGG_le S tab (Nat.le_max_left k k2)).1 _ _ _ _ e1
        have g2 := (evGG_le S tab (Nat.le_max_right k k2)).1 _ _ _ _ e2
        rw [g1] at g2
        injection g2 with g2
        injection g2 with g2 g3
        subst g2; subst g3
        have : h1 = h2 := H.ext' fun b => by rw [← r1.eq, r2.eq]
        rw [this]; exact hk
      · have g1 := (evGG_le S tab (Nat.le_max_left k k2)).1 _ _ _ _ e1
        have g2 := (evGG_le S tab (Nat.le_max_right k k2)).2 _ _ _ _ e2
        rw [evGG_excl S tab _ _ _ _ _ g2] at g1
        cases g1
    · exact x.elim
  · intro hk
    exact hc.mono (fun v' h'' ⟨e1, e2⟩ => by rw [e1, e2]; exact hk) (fun _ x => x.elim)
/-- A contract told without panics. -/
theorem callB_lift (hm : tab S.must = none) (hh : tab S.hold = none) (hk : ∀ f, S.knows f = true → tab f = none) {f : Nat} {a : List AV} {h h' : H} {v : AV} (hc : ∀ K, callA tab f a h K = K v h') (K : AV → H → Prop) : callB S tab PK f a h K = K v h' :=
  callB_eq (callB_of hm hh hk (by rw [hc]; exact ⟨rfl, rfl⟩)) K

/-! ### Known functions -/
theorem callB_must {b : Bool} {h : H} {K : AV → H → Prop} (hp : if b = true then K (.tup []) h else PK h) : callB S tab PK S.must [.bool b] h K := fun m r => by
  cases b with
  | true => exact ⟨1, .inl ⟨_, m, h, by simp [evGG, evMust], r, Keep.refl _ _, hp⟩⟩
  | false => exact ⟨1, .inr ⟨m, h, by simp [evGG, evMustP], r, Keep.refl _ _, hp⟩⟩
theorem callB_known {f : Nat} (h1 : f ≠ S.must) (h2 : f ≠ S.hold) (h3 : S.knows f = true) {a : List AV} {h : H} {K : AV → H → Prop} (hp : ∀ m, Rep m h → Ends (evKnown S f a m) nobody m K) : callB S tab PK f a h K := fun m r => by
  refine ⟨1, .inl ?_⟩
  simp only [evGG, if_neg h1, if_neg h2, if_pos h3]
  exact hp m r
theorem callB_live {f : Nat} (h1 : f ≠ S.must) (h2 : f ≠ S.hold) (h3 : S.isLive f = true) {h : H} (K : AV → H → Prop) : callB S tab PK f [] h K = K (.bool true) h :=
  callB_eq (callB_known h1 h2 (by unfold Sp.knows; rw [h3]; rfl) fun m r => by
    unfold evKnown
    rw [h3]
    exact ⟨_, m, h, rfl, r, Keep.refl _ _, rfl, rfl⟩) K
theorem callB_sort0 {f : Nat} (h1 : f ≠ S.must) (h2 : f ≠ S.hold) (h0 : S.isLive f = false) (h3 : S.isSort f = true) {h : H} (K : AV → H → Prop) : callB S tab PK f [.nilsl] h K = K (.tup []) h :=
  callB_eq (callB_known h1 h2 (by unfold Sp.knows; rw [h3, h0]; rfl) fun m r => by
    unfold evKnown
    rw [h0]
    exact ⟨_, m, h, rfl, r, Keep.refl _ _, rfl, rfl⟩) K
theorem callB_sort {f : Nat} (h1 : f ≠ S.must) (h2 : f ≠ S.hold) (h0 : S.isLive f = false) (h3 : S.isSort f = true) {h h' : H} {b off len : Nat} {c : Cap} {cs : List AV} {zs : List Int} (hl0 : len ≠ 0) (hl : len < 4611686018427387904) (hr : h.read b off len = some cs) (hz : intsOf cs = some zs)
    (hw : h.write b off ((sorted zs).map fun n => .int .i64 n) = some h') (K : AV → H → Prop) : callB S tab PK f [.sl b off len c] h K = K (.tup []) h' :=
  callB_eq (callB_known h1 h2 (by unfold Sp.knows; rw [h3, h0]; rfl) fun m r => by
    unfold evKnown
    rw [h0]
    obtain ⟨m', w1, w2, w3⟩ := r.write hw
    refine ⟨_, m', h', ?_, w2, w3 _, rfl, rfl⟩
    simp only [cond_false, evSort, if_neg hl0, if_pos hl, r.read, hr, hz, w1]) K
/-- What catches. -/
theorem callB_hold (hne : S.hold ≠ S.must) {g : Nat} {first cap : List AV} {h : H} {K : AV → H → Prop}
    (hp : ∀ b, h.get b = none → callB S tab (fun h2 => memA (h2.write b 0 [.bool false]) (.bool false) K) g (first ++ cap) (h.set b (.live [.bool false] S.okTy true)) fun _ h2 => memA (h2.write b 0 [.bool true]) (.bool true) K) : callB S tab PK S.hold [.fn g first cap] h K := fun m r => by
  have hfree : h.get m.next = none := by rw [← r.eq]; exact r.ok _ (Nat.le_refl _)
  have hnew : m.new none [.bool false] S.okTy = some (m.next, ⟨m.next + 1, m.t.set m.next (.live [.bool false] S.okTy true)⟩) := by
    unfold Mem.new
    rw [if_pos (by rfl)]
  obtain ⟨k, ⟨v, m2, h2, e2, r2, kp2, q2⟩ | ⟨m2, h2, e2, r2, kp2, q2⟩⟩ := hp m.next hfree _ (rep_new r _)
  · refine ⟨k + 1, .inl ?_⟩
    simp only [evGG, if_neg hne, if_true, evHold, hnew, e2]
    have q2' := q2
    unfold memA at q2
    split at q2
    · rename_i h3 hw
      obtain ⟨m3, w1, w2, w3⟩ := r2.write hw
      exact ⟨_, m3, h3, by rw [w1], w2, ((keep_new (S := nobody) _).trans kp2).trans (w3 _), q2⟩
    · exact q2.elim
  · refine ⟨k + 1, .inl ?_⟩
    have hn := evGG_excl S tab k _ _ _ _ e2
    simp only [evGG, if_neg hne, if_true, evHold, hnew, hn, e2]
    unfold memA at q2
    split at q2
    · rename_i h3 hw
      obtain ⟨m3, w1, w2, w3⟩ := r2.write hw
      exact ⟨_, m3, h3, by rw [w1], w2, ((keep_new (S := nobody) _).trans kp2).trans (w3 _), q2⟩
    · exact q2.elim
end
end Go.Proofs.YtdljelicbnjfjaaGreat.X
