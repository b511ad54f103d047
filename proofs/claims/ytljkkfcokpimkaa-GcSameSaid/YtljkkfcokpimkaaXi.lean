/- The plain machine's code stands for the model's: what it comes to, the model comes to, in whatever order its regions are run. -/
import Derived.Test.YtljkkfcokpimkaaXe4
import Derived.Test.YtljkkfcokpimkaaXh
import Derived.Orders
set_option linter.unusedVariables false
set_option linter.unusedSimpArgs false
namespace Go.Proofs.Ytljkkfcokpimkaa.X
open Go Go.RowKit

/-! ### The test -/
def okGuard (ops : Array Oper) : Option (Nat × Bool) → Option (Nat × Bool) → Bool
  | none, none => true
  | some (j, b), some (t, b') => (b == b') && optEq ((ops[j]?).bind (·.dst)) (some t)
  | _, _ => false
/-- An operation at which the plain machine stands still: it may stand for any. -/
def stuckOp : IOp → Bool
  | .ext (.c .undef) 0 => true
  | _ => false
theorem stuck_none {call : CallF} {b : Nat} {tm : List AV} {m : Mem} {op : IOp} (h : stuckOp op = true) : evOp call b tm m op = none := by
  unfold stuckOp at h
  split at h
  · rfl
  · cases h
def okStep (P : Program) (ops : Array Oper) (o : Oper) (s : Step) : Bool := (stuckOp s.op || okOp P o.op s.op) && optEq o.dst s.dst && okGuard ops o.guard s.guard
def okSeq (P : Program) (ops : Array Oper) : List Oper → List Step → Bool
  | [], [] => true
  | o :: l, s :: l' => okStep P ops o s && okSeq P ops l l'
  | _, _ => false
/-- Which operation stands where, with its number. -/
def okAt (P : Program) (ops : Array Oper) (x : Nat × Step) : Bool := match ops[x.1]? with | some o => okStep P ops o x.2 | none => false
def ancOf (anc : List (List Nat)) (i : Nat) : List Nat := anc.getD i []
def okAnc (ops : Array Oper) (anc : List (List Nat)) (i : Nat) : Bool :=
  match ops[i]? with
  | some o => (ancOf anc i).all fun j => o.after.any fun e => Region.binds .any e && decide (e.on < i) && (decide (e.on = j) || (ancOf anc e.on).contains j)
  | none => true
/-- What y must still look at again when it goes past x: not what was read by an operation that itself needs x. -/
def past (anc : List (List Nat)) (L : List (Nat × Step)) (x y : Nat × Step) : Step :=
  { y.2 with chk := y.2.chk.filter fun c => !L.any fun z => optEq z.2.dst (some c.dst) && ((ancOf anc z.1).contains x.1 && !decide (z.1 = x.1)) }
def okPair (ops : Array Oper) (anc : List (List Nat)) (L : List (Nat × Step)) (x y : Nat × Step) : Bool :=
  ((ancOf anc y.1).contains x.1 || commutes x.2 (past anc L x y)) &&
  (match x.2.dst with | some t => !optEq y.2.dst (some t) | none => true) &&
  (match ops[x.1]? with | some o => o.after.all (fun e => !Region.binds .any e || !decide (e.on = y.1)) | none => true) &&
  (!(ancOf anc x.1).contains y.1 && x.2.chk.all (fun c => !optEq y.2.dst (some c.dst)))
def okPairs (ops : Array Oper) (anc : List (List Nat)) (L : List (Nat × Step)) : List (Nat × Step) → Bool
  | [] => true
  | x :: l => l.all (okPair ops anc L x) && okPairs ops anc L l
def okBack (ops : Array Oper) (i : Nat) : Bool := match ops[i]? with | some o => o.after.all (fun e => !Region.binds .any e || decide (e.on < i)) | none => true
theorem okPairs_pairwise {ops : Array Oper} {anc : List (List Nat)} {L : List (Nat × Step)} : ∀ {l : List (Nat × Step)}, okPairs ops anc L l = true → l.Pairwise fun x y => okPair ops anc L x y = true
  | [], _ => List.Pairwise.nil
  | x :: l, h => by
    simp only [okPairs, Bool.and_eq_true] at h
    exact List.Pairwise.cons (fun y hy => List.all_eq_true.1 h.1 y hy) (okPairs_pairwise h.2)
def okDrawn (P : Program) (ops : Array Oper) (n : Nat) (pi : List Nat) (anc : List (List Nat)) (steps : List Step) : Bool :=
  decide (pi.length = steps.length) && decide (pi.length = ops.size) && decide (∀ i ∈ List.range ops.size, i ∈ pi) && decide pi.Nodup &&
  (pi.zip steps).all (okAt P ops) && (List.range ops.size).all (okAnc ops anc) && (List.range ops.size).all (okBack ops) && okPairs ops anc (pi.zip steps) (pi.zip steps) &&
  steps.all fun s => match s.op.slotOf with | some k => decide (k < n) | none => true
def okCode (P : Program) : Code → ICode → Bool
  | .skip, .skip => true
  | .region _ ops draw, .reg n pi anc steps => if draw then okDrawn P ops n pi anc steps else okSeq P ops ops.toList steps
  | .seq a b, .seq a' b' => okCode P a a' && okCode P b b'
  | .cond c a b, .cond c' a' b' => okOpd c c' && okCode P a a' && okCode P b b'
  | .block i c, .block i' c' => decide (i = i') && okCode P c c'
  | .loop c, .loop c' => okCode P c c'
  | .exit i, .exit i' => decide (i = i')
  | .ret, .ret => true
  | .label _, .skip => true
  | .scope c, c' => okCode P c c'
  | _, _ => false
def okRes (P : Program) : ResultVar → IRes → Bool
  | .tmp t, .tmp t' => decide (t = t')
  | .cell b t, .cell b' n => decide (b = b') && aggOk P t n
  | _, _ => false
def okRess (P : Program) : List ResultVar → List IRes → Bool
  | [], [] => true
  | x :: l, y :: l' => okRes P x y && okRess P l l'
  | _, _ => false
def okFun (P : Program) (f : FuncId) (i : IFun) : Bool :=
  callOk P f && match P.funcs[f]? with
  | some fn => match fn.body with
    | some c => okCode P c i.body && decide (fn.ntmps = i.ntmps) && okRess P fn.results.toList i.results
    | none => false
  | none => false

/-! ### The same state -/
structure Rl (P : Program) (base : Nat) (ρ : Map) (w0 : World) (s : St) (a : Act) (w : World) : Prop where
  tm : VRL ρ s.tm a.tmps.toList
  df : a.defers = []
  mr : MR P base ρ s.m w
  bel : Below base w0 w

section
variable {P : Program} {base : Nat} {ρ : Map} {w0 w : World} {a : Act} {call : CallF}

theorem wants_eq {ops : Array Oper} {g : Option (Nat × Bool)} {g' : Option (Nat × Bool)} (hg : okGuard ops g g' = true) {tm : List AV} (ht : VRL ρ tm a.tmps.toList) (o : Oper) (ho : o.guard = g) : Region.wanted o (yielded ops a.tmps) = wants tm g' := by
  subst ho
  unfold Region.wanted
  cases hgo : o.guard with
  | none =>
    cases g' with
    | none => rfl
    | some x => simp [hgo, okGuard] at hg
  | some x =>
    obtain ⟨j, b⟩ := x
    cases g' with
    | none => simp [hgo, okGuard] at hg
    | some y =>
      obtain ⟨t, b'⟩ := y
      simp only [hgo, okGuard, Bool.and_eq_true] at hg
      have hb : b = b' := by simpa using hg.1
      have hd := optEq_eq hg.2
      subst hb
      simp only [yielded, hd, Option.bind_some, wants]
      cases hx : tm[t]? with
      | none =>
        have hl := ht.length
        have hx' : tm.length ≤ t := List.getElem?_eq_none_iff.1 hx
        rw [Array.getElem?_eq_none (by simp at hl; omega)]
        simp [List.getD_eq_getElem?_getD, hx]
      | some v =>
        obtain ⟨u, hu, hv⟩ := ht.get t v hx
        rw [Array.getElem?_toList] at hu
        rw [hu]
        simp only [List.getD_eq_getElem?_getD, hx, Option.getD_some]
        cases v <;> simp only [VR] at hv
        case bool c => subst hv; cases c <;> cases b <;> rfl
        case ptr => obtain ⟨_, _, rfl⟩ := hv; rfl
        case sl => obtain ⟨_, _, _, _, _, _, rfl⟩ := hv; rfl
        case fn => obtain ⟨_, _, _, _, rfl⟩ := hv; rfl
        case agg => obtain ⟨_, _, rfl⟩ := hv; rfl
        case tup => obtain ⟨_, _, rfl⟩ := hv; rfl
        all_goals (subst hv; rfl)

theorem put_VRL {tm : List AV} (ht : VRL ρ tm a.tmps.toList) {d d' : Option Nat} (hd : d = d') {v : AV} {u : Value} (hv : VR ρ v u) : VRL ρ (put tm d' v) (a.put d u).tmps.toList := by
  subst hd
  cases d with
  | none => exact ht
  | some t => simpa [put, Act.put] using ht.set t hv
theorem put_defers (d : Option Nat) (u : Value) : (a.put d u).defers = a.defers := by cases d <;> rfl

/-- One operation of a region. -/
theorem step_wp (hcall : CallSound P base call) {ops : Array Oper} {i : Nat} {o : Oper} {st : Step} (ho : ops[i]? = some o) (hok : okStep P ops o st = true) {s : St} (hs : Rl P base ρ w0 s a w) {b : Nat} {v : AV} {m' : Mem}
    (he : if wants s.tm st.guard then evOp call b s.tm s.m st.op = some (v, m') else v = .undef ∧ m' = s.m) {Q : Exit → Act → World → Prop} {K : Act → World → Prop}
    (hK : ∀ ρ' a' w', ρ.le ρ' → Rl P base ρ' w0 ⟨put s.tm st.dst v, m'⟩ a' w' → K a' w') : wpOp P ops Q i K a w := by
  simp only [okStep, Bool.and_eq_true, Bool.or_eq_true] at hok
  obtain ⟨⟨h1, h2⟩, h3⟩ := hok
  have hd := optEq_eq h2
  have hw := wants_eq h3 hs.tm o rfl
  unfold wpOp
  simp only [ho, hw]
  by_cases hwt : wants s.tm st.guard = true
  · simp only [hwt, if_true] at he ⊢
    have h1 : okOp P o.op st.op = true := by
      rcases h1 with h1 | h1
      · rw [stuck_none h1] at he; cases he
      · exact h1
    refine .inl ?_
    rcases op_runs hcall hs.tm hs.mr h1 he with hr | hr
    · obtain ⟨nx, u, w', ρ', r1, r2, r3, r4, r5, r6⟩ := hr
      have hfin : K (a.put o.dst u) w' := hK ρ' _ _ r3 ⟨put_VRL (hs.tm.mono r3) hd r4, by rw [put_defers]; exact hs.df, r5, hs.bel.trans r6⟩
      unfold Oper.wp
      rw [r1]
      rcases r2 with rfl | ⟨rfl, rfl⟩
      · exact hfin
      · exact hfin
    · obtain ⟨f, args, r1, r2⟩ := hr
      unfold Oper.wp
      rw [r1]
      refine Calls.mono r2 ?_
      rintro e w' ⟨ρ', u, q1, rfl, q3, q4, q5⟩
      exact hK ρ' _ _ q1 ⟨put_VRL (hs.tm.mono q1) hd q3, by rw [put_defers]; exact hs.df, q4, hs.bel.trans q5⟩
  · simp only [hwt] at he ⊢
    obtain ⟨rfl, rfl⟩ := he
    exact hK ρ _ _ ρ.le_refl ⟨put_VRL hs.tm hd (by simp [VR, Go.undef]), by rw [put_defers]; exact hs.df, hs.mr, hs.bel⟩

/-- A region in the text's order. -/
theorem seq_wp (hcall : CallSound P base call) {ops : Array Oper} {b : Nat} {Q : Exit → Act → World → Prop} : ∀ (k : Nat) (l : List Oper) (steps : List Step) (ρ : Map) (s sf : St) (a : Act) (w : World), ops.toList.drop k = l → okSeq P ops l steps = true → Rl P base ρ w0 s a w →
    evSteps call b steps s = some sf → (∀ ρ' a' w', ρ.le ρ' → Rl P base ρ' w0 sf a' w' → Q .normal a' w') → wpOps P ops Q ((List.range ops.size).drop k) a w
  | k, [], [], ρ, s, sf, a, w, hl, _, hs, he, hQ => by
    have : ops.size ≤ k := by
      have := congrArg List.length hl
      simp at this; omega
    rw [List.drop_eq_nil_of_le (by simpa using this)]
    simp only [evSteps] at he
    injection he with he
    subst he
    exact hQ ρ a w ρ.le_refl hs
  | k, [], st :: steps, ρ, s, sf, a, w, hl, hok, hs, he, hQ => by simp [okSeq] at hok
  | k, o :: l, [], ρ, s, sf, a, w, hl, hok, hs, he, hQ => by simp [okSeq] at hok
  | k, o :: l, st :: steps, ρ, s, sf, a, w, hl, hok, hs, he, hQ => by
    simp only [okSeq, Bool.and_eq_true] at hok
    have hk : k < ops.size := by
      have := congrArg List.length hl
      simp at this; omega
    have hcons := List.drop_eq_getElem_cons (l := ops.toList) (i := k) (by simpa using hk)
    rw [hcons] at hl
    injection hl with hl1 hl2
    have ho : ops[k]? = some o := by rw [← hl1]; simp [hk]
    rw [List.drop_eq_getElem_cons (by simpa using hk), List.getElem_range, wpOps_cons]
    rw [evSteps_cons] at he
    cases h1 : evStep1 call b st s with
    | none => simp [h1] at he
    | some s1 =>
      simp only [h1, Option.bind_some] at he
      have hcase : ∃ v m', (if wants s.tm st.guard then evOp call b s.tm s.m st.op = some (v, m') else v = .undef ∧ m' = s.m) ∧ s1 = ⟨put s.tm st.dst v, m'⟩ := by
        unfold evStep1 at h1
        split at h1
        · rename_i hw
          split at h1
          · rename_i v m' hv
            split at h1
            · injection h1 with h1
              exact ⟨v, m', by rw [if_pos hw]; exact hv, h1.symm⟩
            · cases h1
          · cases h1
        · rename_i hw
          injection h1 with h1
          exact ⟨.undef, s.m, by rw [if_neg hw]; exact ⟨rfl, rfl⟩, h1.symm⟩
      obtain ⟨v, m', g1, rfl⟩ := hcase
      refine step_wp hcall ho hok.1 hs g1 fun ρ' a' w' hρ hr => ?_
      exact seq_wp hcall (k + 1) l steps ρ' _ sf a' w' hl2 hok.2 hr he fun ρ'' a'' w'' hρ' hr' => hQ ρ'' a'' w'' (Map.le_trans hρ hρ') hr'

theorem nodup_inj : ∀ {L : List (Nat × Step)}, (L.map (·.1)).Nodup → ∀ x ∈ L, ∀ y ∈ L, x.1 = y.1 → x = y
  | [], _, x, hx, _, _, _ => by cases hx
  | u :: L, hn, x, hx, y, hy, e => by
    obtain ⟨h1, h2⟩ := List.nodup_cons.1 (by simpa using hn : (u.1 :: L.map (·.1)).Nodup)
    rcases List.mem_cons.1 hx with hxu | hxl
    · rcases List.mem_cons.1 hy with hyu | hyl
      · rw [hxu, hyu]
      · exact absurd (List.mem_map.2 ⟨y, hyl, by rw [← e, hxu]⟩) h1
    · rcases List.mem_cons.1 hy with hyu | hyl
      · exact absurd (List.mem_map.2 ⟨x, hxl, by rw [e, hyu]⟩) h1
      · exact nodup_inj h2 x hxl y hyl e
/-- What is known of the operations that are left. -/
structure Remn (P : Program) (ops : Array Oper) (anc : List (List Nat)) (L : List (Nat × Step)) (listed : Array Bool) (rem : List (Nat × Step)) : Prop where
  ok : ∀ x ∈ rem, okAt P ops x = true
  pairs : rem.Pairwise fun x y => okPair ops anc L x y = true
  sub : rem.Sublist L
  nodupL : (L.map (·.1)).Nodup
  full : ∀ z ∈ L, z.1 < ops.size
  size : listed.size = ops.size
  lst : ∀ j, j < ops.size → (listed.getD j true = false ↔ j ∈ rem.map (·.1))
  closed : ∀ j o, ops[j]? = some o → j ∉ rem.map (·.1) → ∀ e ∈ o.after, Region.binds .any e = true → e.on ∉ rem.map (·.1)
  nodup : (rem.map (·.1)).Nodup

theorem anc_out {ops : Array Oper} {anc : List (List Nat)} (hanc : (List.range ops.size).all (okAnc ops anc) = true) (out : Nat → Prop) (hcl : ∀ j o, ops[j]? = some o → out j → ∀ e ∈ o.after, Region.binds .any e = true → out e.on) :
    ∀ (n i : Nat), i < n → ∀ o, ops[i]? = some o → (∀ e ∈ o.after, Region.binds .any e = true → out e.on) → ∀ j ∈ ancOf anc i, out j
  | 0, i, h, _, _, _, _, _ => by omega
  | n + 1, i, hi, o, ho, hr, j, hj => by
    have hlt : i < ops.size := (Array.getElem?_eq_some_iff.1 ho).1
    have h := List.all_eq_true.1 hanc i (by simpa using hlt)
    simp only [okAnc, ho] at h
    have h2 := List.all_eq_true.1 h j hj
    obtain ⟨e, he, hb⟩ := Array.any_eq_true'.1 h2
    simp only [Bool.and_eq_true, Bool.or_eq_true, decide_eq_true_eq] at hb
    obtain ⟨⟨hb1, hb2⟩, hb3⟩ := hb
    have hout := hr e he hb1
    rcases hb3 with rfl | hb3
    · exact hout
    · have hlt' : e.on < ops.size := by omega
      have ho' : ops[e.on]? = some ops[e.on] := by simp [hlt']
      exact anc_out hanc out hcl n e.on (by omega) _ ho' (hcl e.on _ ho' hout) j (by simpa using hb3)

theorem drawn_wp (hcall : CallSound P base call) (hx : CallExt call) {ops : Array Oper} {anc : List (List Nat)} (hanc : (List.range ops.size).all (okAnc ops anc) = true) (hback : (List.range ops.size).all (okBack ops) = true) {L : List (Nat × Step)} {b : Nat} {Q : Exit → Act → World → Prop} :
    ∀ (fuel : Nat) (rem : List (Nat × Step)) (listed : Array Bool) (ρ : Map) (s sf : St) (a : Act) (w : World), rem.length ≤ fuel → Remn P ops anc L listed rem → Rl P base ρ w0 s a w →
      (∀ x ∈ rem, ∀ k, x.2.op.slotOf = some k → b + k < s.m.next) → evSteps call b (rem.map (·.2)) s = some sf → (∀ ρ' a' w', ρ.le ρ' → Rl P base ρ' w0 sf a' w' → Q .normal a' w') → wpAny P .any ops Q fuel listed a w := by
  intro fuel
  -- the first one that is left is ready
  have first : ∀ (x : Nat × Step) (rem : List (Nat × Step)) (listed : Array Bool), Remn P ops anc L listed (x :: rem) → x.1 ∈ Region.ready .any ops listed := by
    intro x rem listed hl
    have hok := hl.ok x (by simp)
    unfold okAt at hok
    cases ho : ops[x.1]? with
    | none => simp [ho] at hok
    | some o =>
      have hlt : x.1 < ops.size := (Array.getElem?_eq_some_iff.1 ho).1
      refine mem_ready.2 ⟨(hl.lst _ hlt).2 (by simp), o, ho, fun e he hb => ?_⟩
      have hbk := List.all_eq_true.1 hback x.1 (by simpa using hlt)
      simp only [okBack, ho] at hbk
      have hbk2 := Array.all_eq_true_iff_forall_mem.1 hbk e he
      simp only [hb, Bool.not_true, Bool.false_or, decide_eq_true_eq] at hbk2
      have hlt' : e.on < ops.size := by omega
      have hnot : e.on ∉ (x :: rem).map (·.1) := by
        intro hm
        simp only [List.map_cons, List.mem_cons, List.mem_map] at hm
        rcases hm with hm | ⟨y, hy, hym⟩
        · omega
        · have hp := List.rel_of_pairwise_cons hl.pairs hy
          simp only [okPair, ho, Bool.and_eq_true] at hp
          have := Array.all_eq_true_iff_forall_mem.1 hp.1.2 e he
          simp [hb, hym] at this
      have h2 : ¬ listed.getD e.on true = false := fun h => hnot ((hl.lst _ hlt').1 h)
      have hsz : e.on < listed.size := by rw [hl.size]; exact hlt'
      simp [Array.getD_eq_getD_getElem?, hsz] at h2 ⊢
      exact h2
  induction fuel with
  | zero =>
    intro rem listed ρ s sf a w hlen hl hs _ he hQ
    obtain rfl : rem = [] := List.eq_nil_of_length_eq_zero (by omega)
    simp only [List.map_nil, evSteps] at he
    injection he with he
    subst he
    refine ⟨?_, hQ ρ a w ρ.le_refl hs⟩
    cases hr : Region.ready .any ops listed with
    | nil => rfl
    | cons i l =>
      have hi : i ∈ Region.ready .any ops listed := by rw [hr]; simp
      obtain ⟨h1, o, ho, _⟩ := mem_ready.1 hi
      have hlt : i < ops.size := (Array.getElem?_eq_some_iff.1 ho).1
      have := (hl.lst i hlt).1 h1
      simp at this
  | succ fuel ih =>
    intro rem listed ρ s sf a w hlen hl hs hb he hQ
    refine ⟨fun hr => ?_, fun i hi => ?_⟩
    · cases rem with
      | nil =>
        simp only [List.map_nil, evSteps] at he
        injection he with he
        subst he
        exact hQ ρ a w ρ.le_refl hs
      | cons x rem =>
        have := first x rem listed hl
        rw [hr] at this
        cases this
    · obtain ⟨h1, o, ho, hafter⟩ := mem_ready.1 hi
      have hlt : i < ops.size := (Array.getElem?_eq_some_iff.1 ho).1
      have hmem := (hl.lst i hlt).1 h1
      obtain ⟨x, hx1, rfl⟩ := List.mem_map.1 hmem
      obtain ⟨pre, post, rfl⟩ := List.append_of_mem hx1
      have hok := hl.ok x hx1
      simp only [okAt, ho] at hok
      have hpw := List.pairwise_append.1 hl.pairs
      have outs : ∀ e ∈ o.after, Region.binds .any e = true → e.on ∉ (pre ++ x :: post).map (·.1) := by
        intro e he' hbd hin
        have hl2 := hafter e he' hbd
        have hbk := List.all_eq_true.1 hback x.1 (by simpa using hlt)
        simp only [okBack, ho] at hbk
        have hbk2 := Array.all_eq_true_iff_forall_mem.1 hbk e he'
        simp only [hbd, Bool.not_true, Bool.false_or, decide_eq_true_eq] at hbk2
        have h3 := (hl.lst e.on (by omega)).2 hin
        have hsz : e.on < listed.size := by rw [hl.size]; omega
        simp [Array.getD_eq_getD_getElem?, hsz] at h3 hl2
        rw [h3] at hl2
        cases hl2
      have hancout := anc_out hanc (fun j => j ∉ (pre ++ x :: post).map (·.1)) (fun j o' ho' hj => hl.closed j o' ho' hj) (x.1 + 1) x.1 (by omega) o ho outs
      have hdst : (pre.map (·.2)).Pairwise (fun x y => ∀ t, x.dst = some t → y.dst ≠ some t) := by
        rw [List.pairwise_map]
        refine hpw.1.imp fun {y z} hp => ?_
        simp only [okPair, Bool.and_eq_true] at hp
        intro t ht hz
        have := hp.1.1.2
        simp [ht, hz, optEq] at this
      have hcm : ∀ p j q, pre.map (·.2) = p ++ j :: q → commutes j (x.2.lessL q) = true := by
        intro p j q e
        obtain ⟨p', t', rfl, rfl, e2⟩ := List.map_eq_append_iff.1 e
        obtain ⟨y, q', rfl, rfl, rfl⟩ := List.map_eq_cons_iff.1 e2
        have hp := hpw.2.2 y (by simp) x (by simp)
        simp only [okPair, Bool.and_eq_true, Bool.or_eq_true] at hp
        have hyr : y.1 ∈ ((p' ++ y :: q') ++ x :: post).map (·.1) := List.mem_map.2 ⟨y, by simp, rfl⟩
        rcases hp.1.1.1 with h | h
        · exact absurd hyr (hancout y.1 (by simpa using h))
        · have hq : ∀ z ∈ q'.map (·.2), ∀ t, y.2.dst = some t → z.dst ≠ some t := by
            have hd1 := (List.pairwise_append.1 (by simpa using hdst)).2.1
            exact fun z hz => List.rel_of_pairwise_cons hd1 hz
          have h2 := commutes_lessL (b := q'.map (·.2)) h hq
          have e3 : (past anc L y x).lessL (q'.map (·.2)) = x.2.lessL (q'.map (·.2)) := by
            have o1 := lessL_other (past anc L y x) (q'.map (·.2))
            have o2 := lessL_other x.2 (q'.map (·.2))
            refine step_ext (by rw [o1.2.1, o2.2.1]; rfl) (by rw [o1.2.2, o2.2.2]; rfl) (by rw [o1.1, o2.1]; rfl) ?_
            rw [lessL_chk, lessL_chk]
            simp only [past, List.filter_filter]
            refine List.filter_congr fun c hc => ?_
            by_cases hall : ((q'.map (·.2)).all fun z => !optEq z.dst (some c.dst)) = true
            · rw [hall, Bool.true_and]
              by_cases hany : (L.any fun z => optEq z.2.dst (some c.dst) && ((ancOf anc z.1).contains y.1 && !decide (z.1 = y.1))) = true
              · exfalso
                obtain ⟨z, hz, hz2⟩ := List.any_eq_true.1 hany
                simp only [Bool.and_eq_true, Bool.not_eq_true', decide_eq_false_iff_not] at hz2
                obtain ⟨hz3, hz4, hz5⟩ := hz2
                -- z is left as well
                have hzr : z.1 ∈ ((p' ++ y :: q') ++ x :: post).map (·.1) := by
                  apply Classical.byContradiction
                  intro hno
                  have hzlt := hl.full z hz
                  have ho' : ops[z.1]? = some ops[z.1] := by simp [hzlt]
                  have := anc_out hanc (fun j => j ∉ ((p' ++ y :: q') ++ x :: post).map (·.1)) (fun j o' ho' hj => hl.closed j o' ho' hj) (z.1 + 1) z.1 (by omega) _ ho' (hl.closed z.1 _ ho' hno) y.1 (by simpa using hz4)
                  exact this hyr
                obtain ⟨z', hz', hzz⟩ := List.mem_map.1 hzr
                have hze : z' = z := by
                  have hn := hl.nodupL
                  have hz'' := hl.sub.subset hz'
                  exact nodup_inj hn _ hz'' _ hz hzz
                subst hze
                simp only [List.append_assoc, List.mem_append, List.mem_cons] at hz'
                have hpw2 := hl.pairs
                simp only [List.append_assoc, List.cons_append] at hpw2
                have hpa := List.pairwise_append.1 hpw2
                rcases hz' with hz' | (hz' | hz') | hz' | hz'
                · have := hpa.2.2 z' hz' y (by simp)
                  simp only [okPair, Bool.and_eq_true, Bool.not_eq_true'] at this
                  rw [this.2.1] at hz4
                  cases hz4
                · exact hz5 (by rw [hz'])
                · have := List.all_eq_true.1 hall z'.2 (List.mem_map.2 ⟨z', hz', rfl⟩)
                  rw [hz3] at this
                  cases this
                · rw [hz'] at hz4
                  exact absurd hyr (hancout y.1 (by simpa using hz4))
                · have := List.rel_of_pairwise_cons (List.pairwise_append.1 hl.pairs).2.1 hz'
                  simp only [okPair, Bool.and_eq_true] at this
                  have := List.all_eq_true.1 this.2.2 c hc
                  rw [hz3] at this
                  cases this
              · simp only [Bool.not_eq_true] at hany
                rw [hany]
                rfl
            · simp only [Bool.not_eq_true] at hall
              rw [hall, Bool.false_and]
          rw [e3] at h2
          exact h2
      rw [List.map_append, List.map_cons] at he
      obtain ⟨v, m', g1, g2⟩ := move_front hx _ (pre.map (·.2)) rfl x.2 (post.map (·.2)) s sf hcm (fun k hk => hb x hx1 k hk) he
      refine step_wp hcall ho hok hs g1 fun ρ' a' w' hρ hr => ?_
      have hnext : s.m.next ≤ m'.next := by
        split at g1
        · exact (evOp_ext hx g1).next
        · rw [g1.2]; exact Nat.le_refl _
      have hnd := hl.nodup
      refine ih (pre ++ post) (listed.setIfInBounds x.1 true) ρ' _ sf a' w' (by simp at hlen ⊢; omega) ?_ hr (fun y hy k hk => Nat.lt_of_lt_of_le (hb y (by simp at hy ⊢; rcases hy with h | h <;> simp [h]) k hk) hnext) (by rw [List.map_append]; exact g2) fun ρ'' a'' w'' h1 h2 => hQ ρ'' a'' w'' (Map.le_trans hρ h1) h2
      have hsub : (pre ++ post).Sublist (pre ++ x :: post) := List.Sublist.append_left (List.sublist_cons_self x post) pre
      have hxn : x.1 ∉ (pre ++ post).map (·.1) := by
        rw [List.map_append, List.map_cons] at hnd
        have := List.nodup_append.1 hnd
        intro hin
        rw [List.map_append, List.mem_append] at hin
        rcases hin with h | h
        · exact this.2.2 _ h _ (by simp) rfl
        · exact (List.nodup_cons.1 this.2.1).1 h
      have hmm : ∀ j, j ∈ (pre ++ post).map (·.1) ↔ j ∈ (pre ++ x :: post).map (·.1) ∧ j ≠ x.1 := by
        intro j
        constructor
        · intro h
          refine ⟨(hsub.map _).subset h, fun e => hxn (e ▸ h)⟩
        · rintro ⟨h, hne⟩
          simp only [List.map_append, List.map_cons, List.mem_append, List.mem_cons] at h ⊢
          rcases h with h | h | h
          · exact .inl h
          · exact absurd h hne
          · exact .inr h
      refine ⟨fun y hy => hl.ok y (hsub.subset hy), hl.pairs.sublist hsub, hsub.trans hl.sub, hl.nodupL, hl.full, by simpa using hl.size, fun j hj => ?_, fun j o' ho' hj e he' hbd => ?_, hnd.sublist (hsub.map _)⟩
      · rw [hmm]
        by_cases hji : j = x.1
        · subst hji
          have hsz : x.1 < listed.size := by rw [hl.size]; exact hj
          simp [Array.getD_eq_getD_getElem?, hsz]
        · rw [getD_set_ne true (fun e => hji e.symm), hl.lst j hj]
          exact ⟨fun h => ⟨h, hji⟩, fun h => h.1⟩
      · rw [hmm] at hj ⊢
        rintro ⟨h3, h4⟩
        by_cases hji : j = x.1
        · subst hji
          rw [ho] at ho'
          injection ho' with ho'
          subst ho'
          exact outs e he' hbd h3
        · exact hl.closed j o' ho' (fun h => hj ⟨h, hji⟩) e he' hbd h3
end
end Go.Proofs.Ytljkkfcokpimkaa.X
