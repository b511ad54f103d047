/- A number of which only its rest is asked may be another one of the same rest. -/
import Derived.Test.YtdljelicbnjfjaaGreatYb
set_option linter.unusedVariables false
set_option linter.unusedSimpArgs false
namespace Go.Proofs.YtdljelicbnjfjaaGreat.X
open Go Go.RowKit

/-- The same, or numbers of the same rest. -/
def Qr (M : Int) (v w : AV) : Prop := v = w ∨ ∃ kd a b, v = .int kd a ∧ w = .int kd b ∧ a % M = b % M ∧ (kd = .u64 → 0 ≤ a ∧ 0 ≤ b)
structure RelT (D : List Nat) (M : Int) (tm tm' : List AV) : Prop where
  len : tm.length = tm'.length
  out : ∀ i, i ∉ D → tm.getD i .undef = tm'.getD i .undef
  inn : ∀ i, i ∈ D → Qr M (tm.getD i .undef) (tm'.getD i .undef)
def outD (D : List Nat) : Option Nat → Bool | some d => !D.contains d | none => true
def inD (D : List Nat) : Option Nat → Bool | some d => D.contains d | none => true
def okSim (D : List Nat) (M : Int) (s : Step) : Bool :=
  (rdG s.guard).all (fun t => !D.contains t) && s.chk.all (fun c => (rdK c).all fun t => !D.contains t) &&
  ((rds s.op.opds).all (fun t => !D.contains t) && outD D s.dst ||
  match s.op with
  | .mv (.t x) => inD D s.dst
  | .cv none (.toInt .u64) (.t x) => inD D s.dst
  | .bin .rem .num (.t x) (.c (.int .u64 m)) => decide (m = M) && outD D s.dst
  | _ => false)
def simOk (D : List Nat) (M : Int) : ICode → Bool
  | .reg _ _ _ ops => ops.all (okSim D M)
  | .seq a b => simOk D M a && simOk D M b
  | .cond c a b => c.rd.all (fun t => !D.contains t) && simOk D M a && simOk D M b
  | .block _ c => simOk D M c
  | .loop c => simOk D M c
  | _ => true
section
variable {D : List Nat} {M : Int} {tm tm' : List AV}
theorem RelT.eval (r : RelT D M tm tm') {x : Opd} (h : ∀ t ∈ x.rd, t ∉ D) : x.eval tm = x.eval tm' := by
  cases x with
  | t i => exact r.out i (h i (by simp [Opd.rd]))
  | c v => rfl
theorem RelT.put (r : RelT D M tm tm') {d : Option Nat} {v : AV} : RelT D M (X.put tm d v) (X.put tm' d v) := by
  cases d with
  | none => exact r
  | some d =>
    refine ⟨by simp [X.put, r.len], fun i hi => ?_, fun i hi => ?_⟩
    all_goals simp only [X.put, List.getD_eq_getElem?_getD, List.getElem?_set, r.len]
    all_goals have h1 := r.out i; have h2 := r.inn i; simp only [List.getD_eq_getElem?_getD] at h1 h2
    · split
      · rfl
      · exact h1 hi
    · split
      · exact .inl rfl
      · exact h2 hi
theorem RelT.putQ (r : RelT D M tm tm') {d : Option Nat} {v w : AV} (hd : inD D d = true) (hq : Qr M v w) : RelT D M (X.put tm d v) (X.put tm' d w) := by
  cases d with
  | none => exact r
  | some d =>
    have hd : d ∈ D := by simpa [inD] using hd
    refine ⟨by simp [X.put, r.len], fun i hi => ?_, fun i hi => ?_⟩
    all_goals simp only [X.put, List.getD_eq_getElem?_getD, List.getElem?_set, r.len]
    all_goals have h1 := r.out i; have h2 := r.inn i; simp only [List.getD_eq_getElem?_getD] at h1 h2
    · have hne : ¬ d = i := fun e => hi (by rw [← e]; exact hd)
      rw [if_neg hne, if_neg hne]
      exact h1 hi
    · split
      · split
        · exact hq
        · exact .inl rfl
      · exact h2 hi
theorem RelT.wants (r : RelT D M tm tm') {g : Option (Nat × Bool)} (h : ∀ t ∈ rdG g, t ∉ D) : X.wants tm g = X.wants tm' g := by
  cases g with
  | none => rfl
  | some p =>
    obtain ⟨t, b⟩ := p
    simp only [X.wants, r.out t (h t (by simp [rdG]))]
theorem RelT.chk (r : RelT D M tm tm') {b : Nat} {m : Mem} {c : Chk} (h : ∀ t ∈ rdK c, t ∉ D) : chkOk b tm m c = chkOk b tm' m c := by
  unfold chkOk
  rw [r.wants fun t ht => h t (by simp [rdK, ht]), evOp_congr (tm' := tm') fun x hx => r.eval fun t ht => h t (by
    have : t ∈ rds c.op.opds := List.mem_flatMap.2 ⟨x, hx, ht⟩
    simp [rdK, this]), r.out c.dst (h c.dst (by simp [rdK]))]
def RS2 (D : List Nat) (M : Int) : Option St → Option St → Prop
  | none, none => True
  | some s, some s' => RelT D M s.tm s'.tm ∧ s.m = s'.m
  | _, _ => False
def RC2 (D : List Nat) (M : Int) : Option (Ex × St) → Option (Ex × St) → Prop
  | none, none => True
  | some (e, s), some (e', s') => e = e' ∧ RelT D M s.tm s'.tm ∧ s.m = s'.m
  | _, _ => False
theorem emod_wrap {a M : Int} (hM : M ∣ 18446744073709551616) : IntKind.u64.wrap a % M = a % M := by
  have : IntKind.u64.wrap a = a % 18446744073709551616 := by simp [IntKind.wrap, IntKind.bits, IntKind.signed]
  rw [this]
  exact Int.emod_emod_of_dvd a hM
theorem wrap_nonneg (a : Int) : 0 ≤ IntKind.u64.wrap a := by
  have : IntKind.u64.wrap a = a % 18446744073709551616 := by simp [IntKind.wrap, IntKind.bits, IntKind.signed]
  omega
/-- One operation, of both. -/
theorem evOp_sim (hM : M ∣ 18446744073709551616) (h0 : 0 < M) (r : RelT D M tm tm') {call : CallF} {b : Nat} {m : Mem} {s : Step} (hs : okSim D M s = true) :
    (evOp call b tm m s.op = none ∧ evOp call b tm' m s.op = none) ∨ ∃ v w m', evOp call b tm m s.op = some (v, m') ∧ evOp call b tm' m s.op = some (w, m') ∧ RelT D M (put tm s.dst v) (put tm' s.dst w) := by
  simp only [okSim, Bool.and_eq_true, Bool.or_eq_true] at hs
  obtain ⟨_, hs⟩ := hs
  have same : (∀ x ∈ s.op.opds, x.eval tm = x.eval tm') → (evOp call b tm m s.op = none ∧ evOp call b tm' m s.op = none) ∨ ∃ v w m', evOp call b tm m s.op = some (v, m') ∧ evOp call b tm' m s.op = some (w, m') ∧ RelT D M (put tm s.dst v) (put tm' s.dst w) := fun h => by
    rw [evOp_congr h]
    cases evOp call b tm' m s.op with
    | none => exact .inl ⟨rfl, rfl⟩
    | some p => exact .inr ⟨p.1, p.1, p.2, rfl, rfl, r.put⟩
  rcases hs with ⟨h1, _⟩ | hs
  · refine same fun x hx => r.eval fun t ht => ?_
    have := List.all_eq_true.1 h1 t (List.mem_flatMap.2 ⟨x, hx, ht⟩)
    simpa using this
  · split at hs
    · rename_i x hop
      rw [hop]
      by_cases hx : x ∈ D
      · exact .inr ⟨_, _, m, rfl, rfl, r.putQ hs (r.inn x hx)⟩
      · refine .inr ⟨_, _, m, rfl, rfl, ?_⟩
        rw [show Opd.eval tm (.t x) = Opd.eval tm' (.t x) from r.out x hx]
        exact r.put
    · rename_i x hop
      rw [hop]
      by_cases hx : x ∈ D
      · rcases r.inn x hx with e | ⟨kd, a, c, e1, e2, e3, e4⟩
        · have e : Opd.eval tm (.t x) = Opd.eval tm' (.t x) := e
          simp only [evOp, e]
          cases Opd.eval tm' (.t x) with
          | int k n => exact .inr ⟨_, _, m, rfl, rfl, r.put⟩
          | _ => exact .inl ⟨rfl, rfl⟩
        · have e1 : Opd.eval tm (.t x) = .int kd a := e1
          have e2 : Opd.eval tm' (.t x) = .int kd c := e2
          simp only [evOp, e1, e2]
          refine .inr ⟨_, _, m, rfl, rfl, r.putQ hs (.inr ⟨.u64, _, _, rfl, rfl, ?_, fun _ => ⟨wrap_nonneg _, wrap_nonneg _⟩⟩)⟩
          rw [emod_wrap hM, emod_wrap hM, e3]
      · have e : Opd.eval tm (.t x) = Opd.eval tm' (.t x) := r.out x hx
        simp only [evOp, e]
        cases Opd.eval tm' (.t x) with
        | int k n => exact .inr ⟨_, _, m, rfl, rfl, r.put⟩
        | _ => exact .inl ⟨rfl, rfl⟩
    · rename_i x mm hop
      simp only [Bool.and_eq_true, decide_eq_true_eq] at hs
      obtain ⟨rfl, hs⟩ := hs
      rw [hop]
      have eqc : Opd.eval tm (.t x) = Opd.eval tm' (.t x) → (evOp call b tm m (.bin .rem .num (.t x) (.c (.int .u64 mm))) = none ∧ evOp call b tm' m (.bin .rem .num (.t x) (.c (.int .u64 mm))) = none) ∨ ∃ v w m', evOp call b tm m (.bin .rem .num (.t x) (.c (.int .u64 mm))) = some (v, m') ∧ evOp call b tm' m (.bin .rem .num (.t x) (.c (.int .u64 mm))) = some (w, m') ∧ RelT D mm (put tm s.dst v) (put tm' s.dst w) := fun e => by
        simp only [evOp, e]
        cases hb : pureOp (binOp .rem .num (Opd.eval tm' (.t x)) (Opd.eval tm' (.c (.int .u64 mm)))) m with
        | none => exact .inl ⟨hb, rfl⟩
        | some p => exact .inr ⟨p.1, p.1, p.2, hb, rfl, r.put⟩
      by_cases hx : x ∈ D
      · rcases r.inn x hx with e | ⟨kd, a, c, e1, e2, e3, e4⟩
        · exact eqc e
        · have e1 : Opd.eval tm (.t x) = .int kd a := e1
          have e2 : Opd.eval tm' (.t x) = .int kd c := e2
          by_cases hk : kd = .u64
          · subst hk
            obtain ⟨p1, p2⟩ := e4 rfl
            have ne : mm ≠ 0 := by omega
            have et : a.tmod mm = c.tmod mm := by rw [Int.tmod_eq_emod_of_nonneg p1, Int.tmod_eq_emod_of_nonneg p2, e3]
            refine .inr ⟨.int .u64 (c.tmod mm), .int .u64 (c.tmod mm), m, ?_, ?_, r.put⟩
            · show pureOp (binOp .rem .num (Opd.eval tm (.t x)) (.int .u64 mm)) m = _
              rw [e1]; simp [binOp, intOp, ne, pureOp, et]
            · show pureOp (binOp .rem .num (Opd.eval tm' (.t x)) (.int .u64 mm)) m = _
              rw [e2]; simp [binOp, intOp, ne, pureOp]
          · refine .inl ⟨?_, ?_⟩
            · show pureOp (binOp .rem .num (Opd.eval tm (.t x)) (.int .u64 mm)) m = _
              rw [e1]; simp [binOp, hk, pureOp]
            · show pureOp (binOp .rem .num (Opd.eval tm' (.t x)) (.int .u64 mm)) m = _
              rw [e2]; simp [binOp, hk, pureOp]
      · exact eqc (r.out x hx)
    · cases hs
theorem evSteps_sim (hM : M ∣ 18446744073709551616) (h0 : 0 < M) {call : CallF} {b : Nat} : ∀ (l : List Step) (tm tm' : List AV) (m : Mem), l.all (okSim D M) = true → RelT D M tm tm' → RS2 D M (evSteps call b l ⟨tm, m⟩) (evSteps call b l ⟨tm', m⟩)
  | [], tm, tm', m, _, r => ⟨r, rfl⟩
  | s :: l, tm, tm', m, h, r => by
    simp only [List.all_cons, Bool.and_eq_true] at h
    have hs := h.1
    simp only [okSim, Bool.and_eq_true] at hs
    have hg : ∀ t ∈ rdG s.guard, t ∉ D := fun t ht => by have := List.all_eq_true.1 hs.1.1 t ht; simpa using this
    have hk : ∀ m, s.chk.all (chkOk b tm m) = s.chk.all (chkOk b tm' m) := fun m => by
      rw [Bool.eq_iff_iff, List.all_eq_true, List.all_eq_true]
      have := fun c hc => r.chk (b := b) (m := m) (c := c) fun t ht => by
        have := List.all_eq_true.1 (List.all_eq_true.1 hs.1.2 c hc) t ht
        simpa using this
      exact ⟨fun h c hc => by rw [← this c hc]; exact h c hc, fun h c hc => by rw [this c hc]; exact h c hc⟩
    simp only [evSteps]
    rw [r.wants hg]
    split
    · rcases evOp_sim hM h0 r (call := call) (b := b) (m := m) h.1 with ⟨e1, e2⟩ | ⟨v, w, m', e1, e2, r'⟩
      · simp only [e1, e2]; trivial
      · simp only [e1, e2]
        rw [hk m']
        split
        · exact evSteps_sim hM h0 l _ _ m' h.2 r'
        · trivial
    · exact evSteps_sim hM h0 l _ _ m h.2 r.put
theorem loopN_sim {body : St → Option (Ex × St)} (hb : ∀ tm tm' m, RelT D M tm tm' → RC2 D M (body ⟨tm, m⟩) (body ⟨tm', m⟩)) : ∀ (k : Nat) (tm tm' : List AV) (m : Mem), RelT D M tm tm' → RC2 D M (loopN body k ⟨tm, m⟩) (loopN body k ⟨tm', m⟩)
  | 0, _, _, _, _ => trivial
  | k + 1, tm, tm', m, r => by
    have h := hb tm tm' m r
    rw [loopN, loopN]
    cases h1 : body ⟨tm, m⟩ with
    | none =>
      cases h2 : body ⟨tm', m⟩ with
      | none => trivial
      | some q => rw [h1, h2] at h; exact h.elim
    | some p =>
      obtain ⟨x, s⟩ := p
      cases h2 : body ⟨tm', m⟩ with
      | none => rw [h1, h2] at h; exact h.elim
      | some q =>
        obtain ⟨x', s'⟩ := q
        rw [h1, h2] at h
        obtain ⟨rfl, h3, h4⟩ := h
        cases x with
        | norm =>
          obtain ⟨tm1, m1⟩ := s
          obtain ⟨tm2, m2⟩ := s'
          obtain rfl : m1 = m2 := h4
          exact loopN_sim hb k _ _ _ h3
        | exit i => exact ⟨rfl, h3, h4⟩
        | ret => exact ⟨rfl, h3, h4⟩
theorem evC_sim (hM : M ∣ 18446744073709551616) (h0 : 0 < M) {call : CallF} {k : Nat} : ∀ (c : ICode) (tm tm' : List AV) (m : Mem), simOk D M c = true → RelT D M tm tm' → RC2 D M (evC call k c ⟨tm, m⟩) (evC call k c ⟨tm', m⟩) := by
  intro c
  induction c with
  | skip => intro tm tm' m h r; exact ⟨rfl, r, rfl⟩
  | exit i => intro tm tm' m h r; exact ⟨rfl, r, rfl⟩
  | ret => intro tm tm' m h r; exact ⟨rfl, r, rfl⟩
  | reg j pi anc ops =>
    intro tm tm' m h r
    have h := evSteps_sim hM h0 (call := call) (b := m.next) ops tm tm' ⟨m.next + j, m.t⟩ h r
    rw [evC, evC]
    simp only
    cases h1 : evSteps call m.next ops ⟨tm, ⟨m.next + j, m.t⟩⟩ with
    | none =>
      cases h2 : evSteps call m.next ops ⟨tm', ⟨m.next + j, m.t⟩⟩ with
      | none => trivial
      | some q => rw [h1, h2] at h; exact h.elim
    | some p =>
      cases h2 : evSteps call m.next ops ⟨tm', ⟨m.next + j, m.t⟩⟩ with
      | none => rw [h1, h2] at h; exact h.elim
      | some q => rw [h1, h2] at h; exact ⟨rfl, h.1, h.2⟩
  | seq a b iha ihb =>
    intro tm tm' m h r
    simp only [simOk, Bool.and_eq_true] at h
    have hh := iha tm tm' m h.1 r
    rw [evC, evC]
    cases h1 : evC call k a ⟨tm, m⟩ with
    | none =>
      cases h2 : evC call k a ⟨tm', m⟩ with
      | none => trivial
      | some q => rw [h1, h2] at hh; exact hh.elim
    | some p =>
      obtain ⟨x, s⟩ := p
      cases h2 : evC call k a ⟨tm', m⟩ with
      | none => rw [h1, h2] at hh; exact hh.elim
      | some q =>
        obtain ⟨x', s'⟩ := q
        rw [h1, h2] at hh
        obtain ⟨rfl, h3, h4⟩ := hh
        cases x with
        | norm =>
          obtain ⟨tm1, m1⟩ := s
          obtain ⟨tm2, m2⟩ := s'
          obtain rfl : m1 = m2 := h4
          exact ihb _ _ _ h.2 h3
        | exit i => exact ⟨rfl, h3, h4⟩
        | ret => exact ⟨rfl, h3, h4⟩
  | cond c a b iha ihb =>
    intro tm tm' m h r
    simp only [simOk, Bool.and_eq_true] at h
    rw [evC, evC]
    simp only
    rw [r.eval fun t ht => by have := List.all_eq_true.1 h.1.1 t ht; simpa using this]
    cases c.eval tm' with
    | bool t => cases t with
      | true => exact iha _ _ _ h.1.2 r
      | false => exact ihb _ _ _ h.2 r
    | _ => trivial
  | block id c ih =>
    intro tm tm' m h r
    have hh := ih tm tm' m h r
    rw [evC, evC]
    cases h1 : evC call k c ⟨tm, m⟩ with
    | none =>
      cases h2 : evC call k c ⟨tm', m⟩ with
      | none => trivial
      | some q => rw [h1, h2] at hh; exact hh.elim
    | some p =>
      obtain ⟨x, s⟩ := p
      cases h2 : evC call k c ⟨tm', m⟩ with
      | none => rw [h1, h2] at hh; exact hh.elim
      | some q =>
        obtain ⟨x', s'⟩ := q
        rw [h1, h2] at hh
        obtain ⟨rfl, h3, h4⟩ := hh
        cases x with
        | norm => exact ⟨rfl, h3, h4⟩
        | exit j =>
          simp only
          split
          · exact ⟨rfl, h3, h4⟩
          · exact ⟨rfl, h3, h4⟩
        | ret => exact ⟨rfl, h3, h4⟩
  | loop c ih =>
    intro tm tm' m h r
    exact loopN_sim (fun tm tm' m r => ih tm tm' m h r) k tm tm' m r
/-- A function whose answer lies in a temporary that is not one of these. -/
theorem evFun_sim (hM : M ∣ 18446744073709551616) (h0 : 0 < M) {call : CallF} {k : Nat} {fn : IFun} {args args' : List AV} {m : Mem} {t : Nat} (hc : simOk D M fn.body = true) (hr : fn.results = [.tmp t]) (ht : t ∉ D) (hl : args.length = args'.length)
    (ho : ∀ i, i ∉ D → args.getD i .undef = args'.getD i .undef) (hi : ∀ i, i ∈ D → Qr M (args.getD i .undef) (args'.getD i .undef)) : evFun call k fn args m = evFun call k fn args' m := by
  have gd : ∀ (l : List AV) (n i : Nat), (l ++ List.replicate n AV.undef).getD i .undef = l.getD i .undef := fun l n i => by
    simp only [List.getD_eq_getElem?_getD]
    by_cases h : i < l.length
    · rw [List.getElem?_append_left h]
    · rw [List.getElem?_append_right (by omega), List.getElem?_eq_none (l := l) (by omega), List.getElem?_replicate]
      split <;> rfl
  have r : RelT D M (args ++ List.replicate (fn.ntmps - args.length) .undef) (args' ++ List.replicate (fn.ntmps - args'.length) .undef) :=
    ⟨by simp [hl], fun i h => by rw [gd, gd]; exact ho i h, fun i h => by rw [gd, gd]; exact hi i h⟩
  have h := evC_sim hM h0 (call := call) (k := k) fn.body _ _ m hc r
  unfold evFun inFun
  rw [hr]
  cases h1 : evC call k fn.body ⟨args ++ List.replicate (fn.ntmps - args.length) .undef, m⟩ with
  | none =>
    cases h2 : evC call k fn.body ⟨args' ++ List.replicate (fn.ntmps - args'.length) .undef, m⟩ with
    | none => rfl
    | some q => rw [h1, h2] at h; exact h.elim
  | some p =>
    obtain ⟨x, s⟩ := p
    cases h2 : evC call k fn.body ⟨args' ++ List.replicate (fn.ntmps - args'.length) .undef, m⟩ with
    | none => rw [h1, h2] at h; exact h.elim
    | some q =>
      obtain ⟨x', s'⟩ := q
      rw [h1, h2] at h
      obtain ⟨rfl, h3, h4⟩ := h
      cases x <;> simp only [resAll, resOf, h3.out t ht, h4]
end
end Go.Proofs.YtdljelicbnjfjaaGreat.X
