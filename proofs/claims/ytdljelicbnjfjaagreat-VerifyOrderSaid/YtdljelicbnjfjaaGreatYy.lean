/- The runs of code, quickly. -/
import Derived.Test.YtdljelicbnjfjaaGreatYz
set_option linter.unusedVariables false
namespace Go.Proofs.YtdljelicbnjfjaaGreat.X
open Go Go.RowKit

def zz (e : TmT) (x : Opd) : AV := match x with | .t n => e.get n | .c v => v
def wantsZ (e : TmT) : Option (Nat × Bool) → Bool
  | none => true
  | some (t, b) => match e.get t with | .bool c => c == b | _ => false
def chkOkZ (base : Nat) (e : TmT) (m : Mem) (c : Chk) : Bool :=
  cond (wantsZ e c.guard) (match evOpZ (fun _ _ _ => none) base (zz e) m c.op with | some (v, _) => AV.same v (e.get c.dst) | none => false) true
def putZ {α : Type} (n : Nat) (e : TmT) (d : Option Nat) (v : AV) (k : TmT → α) : α := match d with | some d => cond (Nat.blt d n) (TmT.setK v d e d k) (k e) | none => k e
def evStepsZ (call : CallF) (base n : Nat) : List Step → TmT → Mem → Option (TmT × Mem)
  | [], e, m => some (e, m)
  | i :: r, e, m =>
    cond (wantsZ e i.guard)
      (match evOpZ call base (zz e) m i.op with
      | some (v, m') => frcV v fun v => putZ n e i.dst v fun e' => cond (i.chk.all (chkOkZ base e m')) (evStepsZ call base n r e' m') none
      | none => none)
      (putZ n e i.dst .undef fun e' => evStepsZ call base n r e' m)
def loopZ (body : TmT → Mem → Option (Ex × TmT × Mem)) : Nat → TmT → Mem → Option (Ex × TmT × Mem)
  | 0, _, _ => none
  | k + 1, e, m => match body e m with
    | some (.norm, e', m') => loopZ body k e' m'
    | r => r
def evCZ (call : CallF) (k n : Nat) : ICode → TmT → Mem → Option (Ex × TmT × Mem)
  | .skip, e, m => some (.norm, e, m)
  | .reg j _ _ ops, e, m => match evStepsZ call m.next n ops e ⟨m.next + j, m.t⟩ with | some (e', m') => some (.norm, e', m') | none => none
  | .seq a b, e, m => match evCZ call k n a e m with
    | some (.norm, e', m') => evCZ call k n b e' m'
    | r => r
  | .cond c a b, e, m => match zz e c with
    | .bool true => evCZ call k n a e m
    | .bool false => evCZ call k n b e m
    | _ => none
  | .block id c, e, m => match evCZ call k n c e m with
    | some (.exit j, e', m') => if j = id then some (.norm, e', m') else some (.exit j, e', m')
    | r => r
  | .loop c, e, m => loopZ (evCZ call k n c) k e m
  | .exit id, e, m => some (.exit id, e, m)
  | .ret, e, m => some (.ret, e, m)
def panAtZ (call : CallF) (callP : CallP) (base n : Nat) : List Step → TmT → Mem → Option (Nat × Mem)
  | [], _, _ => none
  | i :: r, e, m =>
    cond (wantsZ e i.guard)
      (match evOpZ call base (zz e) m i.op with
      | some (v, m') => frcV v fun v => putZ n e i.dst v fun e' => cond (i.chk.all (chkOkZ base e m')) (panAtZ call callP base n r e' m') none
      | none => match i.op with
        | .call f args => match callP f (args.map (zz e)) m with | some m' => some (r.length, m') | none => none
        | _ => none)
      (putZ n e i.dst .undef fun e' => panAtZ call callP base n r e' m)
def loopPZ (body : TmT → Mem → Option (Ex × TmT × Mem)) (bodyP : TmT → Mem → Option Mem) : Nat → TmT → Mem → Option Mem
  | 0, _, _ => none
  | k + 1, e, m => match body e m with
    | some (.norm, e', m') => loopPZ body bodyP k e' m'
    | some _ => none
    | none => bodyP e m
def evCPZ (call : CallF) (callP : CallP) (k n : Nat) : ICode → TmT → Mem → Option Mem
  | .reg j pi anc ops, e, m => match panAtZ call callP m.next n ops e ⟨m.next + j, m.t⟩ with
    | some (l, m') => if lateOk pi anc ops.length l then some m' else none
    | none => none
  | .seq a b, e, m => match evCZ call k n a e m with
    | some (.norm, e', m') => evCPZ call callP k n b e' m'
    | some _ => none
    | none => evCPZ call callP k n a e m
  | .cond c a b, e, m => match zz e c with
    | .bool true => evCPZ call callP k n a e m
    | .bool false => evCPZ call callP k n b e m
    | _ => none
  | .block _ c, e, m => evCPZ call callP k n c e m
  | .loop c, e, m => loopPZ (evCZ call k n c) (evCPZ call callP k n c) k e m
  | _, _, _ => none
/-- The arguments, in a tree. -/
def envOf : List AV → Nat → TmT → TmT
  | [], _, e => e
  | v :: l, i, e => TmT.setK v i e i fun e => envOf l (i + 1) e
def resZ (e : TmT) (m : Mem) : IRes → Option AV
  | .tmp t => some (e.get t)
  | .cell t n => match zLd' n (e.get t) m with | some (v, _) => some v | none => none
def resAllZ (e : TmT) (m : Mem) : List IRes → Option (List AV)
  | [] => some []
  | r :: l => match resZ e m r, resAllZ e m l with | some v, some vs => some (v :: vs) | _, _ => none
def evFunZ (call : CallF) (k : Nat) (fn : IFun) (args : List AV) (m : Mem) : Option (AV × Mem) :=
  frcT args fun args => match evCZ call k (cond (Nat.ble args.length fn.ntmps) fn.ntmps args.length) fn.body (envOf args 0 .nil) m with
  | some (.norm, e, m') | some (.ret, e, m') => match resAllZ e m' fn.results with | some vs => frcT vs fun vs => some (pack vs, m') | none => none
  | _ => none
def evGZ (S : Sp) (tab : Nat → Option IFun) : Nat → CallF × CallP
  | 0 => (fun _ _ _ => none, fun _ _ _ => none)
  | k + 1 =>
    (fun f args m => cond (Nat.beq f S.must) (evMust args m) (cond (Nat.beq f S.hold) (evHold (evGZ S tab k).1 (evGZ S tab k).2 S.okTy args m) (cond (S.knows f) (evKnown S f args m)
      (match tab f with | some fn => evFunZ (evGZ S tab k).1 k fn args m | none => none))),
     fun f args m => cond (Nat.beq f S.must) (evMustP args m) (cond (Nat.beq f S.hold) none (cond (S.knows f) none
      (match tab f with | some fn => frcT args fun args => evCPZ (evGZ S tab k).1 (evGZ S tab k).2 k (cond (Nat.ble args.length fn.ntmps) fn.ntmps args.length) fn.body (envOf args 0 .nil) m | none => none))))

/-! ### The same -/
/-- A tree holds a list of temporaries. -/
structure RepT (n : Nat) (e : TmT) (tm : List AV) : Prop where
  len : tm.length = n
  get : ∀ i, e.get i = tm.getD i .undef
section
variable {n : Nat} {e : TmT} {tm : List AV}
theorem zz_eq (r : RepT n e tm) : zz e = fun x => x.eval tm := by
  funext x
  cases x with
  | t i => exact r.get i
  | c v => rfl
theorem wantsZ_eq (r : RepT n e tm) (g : Option (Nat × Bool)) : wantsZ e g = wants tm g := by
  cases g with
  | none => rfl
  | some p => obtain ⟨t, b⟩ := p; simp only [wantsZ, wants, r.get]; rfl
theorem chkOkZ_eq (r : RepT n e tm) (base : Nat) (m : Mem) (c : Chk) : chkOkZ base e m c = chkOk base tm m c := by
  unfold chkOkZ chkOk
  rw [wantsZ_eq r, zz_eq r, evOpZ_eq, r.get]
  cases wants tm c.guard <;> rfl
theorem putZ_eq (r : RepT n e tm) {α : Type} (d : Option Nat) (v : AV) (k : TmT → α) : ∃ e', putZ n e d v k = k e' ∧ RepT n e' (put tm d v) := by
  cases d with
  | none => exact ⟨e, rfl, r⟩
  | some d =>
    simp only [putZ, put]
    cases hb : Nat.blt d n with
    | true =>
      have hd : d < n := by rw [← Nat.blt_eq]; exact hb
      refine ⟨TmT.setAt v d e d, by simp only [cond_true, TmT.setK_eq], by rw [List.length_set]; exact r.len, fun i => ?_⟩
      rw [TmT.setAt_get v d e d i (Nat.le_refl _), r.get]
      simp only [List.getD_eq_getElem?_getD, List.getElem?_set]
      by_cases h : i = d
      · subst h
        have : i < tm.length := by rw [r.len]; exact hd
        simp [this]
      · rw [if_neg h, if_neg (fun z => h z.symm)]
    | false =>
      have hd : ¬ d < n := fun h => by rw [← Nat.blt_eq] at h; rw [h] at hb; cases hb
      refine ⟨e, rfl, ?_⟩
      rw [List.set_eq_of_length_le (by rw [r.len]; omega)]
      exact r
def RO (n : Nat) : Option (TmT × Mem) → Option St → Prop
  | none, none => True
  | some (e, m), some s => RepT n e s.tm ∧ m = s.m
  | _, _ => False
def RC (n : Nat) : Option (Ex × TmT × Mem) → Option (Ex × St) → Prop
  | none, none => True
  | some (x, e, m), some (x', s) => x = x' ∧ RepT n e s.tm ∧ m = s.m
  | _, _ => False
theorem chks_eq (r : RepT n e tm) (base : Nat) (m : Mem) (l : List Chk) : l.all (chkOkZ base e m) = l.all (chkOk base tm m) := by
  congr 1; funext c; exact chkOkZ_eq r base m c
theorem evStepsZ_eq (call : CallF) (base : Nat) : ∀ (l : List Step) (e : TmT) (tm : List AV) (m : Mem), RepT n e tm → RO n (evStepsZ call base n l e m) (evSteps call base l ⟨tm, m⟩)
  | [], e, tm, m, r => ⟨r, rfl⟩
  | i :: l, e, tm, m, r => by
    rw [evStepsZ, evSteps, wantsZ_eq r, zz_eq r, evOpZ_eq]
    cases wants tm i.guard with
    | true =>
      simp only [cond_true, if_true]
      cases evOp call base tm m i.op with
      | none => trivial
      | some p =>
        obtain ⟨v, m'⟩ := p
        simp only [frcV_eq]
        obtain ⟨e', h1, h2⟩ := putZ_eq r i.dst v fun e' => cond (i.chk.all (chkOkZ base e m')) (evStepsZ call base n l e' m') none
        rw [h1, chks_eq r]
        cases i.chk.all (chkOk base tm m') with
        | true => exact evStepsZ_eq call base l e' _ m' h2
        | false => trivial
    | false =>
      simp only [cond_false, Bool.false_eq_true, if_false]
      obtain ⟨e', h1, h2⟩ := putZ_eq r i.dst .undef fun e' => evStepsZ call base n l e' m
      rw [h1]
      exact evStepsZ_eq call base l e' _ m h2
theorem loopZ_eq {body : TmT → Mem → Option (Ex × TmT × Mem)} {body' : St → Option (Ex × St)} (hb : ∀ e tm m, RepT n e tm → RC n (body e m) (body' ⟨tm, m⟩)) : ∀ (k : Nat) (e : TmT) (tm : List AV) (m : Mem), RepT n e tm → RC n (loopZ body k e m) (loopN body' k ⟨tm, m⟩)
  | 0, e, tm, m, r => trivial
  | k + 1, e, tm, m, r => by
    have h := hb e tm m r
    rw [loopZ, loopN]
    cases h1 : body e m with
    | none =>
      cases h2 : body' ⟨tm, m⟩ with
      | none => trivial
      | some q => rw [h1, h2] at h; exact h.elim
    | some p =>
      obtain ⟨x, e', m'⟩ := p
      cases h2 : body' ⟨tm, m⟩ with
      | none => rw [h1, h2] at h; exact h.elim
      | some q =>
        obtain ⟨x', s⟩ := q
        rw [h1, h2] at h
        obtain ⟨rfl, h3, rfl⟩ := h
        cases x with
        | norm => exact loopZ_eq hb k e' s.tm s.m h3
        | exit i => exact ⟨rfl, h3, rfl⟩
        | ret => exact ⟨rfl, h3, rfl⟩
theorem evCZ_eq (call : CallF) (k : Nat) : ∀ (c : ICode) (e : TmT) (tm : List AV) (m : Mem), RepT n e tm → RC n (evCZ call k n c e m) (evC call k c ⟨tm, m⟩) := by
  intro c
  induction c with
  | skip => intro e tm m r; exact ⟨rfl, r, rfl⟩
  | exit i => intro e tm m r; exact ⟨rfl, r, rfl⟩
  | ret => intro e tm m r; exact ⟨rfl, r, rfl⟩
  | reg j pi anc ops =>
    intro e tm m r
    have h := evStepsZ_eq (n := n) call m.next ops e tm ⟨m.next + j, m.t⟩ r
    rw [evCZ, evC]
    simp only
    cases h1 : evStepsZ call m.next n ops e ⟨m.next + j, m.t⟩ with
    | none =>
      cases h2 : evSteps call m.next ops ⟨tm, ⟨m.next + j, m.t⟩⟩ with
      | none => trivial
      | some q => rw [h1, h2] at h; exact h.elim
    | some p =>
      obtain ⟨e', m'⟩ := p
      cases h2 : evSteps call m.next ops ⟨tm, ⟨m.next + j, m.t⟩⟩ with
      | none => rw [h1, h2] at h; exact h.elim
      | some q => rw [h1, h2] at h; exact ⟨rfl, h.1, h.2⟩
  | seq a b iha ihb =>
    intro e tm m r
    have h := iha e tm m r
    rw [evCZ, evC]
    cases h1 : evCZ call k n a e m with
    | none =>
      cases h2 : evC call k a ⟨tm, m⟩ with
      | none => trivial
      | some q => rw [h1, h2] at h; exact h.elim
    | some p =>
      obtain ⟨x, e', m'⟩ := p
      cases h2 : evC call k a ⟨tm, m⟩ with
      | none => rw [h1, h2] at h; exact h.elim
      | some q =>
        obtain ⟨x', s⟩ := q
        rw [h1, h2] at h
        obtain ⟨rfl, h3, rfl⟩ := h
        cases x with
        | norm => exact ihb e' s.tm s.m h3
        | exit i => exact ⟨rfl, h3, rfl⟩
        | ret => exact ⟨rfl, h3, rfl⟩
  | cond c a b iha ihb =>
    intro e tm m r
    rw [evCZ, evC, zz_eq r]
    simp only
    cases c.eval tm with
    | bool t => cases t with
      | true => exact iha e tm m r
      | false => exact ihb e tm m r
    | _ => trivial
  | block id c ih =>
    intro e tm m r
    have h := ih e tm m r
    rw [evCZ, evC]
    cases h1 : evCZ call k n c e m with
    | none =>
      cases h2 : evC call k c ⟨tm, m⟩ with
      | none => trivial
      | some q => rw [h1, h2] at h; exact h.elim
    | some p =>
      obtain ⟨x, e', m'⟩ := p
      cases h2 : evC call k c ⟨tm, m⟩ with
      | none => rw [h1, h2] at h; exact h.elim
      | some q =>
        obtain ⟨x', s⟩ := q
        rw [h1, h2] at h
        obtain ⟨rfl, h3, rfl⟩ := h
        cases x with
        | norm => exact ⟨rfl, h3, rfl⟩
        | exit j =>
          simp only
          split
          · exact ⟨rfl, h3, rfl⟩
          · exact ⟨rfl, h3, rfl⟩
        | ret => exact ⟨rfl, h3, rfl⟩
  | loop c ih =>
    intro e tm m r
    exact loopZ_eq ih k e tm m r
theorem panAtZ_eq (call : CallF) (callP : CallP) (base : Nat) : ∀ (l : List Step) (e : TmT) (tm : List AV) (m : Mem), RepT n e tm → panAtZ call callP base n l e m = panAt call callP base l ⟨tm, m⟩
  | [], e, tm, m, r => rfl
  | i :: l, e, tm, m, r => by
    rw [panAtZ, panAt, wantsZ_eq r, zz_eq r, evOpZ_eq]
    cases wants tm i.guard with
    | true =>
      simp only [cond_true, if_true]
      cases evOp call base tm m i.op with
      | none => rfl
      | some p =>
        obtain ⟨v, m'⟩ := p
        simp only [frcV_eq]
        obtain ⟨e', h1, h2⟩ := putZ_eq r i.dst v fun e' => cond (i.chk.all (chkOkZ base e m')) (panAtZ call callP base n l e' m') none
        rw [h1, chks_eq r]
        cases i.chk.all (chkOk base tm m') with
        | true => exact panAtZ_eq call callP base l e' _ m' h2
        | false => rfl
    | false =>
      simp only [cond_false, Bool.false_eq_true, if_false]
      obtain ⟨e', h1, h2⟩ := putZ_eq r i.dst .undef fun e' => panAtZ call callP base n l e' m
      rw [h1]
      exact panAtZ_eq call callP base l e' _ m h2
theorem loopPZ_eq {body : TmT → Mem → Option (Ex × TmT × Mem)} {body' : St → Option (Ex × St)} {bodyP : TmT → Mem → Option Mem} {bodyP' : St → Option Mem} (hb : ∀ e tm m, RepT n e tm → RC n (body e m) (body' ⟨tm, m⟩)) (hp : ∀ e tm m, RepT n e tm → bodyP e m = bodyP' ⟨tm, m⟩) :
    ∀ (k : Nat) (e : TmT) (tm : List AV) (m : Mem), RepT n e tm → loopPZ body bodyP k e m = loopNP body' bodyP' k ⟨tm, m⟩
  | 0, e, tm, m, r => rfl
  | k + 1, e, tm, m, r => by
    have h := hb e tm m r
    rw [loopPZ, loopNP]
    cases h1 : body e m with
    | none =>
      cases h2 : body' ⟨tm, m⟩ with
      | none => exact hp e tm m r
      | some q => rw [h1, h2] at h; exact h.elim
    | some p =>
      obtain ⟨x, e', m'⟩ := p
      cases h2 : body' ⟨tm, m⟩ with
      | none => rw [h1, h2] at h; exact h.elim
      | some q =>
        obtain ⟨x', s⟩ := q
        rw [h1, h2] at h
        obtain ⟨rfl, h3, rfl⟩ := h
        cases x with
        | norm => exact loopPZ_eq hb hp k e' s.tm s.m h3
        | exit i => rfl
        | ret => rfl
theorem evCPZ_eq (call : CallF) (callP : CallP) (k : Nat) : ∀ (c : ICode) (e : TmT) (tm : List AV) (m : Mem), RepT n e tm → evCPZ call callP k n c e m = evCP call callP k c ⟨tm, m⟩ := by
  intro c
  induction c with
  | skip => intro e tm m r; rfl
  | exit i => intro e tm m r; rfl
  | ret => intro e tm m r; rfl
  | reg j pi anc ops =>
    intro e tm m r
    rw [evCPZ, evCP]
    simp only
    rw [panAtZ_eq call callP m.next ops e tm ⟨m.next + j, m.t⟩ r]
    rfl
  | seq a b iha ihb =>
    intro e tm m r
    have h := evCZ_eq (n := n) call k a e tm m r
    rw [evCPZ, evCP]
    cases h1 : evCZ call k n a e m with
    | none =>
      cases h2 : evC call k a ⟨tm, m⟩ with
      | none => exact iha e tm m r
      | some q => rw [h1, h2] at h; exact h.elim
    | some p =>
      obtain ⟨x, e', m'⟩ := p
      cases h2 : evC call k a ⟨tm, m⟩ with
      | none => rw [h1, h2] at h; exact h.elim
      | some q =>
        obtain ⟨x', s⟩ := q
        rw [h1, h2] at h
        obtain ⟨rfl, h3, rfl⟩ := h
        cases x with
        | norm => exact ihb e' s.tm s.m h3
        | exit i => rfl
        | ret => rfl
  | cond c a b iha ihb =>
    intro e tm m r
    rw [evCPZ, evCP, zz_eq r]
    simp only
    cases c.eval tm with
    | bool t => cases t with
      | true => exact iha e tm m r
      | false => exact ihb e tm m r
    | _ => rfl
  | block id c ih => intro e tm m r; exact ih e tm m r
  | loop c ih =>
    intro e tm m r
    exact loopPZ_eq (fun e tm m r => evCZ_eq call k c e tm m r) ih k e tm m r
end
theorem envOf_get : ∀ (l : List AV) (i : Nat) (e : TmT) (j : Nat), (envOf l i e).get j = if i ≤ j ∧ j < i + l.length then l.getD (j - i) .undef else e.get j
  | [], i, e, j => by rw [envOf, if_neg (by simp)]
  | v :: l, i, e, j => by
    rw [envOf, TmT.setK_eq, envOf_get l, TmT.setAt_get v i e i j (Nat.le_refl _)]
    by_cases h : j = i
    · subst h
      rw [if_neg (by omega), if_pos rfl, if_pos (by simp)]
      simp
    · rw [if_neg h]
      by_cases h2 : i + 1 ≤ j ∧ j < i + 1 + l.length
      · rw [if_pos h2, if_pos (by simp; omega), show j - i = (j - (i + 1)) + 1 by omega]; rfl
      · rw [if_neg h2, if_neg (by simp; omega)]
theorem rep_args (fn : IFun) (args : List AV) : RepT (cond (Nat.ble args.length fn.ntmps) fn.ntmps args.length) (envOf args 0 .nil) (args ++ List.replicate (fn.ntmps - args.length) .undef) := by
  refine ⟨?_, fun i => ?_⟩
  · rw [List.length_append, List.length_replicate]
    cases h : Nat.ble args.length fn.ntmps with
    | true => have := Nat.le_of_ble_eq_true h; simp only [cond_true]; omega
    | false =>
      have : ¬ args.length ≤ fn.ntmps := fun z => by rw [← Nat.ble_eq] at z; rw [z] at h; cases h
      simp only [cond_false]; omega
  · rw [envOf_get]
    simp only [Nat.zero_le, Nat.zero_add, true_and, Nat.sub_zero, List.getD_eq_getElem?_getD]
    by_cases h : i < args.length
    · rw [if_pos h, List.getElem?_append_left h]
    · rw [if_neg h, List.getElem?_append_right (by omega)]
      by_cases h2 : i - args.length < fn.ntmps - args.length
      · rw [List.getElem?_replicate, if_pos h2]; rfl
      · rw [List.getElem?_replicate, if_neg h2]; rfl
theorem resZ_eq {n : Nat} {e : TmT} {tm : List AV} (r : RepT n e tm) (m : Mem) (x : IRes) : resZ e m x = resOf tm m x := by
  cases x with
  | tmp t => simp only [resZ, resOf, r.get]
  | cell t k =>
    simp only [resZ, resOf, r.get]
    cases k <;> rfl
theorem resAllZ_eq {n : Nat} {e : TmT} {tm : List AV} (r : RepT n e tm) (m : Mem) : ∀ l : List IRes, resAllZ e m l = resAll tm m l
  | [] => rfl
  | x :: l => by simp only [resAllZ, resAll, resZ_eq r, resAllZ_eq r m l]; rfl
theorem evFunZ_eq (call : CallF) (k : Nat) (fn : IFun) (args : List AV) (m : Mem) : evFunZ call k fn args m = evFun call k fn args m := by
  have h := evCZ_eq call k fn.body _ _ m (rep_args fn args)
  unfold evFunZ evFun inFun
  rw [frcT_eq]
  generalize cond (Nat.ble args.length fn.ntmps) fn.ntmps args.length = n at *
  cases h1 : evCZ call k n fn.body (envOf args 0 .nil) m with
  | none =>
    cases h2 : evC call k fn.body ⟨args ++ List.replicate (fn.ntmps - args.length) .undef, m⟩ with
    | none => rfl
    | some q => rw [h1, h2] at h; exact h.elim
  | some p =>
    obtain ⟨x, e', m'⟩ := p
    cases h2 : evC call k fn.body ⟨args ++ List.replicate (fn.ntmps - args.length) .undef, m⟩ with
    | none => rw [h1, h2] at h; exact h.elim
    | some q =>
      obtain ⟨x', s⟩ := q
      rw [h1, h2] at h
      obtain ⟨rfl, h3, rfl⟩ := h
      cases x <;> simp only [resAllZ_eq h3, frcT_eq] <;> rfl
theorem evGZ_eq (S : Sp) (tab : Nat → Option IFun) : ∀ k, evGZ S tab k = evGG S tab k
  | 0 => rfl
  | k + 1 => by
    have ih := evGZ_eq S tab k
    rw [evGZ, evGG, ih]
    refine Prod.ext ?_ ?_
    · funext f args m
      simp only [cond_if]
      by_cases h1 : f = S.must
      · rw [if_pos h1, if_pos h1]
      rw [if_neg h1, if_neg h1]
      by_cases h2 : f = S.hold
      · rw [if_pos h2, if_pos h2]
      rw [if_neg h2, if_neg h2]
      by_cases h3 : S.knows f = true
      · rw [if_pos h3, h3]; rfl
      rw [if_neg h3, Bool.eq_false_iff.2 h3, cond_false]
      cases tab f with
      | none => rfl
      | some fn => exact evFunZ_eq _ _ _ _ _
    · funext f args m
      simp only [cond_if]
      by_cases h1 : f = S.must
      · rw [if_pos h1, if_pos h1]
      rw [if_neg h1, if_neg h1]
      by_cases h2 : f = S.hold
      · rw [if_pos h2, if_pos h2]
      rw [if_neg h2, if_neg h2]
      by_cases h3 : S.knows f = true
      · rw [if_pos h3, h3]; rfl
      rw [if_neg h3, Bool.eq_false_iff.2 h3, cond_false]
      cases tab f with
      | none => rfl
      | some fn =>
        simp only [frcT_eq]
        exact evCPZ_eq _ _ _ _ _ _ _ (rep_args fn args)
/-- The table, in a tree. -/
inductive Tr where
  | nil
  | node (k : Nat) (v : IFun) (l r : Tr)
def Tr.look : Tr → Nat → Option IFun
  | .nil, _ => none
  | .node k v l r, f => cond (Nat.beq f k) (some v) (cond (Nat.ble f k) (l.look f) (r.look f))
def okTr (P : Program) : Tr → Prop
  | .nil => True
  | .node k v l r => okFun P k v = true ∧ okTr P l ∧ okTr P r
theorem okTr_look {P : Program} : ∀ {t : Tr}, okTr P t → ∀ f i, t.look f = some i → okFun P f i = true
  | .nil, _, f, i, h => by cases h
  | .node k v l r, ⟨h1, h2, h3⟩, f, i, h => by
    simp only [Tr.look] at h
    cases hb : Nat.beq f k with
    | true =>
      rw [hb] at h
      simp only [cond_true] at h
      injection h with h
      subst h
      rw [Nat.eq_of_beq_eq_true hb]; exact h1
    | false =>
      rw [hb] at h
      simp only [cond_false] at h
      cases hc : Nat.ble f k with
      | true => rw [hc] at h; exact okTr_look h2 f i h
      | false => rw [hc] at h; exact okTr_look h3 f i h
end Go.Proofs.YtdljelicbnjfjaaGreat.X
