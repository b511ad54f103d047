/- What must hold for a run of the plain machine to come to an end with Q: nothing is said of how many rounds it takes. -/
import Derived.Test.YtljkkfcokpimkaaXs
set_option linter.unusedVariables false
set_option linter.unusedSimpArgs false
namespace Go.Proofs.Ytljkkfcokpimkaa.X
open Go

def CallLe (c c' : CallF) : Prop := ∀ f a m r, c f a m = some r → c' f a m = some r

theorem evOp_le {c c' : CallF} (h : CallLe c c') {b : Nat} {tm : List AV} {m : Mem} {op : IOp} {r : AV × Mem} (he : evOp c b tm m op = some r) : evOp c' b tm m op = some r := by
  cases op
  case call f args => exact h _ _ _ _ he
  case callv x args =>
    have he' : (match x.eval tm with | .fn f first cap => c f (first ++ args.map (·.eval tm) ++ cap) m | _ => none) = some r := he
    show (match x.eval tm with | .fn f first cap => c' f (first ++ args.map (·.eval tm) ++ cap) m | _ => none) = some r
    cases hx : x.eval tm with
    | fn f first cap =>
      rw [hx] at he'
      exact h _ _ _ _ he'
    | _ => rw [hx] at he'; cases he'
  case ld n x => cases n <;> exact he
  case cv s k x => cases k <;> exact he
  case ia a e x i => cases a <;> exact he
  case ix a x i => rcases a with _ | ⟨_, _, _⟩ <;> exact he
  case len s x => cases s <;> exact he
  all_goals exact he
theorem evSteps_le {c c' : CallF} (h : CallLe c c') {b : Nat} : ∀ {l : List Step} {s s' : St}, evSteps c b l s = some s' → evSteps c' b l s = some s'
  | [], _, _, he => he
  | i :: l, s, s', he => by
    simp only [evSteps] at he ⊢
    split at he
    · rename_i hw
      rw [if_pos hw]
      split at he
      · rename_i v m' hv
        rw [evOp_le h hv]
        simp only
        split at he
        · rename_i hc
          rw [if_pos hc]
          exact evSteps_le h he
        · cases he
      · cases he
    · rename_i hw
      rw [if_neg hw]
      exact evSteps_le h he
theorem loopN_le {f g : St → Option (Ex × St)} (h : ∀ s r, f s = some r → g s = some r) : ∀ {k k' : Nat} {s : St} {r : Ex × St}, k ≤ k' → loopN f k s = some r → loopN g k' s = some r
  | 0, _, _, _, _, he => by simp [loopN] at he
  | k + 1, 0, _, _, hk, _ => by omega
  | k + 1, k' + 1, s, r, hk, he => by
    simp only [loopN] at he ⊢
    cases hf : f s with
    | none => simp [hf] at he
    | some x =>
      rw [h s x hf]
      obtain ⟨e, s'⟩ := x
      rw [hf] at he
      cases e with
      | norm => exact loopN_le h (by omega) he
      | exit i => exact he
      | ret => exact he
theorem evC_le {c c' : CallF} (h : CallLe c c') {k k' : Nat} (hk : k ≤ k') : ∀ {code : ICode} {s : St} {r : Ex × St}, evC c k code s = some r → evC c' k' code s = some r
  | .skip, _, _, he => he
  | .reg n _ _ ops, s, r, he => by
    simp only [evC] at he ⊢
    split at he
    · rename_i s' hs
      rw [evSteps_le h hs]
      exact he
    · cases he
  | .seq a b, s, r, he => by
    simp only [evC] at he ⊢
    cases ha : evC c k a s with
    | none => simp [ha] at he
    | some x =>
      rw [evC_le h hk ha]
      rw [ha] at he
      obtain ⟨e, s'⟩ := x
      cases e with
      | norm => exact evC_le h hk he
      | exit i => exact he
      | ret => exact he
  | .cond x a b, s, r, he => by
    simp only [evC] at he ⊢
    split at he
    · exact evC_le h hk he
    · exact evC_le h hk he
    · cases he
  | .block id b, s, r, he => by
    simp only [evC] at he ⊢
    cases ha : evC c k b s with
    | none => simp [ha] at he
    | some x => rw [evC_le h hk ha]; rw [ha] at he; exact he
  | .loop b, s, r, he => by
    simp only [evC] at he ⊢
    exact loopN_le (fun s r h' => evC_le h hk h') hk he
  | .exit id, _, _, he => he
  | .ret, _, _, he => he
theorem evF_le (tab : Nat → Option IFun) : ∀ {k k' : Nat}, k ≤ k' → CallLe (evF tab k) (evF tab k')
  | 0, _, _ => fun f a m r h => by simp [evF] at h
  | k + 1, 0, hk => by omega
  | k + 1, k' + 1, hk => fun f a m r h => by
    cases hf : tab f with
    | none => simp [evF, hf] at h
    | some fn =>
      rw [evF_some hf] at h ⊢
      cases hc : evC (evF tab k) k fn.body ⟨a ++ List.replicate (fn.ntmps - a.length) .undef, m⟩ with
      | none => simp [hc] at h
      | some x =>
        rw [evC_le (evF_le tab (by omega)) (by omega) hc]
        rw [hc] at h
        exact h

/-! ### Without numbers -/
def Runs (tab : Nat → Option IFun) (f : Nat) (args : List AV) (m : Mem) (r : AV) (m' : Mem) : Prop := ∃ k, evF tab k f args m = some (r, m')
def noCall : CallF := fun _ _ _ => none
theorem noCall_le (c : CallF) : CallLe noCall c := fun _ _ _ _ h => by cases h
def EvC (tab : Nat → Option IFun) (c : ICode) (s : St) (Q : Ex → St → Prop) : Prop := ∃ k e s', evC (evF tab k) k c s = some (e, s') ∧ Q e s'

def Mem.bump (m : Mem) (n : Nat) : Mem := ⟨m.next + n, m.t⟩
theorem bump0 (m : Mem) : m.bump 0 = m := rfl
/-- What follows is not looked at before the value ahead of it is known. -/
def optK (o : Option (AV × Mem)) (K : AV → Mem → Prop) : Prop := match o with | some (v, m') => K v m' | none => False
@[congr] theorem optK_congr {o o' : Option (AV × Mem)} {K : AV → Mem → Prop} (h : o = o') : optK o K = optK o' K := by rw [h]
theorem optK_some (v : AV) (m : Mem) (K : AV → Mem → Prop) : optK (some (v, m)) K = K v m := rfl
theorem optK_none (K : AV → Mem → Prop) : optK none K = False := rfl
def boolK (x : AV) (A B : Prop) : Prop := match x with | .bool b => if b = true then A else B | _ => False
@[congr] theorem boolK_congr {x x' : AV} {A B : Prop} (h : x = x') : boolK x A B = boolK x' A B := by rw [h]
theorem boolK_t (A B : Prop) : boolK (.bool true) A B = A := rfl
theorem boolK_f (A B : Prop) : boolK (.bool false) A B = B := rfl
theorem boolK_d (p : Prop) [Decidable p] (A B : Prop) : boolK (.bool (decide p)) A B = if p then A else B := by
  unfold boolK; by_cases h : p <;> simp [h]
def guardK (c : Bool) (A B : Prop) : Prop := if c = true then A else B
@[congr] theorem guardK_congr {c c' : Bool} {A B : Prop} (h : c = c') : guardK c A B = guardK c' A B := by rw [h]
theorem guardK_t (A B : Prop) : guardK true A B = A := rfl
theorem guardK_f (A B : Prop) : guardK false A B = B := rfl
def chkK (c : Bool) (A : Prop) : Prop := c = true ∧ A
@[congr] theorem chkK_congr {c c' : Bool} {A : Prop} (h : c = c') : chkK c A = chkK c' A := by rw [h]
theorem chkK_t (A : Prop) : chkK true A = A := by simp [chkK]
/-- A call; what follows is not looked at before its operands are known. -/
def callK (tab : Nat → Option IFun) (f : Nat) (args : List AV) (m : Mem) (K : AV → Mem → Prop) : Prop := ∃ v m', Runs tab f args m v m' ∧ K v m'
@[congr] theorem callK_congr {tab : Nat → Option IFun} {f : Nat} {args args' : List AV} {m m' : Mem} {K : AV → Mem → Prop} (h : args = args') (h' : m = m') : callK tab f args m K = callK tab f args' m' K := by rw [h, h']
def wpOp (tab : Nat → Option IFun) (b : Nat) (tm : List AV) (m : Mem) (op : IOp) (K : AV → Mem → Prop) : Prop :=
  match op with
  | .call f args => callK tab f (args.map (·.eval tm)) m K
  | .callv x args => match x.eval tm with | .fn f a c => callK tab f (a ++ args.map (·.eval tm) ++ c) m K | _ => False
  | op => optK (evOp noCall b tm m op) K
def wpS (tab : Nat → Option IFun) (b : Nat) : List Step → St → (St → Prop) → Prop
  | [], s, Q => Q s
  | i :: r, s, Q =>
    guardK (wants s.tm i.guard) (wpOp tab b s.tm s.m i.op fun v m' => chkK (i.chk.all (chkOk b s.tm m')) (wpS tab b r ⟨put s.tm i.dst v, m'⟩ Q)) (wpS tab b r ⟨put s.tm i.dst .undef, s.m⟩ Q)
def seqK (W : St → Prop) (Q : Ex → St → Prop) (e : Ex) (s : St) : Prop := match e with | .norm => W s | e => Q e s
def blockK (id : Nat) (Q : Ex → St → Prop) (e : Ex) (s : St) : Prop := Q (match e with | .exit j => if j = id then .norm else .exit j | e => e) s
def wpC (tab : Nat → Option IFun) : ICode → St → (Ex → St → Prop) → Prop
  | .skip, s, Q => Q .norm s
  | .reg n _ _ ops, s, Q => wpS tab s.m.next ops ⟨s.tm, s.m.bump n⟩ (Q .norm)
  | .seq a b, s, Q => wpC tab a s (seqK (fun s' => wpC tab b s' Q) Q)
  | .cond c a b, s, Q => boolK (c.eval s.tm) (wpC tab a s Q) (wpC tab b s Q)
  | .block id c, s, Q => wpC tab c s (blockK id Q)
  | .loop c, s, Q => EvC tab (.loop c) s Q
  | .exit id, s, Q => Q (.exit id) s
  | .ret, s, Q => Q .ret s

@[congr] theorem wpS_congr {tab : Nat → Option IFun} {b : Nat} {l : List Step} {s s' : St} {Q : St → Prop} (h : s = s') : wpS tab b l s Q = wpS tab b l s' Q := by rw [h]
@[congr] theorem wpC_congr {tab : Nat → Option IFun} {c : ICode} {s s' : St} {Q : Ex → St → Prop} (h : s = s') : wpC tab c s Q = wpC tab c s' Q := by rw [h]
@[congr] theorem EvC_congr {tab : Nat → Option IFun} {c : ICode} {s s' : St} {Q : Ex → St → Prop} (h : s = s') : EvC tab c s Q = EvC tab c s' Q := by rw [h]
@[congr] theorem wpOp_congr {tab : Nat → Option IFun} {b : Nat} {tm tm' : List AV} {m m' : Mem} {op : IOp} {K : AV → Mem → Prop} (h : tm = tm') (h' : m = m') : wpOp tab b tm m op K = wpOp tab b tm' m' op K := by rw [h, h']

theorem wpOp_sound {tab : Nat → Option IFun} {b : Nat} {tm : List AV} {m : Mem} {op : IOp} {K : AV → Mem → Prop} (h : wpOp tab b tm m op K) : ∃ k v m', evOp (evF tab k) b tm m op = some (v, m') ∧ K v m' := by
  cases op
  case call f args => obtain ⟨v, m', ⟨k, h1⟩, h2⟩ := h; exact ⟨k, v, m', h1, h2⟩
  case callv x args =>
    unfold wpOp at h
    simp only at h
    split at h
    · rename_i f a c h0
      obtain ⟨v, m', ⟨k, h1⟩, h2⟩ := h
      refine ⟨k, v, m', ?_, h2⟩
      show (match x.eval tm with | .fn f first cap => evF tab k f (first ++ args.map (·.eval tm) ++ cap) m | _ => none) = some (v, m')
      rw [h0]
      exact h1
    · exact h.elim
  all_goals
    unfold wpOp optK at h
    simp only at h
    split at h
    · rename_i v m' h1
      exact ⟨0, v, m', evOp_le (noCall_le _) h1, h⟩
    · exact h.elim
theorem wpS_sound {tab : Nat → Option IFun} {b : Nat} : ∀ {l : List Step} {s : St} {Q : St → Prop}, wpS tab b l s Q → ∃ k s', evSteps (evF tab k) b l s = some s' ∧ Q s'
  | [], s, Q, h => ⟨0, s, rfl, h⟩
  | i :: r, s, Q, h => by
    simp only [wpS, guardK, chkK] at h
    split at h
    · rename_i hw
      obtain ⟨k, v, m', h1, h2, h3⟩ := wpOp_sound h
      obtain ⟨k', s', h4, h5⟩ := wpS_sound h3
      refine ⟨max k k', s', ?_, h5⟩
      simp only [evSteps, hw, if_true, evOp_le (evF_le tab (Nat.le_max_left k k')) h1, h2]
      exact evSteps_le (evF_le tab (Nat.le_max_right k k')) h4
    · rename_i hw
      obtain ⟨k', s', h4, h5⟩ := wpS_sound h
      refine ⟨k', s', ?_, h5⟩
      simp only [evSteps, hw, if_false, Bool.false_eq_true]
      exact h4
theorem wpC_sound {tab : Nat → Option IFun} : ∀ {c : ICode} {s : St} {Q : Ex → St → Prop}, wpC tab c s Q → EvC tab c s Q
  | .skip, s, Q, h => ⟨0, .norm, s, rfl, h⟩
  | .reg n _ _ ops, s, Q, h => by
    simp only [wpC] at h
    obtain ⟨k, s', h1, h2⟩ := wpS_sound h
    unfold Mem.bump at h1
    exact ⟨k, .norm, s', by simp only [evC, h1], h2⟩
  | .seq a b, s, Q, h => by
    simp only [wpC] at h
    obtain ⟨k, e, s', h1, h2⟩ := wpC_sound h
    cases e with
    | norm =>
      obtain ⟨k', e', s'', h3, h4⟩ := wpC_sound h2
      refine ⟨max k k', e', s'', ?_, h4⟩
      simp only [evC, evC_le (evF_le tab (Nat.le_max_left k k')) (Nat.le_max_left k k') h1]
      exact evC_le (evF_le tab (Nat.le_max_right k k')) (Nat.le_max_right k k') h3
    | exit i => exact ⟨k, .exit i, s', by simp only [evC, h1], h2⟩
    | ret => exact ⟨k, .ret, s', by simp only [evC, h1], h2⟩
  | .cond c a b, s, Q, h => by
    simp only [wpC] at h
    obtain ⟨x, h1, h2⟩ : ∃ x, c.eval s.tm = .bool x ∧ if x = true then wpC tab a s Q else wpC tab b s Q := by
      unfold boolK at h
      split at h
      · rename_i x hx; exact ⟨x, hx, h⟩
      · exact h.elim
    cases x with
    | true =>
      obtain ⟨k, e, s', h3, h4⟩ := wpC_sound (by simpa using h2)
      exact ⟨k, e, s', by simp only [evC, h1, h3], h4⟩
    | false =>
      obtain ⟨k, e, s', h3, h4⟩ := wpC_sound (by simpa using h2)
      exact ⟨k, e, s', by simp only [evC, h1, h3], h4⟩
  | .block id c, s, Q, h => by
    simp only [wpC] at h
    obtain ⟨k, e, s', h1, h2⟩ := wpC_sound h
    refine ⟨k, _, s', ?_, h2⟩
    simp only [evC, h1]
    cases e with
    | norm => rfl
    | ret => rfl
    | exit j => simp only; split <;> rfl
  | .loop c, s, Q, h => by simpa only [wpC] using h
  | .exit id, s, Q, h => ⟨0, .exit id, s, rfl, h⟩
  | .ret, s, Q, h => ⟨0, .ret, s, rfl, h⟩

/-- A loop: what holds at its head, and a number that falls. -/
theorem loop_rule {tab : Nat → Option IFun} {c : ICode} {Q : Ex → St → Prop} (Inv : Nat → St → Prop)
    (h : ∀ n s, Inv n s → wpC tab c s fun e s' => match e with | .norm => ∃ n', n' < n ∧ Inv n' s' | e => Q e s') : ∀ (n : Nat) (s : St), Inv n s → EvC tab (.loop c) s Q := by
  intro n
  induction n using Nat.strongRecOn with
  | ind n ih =>
    intro s hs
    obtain ⟨k, e, s', h1, h2⟩ := wpC_sound (h n s hs)
    cases e with
    | norm =>
      obtain ⟨n', hn, hi⟩ := h2
      obtain ⟨k', e', s'', h3, h4⟩ := ih n' hn s' hi
      refine ⟨max k k' + 1, e', s'', ?_, h4⟩
      simp only [evC] at h3 ⊢
      simp only [loopN, evC_le (evF_le tab (show k ≤ max k k' + 1 by omega)) (show k ≤ max k k' + 1 by omega) h1]
      exact loopN_le (fun s r h' => evC_le (evF_le tab (show k' ≤ max k k' + 1 by omega)) (show k' ≤ max k k' + 1 by omega) h') (by omega) h3
    | exit i => exact ⟨k + 1, .exit i, s', by simp only [evC, loopN, evC_le (evF_le tab (Nat.le_succ k)) (Nat.le_succ k) h1], h2⟩
    | ret => exact ⟨k + 1, .ret, s', by simp only [evC, loopN, evC_le (evF_le tab (Nat.le_succ k)) (Nat.le_succ k) h1], h2⟩

theorem loop_once {tab : Nat → Option IFun} {c : ICode} {Q : Ex → St → Prop} {s : St} (h : wpC tab c s fun e s' => match e with | .norm => EvC tab (.loop c) s' Q | e => Q e s') : EvC tab (.loop c) s Q := by
  obtain ⟨k, e, s', h1, h2⟩ := wpC_sound h
  cases e with
  | norm =>
    obtain ⟨k', e', s'', h3, h4⟩ := h2
    refine ⟨max k k' + 1, e', s'', ?_, h4⟩
    simp only [evC] at h3 ⊢
    simp only [loopN, evC_le (evF_le tab (show k ≤ max k k' + 1 by omega)) (show k ≤ max k k' + 1 by omega) h1]
    exact loopN_le (fun s r h' => evC_le (evF_le tab (show k' ≤ max k k' + 1 by omega)) (show k' ≤ max k k' + 1 by omega) h') (by omega) h3
  | exit i => exact ⟨k + 1, .exit i, s', by simp only [evC, loopN, evC_le (evF_le tab (Nat.le_succ k)) (Nat.le_succ k) h1], h2⟩
  | ret => exact ⟨k + 1, .ret, s', by simp only [evC, loopN, evC_le (evF_le tab (Nat.le_succ k)) (Nat.le_succ k) h1], h2⟩

/-- What is left when a function's code has run. -/
def wpF (fn : IFun) (R : AV → Mem → Prop) : Ex → St → Prop
  | .exit _, _ => False
  | _, s => match resAll s.tm s.m fn.results with | some vs => R (pack vs) s.m | none => False
theorem runs_of {tab : Nat → Option IFun} {f : Nat} {fn : IFun} (hf : tab f = some fn) {args : List AV} {m : Mem} {R : AV → Mem → Prop} (h : wpC tab fn.body ⟨args ++ List.replicate (fn.ntmps - args.length) .undef, m⟩ (wpF fn R)) :
    ∃ r m', Runs tab f args m r m' ∧ R r m' := by
  obtain ⟨k, e, s, h1, h2⟩ := wpC_sound h
  cases e with
  | exit i => exact h2.elim
  | norm =>
    obtain ⟨vs, h3, h4⟩ : ∃ vs, resAll s.tm s.m fn.results = some vs ∧ R (pack vs) s.m := by
      simp only [wpF] at h2
      split at h2
      · rename_i vs hv; exact ⟨vs, hv, h2⟩
      · exact h2.elim
    exact ⟨_, _, ⟨k + 1, by rw [evF_some hf, h1]; simp only [h3]⟩, h4⟩
  | ret =>
    obtain ⟨vs, h3, h4⟩ : ∃ vs, resAll s.tm s.m fn.results = some vs ∧ R (pack vs) s.m := by
      simp only [wpF] at h2
      split at h2
      · rename_i vs hv; exact ⟨vs, hv, h2⟩
      · exact h2.elim
    exact ⟨_, _, ⟨k + 1, by rw [evF_some hf, h1]; simp only [h3]⟩, h4⟩
theorem runs_eq {tab : Nat → Option IFun} {f : Nat} {fn : IFun} (hf : tab f = some fn) {args : List AV} {m : Mem} {r : AV} {m' : Mem} (h : wpC tab fn.body ⟨args ++ List.replicate (fn.ntmps - args.length) .undef, m⟩ (wpF fn fun r' m'' => r' = r ∧ m'' = m')) :
    Runs tab f args m r m' := by
  obtain ⟨r', m'', h1, rfl, rfl⟩ := runs_of hf h
  exact h1
theorem Runs.det {tab : Nat → Option IFun} {f : Nat} {args : List AV} {m : Mem} {r r' : AV} {m' m'' : Mem} (h : Runs tab f args m r m') (h' : Runs tab f args m r' m'') : r' = r ∧ m'' = m' := by
  obtain ⟨k, h⟩ := h
  obtain ⟨k', h'⟩ := h'
  have h1 := evF_le tab (Nat.le_max_left k k') _ _ _ _ h
  have h2 := evF_le tab (Nat.le_max_right k k') _ _ _ _ h'
  rw [h1] at h2
  injection h2 with h2
  injection h2 with h2 h3
  exact ⟨h2.symm, h3.symm⟩
/-- A call whose end is known. -/
theorem Runs.use {tab : Nat → Option IFun} {f : Nat} {args : List AV} {m : Mem} {r : AV} {m' : Mem} (h : Runs tab f args m r m') (K : AV → Mem → Prop) : callK tab f args m K ↔ K r m' :=
  ⟨fun ⟨v, m'', h1, h2⟩ => by obtain ⟨rfl, rfl⟩ := h.det h1; exact h2, fun h2 => ⟨r, m', h, h2⟩⟩
theorem Runs.iff {tab : Nat → Option IFun} {f : Nat} {args : List AV} {m : Mem} {r : AV} {m' : Mem} (h : Runs tab f args m r m') (v : AV) (m'' : Mem) : Runs tab f args m v m'' ↔ v = r ∧ m'' = m' :=
  ⟨fun h' => h.det h', fun ⟨h1, h2⟩ => by rw [h1, h2]; exact h⟩
end Go.Proofs.Ytljkkfcokpimkaa.X
