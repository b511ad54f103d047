/- Code of the plain machine with what is alive at each loop's head; what must hold ahead of it, and that this is right. -/
import Derived.Test.YtljkkfcokpimkaaXn
set_option linter.unusedVariables false
set_option linter.unusedSimpArgs false
namespace Go.Proofs.Ytljkkfcokpimkaa.X
open Go

/-! ### Temporaries as a function -/
abbrev Env := Nat → AV
def upd (e : Env) (d : Nat) (v : AV) : Env := fun k => cond (Nat.beq k d) v (e k)
def putE (e : Env) : Option Nat → AV → Env
  | some d, v => upd e d v
  | none, _ => e
def ev (e : Env) : Opd → AV
  | .t n => e n
  | .c v => v
def idx (k : Nat) : List Nat → Nat → Option Nat
  | [], _ => none
  | d :: ds, i => cond (Nat.beq d k) (some i) (idx k ds (i + 1))
def ofL (e : Env) (lv : List Nat) (l : List AV) : Env := fun k => match idx k lv 0 with | some i => l.getD i .undef | none => e k
def argE (args : List AV) : Env := fun k => args.getD k .undef

/-! ### Code with marks -/
/-- A step with a place; one that is guarded; one without a place. -/
def sD (d : Nat) (op : IOp) : Step := ⟨some d, none, op, []⟩
def sG (d t : Nat) (b : Bool) (op : IOp) : Step := ⟨some d, some (t, b), op, []⟩
def sN (op : IOp) : Step := ⟨none, none, op, []⟩
inductive ACode where
  | skip
  | reg (n : Nat) (pi : List Nat) (anc : List (List Nat)) (ops : List Step)
  | seq (a b : ACode)
  | cond (c : Opd) (a b : ACode)
  | block (id : Nat) (c : ACode)
  | loop (lv : List Nat) (L : Nat) (c : ACode)
  | exit (id : Nat)
  | ret
def ACode.erase : ACode → ICode
  | .skip => .skip
  | .reg n pi anc ops => .reg n pi anc ops
  | .seq a b => .seq a.erase b.erase
  | .cond c a b => .cond c a.erase b.erase
  | .block i c => .block i c.erase
  | .loop _ _ c => .loop c.erase
  | .exit i => .exit i
  | .ret => .ret

/-! ### What must hold -/
def noA : CallA := fun _ _ _ _ => False
def whenA (c : AV) (b : Bool) (W : (AV → H → Prop) → Prop) (h : H) (K : AV → H → Prop) : Prop :=
  match c with
  | .bool x => if x = b then W K else K .undef h
  | _ => K .undef h
def wantA (e : Env) (g : Option (Nat × Bool)) (W : (AV → H → Prop) → Prop) (h : H) (K : AV → H → Prop) : Prop :=
  let _ := @opA   -- (so that the kernel unfolds this ahead of an operation)
  match g with
  | none => W K
  | some (t, b) => whenA (e t) b W h K
def chkA (e : Env) (h : H) (c : Chk) (A : Prop) : Prop := wantA e c.guard (opA noA (ev e) h c.op) h (fun v _ => wantA e c.guard (fun K => K .undef h) h fun _ _ => v = e c.dst) ∧ A
def whenP (c : AV) (b : Bool) (A : Prop) : Prop := match c with | .bool x => if x = b then A else True | _ => True
def againP (e : Env) (h : H) (c : Chk) : Prop :=
  match c.guard with
  | none => opA noA (ev e) h c.op (fun v _ => v = e c.dst)
  | some (t, b) => whenP (e t) b (opA noA (ev e) h c.op (fun v _ => v = e c.dst))
def againK (A B : Prop) : Prop := A ∧ B
def againsP (e : Env) (h : H) : List Chk → Prop → Prop
  | [], A => A
  | c :: l, A => againK (againP e h c) (againsP e h l A)
def stepsA (C : CallA) : List Step → Env → H → (Env → H → Prop) → Prop
  | [], e, h, Q => Q e h
  | i :: r, e, h, Q => wantA e i.guard (opA C (ev e) h i.op) h fun v h' => againsP e h' i.chk (stepsA C r (putE e i.dst v) h' Q)
def seqA (W : Env → H → Prop) (Q : Ex → Env → H → Prop) (x : Ex) (e : Env) (h : H) : Prop := let _ := @opA; match x with | .norm => W e h | x => Q x e h
def exitA (j id : Nat) : Ex := cond (Nat.beq j id) .norm (.exit j)
def blockA (id : Nat) (Q : Ex → Env → H → Prop) (x : Ex) (e : Env) (h : H) : Prop := let _ := @opA; Q (match x with | .exit j => exitA j id | x => x) e h
/-- What follows, said once. -/
def joinA {α : Type} (J : α) (B : α → Prop) : Prop := B J
def argA (l : List AV) (i : Nat) (F : AV → Prop) : Prop := F (l.getD i .undef)
def condA (x : AV) (A B : Prop) : Prop := match x with | .bool b => if b = true then A else B | _ => False
/-- A loop: what holds at its head, and a number that falls. -/
def loopA (F : (List AV → H → Prop) → List AV → H → Prop) (l : List AV) (h : H) : Prop :=
  ∃ (n : Nat) (Inv : Nat → List AV → H → Prop), Inv n l h ∧ ∀ n l h, Inv n l h → F (fun l' h' => ∃ n', n' < n ∧ Inv n' l' h') l h
def loopQ (N : List AV → H → Prop) (lv : List Nat) (Q : Ex → Env → H → Prop) (x : Ex) (e : Env) (h : H) : Prop := let _ := @opA; match x with | .norm => N (lv.map e) h | x => Q x e h
def wpA (C : CallA) : ACode → Env → H → (Ex → Env → H → Prop) → Prop
  | .skip, e, h, Q => Q .norm e h
  | .reg _ _ _ ops, e, h, Q => stepsA C ops e h (Q .norm)
  | .seq a b, e, h, Q => wpA C a e h (seqA (fun e h => wpA C b e h Q) Q)
  | .cond c a b, e, h, Q => condA (ev e c) (wpA C a e h Q) (wpA C b e h Q)
  | .block id c, e, h, Q => wpA C c e h (blockA id Q)
  | .loop lv _ c, e, h, Q => loopA (fun N l h => wpA C c (ofL e lv l) h (loopQ N lv Q)) (lv.map e) h
  | .exit id, e, h, Q => Q (.exit id) e h
  | .ret, e, h, Q => Q .ret e h
theorem wpA_seq {C : CallA} {a b : ACode} {e : Env} {h : H} {Q : Ex → Env → H → Prop} {F : Env → H → Prop} (hF : ∀ e h, wpA C b e h Q = F e h) : wpA C (.seq a b) e h Q = wpA C a e h (seqA F Q) := by
  show wpA C a e h (seqA (fun e h => wpA C b e h Q) Q) = _
  rw [show (fun e h => wpA C b e h Q) = F from funext fun e => funext fun h => hF e h]
def resA (h : H) (e : Env) : List IRes → (List AV → Prop) → Prop
  | [], K => K []
  | .tmp t :: l, K => resA h e l fun vs => K (e t :: vs)
  | .cell t n :: l, K => valA (ldA h n (e t)) h fun v _ => resA h e l fun vs => K (v :: vs)
def outA (rs : List IRes) (R : AV → H → Prop) (x : Ex) (e : Env) (h : H) : Prop := match x with | .exit _ => False | _ => resA h e rs fun vs => R (pack vs) h
/-- A call of the program. -/
def callA (tab : Nat → Option IFun) : CallA := fun f a h K => ∀ m, Rep m h → ∃ k, Ends (evF tab k f a m) nobody m K

/-! ### What is alive -/
def maskO : Opd → Nat
  | .t n => 2 ^ n
  | .c _ => 0
def maskL (l : List Opd) : Nat := l.foldr (fun x a => maskO x ||| a) 0
def maskN (l : List Nat) : Nat := l.foldr (fun x a => 2 ^ x ||| a) 0
def maskG : Option (Nat × Bool) → Nat
  | none => 0
  | some (t, _) => 2 ^ t
def without (L : Nat) : Option Nat → Nat
  | none => L
  | some d => L ^^^ (L &&& 2 ^ d)
def maskC (l : List Chk) : Nat := l.foldr (fun c a => maskG c.guard ||| (maskL c.op.uses ||| (2 ^ c.dst ||| a))) 0
def inN (n : Nat) : Option Nat → Bool
  | none => true
  | some d => Nat.blt d n
def liveS (n : Nat) : List Step → Nat → Nat × Bool
  | [], L => (L, true)
  | i :: r, L => match liveS n r L with | (L', ok) => (maskG i.guard ||| (maskL i.op.uses ||| (maskC i.chk ||| without L' i.dst)), ok && inN n i.dst)
def wmaskS : List Step → Nat
  | [] => 0
  | i :: r => (match i.dst with | some d => 2 ^ d | none => 0) ||| wmaskS r
/-- What is laid in a code. -/
def wmask : ACode → Nat
  | .reg _ _ _ ops => wmaskS ops
  | .seq a b => wmask a ||| wmask b
  | .cond _ a b => wmask a ||| wmask b
  | .block _ c => wmask c
  | .loop _ _ c => wmask c
  | _ => 0
def subM (a b : Nat) : Bool := Nat.beq (a &&& b) a
def liveC (n : Nat) : ACode → (Nat → Nat) → Nat → Nat → Nat × Bool
  | .skip, _, Ln, _ => (Ln, true)
  | .reg _ _ _ ops, _, Ln, _ => liveS n ops Ln
  | .seq a b, Lx, Ln, Lr => match liveC n b Lx Ln Lr with | (L, ok) => match liveC n a Lx L Lr with | (L', ok') => (L', ok && ok')
  | .cond c a b, Lx, Ln, Lr => match liveC n a Lx Ln Lr, liveC n b Lx Ln Lr with | (L, ok), (L', ok') => (maskO c ||| (L ||| L'), ok && ok')
  | .block id c, Lx, Ln, Lr => liveC n c (fun j => cond (Nat.beq j id) Ln (Lx j)) Ln Lr
  | .loop lv L c, Lx, Ln, Lr => match liveC n c Lx L Lr with | (L', ok) => (L, ok && (subM L' L && subM (L &&& wmask c) (maskN lv)))
  | .exit id, Lx, _, _ => (Lx id, true)
  | .ret, _, _, Lr => (Lr, true)
def slotsOf : List Step → List Nat
  | [] => []
  | i :: r => match i.op.slot with | some k => k :: slotsOf r | none => slotsOf r
def allLt (n : Nat) : List Nat → Bool
  | [] => true
  | k :: l => Nat.blt k n && allLt n l
def isIn (k : Nat) : List Nat → Bool
  | [] => false
  | j :: l => Nat.beq j k || isIn k l
def apart : List Nat → Bool
  | [] => true
  | k :: l => !(isIn k l) && apart l
def chkNo : List Chk → Bool
  | [] => true
  | c :: l => (match c.op.slot with | none => true | some _ => false) && chkNo l
def chksNo : List Step → Bool
  | [] => true
  | i :: r => chkNo i.chk && chksNo r
def slotsC : ACode → Bool
  | .reg n _ _ ops => allLt n (slotsOf ops) && apart (slotsOf ops) && chksNo ops
  | .seq a b | .cond _ a b => slotsC a && slotsC b
  | .block _ c => slotsC c
  | .loop _ _ c => slotsC c
  | _ => true

def agree (L : Nat) (tm : List AV) (e : Env) : Prop := ∀ k, L.testBit k = true → tm.getD k .undef = e k
theorem agree.mono {L L' : Nat} {tm : List AV} {e : Env} (h : agree L tm e) (hL : ∀ k, L'.testBit k = true → L.testBit k = true) : agree L' tm e := fun k hk => h k (hL k hk)
theorem bit_pow (t k : Nat) : (2 ^ t).testBit k = decide (t = k) := Nat.testBit_two_pow
theorem mem_maskL : ∀ (l : List Opd) (t : Nat), Opd.t t ∈ l → (maskL l).testBit t = true
  | [], _, h => by cases h
  | x :: l, t, h => by
    simp only [maskL, List.foldr, Nat.testBit_or, Bool.or_eq_true]
    rcases List.mem_cons.1 h with h | h
    · left; rw [← h]; simp [maskO, bit_pow]
    · right; exact mem_maskL l t h
theorem mem_maskN : ∀ (l : List Nat) (t : Nat), (maskN l).testBit t = true ↔ t ∈ l
  | [], t => by simp [maskN]
  | x :: l, t => by
    have := mem_maskN l t
    simp only [maskN] at this
    simp only [maskN, List.foldr, Nat.testBit_or, Bool.or_eq_true, this, bit_pow, List.mem_cons, decide_eq_true_eq]
    constructor <;> rintro (h | h) <;> first | exact .inl h.symm | exact .inr h
theorem bit_without (L d k : Nat) : (without L (some d)).testBit k = (L.testBit k && decide (d ≠ k)) := by
  simp only [without, Nat.testBit_xor, Nat.testBit_and, bit_pow]
  by_cases h : d = k <;> cases L.testBit k <;> simp [h]
theorem agree_put {L n : Nat} {tm : List AV} {e : Env} {d : Option Nat} {v : AV} (hn : tm.length = n) (hd : inN n d = true) (h : agree (without L d) tm e) : agree L (put tm d v) (putE e d v) := by
  intro k hk
  cases d with
  | none => exact h k hk
  | some d =>
    have hd : d < n := by simpa [inN] using hd
    simp only [put, putE, upd]
    by_cases hkd : k = d
    · subst hkd
      simp [List.getD_eq_getElem?_getD, List.getElem?_set, hn, hd]
    · have := h k (by rw [bit_without, hk]; simp; exact fun x => hkd x.symm)
      have hb : Nat.beq k d = false := by
        cases hh : Nat.beq k d with
        | false => rfl
        | true => exact absurd (Nat.eq_of_beq_eq_true hh) hkd
      rw [hb]
      simp only [cond]
      rw [← this]
      simp only [List.getD_eq_getElem?_getD, List.getElem?_set]
      rw [if_neg (fun x => hkd x.symm)]
theorem put_length (tm : List AV) (d : Option Nat) (v : AV) : (put tm d v).length = tm.length := by
  cases d <;> simp [put]
theorem subM_bit {a b : Nat} (h : subM a b = true) (k : Nat) (hk : a.testBit k = true) : b.testBit k = true := by
  have := Nat.eq_of_beq_eq_true h
  rw [← this, Nat.testBit_and] at hk
  simp at hk
  exact hk.2
theorem putE_other {e : Env} {d : Option Nat} {v : AV} {k : Nat} (h : ((match d with | some d => 2 ^ d | none => 0) : Nat).testBit k = false) : putE e d v k = e k := by
  cases d with
  | none => rfl
  | some d =>
    simp only [bit_pow, decide_eq_false_iff_not] at h
    simp only [putE, upd]
    have hb : Nat.beq k d = false := by
      cases hh : Nat.beq k d with
      | false => rfl
      | true => exact absurd (Nat.eq_of_beq_eq_true hh).symm h
    rw [hb]; rfl
theorem ev_agree {L : Nat} {tm : List AV} {e : Env} (h : agree L tm e) (l : List Opd) (hL : ∀ k, (maskL l).testBit k = true → L.testBit k = true) : ∀ x ∈ l, Opd.eval tm x = ev e x := by
  intro x hx
  cases x with
  | c v => rfl
  | t n => exact h n (hL n (mem_maskL l n hx))
mutual
theorem same_refl : ∀ x : AV, AV.same x x = true
  | .undef | .nilp | .nilsl | .nilfn => rfl
  | .int _ _ => by simp [AV.same]
  | .bool _ => by simp [AV.same]
  | .str _ => by simp [AV.same]
  | .ptr _ _ => by simp [AV.same]
  | .sl _ _ _ _ => by simp [AV.same]
  | .agg l => by simp [AV.same, sames_refl l]
  | .tup l => by simp [AV.same, sames_refl l]
  | .fn f a c => by simp [AV.same, sames_refl a, sames_refl c]
theorem sames_refl : ∀ x : List AV, AV.sames x x = true
  | [] => rfl
  | a :: l => by simp [AV.sames, same_refl a, sames_refl l]
end
theorem isIn_iff (k : Nat) : ∀ l, isIn k l = true ↔ k ∈ l
  | [] => by simp [isIn]
  | j :: l => by
    simp only [isIn, Bool.or_eq_true, isIn_iff k l, List.mem_cons]
    constructor
    · rintro (h | h)
      · exact .inl (Nat.eq_of_beq_eq_true h).symm
      · exact .inr h
    · rintro (h | h)
      · subst h; left; exact Nat.beq_refl _
      · exact .inr h
theorem allLt_iff (n : Nat) : ∀ l, allLt n l = true → ∀ k ∈ l, k < n
  | [], _, _, h => by cases h
  | j :: l, h, k, hk => by
    simp only [allLt, Bool.and_eq_true] at h
    rcases List.mem_cons.1 hk with rfl | hk
    · simpa using h.1
    · exact allLt_iff n l h.2 k hk

section
variable {tab : Nat → Option IFun}
theorem callA_ends : ∀ f a h K m, callA tab f a h K → Rep m h → ∃ k, Ends (evF tab k f a m) nobody m K := fun _ _ _ _ m hc r => hc m r
theorem chk_ok {L : Nat} {tm : List AV} {e : Env} {m : Mem} {h : H} {base : Nat} (r : Rep m h) (ha : agree L tm e) (c : Chk) (hL : ∀ k, (maskG c.guard ||| (maskL c.op.uses ||| 2 ^ c.dst)).testBit k = true → L.testBit k = true)
    (hs : c.op.slot = none) (hp : againP e h c) : chkOk base tm m c = true := by
  have hd : tm.getD c.dst .undef = e c.dst := ha _ (hL _ (by simp [Nat.testBit_or, bit_pow]))
  have main : opA noA (ev e) h c.op (fun v _ => v = e c.dst) → (match evOp (fun _ _ _ => none) base tm m c.op with | some (v, _) => AV.same v (tm.getD c.dst .undef) | none => false) = true := by
    intro hp
    rw [← opA_congr (ev_agree ha _ fun k hk => hL k (by simp only [Nat.testBit_or, hk]; simp))] at hp
    obtain ⟨k, v, m', h', h1, _, _, h2⟩ := ends_op (S := nobody) (cf := fun _ _ _ _ => none) (fun f a h K m hf => hf.elim) r hp (fun j hj => by rw [hs] at hj; cases hj) (base := base)
    rw [h1]
    simp only [h2, hd, same_refl]
  unfold chkOk
  unfold againP at hp
  cases hg : c.guard with
  | none =>
    rw [hg] at hp
    simp only [wants, if_true]
    exact main hp
  | some x =>
    obtain ⟨t, b⟩ := x
    rw [hg] at hp
    have ht : tm.getD t .undef = e t := ha _ (hL _ (by rw [hg]; simp [maskG, Nat.testBit_or, bit_pow]))
    simp only [wants, ht]
    simp only [whenP] at hp
    cases he : e t <;> rw [he] at hp <;> simp only [Bool.false_eq_true, if_false, if_true] at hp ⊢
    rename_i y
    by_cases hy : y = b
    · subst hy
      simp only [if_true] at hp
      simp only [beq_self_eq_true, if_true]
      exact main hp
    · have : (y == b) = false := by simpa using hy
      simp only [this, Bool.false_eq_true, if_false]
theorem chks_ok {L : Nat} {tm : List AV} {e : Env} {m : Mem} {h : H} {base : Nat} (r : Rep m h) (ha : agree L tm e) {A : Prop} : ∀ (l : List Chk), (∀ k, (maskC l).testBit k = true → L.testBit k = true) → chkNo l = true → againsP e h l A → l.all (chkOk base tm m) = true ∧ A
  | [], _, _, hp => ⟨rfl, hp⟩
  | c :: l, hL, hs, hp => by
    simp only [maskC, List.foldr, Nat.testBit_or, Bool.or_eq_true] at hL
    simp only [chkNo, Bool.and_eq_true] at hs
    obtain ⟨h1, h2⟩ := chks_ok (base := base) r ha l (fun k hk => hL k (.inr (.inr (.inr hk)))) hs.2 hp.2
    refine ⟨?_, h2⟩
    simp only [List.all_cons, h1, Bool.and_true]
    refine chk_ok r ha c (fun k hk => hL k ?_) ?_ hp.1
    · simp only [Nat.testBit_or, Bool.or_eq_true] at hk
      rcases hk with hk | hk | hk
      · exact .inl hk
      · exact .inr (.inl hk)
      · exact .inr (.inr (.inl hk))
    · have := hs.1
      split at this
      · assumption
      · cases this

theorem stepsA_sound {n base : Nat} : ∀ (l : List Step) (e : Env) (h : H) (Q : Env → H → Prop) (tm : List AV) (m : Mem) (L : Nat), (liveS n l L).2 = true → apart (slotsOf l) = true → chksNo l = true → tm.length = n → agree (liveS n l L).1 tm e → Rep m h →
    (∀ k ∈ slotsOf l, m.get (base + k) = none ∧ base + k < m.next) → stepsA (callA tab) l e h Q →
    ∃ k s e' h', evSteps (evF tab k) base l ⟨tm, m⟩ = some s ∧ s.tm.length = n ∧ agree L s.tm e' ∧ Rep s.m h' ∧ Keep (fun b => ∃ j ∈ slotsOf l, b = base + j) m s.m ∧ (∀ k, (wmaskS l).testBit k = false → e' k = e k) ∧ Q e' h'
  | [], e, h, Q, tm, m, L, _, _, _, hn, ha, r, _, hp => ⟨0, ⟨tm, m⟩, e, h, rfl, hn, ha, r, Keep.refl _ m, fun _ _ => rfl, hp⟩
  | i :: l, e, h, Q, tm, m, L, hok, hap, hch, hn, ha, r, hs, hp => by
    simp only [liveS, Bool.and_eq_true] at hok ha
    simp only [chksNo, Bool.and_eq_true] at hch
    have hbits : ∀ A B C D k : Nat, (A ||| (B ||| (C ||| D))).testBit k = (A.testBit k || (B.testBit k || (C.testBit k || D.testBit k))) := fun A B C D k => by simp only [Nat.testBit_or]
    have hb1 : ∀ k, (maskL i.op.uses).testBit k = true → (maskG i.guard ||| (maskL i.op.uses ||| (maskC i.chk ||| without (liveS n l L).1 i.dst))).testBit k = true := fun k hk => by rw [hbits, hk]; simp
    have hb2 : ∀ k, (maskC i.chk).testBit k = true → (maskG i.guard ||| (maskL i.op.uses ||| (maskC i.chk ||| without (liveS n l L).1 i.dst))).testBit k = true := fun k hk => by rw [hbits, hk]; simp
    have hb3 : ∀ k, (without (liveS n l L).1 i.dst).testBit k = true → (maskG i.guard ||| (maskL i.op.uses ||| (maskC i.chk ||| without (liveS n l L).1 i.dst))).testBit k = true := fun k hk => by rw [hbits, hk]; simp
    have hapl : apart (slotsOf l) = true := by
      simp only [slotsOf] at hap
      split at hap
      · simp only [apart, Bool.and_eq_true] at hap; exact hap.2
      · exact hap
    have hsub : ∀ k ∈ slotsOf l, k ∈ slotsOf (i :: l) := fun k hk => by
      simp only [slotsOf]; split
      · exact List.mem_cons_of_mem _ hk
      · exact hk
    -- the rest
    have rest : ∀ (v : AV) (h' : H) (m' : Mem), Rep m' h' → Keep (fun b => ∃ j ∈ slotsOf (i :: l), b = base + j) m m' → (∀ k ∈ slotsOf l, m'.get (base + k) = none) →
        againsP e h' i.chk (stepsA (callA tab) l (putE e i.dst v) h' Q) → ∃ k s e' h'', (if i.chk.all (chkOk base tm m') = true then evSteps (evF tab k) base l ⟨put tm i.dst v, m'⟩ else none) = some s ∧ (evSteps (evF tab k) base l ⟨put tm i.dst v, m'⟩ = some s) ∧ s.tm.length = n ∧ agree L s.tm e' ∧ Rep s.m h'' ∧ Keep (fun b => ∃ j ∈ slotsOf (i :: l), b = base + j) m s.m ∧ (∀ k, (wmaskS (i :: l)).testBit k = false → e' k = e k) ∧ Q e' h'' := by
      intro v h' m' r' kp hfree hp
      obtain ⟨h1, h2⟩ := chks_ok (base := base) r' ha i.chk hb2 hch.1 hp
      obtain ⟨k, s, e', h'', g1, g2, g3, g4, g5, g7, g6⟩ := stepsA_sound (n := n) (base := base) l (putE e i.dst v) h' Q (put tm i.dst v) m' L hok.1 hapl hch.2 (by rw [put_length, hn]) (agree_put hn hok.2 (ha.mono hb3)) r'
        (fun k hk => ⟨hfree k hk, Nat.lt_of_lt_of_le (hs k (hsub k hk)).2 kp.next⟩) h2
      exact ⟨k, s, e', h'', by rw [if_pos h1]; exact g1, g1, g2, g3, g4, kp.trans (g5.weaken fun b ⟨j, hj, hb⟩ => ⟨j, hsub j hj, hb⟩), fun k hk => by
        simp only [wmaskS, Nat.testBit_or, Bool.or_eq_false_iff] at hk
        rw [g7 k hk.2, putE_other hk.1], g6⟩
    have skip : againsP e h i.chk (stepsA (callA tab) l (putE e i.dst .undef) h Q) → wants tm i.guard = false → ∃ k s e' h', evSteps (evF tab k) base (i :: l) ⟨tm, m⟩ = some s ∧ s.tm.length = n ∧ agree L s.tm e' ∧ Rep s.m h' ∧ Keep (fun b => ∃ j ∈ slotsOf (i :: l), b = base + j) m s.m ∧ (∀ k, (wmaskS (i :: l)).testBit k = false → e' k = e k) ∧ Q e' h' := by
      intro hp hw
      obtain ⟨k, s, e', h'', _, g1, g2⟩ := rest .undef h m r (Keep.refl _ m) (fun k hk => (hs k (hsub k hk)).1) hp
      exact ⟨k, s, e', h'', by simp only [evSteps, hw, Bool.false_eq_true, if_false]; exact g1, g2⟩
    have go : opA (callA tab) (ev e) h i.op (fun v h' => againsP e h' i.chk (stepsA (callA tab) l (putE e i.dst v) h' Q)) → wants tm i.guard = true → ∃ k s e' h', evSteps (evF tab k) base (i :: l) ⟨tm, m⟩ = some s ∧ s.tm.length = n ∧ agree L s.tm e' ∧ Rep s.m h' ∧ Keep (fun b => ∃ j ∈ slotsOf (i :: l), b = base + j) m s.m ∧ (∀ k, (wmaskS (i :: l)).testBit k = false → e' k = e k) ∧ Q e' h' := by
      intro hp hw
      rw [← opA_congr (ev_agree ha _ hb1)] at hp
      obtain ⟨k1, v, m', h', h1, h2, h3, h4⟩ := ends_op (S := fun b => ∃ j, i.op.slot = some j ∧ b = base + j) callA_ends r hp (base := base) (fun j hj => by
        have hj' : j ∈ slotsOf (i :: l) := by simp only [slotsOf, hj]; exact List.mem_cons_self ..
        exact ⟨(hs j hj').1, (hs j hj').2, j, hj, rfl⟩)
      have kp : Keep (fun b => ∃ j ∈ slotsOf (i :: l), b = base + j) m m' := h3.weaken fun b ⟨j, hj, hb⟩ => ⟨j, by simp only [slotsOf, hj]; exact List.mem_cons_self .., hb⟩
      have hfree : ∀ k ∈ slotsOf l, m'.get (base + k) = none := fun k hk => by
        refine h3.free _ (hs k (hsub k hk)).2 ?_ (hs k (hsub k hk)).1
        rintro ⟨j, hj, hb⟩
        have hkj : k = j := by omega
        subst hkj
        simp only [slotsOf, hj, apart, Bool.and_eq_true, Bool.not_eq_true'] at hap
        rw [(isIn_iff k _).2 hk] at hap
        cases hap.1
      obtain ⟨k2, s, e', h'', g1, _, g2⟩ := rest v h' m' h2 kp hfree h4
      refine ⟨max k1 k2, s, e', h'', ?_, g2⟩
      simp only [evSteps, hw, if_true, evOp_le (evF_le tab (Nat.le_max_left k1 k2)) h1]
      split at g1
      · rename_i hc
        rw [if_pos hc]
        exact evSteps_le (evF_le tab (Nat.le_max_right k1 k2)) g1
      · cases g1
    simp only [stepsA] at hp
    cases hg : i.guard with
    | none =>
      rw [hg] at hp
      exact go hp (by rw [hg]; rfl)
    | some x =>
      obtain ⟨t, b⟩ := x
      rw [hg] at hp
      simp only [wantA, whenA] at hp
      have ht : tm.getD t .undef = e t := ha t (by rw [hbits, hg]; simp [maskG, bit_pow])
      have hw : wants tm i.guard = match e t with | .bool c => c == b | _ => false := by rw [hg]; simp only [wants, ht]; rfl
      cases he : e t <;> rw [he] at hp hw
      case bool y =>
        simp only at hp hw
        by_cases hy : y = b
        · rw [if_pos hy] at hp
          exact go hp (by rw [hw, hy]; simp)
        · rw [if_neg hy] at hp
          exact skip hp (by rw [hw]; simpa using hy)
      all_goals exact skip hp hw

theorem idx_map (e : Env) (k : Nat) : ∀ (lv : List Nat) (i : Nat), k ∈ lv → ∃ j, idx k lv i = some (i + j) ∧ (lv.map e)[j]? = some (e k)
  | [], _, h => by cases h
  | d :: ds, i, h => by
    simp only [idx]
    cases hb : Nat.beq d k with
    | true =>
      have := Nat.eq_of_beq_eq_true hb
      subst this
      exact ⟨0, rfl, rfl⟩
    | false =>
      have hk : k ∈ ds := by
        rcases List.mem_cons.1 h with h | h
        · subst h; rw [Nat.beq_refl] at hb; cases hb
        · exact h
      obtain ⟨j, h1, h2⟩ := idx_map e k ds (i + 1) hk
      exact ⟨j + 1, by simp only [cond]; rw [h1]; congr 1; omega, by simpa using h2⟩
theorem idx_none (k : Nat) : ∀ (lv : List Nat) (i : Nat), k ∉ lv → idx k lv i = none
  | [], _, _ => rfl
  | d :: ds, i, h => by
    simp only [List.mem_cons, not_or] at h
    have hb : Nat.beq d k = false := by
      cases hh : Nat.beq d k with
      | false => rfl
      | true => exact absurd (Nat.eq_of_beq_eq_true hh).symm h.1
    simp only [idx, hb]
    exact idx_none k ds (i + 1) h.2
theorem ofL_in {e e1 : Env} {lv : List Nat} {k : Nat} (h : k ∈ lv) : ofL e lv (lv.map e1) k = e1 k := by
  obtain ⟨j, h1, h2⟩ := idx_map e1 k lv 0 h
  simp only [ofL, h1, Nat.zero_add, List.getD_eq_getElem?_getD, h2, Option.getD]
theorem ofL_out {e e1 : Env} {lv : List Nat} {k : Nat} (h : k ∉ lv) : ofL e lv (lv.map e1) k = e k := by
  simp only [ofL, idx_none k lv 0 h]
theorem ofL_map {e e1 : Env} {lv : List Nat} {W : Nat} (h : ∀ k, W.testBit k = false → e1 k = e k) (k : Nat) (hk : k ∈ lv ∨ W.testBit k = false) : ofL e lv (lv.map e1) k = e1 k := by
  by_cases hl : k ∈ lv
  · exact ofL_in hl
  · rcases hk with hk | hk
    · exact absurd hk hl
    · rw [ofL_out hl, h k hk]

/-- What is alive behind a code, by how it ends. -/
def atEx (Lx : Nat → Nat) (Ln Lr : Nat) : Ex → Nat
  | .norm => Ln
  | .exit i => Lx i
  | .ret => Lr
theorem wpA_sound {n : Nat} : ∀ (c : ACode) (e : Env) (h : H) (Q : Ex → Env → H → Prop) (tm : List AV) (m : Mem) (Lx : Nat → Nat) (Ln Lr : Nat), (liveC n c Lx Ln Lr).2 = true → slotsC c = true → tm.length = n → agree (liveC n c Lx Ln Lr).1 tm e → Rep m h → wpA (callA tab) c e h Q →
    ∃ k x s e' h', evC (evF tab k) k c.erase ⟨tm, m⟩ = some (x, s) ∧ s.tm.length = n ∧ agree (atEx Lx Ln Lr x) s.tm e' ∧ Rep s.m h' ∧ Keep nobody m s.m ∧ (∀ k, (wmask c).testBit k = false → e' k = e k) ∧ Q x e' h'
  | .skip, e, h, Q, tm, m, Lx, Ln, Lr, _, _, hn, ha, r, hp => ⟨0, .norm, ⟨tm, m⟩, e, h, rfl, hn, ha, r, Keep.refl _ m, fun _ _ => rfl, hp⟩
  | .exit i, e, h, Q, tm, m, Lx, Ln, Lr, _, _, hn, ha, r, hp => ⟨0, .exit i, ⟨tm, m⟩, e, h, rfl, hn, ha, r, Keep.refl _ m, fun _ _ => rfl, hp⟩
  | .ret, e, h, Q, tm, m, Lx, Ln, Lr, _, _, hn, ha, r, hp => ⟨0, .ret, ⟨tm, m⟩, e, h, rfl, hn, ha, r, Keep.refl _ m, fun _ _ => rfl, hp⟩
  | .reg k pi an ops, e, h, Q, tm, m, Lx, Ln, Lr, hok, hsl, hn, ha, r, hp => by
    simp only [slotsC, Bool.and_eq_true] at hsl
    have rb : Rep ⟨m.next + k, m.t⟩ h := ⟨fun b hb => r.ok b (by have : m.next + k ≤ b := hb; omega), r.eq⟩
    obtain ⟨j, s, e', h', h1, h2, h3, h4, h5, h7, h6⟩ := stepsA_sound (n := n) (base := m.next) ops e h (Q .norm) tm ⟨m.next + k, m.t⟩ Ln hok hsl.1.2 hsl.2 hn ha rb
      (fun i hi => ⟨r.ok _ (Nat.le_add_right _ _), by have := allLt_iff k _ hsl.1.1 i hi; show m.next + i < m.next + k; omega⟩) hp
    refine ⟨j, .norm, s, e', h', by simp only [ACode.erase, evC, h1], h2, h3, h4, ?_, h7, h6⟩
    exact ⟨Nat.le_trans (Nat.le_add_right _ _) h5.next, fun b hb _ he => h5.free b (by show b < m.next + k; omega) (by rintro ⟨i, _, rfl⟩; omega) he⟩
  | .seq a b, e, h, Q, tm, m, Lx, Ln, Lr, hok, hsl, hn, ha, r, hp => by
    simp only [slotsC, Bool.and_eq_true] at hsl
    simp only [liveC, Bool.and_eq_true] at hok ha
    obtain ⟨k, x, s, e', h', h1, h2, h3, h4, h5, h7, h6⟩ := wpA_sound a e h _ tm m Lx _ Lr hok.2 hsl.1 hn ha r hp
    have hw : ∀ k, (wmask (.seq a b)).testBit k = false → (wmask a).testBit k = false ∧ (wmask b).testBit k = false := fun k hk => by
      simp only [wmask, Nat.testBit_or, Bool.or_eq_false_iff] at hk
      exact hk
    cases x with
    | norm =>
      obtain ⟨k', x', s', e'', h'', g1, g2, g3, g4, g5, g7, g6⟩ := wpA_sound b e' h' Q s.tm s.m Lx Ln Lr hok.1 hsl.2 h2 h3 h4 h6
      refine ⟨max k k', x', s', e'', h'', ?_, g2, g3, g4, h5.trans g5, fun k hk => by rw [g7 k (hw k hk).2, h7 k (hw k hk).1], g6⟩
      simp only [ACode.erase, evC, evC_le (evF_le tab (Nat.le_max_left k k')) (Nat.le_max_left k k') h1]
      exact evC_le (evF_le tab (Nat.le_max_right k k')) (Nat.le_max_right k k') g1
    | exit i => exact ⟨k, .exit i, s, e', h', by simp only [ACode.erase, evC, h1], h2, h3, h4, h5, fun k hk => h7 k (hw k hk).1, h6⟩
    | ret => exact ⟨k, .ret, s, e', h', by simp only [ACode.erase, evC, h1], h2, h3, h4, h5, fun k hk => h7 k (hw k hk).1, h6⟩
  | .cond c a b, e, h, Q, tm, m, Lx, Ln, Lr, hok, hsl, hn, ha, r, hp => by
    simp only [slotsC, Bool.and_eq_true] at hsl
    simp only [liveC, Bool.and_eq_true] at hok ha
    have hc : c.eval tm = ev e c := by
      cases c with
      | c v => rfl
      | t q => exact ha q (by simp [maskO, Nat.testBit_or, bit_pow])
    simp only [wpA, condA] at hp
    split at hp
    · rename_i y hy
      cases y with
      | true =>
        simp only [if_true] at hp
        obtain ⟨k, x, s, e', h', h1, h2, h3, h4, h5, h7, h6⟩ := wpA_sound a e h Q tm m Lx Ln Lr hok.1 hsl.1 hn (ha.mono fun k hk => by simp [Nat.testBit_or, hk]) r hp
        exact ⟨k, x, s, e', h', by simp only [ACode.erase, evC, hc, hy, h1], h2, h3, h4, h5, fun k hk => by
          simp only [wmask, Nat.testBit_or, Bool.or_eq_false_iff] at hk
          exact h7 k hk.1, h6⟩
      | false =>
        simp only [Bool.false_eq_true, if_false] at hp
        obtain ⟨k, x, s, e', h', h1, h2, h3, h4, h5, h7, h6⟩ := wpA_sound b e h Q tm m Lx Ln Lr hok.2 hsl.2 hn (ha.mono fun k hk => by simp [Nat.testBit_or, hk]) r hp
        exact ⟨k, x, s, e', h', by simp only [ACode.erase, evC, hc, hy, h1], h2, h3, h4, h5, fun k hk => by
          simp only [wmask, Nat.testBit_or, Bool.or_eq_false_iff] at hk
          exact h7 k hk.2, h6⟩
    · exact hp.elim
  | .block id c, e, h, Q, tm, m, Lx, Ln, Lr, hok, hsl, hn, ha, r, hp => by
    simp only [slotsC] at hsl
    simp only [liveC] at hok ha
    obtain ⟨k, x, s, e', h', h1, h2, h3, h4, h5, h7, h6⟩ := wpA_sound c e h _ tm m _ Ln Lr hok hsl hn ha r hp
    cases x with
    | norm => exact ⟨k, .norm, s, e', h', by simp only [ACode.erase, evC, h1], h2, h3, h4, h5, h7, h6⟩
    | ret => exact ⟨k, .ret, s, e', h', by simp only [ACode.erase, evC, h1], h2, h3, h4, h5, h7, h6⟩
    | exit j =>
      simp only [blockA, exitA] at h6
      simp only [atEx] at h3
      by_cases hj : j = id
      · subst hj
        rw [Nat.beq_refl] at h6 h3
        exact ⟨k, .norm, s, e', h', by simp only [ACode.erase, evC, h1, if_true], h2, h3, h4, h5, h7, h6⟩
      · have hb : Nat.beq j id = false := by
          cases hh : Nat.beq j id with
          | false => rfl
          | true => exact absurd (Nat.eq_of_beq_eq_true hh) hj
        rw [hb] at h6 h3
        exact ⟨k, .exit j, s, e', h', by simp only [ACode.erase, evC, h1, if_neg hj], h2, h3, h4, h5, h7, h6⟩
  | .loop lv L c, e, h, Q, tm, m, Lx, Ln, Lr, hok, hsl, hn, ha, r, hp => by
    simp only [slotsC] at hsl
    simp only [liveC, Bool.and_eq_true] at hok ha
    obtain ⟨hok, hL1, hL2⟩ := hok
    obtain ⟨n0, Inv, hi, hF⟩ := hp
    have main : ∀ (q : Nat) (tm : List AV) (m : Mem) (e1 : Env) (h : H), Inv q (lv.map e1) h → (∀ k, (wmask c).testBit k = false → e1 k = e k) → tm.length = n → agree L tm e1 → Rep m h →
        ∃ k x s e' h', loopN (evC (evF tab k) k c.erase) k ⟨tm, m⟩ = some (x, s) ∧ s.tm.length = n ∧ agree (atEx Lx Ln Lr x) s.tm e' ∧ Rep s.m h' ∧ Keep nobody m s.m ∧ (∀ k, (wmask c).testBit k = false → e' k = e k) ∧ Q x e' h' := by
      intro q
      induction q using Nat.strongRecOn with
      | ind q ih =>
        intro tm m e1 h hi hw hn ha r
        have ha' : agree L tm (ofL e lv (lv.map e1)) := fun k hk => by
          rw [ha k hk, ofL_map hw]
          by_cases hb : (wmask c).testBit k = true
          · exact .inl ((mem_maskN lv k).1 (subM_bit hL2 k (by rw [Nat.testBit_and, hk, hb]; rfl)))
          · exact .inr (by simpa using hb)
        obtain ⟨k, x, s, e', h', h1, h2, h3, h4, h5, h7, h6⟩ := wpA_sound c (ofL e lv (lv.map e1)) h _ tm m Lx L Lr hok hsl hn (ha'.mono fun k hk => subM_bit hL1 k hk) r (hF q _ _ hi)
        have hw' : ∀ k, (wmask c).testBit k = false → e' k = e k := fun k hk => by rw [h7 k hk, ofL_map hw k (.inr hk), hw k hk]
        cases x with
        | norm =>
          obtain ⟨q', hq, hi'⟩ := h6
          obtain ⟨k', x', s', e'', h'', g1, g2, g3, g4, g5, g7, g6⟩ := ih q' hq s.tm s.m e' h' hi' hw' h2 h3 h4
          refine ⟨max k k' + 1, x', s', e'', h'', ?_, g2, g3, g4, h5.trans g5, g7, g6⟩
          simp only [loopN, evC_le (evF_le tab (show k ≤ max k k' + 1 by omega)) (show k ≤ max k k' + 1 by omega) h1]
          exact loopN_le (fun s r h' => evC_le (evF_le tab (show k' ≤ max k k' + 1 by omega)) (show k' ≤ max k k' + 1 by omega) h') (by omega) g1
        | exit i => exact ⟨k + 1, .exit i, s, e', h', by simp only [loopN, evC_le (evF_le tab (Nat.le_succ k)) (Nat.le_succ k) h1], h2, h3, h4, h5, hw', h6⟩
        | ret => exact ⟨k + 1, .ret, s, e', h', by simp only [loopN, evC_le (evF_le tab (Nat.le_succ k)) (Nat.le_succ k) h1], h2, h3, h4, h5, hw', h6⟩
    obtain ⟨k, x, s, e', h', h1, h2⟩ := main n0 tm m e h hi (fun _ _ => rfl) hn ha r
    exact ⟨k, x, s, e', h', by simp only [ACode.erase, evC]; exact h1, h2⟩

/-! ### A function -/
def maskR : List IRes → Nat
  | [] => 0
  | .tmp t :: l => 2 ^ t ||| maskR l
  | .cell t _ :: l => 2 ^ t ||| maskR l
theorem resA_sound {tm : List AV} {m : Mem} {h : H} {e : Env} (r : Rep m h) : ∀ (rs : List IRes) (K : List AV → Prop), agree (maskR rs) tm e → resA h e rs K → ∃ vs, resAll tm m rs = some vs ∧ K vs
  | [], K, _, hp => ⟨[], rfl, hp⟩
  | .tmp t :: l, K, ha, hp => by
    have ht : tm.getD t .undef = e t := ha t (by simp [maskR, Nat.testBit_or, bit_pow])
    obtain ⟨vs, h1, h2⟩ := resA_sound r l _ (ha.mono fun k hk => by simp [maskR, Nat.testBit_or, hk]) hp
    exact ⟨_, by simp only [resAll, resOf, h1, ht], h2⟩
  | .cell t n :: l, K, ha, hp => by
    have ht : tm.getD t .undef = e t := ha t (by simp [maskR, Nat.testBit_or, bit_pow])
    simp only [resA] at hp
    have ho : opA noA (Opd.eval tm) h (.ld n (.t t)) (fun v _ => resA h e l fun vs => K (v :: vs)) := by
      simp only [opA, Opd.eval, ht]
      exact hp
    obtain ⟨_, v, m', h', g1, _, _, g2⟩ := ends_op (S := nobody) (cf := fun _ _ _ _ => none) (fun f a h K m hf => hf.elim) r ho (base := 0) (fun j hj => by cases hj)
    obtain ⟨vs, h1, h2⟩ := resA_sound r l _ (ha.mono fun k hk => by simp [maskR, Nat.testBit_or, hk]) g2
    exact ⟨_, by simp only [resAll, resOf, g1, h1], h2⟩
def okA (n : Nat) (rs : List IRes) (c : ACode) : Bool := (liveC n c (fun _ => 0) (maskR rs) (maskR rs)).2 && slotsC c
theorem can_of {f : Nat} {fn : IFun} {c : ACode} (hf : tab f = some fn) (hc : fn.body = c.erase) (hok : okA fn.ntmps fn.results c = true) {args : List AV} (hl : args.length ≤ fn.ntmps) {h : H} {R : AV → H → Prop}
    (hp : wpA (callA tab) c (argE args) h (outA fn.results R)) : callA tab f args h R := by
  intro m r
  simp only [okA, Bool.and_eq_true] at hok
  obtain ⟨k, x, s, e', h', h1, h2, h3, h4, h5, h7, h6⟩ := wpA_sound c (argE args) h _ (args ++ List.replicate (fn.ntmps - args.length) .undef) m _ _ _ hok.1 hok.2 (by simp; omega) (fun k _ => by
    simp only [argE, List.getD_eq_getElem?_getD]
    by_cases hk : k < args.length
    · rw [List.getElem?_append_left hk]
    · rw [List.getElem?_append_right (by omega), List.getElem?_replicate, List.getElem?_eq_none (by omega)]
      split <;> rfl) r hp
  rw [← hc] at h1
  cases x with
  | exit i => exact h6.elim
  | norm =>
    obtain ⟨vs, g1, g2⟩ := resA_sound h4 _ _ h3 h6
    exact ⟨k + 1, _, _, _, by rw [evF_some hf, h1]; simp only [g1], h4, h5, g2⟩
  | ret =>
    obtain ⟨vs, g1, g2⟩ := resA_sound h4 _ _ h3 h6
    exact ⟨k + 1, _, _, _, by rw [evF_some hf, h1]; simp only [g1], h4, h5, g2⟩

/-! ### A table -/
def lookF : List (Nat × IFun) → Nat → Option IFun
  | [], _ => none
  | (k, i) :: l, f => cond (Nat.beq k f) (some i) (lookF l f)
def okFs (P : Program) : List (Nat × IFun) → Prop
  | [] => True
  | (f, i) :: l => okFun P f i = true ∧ okFs P l
theorem can_she {f : Nat} {fn : IFun} {c : ACode} (hf : tab f = some fn) (hc : fn.body = c.erase) (hok : okA fn.ntmps fn.results c = true) {args : List AV} (hl : args.length ≤ fn.ntmps) {h : H} {R : AV → H → Prop} {S : Prop}
    (e : wpA (callA tab) c (argE args) h (outA fn.results R) = S) (hp : S) : callA tab f args h R := can_of hf hc hok hl (e ▸ hp)
theorem okFs_look {P : Program} : ∀ {l : List (Nat × IFun)}, okFs P l → ∀ f i, lookF l f = some i → okFun P f i = true
  | [], _, f, i, h => by simp [lookF] at h
  | (k, j) :: l, ho, f, i, h => by
    simp only [lookF] at h
    cases hb : Nat.beq k f with
    | true =>
      rw [hb] at h
      simp only [cond] at h
      injection h with h
      rw [← h, ← Nat.eq_of_beq_eq_true hb]
      exact ho.1
    | false =>
      rw [hb] at h
      exact okFs_look ho.2 f i h

/-! ### Calls -/
theorem callA.mono {f : Nat} {a : List AV} {h : H} {K K' : AV → H → Prop} (hc : callA tab f a h K) (hk : ∀ v h', K v h' → K' v h') : callA tab f a h K' := fun m r => by
  obtain ⟨k, v, m', h', h1, h2, h3, h4⟩ := hc m r
  exact ⟨k, v, m', h', h1, h2, h3, hk _ _ h4⟩
theorem rep_exists (h : H) : ∃ m, Rep m h := by
  obtain ⟨n, hn⟩ := h.fin
  have : ∀ k, k ≤ n → ∃ t : T, ∀ b, t.get b = if b < k then h.get b else none := by
    intro k
    induction k with
    | zero => exact fun _ => ⟨.nil, fun b => by simp [T.get]⟩
    | succ k ih =>
      intro hk
      obtain ⟨t, ht⟩ := ih (by omega)
      cases hb : h.get k with
      | none => exact ⟨t, fun b => by
          rw [ht]
          by_cases hbk : b = k
          · subst hbk; simp [hb]
          · by_cases h1 : b < k
            · rw [if_pos h1, if_pos (by omega)]
            · rw [if_neg h1, if_neg (by omega)]⟩
      | some o => exact ⟨t.set k o, fun b => by
          rw [T.get_set, ht]
          by_cases hbk : b = k
          · subst hbk; simp [hb]
          · rw [if_neg hbk]
            by_cases h1 : b < k
            · rw [if_pos h1, if_pos (by omega)]
            · rw [if_neg h1, if_neg (by omega)]⟩
  obtain ⟨t, ht⟩ := this n (Nat.le_refl _)
  refine ⟨⟨n, t⟩, fun b hb => ?_, fun b => ?_⟩
  · show t.get b = none
    rw [ht, if_neg (by have : n ≤ b := hb; omega)]
  · show t.get b = h.get b
    rw [ht]
    by_cases hb : b < n
    · rw [if_pos hb]
    · rw [if_neg hb, hn b (by omega)]
/-- A call whose end is known. -/
theorem callA_eq {f : Nat} {a : List AV} {h h' : H} {v : AV} (hc : callA tab f a h fun v' h'' => v' = v ∧ h'' = h') (K : AV → H → Prop) : callA tab f a h K = K v h' := by
  apply propext
  constructor
  · intro hk
    obtain ⟨m, r⟩ := rep_exists h
    obtain ⟨k, v1, m1, h1, e1, r1, _, rfl, rfl⟩ := hc m r
    obtain ⟨k2, v2, m2, h2, e2, r2, _, hk⟩ := hk m r
    have g1 := evF_le tab (Nat.le_max_left k k2) _ _ _ _ e1
    have g2 := evF_le tab (Nat.le_max_right k k2) _ _ _ _ e2
    rw [g1] at g2
    injection g2 with g2
    injection g2 with g2 g3
    subst g2; subst g3
    have : h1 = h2 := H.ext' fun b => by rw [← r1.eq, r2.eq]
    rw [this]; exact hk
  · intro hk
    exact hc.mono fun v' h'' ⟨e1, e2⟩ => by rw [e1, e2]; exact hk
end
end Go.Proofs.Ytljkkfcokpimkaa.X
