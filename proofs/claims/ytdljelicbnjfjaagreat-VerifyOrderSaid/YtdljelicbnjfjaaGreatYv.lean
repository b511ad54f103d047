/- What must hold ahead of a run that may panic is enough. -/
import Derived.Test.YtdljelicbnjfjaaGreatYq
set_option linter.unusedVariables false
set_option linter.unusedSimpArgs false
namespace Go.Proofs.YtdljelicbnjfjaaGreat.X
open Go Go.RowKit

/-- Each call of a region has only behind it what needs it; nothing is called that is a value. -/
def lateS (pi : List Nat) (anc : List (List Nat)) (n : Nat) : List Step → Bool
  | [] => true
  | i :: r => (match i.op with | .call .. => lateOk pi anc n r.length | .callv .. => false | _ => true) && lateS pi anc n r
def lateC : ACode → Bool
  | .reg _ pi an ops => lateS pi an ops.length ops
  | .seq a b => lateC a && lateC b
  | .cond _ a b => lateC a && lateC b
  | .block _ c => lateC c
  | .loop _ _ c => lateC c
  | _ => true
def isV : IOp → Bool
  | .callv .. => true
  | _ => false
section
variable {S : Sp} {tab : Nat → Option IFun} {PK : H → Prop}
theorem ends_opB {m : Mem} {h : H} {K : AV → H → Prop} {Sl : Nat → Prop} (r : Rep m h) {tm : List AV} {base : Nat} {op : IOp} (k : opA (callB S tab PK) (Opd.eval tm) h op K)
    (hs : ∀ j, op.slot = some j → m.get (base + j) = none ∧ base + j < m.next ∧ Sl (base + j)) (hq : (∀ h, ¬ PK h) ∨ isV op = false) :
    (∃ k, Ends (evOp (evGG S tab k).1 base tm m op) Sl m K) ∨ ∃ k f args, op = .call f args ∧ EndsP ((evGG S tab k).2 f (args.map (·.eval tm)) m) m PK := by
  have wk : ∀ {o}, Ends o nobody m K → Ends o Sl m K := fun ⟨v, m', h', h1, h2, h3, h4⟩ => ⟨v, m', h', h1, h2, h3.weaken fun _ x => x.elim, h4⟩
  have non : opA noA (Opd.eval tm) h op K → (∃ k, Ends (evOp (evGG S tab k).1 base tm m op) Sl m K) ∨ ∃ k f args, op = .call f args ∧ EndsP ((evGG S tab k).2 f (args.map (·.eval tm)) m) m PK := fun k =>
    .inl (ends_op (C := noA) (cf := fun k => (evGG S tab k).1) (fun f a h K m hf => hf.elim) r k hs)
  cases op
  case call f args =>
    obtain ⟨j, h1 | h1⟩ := (show callB S tab PK f (args.map (Opd.eval tm)) h K from k) m r
    · exact .inl ⟨j, wk h1⟩
    · exact .inr ⟨j, f, args, rfl, h1⟩
  case callv x args =>
    rcases hq with hq | hq
    · have k : callvA (callB S tab PK) (x.eval tm) (args.map (·.eval tm)) h K := k
      unfold callvA at k
      split at k
      · rename_i f a c hx
        obtain ⟨j, h1 | ⟨_, h', _, _, _, h2⟩⟩ := k m r
        · refine .inl ⟨j, ?_⟩
          show Ends (match x.eval tm with | .fn f first cap => (evGG S tab j).1 f (first ++ args.map (·.eval tm) ++ cap) m | _ => none) Sl m K
          rw [hx]
          exact wk h1
        · exact absurd h2 (hq h')
      · exact k.elim
    · cases hq
  case ld n x => cases n <;> exact non k
  case cv s c x => cases c <;> exact non k
  case ia a e x i => cases a <;> exact non k
  case ix a x i => rcases a with _ | ⟨_, _, _⟩ <;> exact non k
  case len s x => cases s <;> exact non k
  all_goals exact non k

/-- A region's steps, to their end or to a panic. -/
def RegB (S : Sp) (tab : Nat → Option IFun) (PK : H → Prop) (n base : Nat) (pi : List Nat) (anc : List (List Nat)) (N : Nat) (full l : List Step) (e0 : Env) (L : Nat) (tm : List AV) (m m0 : Mem) (Q : Env → H → Prop) : Prop :=
  (∃ k s e' h', evSteps (evGG S tab k).1 base l ⟨tm, m⟩ = some s ∧ s.tm.length = n ∧ agree L s.tm e' ∧ Rep s.m h' ∧ Keep (fun b => ∃ j ∈ slotsOf full, b = base + j) m0 s.m ∧ (∀ k, (wmaskS full).testBit k = false → e' k = e0 k) ∧ Q e' h') ∨
  ∃ k q m' h', panAt (evGG S tab k).1 (evGG S tab k).2 base l ⟨tm, m⟩ = some (q, m') ∧ lateOk pi anc N q = true ∧ Rep m' h' ∧ Keep (fun b => ∃ j ∈ slotsOf full, b = base + j) m0 m' ∧ PK h'
theorem stepsB_sound {n base : Nat} {pi : List Nat} {anc : List (List Nat)} {N : Nat} : ∀ (l : List Step) (e : Env) (h : H) (Q : Env → H → Prop) (tm : List AV) (m : Mem) (L : Nat), (liveS n l L).2 = true → apart (slotsOf l) = true → chksNo l = true → tm.length = n → agree (liveS n l L).1 tm e → Rep m h →
    (∀ k ∈ slotsOf l, m.get (base + k) = none ∧ base + k < m.next) → ((∀ h, ¬ PK h) ∨ lateS pi anc N l = true) → stepsA (callB S tab PK) l e h Q → RegB S tab PK n base pi anc N l l e L tm m m Q
  | [], e, h, Q, tm, m, L, _, _, _, hn, ha, r, _, _, hp => .inl ⟨0, ⟨tm, m⟩, e, h, rfl, hn, ha, r, Keep.refl _ m, fun _ _ => rfl, hp⟩
  | i :: l, e, h, Q, tm, m, L, hok, hap, hch, hn, ha, r, hs, hq, hp => by
    simp only [liveS, Bool.and_eq_true] at hok ha
    simp only [chksNo, Bool.and_eq_true] at hch
    have hbits : ∀ A B C D k : Nat, (A ||| (B ||| (C ||| D))).testBit k = (A.testBit k || (B.testBit k || (C.testBit k || D.testBit k))) := fun A B C D k => by simp only [Nat.testBit_or]
    have hb1 : ∀ k, (maskL i.op.uses).testBit k = true → (maskG i.guard ||| (maskL i.op.uses ||| (maskC i.chk ||| without (liveS n l L).1 i.dst))).testBit k = true := fun k hk => by rw [hbits, hk]; simp
    have hb2 : ∀ k, (maskC i.chk).testBit k = true → (maskG i.guard ||| (maskL i.op.uses ||| (maskC i.chk ||| without (liveS n l L).1 i.dst))).testBit k = true := fun k hk => by rw [hbits, hk]; simp
    have hb3 : ∀ k, (without (liveS n l L).1 i.dst).testBit k = true → (maskG i.guard ||| (maskL i.op.uses ||| (maskC i.chk ||| without (liveS n l L).1 i.dst))).testBit k = true := fun k hk => by rw [hbits, hk]; simp
    have hapl : apart (slotsOf l) = true := by
      simp only [slotsOf] at hap
      split at hap
      · simp only [apart, Bool.and_eq_true] at hap; exact hap.2
      · exact hap
    have hsub : ∀ k ∈ slotsOf l, k ∈ slotsOf (i :: l) := fun k hk => by
      simp only [slotsOf]; split
      · exact List.mem_cons_of_mem _ hk
      · exact hk
    have hql : (∀ h, ¬ PK h) ∨ lateS pi anc N l = true := by
      rcases hq with hq | hq
      · exact .inl hq
      · simp only [lateS, Bool.and_eq_true] at hq; exact .inr hq.2
    -- the rest
    have rest : ∀ (v : AV) (h' : H) (m' : Mem), Rep m' h' → Keep (fun b => ∃ j ∈ slotsOf (i :: l), b = base + j) m m' → (∀ k ∈ slotsOf l, m'.get (base + k) = none) →
        againsP e h' i.chk (stepsA (callB S tab PK) l (putE e i.dst v) h' Q) → i.chk.all (chkOk base tm m') = true ∧ RegB S tab PK n base pi anc N (i :: l) l e L (put tm i.dst v) m' m Q := by
      intro v h' m' r' kp hfree hp
      obtain ⟨h1, h2⟩ := chks_ok (base := base) r' ha i.chk hb2 hch.1 hp
      refine ⟨h1, ?_⟩
      rcases stepsB_sound (n := n) (base := base) l (putE e i.dst v) h' Q (put tm i.dst v) m' L hok.1 hapl hch.2 (by rw [put_length, hn]) (agree_put hn hok.2 (ha.mono hb3)) r'
        (fun k hk => ⟨hfree k hk, Nat.lt_of_lt_of_le (hs k (hsub k hk)).2 kp.next⟩) hql h2 with ⟨k, s, e', h'', g1, g2, g3, g4, g5, g7, g6⟩ | ⟨k, q, m2, h'', g1, g2, g3, g4, g5⟩
      · exact .inl ⟨k, s, e', h'', g1, g2, g3, g4, kp.trans (g5.weaken fun b ⟨j, hj, hb⟩ => ⟨j, hsub j hj, hb⟩), fun k hk => by
          simp only [wmaskS, Nat.testBit_or, Bool.or_eq_false_iff] at hk
          rw [g7 k hk.2, putE_other hk.1], g6⟩
      · exact .inr ⟨k, q, m2, h'', g1, g2, g3, kp.trans (g4.weaken fun b ⟨j, hj, hb⟩ => ⟨j, hsub j hj, hb⟩), g5⟩
    have skip : againsP e h i.chk (stepsA (callB S tab PK) l (putE e i.dst .undef) h Q) → wants tm i.guard = false → RegB S tab PK n base pi anc N (i :: l) (i :: l) e L tm m m Q := by
      intro hp hw
      rcases (rest .undef h m r (Keep.refl _ m) (fun k hk => (hs k (hsub k hk)).1) hp).2 with ⟨k, s, e', h'', g1, g2⟩ | ⟨k, q, m2, h'', g1, g2⟩
      · exact .inl ⟨k, s, e', h'', by simp only [evSteps, hw, Bool.false_eq_true, if_false]; exact g1, g2⟩
      · exact .inr ⟨k, q, m2, h'', by simp only [panAt, hw, Bool.false_eq_true, if_false]; exact g1, g2⟩
    have go : opA (callB S tab PK) (ev e) h i.op (fun v h' => againsP e h' i.chk (stepsA (callB S tab PK) l (putE e i.dst v) h' Q)) → wants tm i.guard = true → RegB S tab PK n base pi anc N (i :: l) (i :: l) e L tm m m Q := by
      intro hp hw
      rw [← opA_congr (ev_agree ha _ hb1)] at hp
      rcases ends_opB (Sl := fun b => ∃ j, i.op.slot = some j ∧ b = base + j) r hp (base := base) (fun j hj => by
        have hj' : j ∈ slotsOf (i :: l) := by simp only [slotsOf, hj]; exact List.mem_cons_self ..
        exact ⟨(hs j hj').1, (hs j hj').2, j, hj, rfl⟩) (by
          rcases hq with hq | hq
          · exact .inl hq
          · simp only [lateS, Bool.and_eq_true] at hq
            refine .inr ?_
            cases hop : i.op <;> first | rfl | (rw [hop] at hq; cases hq.1)) with ⟨k1, v, m', h', h1, h2, h3, h4⟩ | ⟨k1, f, args, hop, m', h', h1, h2, h3, h4⟩
      · have kp : Keep (fun b => ∃ j ∈ slotsOf (i :: l), b = base + j) m m' := h3.weaken fun b ⟨j, hj, hb⟩ => ⟨j, by simp only [slotsOf, hj]; exact List.mem_cons_self .., hb⟩
        have hfree : ∀ k ∈ slotsOf l, m'.get (base + k) = none := fun k hk => by
          refine h3.free _ (hs k (hsub k hk)).2 ?_ (hs k (hsub k hk)).1
          rintro ⟨j, hj, hb⟩
          have hkj : k = j := by omega
          subst hkj
          simp only [slotsOf, hj, apart, Bool.and_eq_true, Bool.not_eq_true'] at hap
          rw [(isIn_iff k _).2 hk] at hap
          cases hap.1
        obtain ⟨hc, hr⟩ := rest v h' m' h2 kp hfree h4
        rcases hr with ⟨k2, s, e', h'', g1, g2⟩ | ⟨k2, q, m2, h'', g1, g2⟩
        · refine .inl ⟨max k1 k2, s, e', h'', ?_, g2⟩
          simp only [evSteps, hw, if_true, evOp_le (evGG_le S tab (Nat.le_max_left k1 k2)).1 h1, if_pos hc]
          exact evSteps_le (evGG_le S tab (Nat.le_max_right k1 k2)).1 g1
        · refine .inr ⟨max k1 k2, q, m2, h'', ?_, g2⟩
          simp only [panAt, hw, if_true, evOp_le (evGG_le S tab (Nat.le_max_left k1 k2)).1 h1, if_pos hc]
          have := evGG_le S tab (Nat.le_max_right k1 k2)
          exact panAt_le this.1 this.2 (evGG_excl S tab _) _ _ _ g1
      · refine .inr ⟨k1, l.length, m', h', ?_, ?_, h2, h3.weaken fun _ x => x.elim, h4⟩
        · have hn : evOp (evGG S tab k1).1 base tm m (.call f args) = none := evGG_excl S tab k1 _ _ _ _ h1
          simp only [panAt, hw, if_true, hop, hn, h1]
        · rcases hq with hq | hq
          · exact absurd h4 (hq h')
          · simp only [lateS, hop, Bool.and_eq_true] at hq
            exact hq.1
    simp only [stepsA] at hp
    cases hg : i.guard with
    | none =>
      rw [hg] at hp
      exact go hp (by rw [hg]; rfl)
    | some x =>
      obtain ⟨t, b⟩ := x
      rw [hg] at hp
      simp only [wantA, whenA] at hp
      have ht : tm.getD t .undef = e t := ha t (by rw [hbits, hg]; simp [maskG, bit_pow])
      have hw : wants tm i.guard = match e t with | .bool c => c == b | _ => false := by rw [hg]; simp only [wants, ht]; rfl
      cases he : e t <;> rw [he] at hp hw
      case bool y =>
        simp only at hp hw
        by_cases hy : y = b
        · rw [if_pos hy] at hp
          exact go hp (by rw [hw, hy]; simp)
        · rw [if_neg hy] at hp
          exact skip hp (by rw [hw]; simpa using hy)
      all_goals exact skip hp hw
/-- A code, to its end or to a panic. -/
def CodeB (S : Sp) (tab : Nat → Option IFun) (PK : H → Prop) (n : Nat) (c : ACode) (e0 : Env) (Lx : Nat → Nat) (Ln Lr : Nat) (tm : List AV) (m : Mem) (Q : Ex → Env → H → Prop) : Prop :=
  (∃ k x s e' h', evC (evGG S tab k).1 k c.erase ⟨tm, m⟩ = some (x, s) ∧ s.tm.length = n ∧ agree (atEx Lx Ln Lr x) s.tm e' ∧ Rep s.m h' ∧ Keep nobody m s.m ∧ (∀ k, (wmask c).testBit k = false → e' k = e0 k) ∧ Q x e' h') ∨
  ∃ k m' h', evCP (evGG S tab k).1 (evGG S tab k).2 k c.erase ⟨tm, m⟩ = some m' ∧ Rep m' h' ∧ Keep nobody m m' ∧ PK h'
theorem evC_up {k k' : Nat} (hk : k ≤ k') {c : ICode} {s : St} {r : Ex × St} (h : evC (evGG S tab k).1 k c s = some r) : evC (evGG S tab k').1 k' c s = some r := evC_le (evGG_le S tab hk).1 hk h
theorem evCP_up {k k' : Nat} (hk : k ≤ k') {c : ICode} {s : St} {r : Mem} (h : evCP (evGG S tab k).1 (evGG S tab k).2 k c s = some r) : evCP (evGG S tab k').1 (evGG S tab k').2 k' c s = some r := evCP_le (evGG_le S tab hk).1 (evGG_le S tab hk).2 (evGG_excl S tab _) hk h
theorem evCP_none {k : Nat} {c : ICode} {s : St} {r : Mem} (h : evCP (evGG S tab k).1 (evGG S tab k).2 k c s = some r) : evC (evGG S tab k).1 k c s = none := evCP_excl _ _ _ h
theorem wpB_sound {n : Nat} : ∀ (c : ACode) (e : Env) (h : H) (Q : Ex → Env → H → Prop) (tm : List AV) (m : Mem) (Lx : Nat → Nat) (Ln Lr : Nat), (liveC n c Lx Ln Lr).2 = true → slotsC c = true → tm.length = n → agree (liveC n c Lx Ln Lr).1 tm e → Rep m h → ((∀ h, ¬ PK h) ∨ lateC c = true) → wpA (callB S tab PK) c e h Q →
    CodeB S tab PK n c e Lx Ln Lr tm m Q
  | .skip, e, h, Q, tm, m, Lx, Ln, Lr, _, _, hn, ha, r, _, hp => .inl ⟨0, .norm, ⟨tm, m⟩, e, h, rfl, hn, ha, r, Keep.refl _ m, fun _ _ => rfl, hp⟩
  | .exit i, e, h, Q, tm, m, Lx, Ln, Lr, _, _, hn, ha, r, _, hp => .inl ⟨0, .exit i, ⟨tm, m⟩, e, h, rfl, hn, ha, r, Keep.refl _ m, fun _ _ => rfl, hp⟩
  | .ret, e, h, Q, tm, m, Lx, Ln, Lr, _, _, hn, ha, r, _, hp => .inl ⟨0, .ret, ⟨tm, m⟩, e, h, rfl, hn, ha, r, Keep.refl _ m, fun _ _ => rfl, hp⟩
  | .reg k pi an ops, e, h, Q, tm, m, Lx, Ln, Lr, hok, hsl, hn, ha, r, hq, hp => by
    simp only [slotsC, Bool.and_eq_true] at hsl
    have rb : Rep ⟨m.next + k, m.t⟩ h := ⟨fun b hb => r.ok b (by have : m.next + k ≤ b := hb; omega), r.eq⟩
    rcases stepsB_sound (n := n) (base := m.next) (pi := pi) (anc := an) (N := ops.length) ops e h (Q .norm) tm ⟨m.next + k, m.t⟩ Ln hok hsl.1.2 hsl.2 hn ha rb
      (fun i hi => ⟨r.ok _ (Nat.le_add_right _ _), by have := allLt_iff k _ hsl.1.1 i hi; show m.next + i < m.next + k; omega⟩) hq hp with ⟨j, s, e', h', h1, h2, h3, h4, h5, h7, h6⟩ | ⟨j, q, m', h', h1, h2, h3, h5, h6⟩
    · refine .inl ⟨j, .norm, s, e', h', by simp only [ACode.erase, evC, h1], h2, h3, h4, ?_, h7, h6⟩
      exact ⟨Nat.le_trans (Nat.le_add_right _ _) h5.next, fun b hb _ he => h5.free b (by show b < m.next + k; omega) (by rintro ⟨i, _, rfl⟩; omega) he⟩
    · refine .inr ⟨j, m', h', by simp only [ACode.erase, evCP, h1, h2, if_true], h3, ?_, h6⟩
      exact ⟨Nat.le_trans (Nat.le_add_right _ _) h5.next, fun b hb _ he => h5.free b (by show b < m.next + k; omega) (by rintro ⟨i, _, rfl⟩; omega) he⟩
  | .seq a b, e, h, Q, tm, m, Lx, Ln, Lr, hok, hsl, hn, ha, r, hq, hp => by
    simp only [slotsC, Bool.and_eq_true] at hsl
    simp only [liveC, Bool.and_eq_true] at hok ha
    have hqa : (∀ h, ¬ PK h) ∨ lateC a = true := hq.imp_right fun h => by simp only [lateC, Bool.and_eq_true] at h; exact h.1
    have hqb : (∀ h, ¬ PK h) ∨ lateC b = true := hq.imp_right fun h => by simp only [lateC, Bool.and_eq_true] at h; exact h.2
    have hw : ∀ k, (wmask (.seq a b)).testBit k = false → (wmask a).testBit k = false ∧ (wmask b).testBit k = false := fun k hk => by
      simp only [wmask, Nat.testBit_or, Bool.or_eq_false_iff] at hk
      exact hk
    rcases wpB_sound a e h _ tm m Lx _ Lr hok.2 hsl.1 hn ha r hqa hp with ⟨k, x, s, e', h', h1, h2, h3, h4, h5, h7, h6⟩ | ⟨k, m', h', h1, h2, h5, h6⟩
    · cases x with
      | norm =>
        rcases wpB_sound b e' h' Q s.tm s.m Lx Ln Lr hok.1 hsl.2 h2 h3 h4 hqb h6 with ⟨k', x', s', e'', h'', g1, g2, g3, g4, g5, g7, g6⟩ | ⟨k', m2, h'', g1, g2, g5, g6⟩
        · refine .inl ⟨max k k', x', s', e'', h'', ?_, g2, g3, g4, h5.trans g5, fun k hk => by rw [g7 k (hw k hk).2, h7 k (hw k hk).1], g6⟩
          simp only [ACode.erase, evC, evC_up (Nat.le_max_left k k') h1]
          exact evC_up (Nat.le_max_right k k') g1
        · refine .inr ⟨max k k', m2, h'', ?_, g2, h5.trans g5, g6⟩
          simp only [ACode.erase, evCP, evC_up (Nat.le_max_left k k') h1]
          exact evCP_up (Nat.le_max_right k k') g1
      | exit i => exact .inl ⟨k, .exit i, s, e', h', by simp only [ACode.erase, evC, h1], h2, h3, h4, h5, fun k hk => h7 k (hw k hk).1, h6⟩
      | ret => exact .inl ⟨k, .ret, s, e', h', by simp only [ACode.erase, evC, h1], h2, h3, h4, h5, fun k hk => h7 k (hw k hk).1, h6⟩
    · exact .inr ⟨k, m', h', by simp only [ACode.erase, evCP, evCP_none h1]; exact h1, h2, h5, h6⟩
  | .cond c a b, e, h, Q, tm, m, Lx, Ln, Lr, hok, hsl, hn, ha, r, hq, hp => by
    simp only [slotsC, Bool.and_eq_true] at hsl
    simp only [liveC, Bool.and_eq_true] at hok ha
    have hqa : (∀ h, ¬ PK h) ∨ lateC a = true := hq.imp_right fun h => by simp only [lateC, Bool.and_eq_true] at h; exact h.1
    have hqb : (∀ h, ¬ PK h) ∨ lateC b = true := hq.imp_right fun h => by simp only [lateC, Bool.and_eq_true] at h; exact h.2
    have hc : c.eval tm = ev e c := by
      cases c with
      | c v => rfl
      | t q => exact ha q (by simp [maskO, Nat.testBit_or, bit_pow])
    simp only [wpA, condA] at hp
    split at hp
    · rename_i y hy
      cases y with
      | true =>
        simp only [if_true] at hp
        rcases wpB_sound a e h Q tm m Lx Ln Lr hok.1 hsl.1 hn (ha.mono fun k hk => by simp [Nat.testBit_or, hk]) r hqa hp with ⟨k, x, s, e', h', h1, h2, h3, h4, h5, h7, h6⟩ | ⟨k, m', h', h1, h2, h5, h6⟩
        · exact .inl ⟨k, x, s, e', h', by simp only [ACode.erase, evC, hc, hy, h1], h2, h3, h4, h5, fun k hk => by
            simp only [wmask, Nat.testBit_or, Bool.or_eq_false_iff] at hk
            exact h7 k hk.1, h6⟩
        · exact .inr ⟨k, m', h', by simp only [ACode.erase, evCP, hc, hy, h1], h2, h5, h6⟩
      | false =>
        simp only [Bool.false_eq_true, if_false] at hp
        rcases wpB_sound b e h Q tm m Lx Ln Lr hok.2 hsl.2 hn (ha.mono fun k hk => by simp [Nat.testBit_or, hk]) r hqb hp with ⟨k, x, s, e', h', h1, h2, h3, h4, h5, h7, h6⟩ | ⟨k, m', h', h1, h2, h5, h6⟩
        · exact .inl ⟨k, x, s, e', h', by simp only [ACode.erase, evC, hc, hy, h1], h2, h3, h4, h5, fun k hk => by
            simp only [wmask, Nat.testBit_or, Bool.or_eq_false_iff] at hk
            exact h7 k hk.2, h6⟩
        · exact .inr ⟨k, m', h', by simp only [ACode.erase, evCP, hc, hy, h1], h2, h5, h6⟩
    · exact hp.elim
  | .block id c, e, h, Q, tm, m, Lx, Ln, Lr, hok, hsl, hn, ha, r, hq, hp => by
    simp only [slotsC] at hsl
    simp only [liveC] at hok ha
    rcases wpB_sound c e h _ tm m _ Ln Lr hok hsl hn ha r hq hp with ⟨k, x, s, e', h', h1, h2, h3, h4, h5, h7, h6⟩ | ⟨k, m', h', h1, h2, h5, h6⟩
    · cases x with
      | norm => exact .inl ⟨k, .norm, s, e', h', by simp only [ACode.erase, evC, h1], h2, h3, h4, h5, h7, h6⟩
      | ret => exact .inl ⟨k, .ret, s, e', h', by simp only [ACode.erase, evC, h1], h2, h3, h4, h5, h7, h6⟩
      | exit j =>
        simp only [blockA, exitA] at h6
        simp only [atEx] at h3
        by_cases hj : j = id
        · subst hj
          rw [Nat.beq_refl] at h6 h3
          exact .inl ⟨k, .norm, s, e', h', by simp only [ACode.erase, evC, h1, if_true], h2, h3, h4, h5, h7, h6⟩
        · have hb : Nat.beq j id = false := by
            cases hh : Nat.beq j id with
            | false => rfl
            | true => exact absurd (Nat.eq_of_beq_eq_true hh) hj
          rw [hb] at h6 h3
          exact .inl ⟨k, .exit j, s, e', h', by simp only [ACode.erase, evC, h1, if_neg hj], h2, h3, h4, h5, h7, h6⟩
    · exact .inr ⟨k, m', h', by simp only [ACode.erase, evCP]; exact h1, h2, h5, h6⟩
  | .loop lv L c, e, h, Q, tm, m, Lx, Ln, Lr, hok, hsl, hn, ha, r, hq, hp => by
    simp only [slotsC] at hsl
    simp only [liveC, Bool.and_eq_true] at hok ha
    obtain ⟨hok, hL1, hL2⟩ := hok
    obtain ⟨n0, Inv, hi, hF⟩ := hp
    have main : ∀ (q : Nat) (tm : List AV) (m : Mem) (e1 : Env) (h : H), Inv q (lv.map e1) h → (∀ k, (wmask c).testBit k = false → e1 k = e k) → tm.length = n → agree L tm e1 → Rep m h →
        (∃ k x s e' h', loopN (evC (evGG S tab k).1 k c.erase) k ⟨tm, m⟩ = some (x, s) ∧ s.tm.length = n ∧ agree (atEx Lx Ln Lr x) s.tm e' ∧ Rep s.m h' ∧ Keep nobody m s.m ∧ (∀ k, (wmask c).testBit k = false → e' k = e k) ∧ Q x e' h') ∨
        ∃ k m' h', loopNP (evC (evGG S tab k).1 k c.erase) (evCP (evGG S tab k).1 (evGG S tab k).2 k c.erase) k ⟨tm, m⟩ = some m' ∧ Rep m' h' ∧ Keep nobody m m' ∧ PK h' := by
      intro q
      induction q using Nat.strongRecOn with
      | ind q ih =>
        intro tm m e1 h hi hw hn ha r
        have ha' : agree L tm (ofL e lv (lv.map e1)) := fun k hk => by
          rw [ha k hk, ofL_map hw]
          by_cases hb : (wmask c).testBit k = true
          · exact .inl ((mem_maskN lv k).1 (subM_bit hL2 k (by rw [Nat.testBit_and, hk, hb]; rfl)))
          · exact .inr (by simpa using hb)
        rcases wpB_sound c (ofL e lv (lv.map e1)) h _ tm m Lx L Lr hok hsl hn (ha'.mono fun k hk => subM_bit hL1 k hk) r hq (hF q _ _ hi) with ⟨k, x, s, e', h', h1, h2, h3, h4, h5, h7, h6⟩ | ⟨k, m', h', h1, h2, h5, h6⟩
        · have hw' : ∀ k, (wmask c).testBit k = false → e' k = e k := fun k hk => by rw [h7 k hk, ofL_map hw k (.inr hk), hw k hk]
          cases x with
          | norm =>
            obtain ⟨q', hq', hi'⟩ := h6
            rcases ih q' hq' s.tm s.m e' h' hi' hw' h2 h3 h4 with ⟨k', x', s', e'', h'', g1, g2, g3, g4, g5, g7, g6⟩ | ⟨k', m2, h'', g1, g2, g5, g6⟩
            · refine .inl ⟨max k k' + 1, x', s', e'', h'', ?_, g2, g3, g4, h5.trans g5, g7, g6⟩
              simp only [loopN, evC_up (show k ≤ max k k' + 1 by omega) h1]
              exact loopN_le (fun s r h' => evC_up (show k' ≤ max k k' + 1 by omega) h') (by omega) g1
            · refine .inr ⟨max k k' + 1, m2, h'', ?_, g2, h5.trans g5, g6⟩
              simp only [loopNP, evC_up (show k ≤ max k k' + 1 by omega) h1]
              exact loopNP_le (fun s r h' => evC_up (show k' ≤ max k k' + 1 by omega) h') (fun s r h' => evCP_up (show k' ≤ max k k' + 1 by omega) h') (fun s r h' => evCP_none h') (by omega) g1
          | exit i => exact .inl ⟨k + 1, .exit i, s, e', h', by simp only [loopN, evC_up (Nat.le_succ k) h1], h2, h3, h4, h5, hw', h6⟩
          | ret => exact .inl ⟨k + 1, .ret, s, e', h', by simp only [loopN, evC_up (Nat.le_succ k) h1], h2, h3, h4, h5, hw', h6⟩
        · have h1' := evCP_up (Nat.le_succ k) h1
          exact .inr ⟨k + 1, m', h', by simp only [loopNP, evCP_none h1']; exact h1', h2, h5, h6⟩
    rcases main n0 tm m e h hi (fun _ _ => rfl) hn ha r with ⟨k, x, s, e', h', h1, h2⟩ | ⟨k, m', h', h1, h2⟩
    · exact .inl ⟨k, x, s, e', h', by simp only [ACode.erase, evC]; exact h1, h2⟩
    · exact .inr ⟨k, m', h', by simp only [ACode.erase, evCP]; exact h1, h2⟩

/-! ### A function -/
def Sp.plain (S : Sp) (f : Nat) : Bool := !(Nat.beq f S.must) && !(Nat.beq f S.hold) && !(S.knows f)
theorem can_ofB {f : Nat} {fn : IFun} {c : ACode} (hpl : S.plain f = true) (hf : tab f = some fn) (hc : fn.body = c.erase) (hok : okA fn.ntmps fn.results c = true) {args : List AV} (hl : args.length ≤ fn.ntmps) (hq : (∀ h, ¬ PK h) ∨ lateC c = true) {h : H} {R : AV → H → Prop}
    (hp : wpA (callB S tab PK) c (argE args) h (outA fn.results R)) : callB S tab PK f args h R := by
  intro m r
  simp only [okA, Bool.and_eq_true] at hok
  simp only [Sp.plain, Bool.and_eq_true, Bool.not_eq_true'] at hpl
  have ne : ∀ {a b : Nat}, Nat.beq a b = false → ¬ a = b := fun h e => by subst e; rw [Nat.beq_refl] at h; cases h
  have p1 := ne hpl.1.1
  have p2 := ne hpl.1.2
  have p3 : ¬ S.knows f = true := by rw [hpl.2]; decide
  rcases wpB_sound c (argE args) h _ (args ++ List.replicate (fn.ntmps - args.length) .undef) m _ _ _ hok.1 hok.2 (by simp; omega) (fun k _ => by
    simp only [argE, List.getD_eq_getElem?_getD]
    by_cases hk : k < args.length
    · rw [List.getElem?_append_left hk]
    · rw [List.getElem?_append_right (by omega), List.getElem?_replicate, List.getElem?_eq_none (by omega)]
      split <;> rfl) r hq hp with ⟨k, x, s, e', h', h1, h2, h3, h4, h5, h7, h6⟩ | ⟨k, m', h', h1, h2, h5, h6⟩
  · rw [← hc] at h1
    cases x with
    | exit i => exact h6.elim
    | norm =>
      obtain ⟨vs, g1, g2⟩ := resA_sound h4 _ _ h3 h6
      exact ⟨k + 1, .inl ⟨_, _, _, by simp only [evGG, if_neg p1, if_neg p2, if_neg p3, hf, evFun, inFun, h1, g1], h4, h5, g2⟩⟩
    | ret =>
      obtain ⟨vs, g1, g2⟩ := resA_sound h4 _ _ h3 h6
      exact ⟨k + 1, .inl ⟨_, _, _, by simp only [evGG, if_neg p1, if_neg p2, if_neg p3, hf, evFun, inFun, h1, g1], h4, h5, g2⟩⟩
  · rw [← hc] at h1
    exact ⟨k + 1, .inr ⟨_, _, by simp only [evGG, if_neg p1, if_neg p2, if_neg p3, hf, inFun, h1], h2, h5, h6⟩⟩
theorem can_sheB {f : Nat} {fn : IFun} {c : ACode} (hpl : S.plain f = true) (hf : tab f = some fn) (hc : fn.body = c.erase) (hok : okA fn.ntmps fn.results c = true) {args : List AV} (hl : args.length ≤ fn.ntmps) {h : H} {R : AV → H → Prop} {Sh : Prop}
    (e : wpA (callB S tab never) c (argE args) h (outA fn.results R) = Sh) (hp : Sh) : callB S tab PK f args h R := (can_ofB hpl hf hc hok hl (.inl fun _ x => x) (e ▸ hp)).quiet
theorem can_sheP {f : Nat} {fn : IFun} {c : ACode} (hpl : S.plain f = true) (hf : tab f = some fn) (hc : fn.body = c.erase) (hok : okA fn.ntmps fn.results c = true) {args : List AV} (hl : args.length ≤ fn.ntmps) (hq : lateC c = true) {h : H} {R : AV → H → Prop} {Sh : Prop}
    (e : wpA (callB S tab PK) c (argE args) h (outA fn.results R) = Sh) (hp : Sh) : callB S tab PK f args h R := can_ofB hpl hf hc hok hl (.inr hq) (e ▸ hp)
end
end Go.Proofs.YtdljelicbnjfjaaGreat.X
