/- What the law law3 needs: texts of one's own, put together; functions' contracts and plain facts. -/
import Derived.Test.YtdljelicbnjfjaaGreatT3C
set_option linter.unusedVariables false
set_option linter.unusedSimpArgs false
set_option maxRecDepth 20000
namespace Go.Proofs.YtdljelicbnjfjaaGreat.X
open Go Go.RowKit
noncomputable def H.only (h : H) (P : Nat → Prop) : H := ⟨fun k => open Classical in if P k then h.get k else none, by
  obtain ⟨n, hn⟩ := h.fin
  exact ⟨n, fun k hk => by split; · exact hn k hk
                           · rfl⟩⟩
theorem only_fr {h h' : H} {P P' : Nat → Prop} (hk : ∀ k o, P k → h.get k = some o → P' k ∧ h'.get k = some o) : Fr [] (h.only P) (h'.only P') := fun k o _ x => by
  simp only [H.only] at x ⊢
  split at x
  · rename_i p
    obtain ⟨q1, q2⟩ := hk k o p x
    rw [if_pos q1]; exact q2
  · cases x
theorem only_le (h : H) (P : Nat → Prop) : Fr [] (h.only P) h := fun k o _ x => by
  simp only [H.only] at x
  split at x
  · exact x
  · cases x
noncomputable abbrev H.new (h0 h : H) : H := h.only fun k => h0.get k = none
theorem new_mono {h h1 h2 h' : H} {S : List Nat} (f : Fr S h2 h') (hr : ∀ k ∈ S, h1.get k ≠ none) (ha : ∀ k, h.get k ≠ none → h1.get k ≠ none) : Fr [] (H.new h1 h2) (H.new h h') :=
  only_fr fun k o p x => ⟨by
    by_cases q : h.get k = none
    · exact q
    · exact absurd p (ha k q), f k o (fun e => hr k e p) x⟩
theorem alive_of {h h' : H} {rb : Nat} (f : Fr [rb] h h') (hr : h'.get rb ≠ none) : ∀ k, h.get k ≠ none → h'.get k ≠ none := fun k hk => by
  by_cases e : k = rb
  · rw [e]; exact hr
  · obtain ⟨o, ho⟩ := Option.ne_none_iff_exists'.1 hk
    rw [f k o (by simpa using e) ho]; simp
def stepsR {α : Type} (dec : RS → α × RS) : Nat → RS → List α → List α × RS
  | 0, s, acc => (acc, s)
  | n + 1, s, acc => if s.bad then ([], s) else stepsR dec n (dec s).2 (acc ++ [(dec s).1])
def someR {α : Type} (B : List Nat) (dec : RS → α × RS) (s : RS) : List α × RS := stepsR dec (countR B s).1 (countR B s).2 []
def aggV (n : Nat) (c : List AV) : AV := if n = 1 then c.getD 0 .undef else .agg c
def EachR {α : Type} (rb : Nat) (B : List Nat) (E esz : Nat) (dec : RS → α × RS) (Rel : H → α → List AV → Prop) : Prop :=
  ∀ h vB s, Rd h rb vB B s → ∀ K : AV → H → Prop, (∀ h' c, Fr [rb] h h' → Rd h' rb vB B (dec s).2 → Rel (H.new h h') (dec s).1 c → c.length = esz → K (aggV esz c) h') → C E [.ptr rb 0] h K
theorem overlay_end' : ∀ (vs cs pre : List AV), vs.length = cs.length → overlay (pre ++ cs) pre.length vs = pre ++ vs
  | [], cs, pre, hl => by
    have : cs = [] := List.eq_nil_of_length_eq_zero (by simpa using hl.symm)
    subst this; rfl
  | v :: vs, [], pre, hl => by simp at hl
  | v :: vs, c :: cs, pre, hl => by
    have := overlay_end' vs cs (pre ++ [v]) (by simpa using hl)
    simp only [List.length_append, List.length_singleton, List.append_assoc, List.singleton_append] at this
    rw [overlay, List.set_append_right _ _ (Nat.le_refl _)]
    simpa using this
theorem fill_agg {zs c : List AV} {n : Nat} (hz : zs.length = n) (hc : c.length = n) (hl : leaves c = true) : fillV zs [(0, n, .agg c)] = some c := by
  have e : (AV.agg c).cells = c := rfl
  unfold fillV
  rw [e, if_pos ⟨hc, by omega, hl⟩, fillV]
  have := overlay_end' c zs [] (by omega)
  simpa using this
theorem leaves_flat {css : List (List AV)} (h : ∀ c ∈ css, leaves c = true) : leaves css.flatten = true := by
  induction css with
  | nil => rfl
  | cons c css ih => rw [List.flatten_cons, leaves_append, h c (by simp), ih fun d hd => h d (by simp [hd])]; rfl
theorem Own.wo {h0 h : H} {rb ty esz n : Nat} {v : AV} {cs : List AV} (o : Own (h0.wo rb) h ty esz v n cs) {cs' : List AV} {ty' : Nat} (hr : h.get rb = some (.live cs' ty' true)) (ht : ty ≠ ty') : Own (h0.wo rb) (h.wo rb) ty esz v n cs :=
  o.keep fun c n' p e ob hg => by
    rw [H.get_wo, if_neg]
    · exact hg
    · intro z; exact o.ne hr ht n' p (by rw [e, z])
section
variable {α : Type} {h : H} {rb : Nat} {vB : AV} {B : List Nat} {s : RS}
theorem someTy_c (r : Rd h rb vB B s) {E : Nat} {dec : RS → α × RS} {Rel : H → α → List AV → Prop} (hmono : ∀ {h h' : H} {x c}, Fr [] h h' → Rel h x c → Rel h' x c) (hleaf : ∀ {h : H} {x c}, Rel h x c → leaves c = true)
    (hE : EachR rb B E 2 dec Rel) {K : AV → H → Prop} (hK : ∀ v h', Fr [rb] h h' → Rd h' rb vB B (someR B dec s).2 → RowOf (H.new h h') 2 (Rel (H.new h h')) v (someR B dec s).1 → K v h') : C 34 [.ptr rb 0, .fn E [.ptr rb 0] []] h K := by
  refine run34 ?_
  have hl := r.len
  unfold sh34
  refine join_r (fun (J : AV → H → Prop) => ∀ v h', Fr [rb] h h' → Rd h' rb vB B (someR B dec s).2 → RowOf (H.new h h') 2 (Rel (H.new h h')) v (someR B dec s).1 → J v h') hK fun J hJ => ?_
  refine count_c r fun h1 f1 r1 => ?_
  have hf := countR_facts B s r.pos
  unfold someR at hJ hK
  generalize countR B s = x at *
  obtain ⟨n, t⟩ := x
  simp only at hJ hK r1 hf ⊢
  have hrb : h.get rb ≠ none := by rw [r.g]; simp
  refine loop_r (n + 1) (fun k ls h2 => ∃ (i : Nat) (v : AV) (acc : List α) (s2 : RS) (css : List (List AV)), ls = [v, .int .i64 i] ∧ i ≤ n ∧ acc.length = i ∧ Fr [rb] h h2 ∧ Rd h2 rb vB B s2 ∧ css.length = acc.length ∧
      (∀ (i : Nat) (x : α) (c : List AV), acc[i]? = some x → css[i]? = some c → Rel (h2.only fun k => h.get k = none ∧ ∀ n p, v ≠ .sl k 0 n p) x c) ∧ (∀ c ∈ css, c.length = 2 ∧ leaves c = true) ∧ Own (h.wo rb) h2 46 2 v acc.length css.flatten ∧ stepsR dec n t [] = stepsR dec (n - i) s2 acc ∧ k = n + 1 - i)
    ⟨0, .nilsl, [], t, [], rfl, by omega, rfl, f1, r1, rfl, by simp, by simp, Own.nil .., rfl, rfl⟩ ?_
  rintro k ls h2 ⟨i, v, acc, s2, css, rfl, hi, hacc, f2, r2, c1, c2, c3, c4, hst, rfl⟩
  have hrb2 : h2.get rb ≠ none := by rw [r2.g]; simp
  have vold : ∀ k n p, v = .sl k 0 n p → h2.get k ≠ none := fun k n p e => by
    rcases c4.2 with ⟨_, z⟩ | ⟨b, z1, _, z3⟩
    · rw [e] at z; cases z
    · rw [e] at z1; injection z1 with z1 _; rw [z1, z3]; simp
  by_cases q : (i : Int) < (n : Nat)
  · obtain ⟨m, hm⟩ : ∃ m, n - i = m + 1 := ⟨n - i - 1, by omega⟩
    rw [hm, stepsR] at hst
    cases hb : s2.bad with
    | true =>
      rw [hb, if_pos rfl] at hst
      rw [hst] at hK
      simp only [go_sem, reduceIte, Nat.reduceAdd, Nat.reduceSub, Nat.reduceMul, Nat.reducePow, Nat.reduceLT, Nat.reduceLeDiff, Nat.reduceEqDiff, Int.reduceAdd, Int.reduceSub, Int.reduceMul, Int.reduceNeg, Int.reducePow, Int.reduceLT, Int.reduceLE, Int.reduceEq, Int.reduceNe, Int.reduceToNat, Int.toNat_natCast, Nat.zero_add, Nat.add_zero, Nat.mul_one, Nat.one_mul, Bool.not_true, Bool.not_false, ne_eq, not_true_eq_false, not_false_eq_true, Bool.false_eq_true, q, r2.cell, hb]
      exact hK .nilsl h2 f2 r2 (RowOf.nil ..)
    | false =>
      rw [hb, if_neg (by decide)] at hst
      have en : IntKind.i64.wrap ((i : Int) + 1) = ((i + 1 : Nat) : Int) := by rw [i64_id (by omega) (by omega)]; rfl
      simp only [go_sem, reduceIte, Nat.reduceAdd, Nat.reduceSub, Nat.reduceMul, Nat.reducePow, Nat.reduceLT, Nat.reduceLeDiff, Nat.reduceEqDiff, Int.reduceAdd, Int.reduceSub, Int.reduceMul, Int.reduceNeg, Int.reducePow, Int.reduceLT, Int.reduceLE, Int.reduceEq, Int.reduceNe, Int.reduceToNat, Int.toNat_natCast, Nat.zero_add, Nat.add_zero, Nat.mul_one, Nat.one_mul, Bool.not_true, Bool.not_false, ne_eq, not_true_eq_false, not_false_eq_true, Bool.false_eq_true, q, r2.cell, hb, List.append_nil]
      refine hE h2 vB s2 r2 _ fun h3 c f3 r3 rl hc => ?_
      have o3 : Own (h.wo rb) h3 46 2 v acc.length css.flatten := c4.keep fun b n' p e ob hg => f3 b ob (by
        intro z; simp at z; exact c4.ne r2.g (by decide) n' p (by rw [e, z])) hg
      have f03 := f2.trans f3
      have ef : fillV [.bool false, .nilsl] [(0, 2, aggV 2 c)] = some c := fill_agg rfl hc (hleaf rl)
      rw [ef]
      refine append_one' (ty := 46) o3 hc (by decide) (leaves_flat fun c hc => (c3 c hc).2) (hleaf rl) f03.wo1 ?_ fun v4 h4 o4 f4 k4 w4 => ?_
      · unfold most; omega
      have g4 := k4 rb _ r3.g (o3.ne r3.g (by decide))
      have f04 : Fr [rb] h h4 := fun b ob hb hg => f4 b ob (by simp) (by rw [H.get_wo, if_neg (by simpa using hb)]; exact hg)
      have r4 : Rd h4 rb vB B (dec s2).2 := ⟨g4, r.row.fr f04.wo, r3.pos, r3.lt, r3.len, r3.some⟩
      obtain ⟨b4, z1, z2⟩ := w4
      have hne4 : ∀ k o, h3.get k = some o → ∀ n p, v4 ≠ .sl k 0 n p := fun k o hk n p e => by
        rw [z1] at e; injection e with e _; rw [← e, z2] at hk; cases hk
      simp only [go_sem, reduceIte, Nat.reduceAdd, Nat.reduceSub, Nat.reduceMul, Nat.reducePow, Nat.reduceLT, Nat.reduceLeDiff, Nat.reduceEqDiff, Int.reduceAdd, Int.reduceSub, Int.reduceMul, Int.reduceNeg, Int.reducePow, Int.reduceLT, Int.reduceLE, Int.reduceEq, Int.reduceNe, Int.reduceToNat, Int.toNat_natCast, Nat.zero_add, Nat.add_zero, Nat.mul_one, Nat.one_mul, Bool.not_true, Bool.not_false, ne_eq, not_true_eq_false, not_false_eq_true, Bool.false_eq_true, en]
      refine ⟨n + 1 - (i + 1), by omega, i + 1, v4, acc ++ [(dec s2).1], (dec s2).2, css ++ [c], rfl, by omega, by simp [hacc], f04, r4, by simp [c1], fun j x d hx hd => ?_, fun d hd => ?_, by simpa using o4, ?_, rfl⟩
      · by_cases hj : j < acc.length
        · rw [List.getElem?_append_left hj] at hx
          rw [List.getElem?_append_left (by omega)] at hd
          refine hmono (only_fr fun k o p hk => ?_) (c2 j x d hx hd)
          have hk3 := f3 k o (by simp; intro e; rw [e] at p; exact hrb p.1) hk
          exact ⟨⟨p.1, hne4 k o hk3⟩, k4 k o hk3 p.2⟩
        · rw [List.getElem?_append_right (by omega)] at hx
          rw [List.getElem?_append_right (by omega)] at hd
          have hj0 : j = acc.length := by
            have := (List.getElem?_eq_some_iff.1 hx).1; simp at this; omega
          subst hj0
          simp [c1] at hx hd
          subst hx hd
          refine hmono (only_fr fun k o p hk => ?_) rl
          have hkv : ∀ n p, v ≠ .sl k 0 n p := fun n' p' e => vold k n' p' e p
          refine ⟨⟨?_, hne4 k o hk⟩, k4 k o hk hkv⟩
          by_cases z : h.get k = none
          · exact z
          · exact absurd p (alive_of f2 hrb2 k z)
      · rcases List.mem_append.1 hd with hd | hd
        · exact c3 d hd
        · simp at hd; subst hd; exact ⟨hc, (hleaf rl)⟩
      · rw [hst]; congr 1; omega
  · have : n - i = 0 := by omega
    rw [this, stepsR] at hst
    simp only [go_sem, reduceIte, Nat.reduceAdd, Nat.reduceSub, Nat.reduceMul, Nat.reducePow, Nat.reduceLT, Nat.reduceLeDiff, Nat.reduceEqDiff, Int.reduceAdd, Int.reduceSub, Int.reduceMul, Int.reduceNeg, Int.reducePow, Int.reduceLT, Int.reduceLE, Int.reduceEq, Int.reduceNe, Int.reduceToNat, Int.toNat_natCast, Nat.zero_add, Nat.add_zero, Nat.mul_one, Nat.one_mul, Bool.not_true, Bool.not_false, ne_eq, not_true_eq_false, not_false_eq_true, Bool.false_eq_true, q]
    rw [hst] at hJ
    refine hJ v h2 f2 r2 ⟨css, c1, fun j x d hx hd => hmono (only_fr fun k o p hk => ⟨p.1, hk⟩) (c2 j x d hx hd), fun c hc => (c3 c hc).1, ?_⟩
    refine (show Own (h.wo rb) (H.new h h2) 46 2 v acc.length css.flatten from c4.keep fun b n' p e ob hg => ?_).row
    rcases c4.2 with ⟨_, z⟩ | ⟨b', z1, z2, z3⟩
    · rw [e] at z; cases z
    · rw [e] at z1; injection z1 with z1 _; subst z1
      rw [H.get_wo] at z2
      split at z2
      · rename_i eb; rw [eb, r2.g] at z3; injection z3 with z3; injection z3 with _ z3 _; cases z3
      · simp only [H.new, H.only]
        rw [if_pos z2]; exact hg
theorem someShp_c (r : Rd h rb vB B s) {E : Nat} {dec : RS → α × RS} {Rel : H → α → List AV → Prop} (hmono : ∀ {h h' : H} {x c}, Fr [] h h' → Rel h x c → Rel h' x c) (hleaf : ∀ {h : H} {x c}, Rel h x c → leaves c = true)
    (hE : EachR rb B E 3 dec Rel) {K : AV → H → Prop} (hK : ∀ v h', Fr [rb] h h' → Rd h' rb vB B (someR B dec s).2 → RowOf (H.new h h') 3 (Rel (H.new h h')) v (someR B dec s).1 → K v h') : C 36 [.ptr rb 0, .fn E [.ptr rb 0] []] h K := by
  refine run36 ?_
  have hl := r.len
  unfold sh36
  refine join_r (fun (J : AV → H → Prop) => ∀ v h', Fr [rb] h h' → Rd h' rb vB B (someR B dec s).2 → RowOf (H.new h h') 3 (Rel (H.new h h')) v (someR B dec s).1 → J v h') hK fun J hJ => ?_
  refine count_c r fun h1 f1 r1 => ?_
  have hf := countR_facts B s r.pos
  unfold someR at hJ hK
  generalize countR B s = x at *
  obtain ⟨n, t⟩ := x
  simp only at hJ hK r1 hf ⊢
  have hrb : h.get rb ≠ none := by rw [r.g]; simp
  refine loop_r (n + 1) (fun k ls h2 => ∃ (i : Nat) (v : AV) (acc : List α) (s2 : RS) (css : List (List AV)), ls = [v, .int .i64 i] ∧ i ≤ n ∧ acc.length = i ∧ Fr [rb] h h2 ∧ Rd h2 rb vB B s2 ∧ css.length = acc.length ∧
      (∀ (i : Nat) (x : α) (c : List AV), acc[i]? = some x → css[i]? = some c → Rel (h2.only fun k => h.get k = none ∧ ∀ n p, v ≠ .sl k 0 n p) x c) ∧ (∀ c ∈ css, c.length = 3 ∧ leaves c = true) ∧ Own (h.wo rb) h2 61 3 v acc.length css.flatten ∧ stepsR dec n t [] = stepsR dec (n - i) s2 acc ∧ k = n + 1 - i)
    ⟨0, .nilsl, [], t, [], rfl, by omega, rfl, f1, r1, rfl, by simp, by simp, Own.nil .., rfl, rfl⟩ ?_
  rintro k ls h2 ⟨i, v, acc, s2, css, rfl, hi, hacc, f2, r2, c1, c2, c3, c4, hst, rfl⟩
  have hrb2 : h2.get rb ≠ none := by rw [r2.g]; simp
  have vold : ∀ k n p, v = .sl k 0 n p → h2.get k ≠ none := fun k n p e => by
    rcases c4.2 with ⟨_, z⟩ | ⟨b, z1, _, z3⟩
    · rw [e] at z; cases z
    · rw [e] at z1; injection z1 with z1 _; rw [z1, z3]; simp
  by_cases q : (i : Int) < (n : Nat)
  · obtain ⟨m, hm⟩ : ∃ m, n - i = m + 1 := ⟨n - i - 1, by omega⟩
    rw [hm, stepsR] at hst
    cases hb : s2.bad with
    | true =>
      rw [hb, if_pos rfl] at hst
      rw [hst] at hK
      simp only [go_sem, reduceIte, Nat.reduceAdd, Nat.reduceSub, Nat.reduceMul, Nat.reducePow, Nat.reduceLT, Nat.reduceLeDiff, Nat.reduceEqDiff, Int.reduceAdd, Int.reduceSub, Int.reduceMul, Int.reduceNeg, Int.reducePow, Int.reduceLT, Int.reduceLE, Int.reduceEq, Int.reduceNe, Int.reduceToNat, Int.toNat_natCast, Nat.zero_add, Nat.add_zero, Nat.mul_one, Nat.one_mul, Bool.not_true, Bool.not_false, ne_eq, not_true_eq_false, not_false_eq_true, Bool.false_eq_true, q, r2.cell, hb]
      exact hK .nilsl h2 f2 r2 (RowOf.nil ..)
    | false =>
      rw [hb, if_neg (by decide)] at hst
      have en : IntKind.i64.wrap ((i : Int) + 1) = ((i + 1 : Nat) : Int) := by rw [i64_id (by omega) (by omega)]; rfl
      simp only [go_sem, reduceIte, Nat.reduceAdd, Nat.reduceSub, Nat.reduceMul, Nat.reducePow, Nat.reduceLT, Nat.reduceLeDiff, Nat.reduceEqDiff, Int.reduceAdd, Int.reduceSub, Int.reduceMul, Int.reduceNeg, Int.reducePow, Int.reduceLT, Int.reduceLE, Int.reduceEq, Int.reduceNe, Int.reduceToNat, Int.toNat_natCast, Nat.zero_add, Nat.add_zero, Nat.mul_one, Nat.one_mul, Bool.not_true, Bool.not_false, ne_eq, not_true_eq_false, not_false_eq_true, Bool.false_eq_true, q, r2.cell, hb, List.append_nil]
      refine hE h2 vB s2 r2 _ fun h3 c f3 r3 rl hc => ?_
      have o3 : Own (h.wo rb) h3 61 3 v acc.length css.flatten := c4.keep fun b n' p e ob hg => f3 b ob (by
        intro z; simp at z; exact c4.ne r2.g (by decide) n' p (by rw [e, z])) hg
      have f03 := f2.trans f3
      have ef : fillV [.int .i64 0, .nilsl, .str []] [(0, 3, aggV 3 c)] = some c := fill_agg rfl hc (hleaf rl)
      rw [ef]
      refine append_one' (ty := 61) o3 hc (by decide) (leaves_flat fun c hc => (c3 c hc).2) (hleaf rl) f03.wo1 ?_ fun v4 h4 o4 f4 k4 w4 => ?_
      · unfold most; omega
      have g4 := k4 rb _ r3.g (o3.ne r3.g (by decide))
      have f04 : Fr [rb] h h4 := fun b ob hb hg => f4 b ob (by simp) (by rw [H.get_wo, if_neg (by simpa using hb)]; exact hg)
      have r4 : Rd h4 rb vB B (dec s2).2 := ⟨g4, r.row.fr f04.wo, r3.pos, r3.lt, r3.len, r3.some⟩
      obtain ⟨b4, z1, z2⟩ := w4
      have hne4 : ∀ k o, h3.get k = some o → ∀ n p, v4 ≠ .sl k 0 n p := fun k o hk n p e => by
        rw [z1] at e; injection e with e _; rw [← e, z2] at hk; cases hk
      simp only [go_sem, reduceIte, Nat.reduceAdd, Nat.reduceSub, Nat.reduceMul, Nat.reducePow, Nat.reduceLT, Nat.reduceLeDiff, Nat.reduceEqDiff, Int.reduceAdd, Int.reduceSub, Int.reduceMul, Int.reduceNeg, Int.reducePow, Int.reduceLT, Int.reduceLE, Int.reduceEq, Int.reduceNe, Int.reduceToNat, Int.toNat_natCast, Nat.zero_add, Nat.add_zero, Nat.mul_one, Nat.one_mul, Bool.not_true, Bool.not_false, ne_eq, not_true_eq_false, not_false_eq_true, Bool.false_eq_true, en]
      refine ⟨n + 1 - (i + 1), by omega, i + 1, v4, acc ++ [(dec s2).1], (dec s2).2, css ++ [c], rfl, by omega, by simp [hacc], f04, r4, by simp [c1], fun j x d hx hd => ?_, fun d hd => ?_, by simpa using o4, ?_, rfl⟩
      · by_cases hj : j < acc.length
        · rw [List.getElem?_append_left hj] at hx
          rw [List.getElem?_append_left (by omega)] at hd
          refine hmono (only_fr fun k o p hk => ?_) (c2 j x d hx hd)
          have hk3 := f3 k o (by simp; intro e; rw [e] at p; exact hrb p.1) hk
          exact ⟨⟨p.1, hne4 k o hk3⟩, k4 k o hk3 p.2⟩
        · rw [List.getElem?_append_right (by omega)] at hx
          rw [List.getElem?_append_right (by omega)] at hd
          have hj0 : j = acc.length := by
            have := (List.getElem?_eq_some_iff.1 hx).1; simp at this; omega
          subst hj0
          simp [c1] at hx hd
          subst hx hd
          refine hmono (only_fr fun k o p hk => ?_) rl
          have hkv : ∀ n p, v ≠ .sl k 0 n p := fun n' p' e => vold k n' p' e p
          refine ⟨⟨?_, hne4 k o hk⟩, k4 k o hk hkv⟩
          by_cases z : h.get k = none
          · exact z
          · exact absurd p (alive_of f2 hrb2 k z)
      · rcases List.mem_append.1 hd with hd | hd
        · exact c3 d hd
        · simp at hd; subst hd; exact ⟨hc, (hleaf rl)⟩
      · rw [hst]; congr 1; omega
  · have : n - i = 0 := by omega
    rw [this, stepsR] at hst
    simp only [go_sem, reduceIte, Nat.reduceAdd, Nat.reduceSub, Nat.reduceMul, Nat.reducePow, Nat.reduceLT, Nat.reduceLeDiff, Nat.reduceEqDiff, Int.reduceAdd, Int.reduceSub, Int.reduceMul, Int.reduceNeg, Int.reducePow, Int.reduceLT, Int.reduceLE, Int.reduceEq, Int.reduceNe, Int.reduceToNat, Int.toNat_natCast, Nat.zero_add, Nat.add_zero, Nat.mul_one, Nat.one_mul, Bool.not_true, Bool.not_false, ne_eq, not_true_eq_false, not_false_eq_true, Bool.false_eq_true, q]
    rw [hst] at hJ
    refine hJ v h2 f2 r2 ⟨css, c1, fun j x d hx hd => hmono (only_fr fun k o p hk => ⟨p.1, hk⟩) (c2 j x d hx hd), fun c hc => (c3 c hc).1, ?_⟩
    refine (show Own (h.wo rb) (H.new h h2) 61 3 v acc.length css.flatten from c4.keep fun b n' p e ob hg => ?_).row
    rcases c4.2 with ⟨_, z⟩ | ⟨b', z1, z2, z3⟩
    · rw [e] at z; cases z
    · rw [e] at z1; injection z1 with z1 _; subst z1
      rw [H.get_wo] at z2
      split at z2
      · rename_i eb; rw [eb, r2.g] at z3; injection z3 with z3; injection z3 with _ z3 _; cases z3
      · simp only [H.new, H.only]
        rw [if_pos z2]; exact hg
theorem someFn_c (r : Rd h rb vB B s) {E : Nat} {dec : RS → α × RS} {Rel : H → α → List AV → Prop} (hmono : ∀ {h h' : H} {x c}, Fr [] h h' → Rel h x c → Rel h' x c) (hleaf : ∀ {h : H} {x c}, Rel h x c → leaves c = true)
    (hE : EachR rb B E 4 dec Rel) {K : AV → H → Prop} (hK : ∀ v h', Fr [rb] h h' → Rd h' rb vB B (someR B dec s).2 → RowOf (H.new h h') 4 (Rel (H.new h h')) v (someR B dec s).1 → K v h') : C 40 [.ptr rb 0, .fn E [.ptr rb 0] []] h K := by
  refine run40 ?_
  have hl := r.len
  unfold sh40
  refine join_r (fun (J : AV → H → Prop) => ∀ v h', Fr [rb] h h' → Rd h' rb vB B (someR B dec s).2 → RowOf (H.new h h') 4 (Rel (H.new h h')) v (someR B dec s).1 → J v h') hK fun J hJ => ?_
  refine count_c r fun h1 f1 r1 => ?_
  have hf := countR_facts B s r.pos
  unfold someR at hJ hK
  generalize countR B s = x at *
  obtain ⟨n, t⟩ := x
  simp only at hJ hK r1 hf ⊢
  have hrb : h.get rb ≠ none := by rw [r.g]; simp
  refine loop_r (n + 1) (fun k ls h2 => ∃ (i : Nat) (v : AV) (acc : List α) (s2 : RS) (css : List (List AV)), ls = [v, .int .i64 i] ∧ i ≤ n ∧ acc.length = i ∧ Fr [rb] h h2 ∧ Rd h2 rb vB B s2 ∧ css.length = acc.length ∧
      (∀ (i : Nat) (x : α) (c : List AV), acc[i]? = some x → css[i]? = some c → Rel (h2.only fun k => h.get k = none ∧ ∀ n p, v ≠ .sl k 0 n p) x c) ∧ (∀ c ∈ css, c.length = 4 ∧ leaves c = true) ∧ Own (h.wo rb) h2 39 4 v acc.length css.flatten ∧ stepsR dec n t [] = stepsR dec (n - i) s2 acc ∧ k = n + 1 - i)
    ⟨0, .nilsl, [], t, [], rfl, by omega, rfl, f1, r1, rfl, by simp, by simp, Own.nil .., rfl, rfl⟩ ?_
  rintro k ls h2 ⟨i, v, acc, s2, css, rfl, hi, hacc, f2, r2, c1, c2, c3, c4, hst, rfl⟩
  have hrb2 : h2.get rb ≠ none := by rw [r2.g]; simp
  have vold : ∀ k n p, v = .sl k 0 n p → h2.get k ≠ none := fun k n p e => by
    rcases c4.2 with ⟨_, z⟩ | ⟨b, z1, _, z3⟩
    · rw [e] at z; cases z
    · rw [e] at z1; injection z1 with z1 _; rw [z1, z3]; simp
  by_cases q : (i : Int) < (n : Nat)
  · obtain ⟨m, hm⟩ : ∃ m, n - i = m + 1 := ⟨n - i - 1, by omega⟩
    rw [hm, stepsR] at hst
    cases hb : s2.bad with
    | true =>
      rw [hb, if_pos rfl] at hst
      rw [hst] at hK
      simp only [go_sem, reduceIte, Nat.reduceAdd, Nat.reduceSub, Nat.reduceMul, Nat.reducePow, Nat.reduceLT, Nat.reduceLeDiff, Nat.reduceEqDiff, Int.reduceAdd, Int.reduceSub, Int.reduceMul, Int.reduceNeg, Int.reducePow, Int.reduceLT, Int.reduceLE, Int.reduceEq, Int.reduceNe, Int.reduceToNat, Int.toNat_natCast, Nat.zero_add, Nat.add_zero, Nat.mul_one, Nat.one_mul, Bool.not_true, Bool.not_false, ne_eq, not_true_eq_false, not_false_eq_true, Bool.false_eq_true, q, r2.cell, hb]
      exact hK .nilsl h2 f2 r2 (RowOf.nil ..)
    | false =>
      rw [hb, if_neg (by decide)] at hst
      have en : IntKind.i64.wrap ((i : Int) + 1) = ((i + 1 : Nat) : Int) := by rw [i64_id (by omega) (by omega)]; rfl
      simp only [go_sem, reduceIte, Nat.reduceAdd, Nat.reduceSub, Nat.reduceMul, Nat.reducePow, Nat.reduceLT, Nat.reduceLeDiff, Nat.reduceEqDiff, Int.reduceAdd, Int.reduceSub, Int.reduceMul, Int.reduceNeg, Int.reducePow, Int.reduceLT, Int.reduceLE, Int.reduceEq, Int.reduceNe, Int.reduceToNat, Int.toNat_natCast, Nat.zero_add, Nat.add_zero, Nat.mul_one, Nat.one_mul, Bool.not_true, Bool.not_false, ne_eq, not_true_eq_false, not_false_eq_true, Bool.false_eq_true, q, r2.cell, hb, List.append_nil]
      refine hE h2 vB s2 r2 _ fun h3 c f3 r3 rl hc => ?_
      have o3 : Own (h.wo rb) h3 39 4 v acc.length css.flatten := c4.keep fun b n' p e ob hg => f3 b ob (by
        intro z; simp at z; exact c4.ne r2.g (by decide) n' p (by rw [e, z])) hg
      have f03 := f2.trans f3
      have ef : fillV [.nilsl, .int .i64 0, .int .i64 0, .nilsl] [(0, 4, aggV 4 c)] = some c := fill_agg rfl hc (hleaf rl)
      rw [ef]
      refine append_one' (ty := 39) o3 hc (by decide) (leaves_flat fun c hc => (c3 c hc).2) (hleaf rl) f03.wo1 ?_ fun v4 h4 o4 f4 k4 w4 => ?_
      · unfold most; omega
      have g4 := k4 rb _ r3.g (o3.ne r3.g (by decide))
      have f04 : Fr [rb] h h4 := fun b ob hb hg => f4 b ob (by simp) (by rw [H.get_wo, if_neg (by simpa using hb)]; exact hg)
      have r4 : Rd h4 rb vB B (dec s2).2 := ⟨g4, r.row.fr f04.wo, r3.pos, r3.lt, r3.len, r3.some⟩
      obtain ⟨b4, z1, z2⟩ := w4
      have hne4 : ∀ k o, h3.get k = some o → ∀ n p, v4 ≠ .sl k 0 n p := fun k o hk n p e => by
        rw [z1] at e; injection e with e _; rw [← e, z2] at hk; cases hk
      simp only [go_sem, reduceIte, Nat.reduceAdd, Nat.reduceSub, Nat.reduceMul, Nat.reducePow, Nat.reduceLT, Nat.reduceLeDiff, Nat.reduceEqDiff, Int.reduceAdd, Int.reduceSub, Int.reduceMul, Int.reduceNeg, Int.reducePow, Int.reduceLT, Int.reduceLE, Int.reduceEq, Int.reduceNe, Int.reduceToNat, Int.toNat_natCast, Nat.zero_add, Nat.add_zero, Nat.mul_one, Nat.one_mul, Bool.not_true, Bool.not_false, ne_eq, not_true_eq_false, not_false_eq_true, Bool.false_eq_true, en]
      refine ⟨n + 1 - (i + 1), by omega, i + 1, v4, acc ++ [(dec s2).1], (dec s2).2, css ++ [c], rfl, by omega, by simp [hacc], f04, r4, by simp [c1], fun j x d hx hd => ?_, fun d hd => ?_, by simpa using o4, ?_, rfl⟩
      · by_cases hj : j < acc.length
        · rw [List.getElem?_append_left hj] at hx
          rw [List.getElem?_append_left (by omega)] at hd
          refine hmono (only_fr fun k o p hk => ?_) (c2 j x d hx hd)
          have hk3 := f3 k o (by simp; intro e; rw [e] at p; exact hrb p.1) hk
          exact ⟨⟨p.1, hne4 k o hk3⟩, k4 k o hk3 p.2⟩
        · rw [List.getElem?_append_right (by omega)] at hx
          rw [List.getElem?_append_right (by omega)] at hd
          have hj0 : j = acc.length := by
            have := (List.getElem?_eq_some_iff.1 hx).1; simp at this; omega
          subst hj0
          simp [c1] at hx hd
          subst hx hd
          refine hmono (only_fr fun k o p hk => ?_) rl
          have hkv : ∀ n p, v ≠ .sl k 0 n p := fun n' p' e => vold k n' p' e p
          refine ⟨⟨?_, hne4 k o hk⟩, k4 k o hk hkv⟩
          by_cases z : h.get k = none
          · exact z
          · exact absurd p (alive_of f2 hrb2 k z)
      · rcases List.mem_append.1 hd with hd | hd
        · exact c3 d hd
        · simp at hd; subst hd; exact ⟨hc, (hleaf rl)⟩
      · rw [hst]; congr 1; omega
  · have : n - i = 0 := by omega
    rw [this, stepsR] at hst
    simp only [go_sem, reduceIte, Nat.reduceAdd, Nat.reduceSub, Nat.reduceMul, Nat.reducePow, Nat.reduceLT, Nat.reduceLeDiff, Nat.reduceEqDiff, Int.reduceAdd, Int.reduceSub, Int.reduceMul, Int.reduceNeg, Int.reducePow, Int.reduceLT, Int.reduceLE, Int.reduceEq, Int.reduceNe, Int.reduceToNat, Int.toNat_natCast, Nat.zero_add, Nat.add_zero, Nat.mul_one, Nat.one_mul, Bool.not_true, Bool.not_false, ne_eq, not_true_eq_false, not_false_eq_true, Bool.false_eq_true, q]
    rw [hst] at hJ
    refine hJ v h2 f2 r2 ⟨css, c1, fun j x d hx hd => hmono (only_fr fun k o p hk => ⟨p.1, hk⟩) (c2 j x d hx hd), fun c hc => (c3 c hc).1, ?_⟩
    refine (show Own (h.wo rb) (H.new h h2) 39 4 v acc.length css.flatten from c4.keep fun b n' p e ob hg => ?_).row
    rcases c4.2 with ⟨_, z⟩ | ⟨b', z1, z2, z3⟩
    · rw [e] at z; cases z
    · rw [e] at z1; injection z1 with z1 _; subst z1
      rw [H.get_wo] at z2
      split at z2
      · rename_i eb; rw [eb, r2.g] at z3; injection z3 with z3; injection z3 with _ z3 _; cases z3
      · simp only [H.new, H.only]
        rw [if_pos z2]; exact hg
theorem someBlk_c (r : Rd h rb vB B s) {E : Nat} {dec : RS → α × RS} {Rel : H → α → List AV → Prop} (hmono : ∀ {h h' : H} {x c}, Fr [] h h' → Rel h x c → Rel h' x c) (hleaf : ∀ {h : H} {x c}, Rel h x c → leaves c = true)
    (hE : EachR rb B E 2 dec Rel) {K : AV → H → Prop} (hK : ∀ v h', Fr [rb] h h' → Rd h' rb vB B (someR B dec s).2 → RowOf (H.new h h') 2 (Rel (H.new h h')) v (someR B dec s).1 → K v h') : C 84 [.ptr rb 0, .fn E [.ptr rb 0] []] h K := by
  refine run84 ?_
  have hl := r.len
  unfold sh84
  refine join_r (fun (J : AV → H → Prop) => ∀ v h', Fr [rb] h h' → Rd h' rb vB B (someR B dec s).2 → RowOf (H.new h h') 2 (Rel (H.new h h')) v (someR B dec s).1 → J v h') hK fun J hJ => ?_
  refine count_c r fun h1 f1 r1 => ?_
  have hf := countR_facts B s r.pos
  unfold someR at hJ hK
  generalize countR B s = x at *
  obtain ⟨n, t⟩ := x
  simp only at hJ hK r1 hf ⊢
  have hrb : h.get rb ≠ none := by rw [r.g]; simp
  refine loop_r (n + 1) (fun k ls h2 => ∃ (i : Nat) (v : AV) (acc : List α) (s2 : RS) (css : List (List AV)), ls = [v, .int .i64 i] ∧ i ≤ n ∧ acc.length = i ∧ Fr [rb] h h2 ∧ Rd h2 rb vB B s2 ∧ css.length = acc.length ∧
      (∀ (i : Nat) (x : α) (c : List AV), acc[i]? = some x → css[i]? = some c → Rel (h2.only fun k => h.get k = none ∧ ∀ n p, v ≠ .sl k 0 n p) x c) ∧ (∀ c ∈ css, c.length = 2 ∧ leaves c = true) ∧ Own (h.wo rb) h2 42 2 v acc.length css.flatten ∧ stepsR dec n t [] = stepsR dec (n - i) s2 acc ∧ k = n + 1 - i)
    ⟨0, .nilsl, [], t, [], rfl, by omega, rfl, f1, r1, rfl, by simp, by simp, Own.nil .., rfl, rfl⟩ ?_
  rintro k ls h2 ⟨i, v, acc, s2, css, rfl, hi, hacc, f2, r2, c1, c2, c3, c4, hst, rfl⟩
  have hrb2 : h2.get rb ≠ none := by rw [r2.g]; simp
  have vold : ∀ k n p, v = .sl k 0 n p → h2.get k ≠ none := fun k n p e => by
    rcases c4.2 with ⟨_, z⟩ | ⟨b, z1, _, z3⟩
    · rw [e] at z; cases z
    · rw [e] at z1; injection z1 with z1 _; rw [z1, z3]; simp
  by_cases q : (i : Int) < (n : Nat)
  · obtain ⟨m, hm⟩ : ∃ m, n - i = m + 1 := ⟨n - i - 1, by omega⟩
    rw [hm, stepsR] at hst
    cases hb : s2.bad with
    | true =>
      rw [hb, if_pos rfl] at hst
      rw [hst] at hK
      simp only [go_sem, reduceIte, Nat.reduceAdd, Nat.reduceSub, Nat.reduceMul, Nat.reducePow, Nat.reduceLT, Nat.reduceLeDiff, Nat.reduceEqDiff, Int.reduceAdd, Int.reduceSub, Int.reduceMul, Int.reduceNeg, Int.reducePow, Int.reduceLT, Int.reduceLE, Int.reduceEq, Int.reduceNe, Int.reduceToNat, Int.toNat_natCast, Nat.zero_add, Nat.add_zero, Nat.mul_one, Nat.one_mul, Bool.not_true, Bool.not_false, ne_eq, not_true_eq_false, not_false_eq_true, Bool.false_eq_true, q, r2.cell, hb]
      exact hK .nilsl h2 f2 r2 (RowOf.nil ..)
    | false =>
      rw [hb, if_neg (by decide)] at hst
      have en : IntKind.i64.wrap ((i : Int) + 1) = ((i + 1 : Nat) : Int) := by rw [i64_id (by omega) (by omega)]; rfl
      simp only [go_sem, reduceIte, Nat.reduceAdd, Nat.reduceSub, Nat.reduceMul, Nat.reducePow, Nat.reduceLT, Nat.reduceLeDiff, Nat.reduceEqDiff, Int.reduceAdd, Int.reduceSub, Int.reduceMul, Int.reduceNeg, Int.reducePow, Int.reduceLT, Int.reduceLE, Int.reduceEq, Int.reduceNe, Int.reduceToNat, Int.toNat_natCast, Nat.zero_add, Nat.add_zero, Nat.mul_one, Nat.one_mul, Bool.not_true, Bool.not_false, ne_eq, not_true_eq_false, not_false_eq_true, Bool.false_eq_true, q, r2.cell, hb, List.append_nil]
      refine hE h2 vB s2 r2 _ fun h3 c f3 r3 rl hc => ?_
      have o3 : Own (h.wo rb) h3 42 2 v acc.length css.flatten := c4.keep fun b n' p e ob hg => f3 b ob (by
        intro z; simp at z; exact c4.ne r2.g (by decide) n' p (by rw [e, z])) hg
      have f03 := f2.trans f3
      have ef : fillV [.nilsl, .nilsl] [(0, 2, aggV 2 c)] = some c := fill_agg rfl hc (hleaf rl)
      rw [ef]
      refine append_one' (ty := 42) o3 hc (by decide) (leaves_flat fun c hc => (c3 c hc).2) (hleaf rl) f03.wo1 ?_ fun v4 h4 o4 f4 k4 w4 => ?_
      · unfold most; omega
      have g4 := k4 rb _ r3.g (o3.ne r3.g (by decide))
      have f04 : Fr [rb] h h4 := fun b ob hb hg => f4 b ob (by simp) (by rw [H.get_wo, if_neg (by simpa using hb)]; exact hg)
      have r4 : Rd h4 rb vB B (dec s2).2 := ⟨g4, r.row.fr f04.wo, r3.pos, r3.lt, r3.len, r3.some⟩
      obtain ⟨b4, z1, z2⟩ := w4
      have hne4 : ∀ k o, h3.get k = some o → ∀ n p, v4 ≠ .sl k 0 n p := fun k o hk n p e => by
        rw [z1] at e; injection e with e _; rw [← e, z2] at hk; cases hk
      simp only [go_sem, reduceIte, Nat.reduceAdd, Nat.reduceSub, Nat.reduceMul, Nat.reducePow, Nat.reduceLT, Nat.reduceLeDiff, Nat.reduceEqDiff, Int.reduceAdd, Int.reduceSub, Int.reduceMul, Int.reduceNeg, Int.reducePow, Int.reduceLT, Int.reduceLE, Int.reduceEq, Int.reduceNe, Int.reduceToNat, Int.toNat_natCast, Nat.zero_add, Nat.add_zero, Nat.mul_one, Nat.one_mul, Bool.not_true, Bool.not_false, ne_eq, not_true_eq_false, not_false_eq_true, Bool.false_eq_true, en]
      refine ⟨n + 1 - (i + 1), by omega, i + 1, v4, acc ++ [(dec s2).1], (dec s2).2, css ++ [c], rfl, by omega, by simp [hacc], f04, r4, by simp [c1], fun j x d hx hd => ?_, fun d hd => ?_, by simpa using o4, ?_, rfl⟩
      · by_cases hj : j < acc.length
        · rw [List.getElem?_append_left hj] at hx
          rw [List.getElem?_append_left (by omega)] at hd
          refine hmono (only_fr fun k o p hk => ?_) (c2 j x d hx hd)
          have hk3 := f3 k o (by simp; intro e; rw [e] at p; exact hrb p.1) hk
          exact ⟨⟨p.1, hne4 k o hk3⟩, k4 k o hk3 p.2⟩
        · rw [List.getElem?_append_right (by omega)] at hx
          rw [List.getElem?_append_right (by omega)] at hd
          have hj0 : j = acc.length := by
            have := (List.getElem?_eq_some_iff.1 hx).1; simp at this; omega
          subst hj0
          simp [c1] at hx hd
          subst hx hd
          refine hmono (only_fr fun k o p hk => ?_) rl
          have hkv : ∀ n p, v ≠ .sl k 0 n p := fun n' p' e => vold k n' p' e p
          refine ⟨⟨?_, hne4 k o hk⟩, k4 k o hk hkv⟩
          by_cases z : h.get k = none
          · exact z
          · exact absurd p (alive_of f2 hrb2 k z)
      · rcases List.mem_append.1 hd with hd | hd
        · exact c3 d hd
        · simp at hd; subst hd; exact ⟨hc, (hleaf rl)⟩
      · rw [hst]; congr 1; omega
  · have : n - i = 0 := by omega
    rw [this, stepsR] at hst
    simp only [go_sem, reduceIte, Nat.reduceAdd, Nat.reduceSub, Nat.reduceMul, Nat.reducePow, Nat.reduceLT, Nat.reduceLeDiff, Nat.reduceEqDiff, Int.reduceAdd, Int.reduceSub, Int.reduceMul, Int.reduceNeg, Int.reducePow, Int.reduceLT, Int.reduceLE, Int.reduceEq, Int.reduceNe, Int.reduceToNat, Int.toNat_natCast, Nat.zero_add, Nat.add_zero, Nat.mul_one, Nat.one_mul, Bool.not_true, Bool.not_false, ne_eq, not_true_eq_false, not_false_eq_true, Bool.false_eq_true, q]
    rw [hst] at hJ
    refine hJ v h2 f2 r2 ⟨css, c1, fun j x d hx hd => hmono (only_fr fun k o p hk => ⟨p.1, hk⟩) (c2 j x d hx hd), fun c hc => (c3 c hc).1, ?_⟩
    refine (show Own (h.wo rb) (H.new h h2) 42 2 v acc.length css.flatten from c4.keep fun b n' p e ob hg => ?_).row
    rcases c4.2 with ⟨_, z⟩ | ⟨b', z1, z2, z3⟩
    · rw [e] at z; cases z
    · rw [e] at z1; injection z1 with z1 _; subst z1
      rw [H.get_wo] at z2
      split at z2
      · rename_i eb; rw [eb, r2.g] at z3; injection z3 with z3; injection z3 with _ z3 _; cases z3
      · simp only [H.new, H.only]
        rw [if_pos z2]; exact hg
theorem someIns_c (r : Rd h rb vB B s) {E : Nat} {dec : RS → α × RS} {Rel : H → α → List AV → Prop} (hmono : ∀ {h h' : H} {x c}, Fr [] h h' → Rel h x c → Rel h' x c) (hleaf : ∀ {h : H} {x c}, Rel h x c → leaves c = true)
    (hE : EachR rb B E 9 dec Rel) {K : AV → H → Prop} (hK : ∀ v h', Fr [rb] h h' → Rd h' rb vB B (someR B dec s).2 → RowOf (H.new h h') 9 (Rel (H.new h h')) v (someR B dec s).1 → K v h') : C 129 [.ptr rb 0, .fn E [.ptr rb 0] []] h K := by
  refine run129 ?_
  have hl := r.len
  unfold sh129
  refine join_r (fun (J : AV → H → Prop) => ∀ v h', Fr [rb] h h' → Rd h' rb vB B (someR B dec s).2 → RowOf (H.new h h') 9 (Rel (H.new h h')) v (someR B dec s).1 → J v h') hK fun J hJ => ?_
  refine count_c r fun h1 f1 r1 => ?_
  have hf := countR_facts B s r.pos
  unfold someR at hJ hK
  generalize countR B s = x at *
  obtain ⟨n, t⟩ := x
  simp only at hJ hK r1 hf ⊢
  have hrb : h.get rb ≠ none := by rw [r.g]; simp
  refine loop_r (n + 1) (fun k ls h2 => ∃ (i : Nat) (v : AV) (acc : List α) (s2 : RS) (css : List (List AV)), ls = [v, .int .i64 i] ∧ i ≤ n ∧ acc.length = i ∧ Fr [rb] h h2 ∧ Rd h2 rb vB B s2 ∧ css.length = acc.length ∧
      (∀ (i : Nat) (x : α) (c : List AV), acc[i]? = some x → css[i]? = some c → Rel (h2.only fun k => h.get k = none ∧ ∀ n p, v ≠ .sl k 0 n p) x c) ∧ (∀ c ∈ css, c.length = 9 ∧ leaves c = true) ∧ Own (h.wo rb) h2 55 9 v acc.length css.flatten ∧ stepsR dec n t [] = stepsR dec (n - i) s2 acc ∧ k = n + 1 - i)
    ⟨0, .nilsl, [], t, [], rfl, by omega, rfl, f1, r1, rfl, by simp, by simp, Own.nil .., rfl, rfl⟩ ?_
  rintro k ls h2 ⟨i, v, acc, s2, css, rfl, hi, hacc, f2, r2, c1, c2, c3, c4, hst, rfl⟩
  have hrb2 : h2.get rb ≠ none := by rw [r2.g]; simp
  have vold : ∀ k n p, v = .sl k 0 n p → h2.get k ≠ none := fun k n p e => by
    rcases c4.2 with ⟨_, z⟩ | ⟨b, z1, _, z3⟩
    · rw [e] at z; cases z
    · rw [e] at z1; injection z1 with z1 _; rw [z1, z3]; simp
  by_cases q : (i : Int) < (n : Nat)
  · obtain ⟨m, hm⟩ : ∃ m, n - i = m + 1 := ⟨n - i - 1, by omega⟩
    rw [hm, stepsR] at hst
    cases hb : s2.bad with
    | true =>
      rw [hb, if_pos rfl] at hst
      rw [hst] at hK
      simp only [go_sem, reduceIte, Nat.reduceAdd, Nat.reduceSub, Nat.reduceMul, Nat.reducePow, Nat.reduceLT, Nat.reduceLeDiff, Nat.reduceEqDiff, Int.reduceAdd, Int.reduceSub, Int.reduceMul, Int.reduceNeg, Int.reducePow, Int.reduceLT, Int.reduceLE, Int.reduceEq, Int.reduceNe, Int.reduceToNat, Int.toNat_natCast, Nat.zero_add, Nat.add_zero, Nat.mul_one, Nat.one_mul, Bool.not_true, Bool.not_false, ne_eq, not_true_eq_false, not_false_eq_true, Bool.false_eq_true, q, r2.cell, hb]
      exact hK .nilsl h2 f2 r2 (RowOf.nil ..)
    | false =>
      rw [hb, if_neg (by decide)] at hst
      have en : IntKind.i64.wrap ((i : Int) + 1) = ((i + 1 : Nat) : Int) := by rw [i64_id (by omega) (by omega)]; rfl
      simp only [go_sem, reduceIte, Nat.reduceAdd, Nat.reduceSub, Nat.reduceMul, Nat.reducePow, Nat.reduceLT, Nat.reduceLeDiff, Nat.reduceEqDiff, Int.reduceAdd, Int.reduceSub, Int.reduceMul, Int.reduceNeg, Int.reducePow, Int.reduceLT, Int.reduceLE, Int.reduceEq, Int.reduceNe, Int.reduceToNat, Int.toNat_natCast, Nat.zero_add, Nat.add_zero, Nat.mul_one, Nat.one_mul, Bool.not_true, Bool.not_false, ne_eq, not_true_eq_false, not_false_eq_true, Bool.false_eq_true, q, r2.cell, hb, List.append_nil]
      refine hE h2 vB s2 r2 _ fun h3 c f3 r3 rl hc => ?_
      have o3 : Own (h.wo rb) h3 55 9 v acc.length css.flatten := c4.keep fun b n' p e ob hg => f3 b ob (by
        intro z; simp at z; exact c4.ne r2.g (by decide) n' p (by rw [e, z])) hg
      have f03 := f2.trans f3
      have ef : fillV [.int .i64 0, .int .i64 0, .int .i64 0, .int .i64 0, .int .i64 0, .int .i64 0, .nilsl, .nilsl, .nilsl] [(0, 9, aggV 9 c)] = some c := fill_agg rfl hc (hleaf rl)
      rw [ef]
      refine append_one' (ty := 55) o3 hc (by decide) (leaves_flat fun c hc => (c3 c hc).2) (hleaf rl) f03.wo1 ?_ fun v4 h4 o4 f4 k4 w4 => ?_
      · unfold most; omega
      have g4 := k4 rb _ r3.g (o3.ne r3.g (by decide))
      have f04 : Fr [rb] h h4 := fun b ob hb hg => f4 b ob (by simp) (by rw [H.get_wo, if_neg (by simpa using hb)]; exact hg)
      have r4 : Rd h4 rb vB B (dec s2).2 := ⟨g4, r.row.fr f04.wo, r3.pos, r3.lt, r3.len, r3.some⟩
      obtain ⟨b4, z1, z2⟩ := w4
      have hne4 : ∀ k o, h3.get k = some o → ∀ n p, v4 ≠ .sl k 0 n p := fun k o hk n p e => by
        rw [z1] at e; injection e with e _; rw [← e, z2] at hk; cases hk
      simp only [go_sem, reduceIte, Nat.reduceAdd, Nat.reduceSub, Nat.reduceMul, Nat.reducePow, Nat.reduceLT, Nat.reduceLeDiff, Nat.reduceEqDiff, Int.reduceAdd, Int.reduceSub, Int.reduceMul, Int.reduceNeg, Int.reducePow, Int.reduceLT, Int.reduceLE, Int.reduceEq, Int.reduceNe, Int.reduceToNat, Int.toNat_natCast, Nat.zero_add, Nat.add_zero, Nat.mul_one, Nat.one_mul, Bool.not_true, Bool.not_false, ne_eq, not_true_eq_false, not_false_eq_true, Bool.false_eq_true, en]
      refine ⟨n + 1 - (i + 1), by omega, i + 1, v4, acc ++ [(dec s2).1], (dec s2).2, css ++ [c], rfl, by omega, by simp [hacc], f04, r4, by simp [c1], fun j x d hx hd => ?_, fun d hd => ?_, by simpa using o4, ?_, rfl⟩
      · by_cases hj : j < acc.length
        · rw [List.getElem?_append_left hj] at hx
          rw [List.getElem?_append_left (by omega)] at hd
          refine hmono (only_fr fun k o p hk => ?_) (c2 j x d hx hd)
          have hk3 := f3 k o (by simp; intro e; rw [e] at p; exact hrb p.1) hk
          exact ⟨⟨p.1, hne4 k o hk3⟩, k4 k o hk3 p.2⟩
        · rw [List.getElem?_append_right (by omega)] at hx
          rw [List.getElem?_append_right (by omega)] at hd
          have hj0 : j = acc.length := by
            have := (List.getElem?_eq_some_iff.1 hx).1; simp at this; omega
          subst hj0
          simp [c1] at hx hd
          subst hx hd
          refine hmono (only_fr fun k o p hk => ?_) rl
          have hkv : ∀ n p, v ≠ .sl k 0 n p := fun n' p' e => vold k n' p' e p
          refine ⟨⟨?_, hne4 k o hk⟩, k4 k o hk hkv⟩
          by_cases z : h.get k = none
          · exact z
          · exact absurd p (alive_of f2 hrb2 k z)
      · rcases List.mem_append.1 hd with hd | hd
        · exact c3 d hd
        · simp at hd; subst hd; exact ⟨hc, (hleaf rl)⟩
      · rw [hst]; congr 1; omega
  · have : n - i = 0 := by omega
    rw [this, stepsR] at hst
    simp only [go_sem, reduceIte, Nat.reduceAdd, Nat.reduceSub, Nat.reduceMul, Nat.reducePow, Nat.reduceLT, Nat.reduceLeDiff, Nat.reduceEqDiff, Int.reduceAdd, Int.reduceSub, Int.reduceMul, Int.reduceNeg, Int.reducePow, Int.reduceLT, Int.reduceLE, Int.reduceEq, Int.reduceNe, Int.reduceToNat, Int.toNat_natCast, Nat.zero_add, Nat.add_zero, Nat.mul_one, Nat.one_mul, Bool.not_true, Bool.not_false, ne_eq, not_true_eq_false, not_false_eq_true, Bool.false_eq_true, q]
    rw [hst] at hJ
    refine hJ v h2 f2 r2 ⟨css, c1, fun j x d hx hd => hmono (only_fr fun k o p hk => ⟨p.1, hk⟩) (c2 j x d hx hd), fun c hc => (c3 c hc).1, ?_⟩
    refine (show Own (h.wo rb) (H.new h h2) 55 9 v acc.length css.flatten from c4.keep fun b n' p e ob hg => ?_).row
    rcases c4.2 with ⟨_, z⟩ | ⟨b', z1, z2, z3⟩
    · rw [e] at z; cases z
    · rw [e] at z1; injection z1 with z1 _; subst z1
      rw [H.get_wo] at z2
      split at z2
      · rename_i eb; rw [eb, r2.g] at z3; injection z3 with z3; injection z3 with _ z3 _; cases z3
      · simp only [H.new, H.only]
        rw [if_pos z2]; exact hg
theorem someStr_c (r : Rd h rb vB B s) {E : Nat} {dec : RS → α × RS} {Rel : H → α → List AV → Prop} (hmono : ∀ {h h' : H} {x c}, Fr [] h h' → Rel h x c → Rel h' x c) (hleaf : ∀ {h : H} {x c}, Rel h x c → leaves c = true ∧ ∃ v, c = [v] ∧ v.cells = [v] ∧ v.leaf = true)
    (hE : EachR rb B E 1 dec Rel) {K : AV → H → Prop} (hK : ∀ v h', Fr [rb] h h' → Rd h' rb vB B (someR B dec s).2 → RowOf (H.new h h') 1 (Rel (H.new h h')) v (someR B dec s).1 → K v h') : C 38 [.ptr rb 0, .fn E [.ptr rb 0] []] h K := by
  refine run38 ?_
  have hl := r.len
  unfold sh38
  refine join_r (fun (J : AV → H → Prop) => ∀ v h', Fr [rb] h h' → Rd h' rb vB B (someR B dec s).2 → RowOf (H.new h h') 1 (Rel (H.new h h')) v (someR B dec s).1 → J v h') hK fun J hJ => ?_
  refine count_c r fun h1 f1 r1 => ?_
  have hf := countR_facts B s r.pos
  unfold someR at hJ hK
  generalize countR B s = x at *
  obtain ⟨n, t⟩ := x
  simp only at hJ hK r1 hf ⊢
  have hrb : h.get rb ≠ none := by rw [r.g]; simp
  refine loop_r (n + 1) (fun k ls h2 => ∃ (i : Nat) (v : AV) (acc : List α) (s2 : RS) (css : List (List AV)), ls = [v, .int .i64 i] ∧ i ≤ n ∧ acc.length = i ∧ Fr [rb] h h2 ∧ Rd h2 rb vB B s2 ∧ css.length = acc.length ∧
      (∀ (i : Nat) (x : α) (c : List AV), acc[i]? = some x → css[i]? = some c → Rel (h2.only fun k => h.get k = none ∧ ∀ n p, v ≠ .sl k 0 n p) x c) ∧ (∀ c ∈ css, c.length = 1 ∧ leaves c = true) ∧ Own (h.wo rb) h2 9 1 v acc.length css.flatten ∧ stepsR dec n t [] = stepsR dec (n - i) s2 acc ∧ k = n + 1 - i)
    ⟨0, .nilsl, [], t, [], rfl, by omega, rfl, f1, r1, rfl, by simp, by simp, Own.nil .., rfl, rfl⟩ ?_
  rintro k ls h2 ⟨i, v, acc, s2, css, rfl, hi, hacc, f2, r2, c1, c2, c3, c4, hst, rfl⟩
  have hrb2 : h2.get rb ≠ none := by rw [r2.g]; simp
  have vold : ∀ k n p, v = .sl k 0 n p → h2.get k ≠ none := fun k n p e => by
    rcases c4.2 with ⟨_, z⟩ | ⟨b, z1, _, z3⟩
    · rw [e] at z; cases z
    · rw [e] at z1; injection z1 with z1 _; rw [z1, z3]; simp
  by_cases q : (i : Int) < (n : Nat)
  · obtain ⟨m, hm⟩ : ∃ m, n - i = m + 1 := ⟨n - i - 1, by omega⟩
    rw [hm, stepsR] at hst
    cases hb : s2.bad with
    | true =>
      rw [hb, if_pos rfl] at hst
      rw [hst] at hK
      simp only [go_sem, reduceIte, Nat.reduceAdd, Nat.reduceSub, Nat.reduceMul, Nat.reducePow, Nat.reduceLT, Nat.reduceLeDiff, Nat.reduceEqDiff, Int.reduceAdd, Int.reduceSub, Int.reduceMul, Int.reduceNeg, Int.reducePow, Int.reduceLT, Int.reduceLE, Int.reduceEq, Int.reduceNe, Int.reduceToNat, Int.toNat_natCast, Nat.zero_add, Nat.add_zero, Nat.mul_one, Nat.one_mul, Bool.not_true, Bool.not_false, ne_eq, not_true_eq_false, not_false_eq_true, Bool.false_eq_true, q, r2.cell, hb]
      exact hK .nilsl h2 f2 r2 (RowOf.nil ..)
    | false =>
      rw [hb, if_neg (by decide)] at hst
      have en : IntKind.i64.wrap ((i : Int) + 1) = ((i + 1 : Nat) : Int) := by rw [i64_id (by omega) (by omega)]; rfl
      simp only [go_sem, reduceIte, Nat.reduceAdd, Nat.reduceSub, Nat.reduceMul, Nat.reducePow, Nat.reduceLT, Nat.reduceLeDiff, Nat.reduceEqDiff, Int.reduceAdd, Int.reduceSub, Int.reduceMul, Int.reduceNeg, Int.reducePow, Int.reduceLT, Int.reduceLE, Int.reduceEq, Int.reduceNe, Int.reduceToNat, Int.toNat_natCast, Nat.zero_add, Nat.add_zero, Nat.mul_one, Nat.one_mul, Bool.not_true, Bool.not_false, ne_eq, not_true_eq_false, not_false_eq_true, Bool.false_eq_true, q, r2.cell, hb, List.append_nil]
      refine hE h2 vB s2 r2 _ fun h3 c f3 r3 rl hc => ?_
      have o3 : Own (h.wo rb) h3 9 1 v acc.length css.flatten := c4.keep fun b n' p e ob hg => f3 b ob (by
        intro z; simp at z; exact c4.ne r2.g (by decide) n' p (by rw [e, z])) hg
      have f03 := f2.trans f3
      obtain ⟨w, hcw, hw1, hw2⟩ := (hleaf rl).2
      have ef : fillV [.str []] [(0, 1, aggV 1 c)] = some c := by rw [hcw]; exact fill1 hw2 hw1
      rw [ef]
      refine append_one' (ty := 9) o3 hc (by decide) (leaves_flat fun c hc => (c3 c hc).2) (hleaf rl).1 f03.wo1 ?_ fun v4 h4 o4 f4 k4 w4 => ?_
      · unfold most; omega
      have g4 := k4 rb _ r3.g (o3.ne r3.g (by decide))
      have f04 : Fr [rb] h h4 := fun b ob hb hg => f4 b ob (by simp) (by rw [H.get_wo, if_neg (by simpa using hb)]; exact hg)
      have r4 : Rd h4 rb vB B (dec s2).2 := ⟨g4, r.row.fr f04.wo, r3.pos, r3.lt, r3.len, r3.some⟩
      obtain ⟨b4, z1, z2⟩ := w4
      have hne4 : ∀ k o, h3.get k = some o → ∀ n p, v4 ≠ .sl k 0 n p := fun k o hk n p e => by
        rw [z1] at e; injection e with e _; rw [← e, z2] at hk; cases hk
      simp only [go_sem, reduceIte, Nat.reduceAdd, Nat.reduceSub, Nat.reduceMul, Nat.reducePow, Nat.reduceLT, Nat.reduceLeDiff, Nat.reduceEqDiff, Int.reduceAdd, Int.reduceSub, Int.reduceMul, Int.reduceNeg, Int.reducePow, Int.reduceLT, Int.reduceLE, Int.reduceEq, Int.reduceNe, Int.reduceToNat, Int.toNat_natCast, Nat.zero_add, Nat.add_zero, Nat.mul_one, Nat.one_mul, Bool.not_true, Bool.not_false, ne_eq, not_true_eq_false, not_false_eq_true, Bool.false_eq_true, en]
      refine ⟨n + 1 - (i + 1), by omega, i + 1, v4, acc ++ [(dec s2).1], (dec s2).2, css ++ [c], rfl, by omega, by simp [hacc], f04, r4, by simp [c1], fun j x d hx hd => ?_, fun d hd => ?_, by simpa using o4, ?_, rfl⟩
      · by_cases hj : j < acc.length
        · rw [List.getElem?_append_left hj] at hx
          rw [List.getElem?_append_left (by omega)] at hd
          refine hmono (only_fr fun k o p hk => ?_) (c2 j x d hx hd)
          have hk3 := f3 k o (by simp; intro e; rw [e] at p; exact hrb p.1) hk
          exact ⟨⟨p.1, hne4 k o hk3⟩, k4 k o hk3 p.2⟩
        · rw [List.getElem?_append_right (by omega)] at hx
          rw [List.getElem?_append_right (by omega)] at hd
          have hj0 : j = acc.length := by
            have := (List.getElem?_eq_some_iff.1 hx).1; simp at this; omega
          subst hj0
          simp [c1] at hx hd
          subst hx hd
          refine hmono (only_fr fun k o p hk => ?_) rl
          have hkv : ∀ n p, v ≠ .sl k 0 n p := fun n' p' e => vold k n' p' e p
          refine ⟨⟨?_, hne4 k o hk⟩, k4 k o hk hkv⟩
          by_cases z : h.get k = none
          · exact z
          · exact absurd p (alive_of f2 hrb2 k z)
      · rcases List.mem_append.1 hd with hd | hd
        · exact c3 d hd
        · simp at hd; subst hd; exact ⟨hc, (hleaf rl).1⟩
      · rw [hst]; congr 1; omega
  · have : n - i = 0 := by omega
    rw [this, stepsR] at hst
    simp only [go_sem, reduceIte, Nat.reduceAdd, Nat.reduceSub, Nat.reduceMul, Nat.reducePow, Nat.reduceLT, Nat.reduceLeDiff, Nat.reduceEqDiff, Int.reduceAdd, Int.reduceSub, Int.reduceMul, Int.reduceNeg, Int.reducePow, Int.reduceLT, Int.reduceLE, Int.reduceEq, Int.reduceNe, Int.reduceToNat, Int.toNat_natCast, Nat.zero_add, Nat.add_zero, Nat.mul_one, Nat.one_mul, Bool.not_true, Bool.not_false, ne_eq, not_true_eq_false, not_false_eq_true, Bool.false_eq_true, q]
    rw [hst] at hJ
    refine hJ v h2 f2 r2 ⟨css, c1, fun j x d hx hd => hmono (only_fr fun k o p hk => ⟨p.1, hk⟩) (c2 j x d hx hd), fun c hc => (c3 c hc).1, ?_⟩
    refine (show Own (h.wo rb) (H.new h h2) 9 1 v acc.length css.flatten from c4.keep fun b n' p e ob hg => ?_).row
    rcases c4.2 with ⟨_, z⟩ | ⟨b', z1, z2, z3⟩
    · rw [e] at z; cases z
    · rw [e] at z1; injection z1 with z1 _; subst z1
      rw [H.get_wo] at z2
      split at z2
      · rename_i eb; rw [eb, r2.g] at z3; injection z3 with z3; injection z3 with _ z3 _; cases z3
      · simp only [H.new, H.only]
        rw [if_pos z2]; exact hg
theorem someInt_c (r : Rd h rb vB B s) {E : Nat} {dec : RS → α × RS} {Rel : H → α → List AV → Prop} (hmono : ∀ {h h' : H} {x c}, Fr [] h h' → Rel h x c → Rel h' x c) (hleaf : ∀ {h : H} {x c}, Rel h x c → leaves c = true ∧ ∃ v, c = [v] ∧ v.cells = [v] ∧ v.leaf = true)
    (hE : EachR rb B E 1 dec Rel) {K : AV → H → Prop} (hK : ∀ v h', Fr [rb] h h' → Rd h' rb vB B (someR B dec s).2 → RowOf (H.new h h') 1 (Rel (H.new h h')) v (someR B dec s).1 → K v h') : C 128 [.ptr rb 0, .fn E [.ptr rb 0] []] h K := by
  refine run128 ?_
  have hl := r.len
  unfold sh128
  refine join_r (fun (J : AV → H → Prop) => ∀ v h', Fr [rb] h h' → Rd h' rb vB B (someR B dec s).2 → RowOf (H.new h h') 1 (Rel (H.new h h')) v (someR B dec s).1 → J v h') hK fun J hJ => ?_
  refine count_c r fun h1 f1 r1 => ?_
  have hf := countR_facts B s r.pos
  unfold someR at hJ hK
  generalize countR B s = x at *
  obtain ⟨n, t⟩ := x
  simp only at hJ hK r1 hf ⊢
  have hrb : h.get rb ≠ none := by rw [r.g]; simp
  refine loop_r (n + 1) (fun k ls h2 => ∃ (i : Nat) (v : AV) (acc : List α) (s2 : RS) (css : List (List AV)), ls = [v, .int .i64 i] ∧ i ≤ n ∧ acc.length = i ∧ Fr [rb] h h2 ∧ Rd h2 rb vB B s2 ∧ css.length = acc.length ∧
      (∀ (i : Nat) (x : α) (c : List AV), acc[i]? = some x → css[i]? = some c → Rel (h2.only fun k => h.get k = none ∧ ∀ n p, v ≠ .sl k 0 n p) x c) ∧ (∀ c ∈ css, c.length = 1 ∧ leaves c = true) ∧ Own (h.wo rb) h2 3 1 v acc.length css.flatten ∧ stepsR dec n t [] = stepsR dec (n - i) s2 acc ∧ k = n + 1 - i)
    ⟨0, .nilsl, [], t, [], rfl, by omega, rfl, f1, r1, rfl, by simp, by simp, Own.nil .., rfl, rfl⟩ ?_
  rintro k ls h2 ⟨i, v, acc, s2, css, rfl, hi, hacc, f2, r2, c1, c2, c3, c4, hst, rfl⟩
  have hrb2 : h2.get rb ≠ none := by rw [r2.g]; simp
  have vold : ∀ k n p, v = .sl k 0 n p → h2.get k ≠ none := fun k n p e => by
    rcases c4.2 with ⟨_, z⟩ | ⟨b, z1, _, z3⟩
    · rw [e] at z; cases z
    · rw [e] at z1; injection z1 with z1 _; rw [z1, z3]; simp
  by_cases q : (i : Int) < (n : Nat)
  · obtain ⟨m, hm⟩ : ∃ m, n - i = m + 1 := ⟨n - i - 1, by omega⟩
    rw [hm, stepsR] at hst
    cases hb : s2.bad with
    | true =>
      rw [hb, if_pos rfl] at hst
      rw [hst] at hK
      simp only [go_sem, reduceIte, Nat.reduceAdd, Nat.reduceSub, Nat.reduceMul, Nat.reducePow, Nat.reduceLT, Nat.reduceLeDiff, Nat.reduceEqDiff, Int.reduceAdd, Int.reduceSub, Int.reduceMul, Int.reduceNeg, Int.reducePow, Int.reduceLT, Int.reduceLE, Int.reduceEq, Int.reduceNe, Int.reduceToNat, Int.toNat_natCast, Nat.zero_add, Nat.add_zero, Nat.mul_one, Nat.one_mul, Bool.not_true, Bool.not_false, ne_eq, not_true_eq_false, not_false_eq_true, Bool.false_eq_true, q, r2.cell, hb]
      exact hK .nilsl h2 f2 r2 (RowOf.nil ..)
    | false =>
      rw [hb, if_neg (by decide)] at hst
      have en : IntKind.i64.wrap ((i : Int) + 1) = ((i + 1 : Nat) : Int) := by rw [i64_id (by omega) (by omega)]; rfl
      simp only [go_sem, reduceIte, Nat.reduceAdd, Nat.reduceSub, Nat.reduceMul, Nat.reducePow, Nat.reduceLT, Nat.reduceLeDiff, Nat.reduceEqDiff, Int.reduceAdd, Int.reduceSub, Int.reduceMul, Int.reduceNeg, Int.reducePow, Int.reduceLT, Int.reduceLE, Int.reduceEq, Int.reduceNe, Int.reduceToNat, Int.toNat_natCast, Nat.zero_add, Nat.add_zero, Nat.mul_one, Nat.one_mul, Bool.not_true, Bool.not_false, ne_eq, not_true_eq_false, not_false_eq_true, Bool.false_eq_true, q, r2.cell, hb, List.append_nil]
      refine hE h2 vB s2 r2 _ fun h3 c f3 r3 rl hc => ?_
      have o3 : Own (h.wo rb) h3 3 1 v acc.length css.flatten := c4.keep fun b n' p e ob hg => f3 b ob (by
        intro z; simp at z; exact c4.ne r2.g (by decide) n' p (by rw [e, z])) hg
      have f03 := f2.trans f3
      obtain ⟨w, hcw, hw1, hw2⟩ := (hleaf rl).2
      have ef : fillV [.int .i64 0] [(0, 1, aggV 1 c)] = some c := by rw [hcw]; exact fill1 hw2 hw1
      rw [ef]
      refine append_one' (ty := 3) o3 hc (by decide) (leaves_flat fun c hc => (c3 c hc).2) (hleaf rl).1 f03.wo1 ?_ fun v4 h4 o4 f4 k4 w4 => ?_
      · unfold most; omega
      have g4 := k4 rb _ r3.g (o3.ne r3.g (by decide))
      have f04 : Fr [rb] h h4 := fun b ob hb hg => f4 b ob (by simp) (by rw [H.get_wo, if_neg (by simpa using hb)]; exact hg)
      have r4 : Rd h4 rb vB B (dec s2).2 := ⟨g4, r.row.fr f04.wo, r3.pos, r3.lt, r3.len, r3.some⟩
      obtain ⟨b4, z1, z2⟩ := w4
      have hne4 : ∀ k o, h3.get k = some o → ∀ n p, v4 ≠ .sl k 0 n p := fun k o hk n p e => by
        rw [z1] at e; injection e with e _; rw [← e, z2] at hk; cases hk
      simp only [go_sem, reduceIte, Nat.reduceAdd, Nat.reduceSub, Nat.reduceMul, Nat.reducePow, Nat.reduceLT, Nat.reduceLeDiff, Nat.reduceEqDiff, Int.reduceAdd, Int.reduceSub, Int.reduceMul, Int.reduceNeg, Int.reducePow, Int.reduceLT, Int.reduceLE, Int.reduceEq, Int.reduceNe, Int.reduceToNat, Int.toNat_natCast, Nat.zero_add, Nat.add_zero, Nat.mul_one, Nat.one_mul, Bool.not_true, Bool.not_false, ne_eq, not_true_eq_false, not_false_eq_true, Bool.false_eq_true, en]
      refine ⟨n + 1 - (i + 1), by omega, i + 1, v4, acc ++ [(dec s2).1], (dec s2).2, css ++ [c], rfl, by omega, by simp [hacc], f04, r4, by simp [c1], fun j x d hx hd => ?_, fun d hd => ?_, by simpa using o4, ?_, rfl⟩
      · by_cases hj : j < acc.length
        · rw [List.getElem?_append_left hj] at hx
          rw [List.getElem?_append_left (by omega)] at hd
          refine hmono (only_fr fun k o p hk => ?_) (c2 j x d hx hd)
          have hk3 := f3 k o (by simp; intro e; rw [e] at p; exact hrb p.1) hk
          exact ⟨⟨p.1, hne4 k o hk3⟩, k4 k o hk3 p.2⟩
        · rw [List.getElem?_append_right (by omega)] at hx
          rw [List.getElem?_append_right (by omega)] at hd
          have hj0 : j = acc.length := by
            have := (List.getElem?_eq_some_iff.1 hx).1; simp at this; omega
          subst hj0
          simp [c1] at hx hd
          subst hx hd
          refine hmono (only_fr fun k o p hk => ?_) rl
          have hkv : ∀ n p, v ≠ .sl k 0 n p := fun n' p' e => vold k n' p' e p
          refine ⟨⟨?_, hne4 k o hk⟩, k4 k o hk hkv⟩
          by_cases z : h.get k = none
          · exact z
          · exact absurd p (alive_of f2 hrb2 k z)
      · rcases List.mem_append.1 hd with hd | hd
        · exact c3 d hd
        · simp at hd; subst hd; exact ⟨hc, (hleaf rl).1⟩
      · rw [hst]; congr 1; omega
  · have : n - i = 0 := by omega
    rw [this, stepsR] at hst
    simp only [go_sem, reduceIte, Nat.reduceAdd, Nat.reduceSub, Nat.reduceMul, Nat.reducePow, Nat.reduceLT, Nat.reduceLeDiff, Nat.reduceEqDiff, Int.reduceAdd, Int.reduceSub, Int.reduceMul, Int.reduceNeg, Int.reducePow, Int.reduceLT, Int.reduceLE, Int.reduceEq, Int.reduceNe, Int.reduceToNat, Int.toNat_natCast, Nat.zero_add, Nat.add_zero, Nat.mul_one, Nat.one_mul, Bool.not_true, Bool.not_false, ne_eq, not_true_eq_false, not_false_eq_true, Bool.false_eq_true, q]
    rw [hst] at hJ
    refine hJ v h2 f2 r2 ⟨css, c1, fun j x d hx hd => hmono (only_fr fun k o p hk => ⟨p.1, hk⟩) (c2 j x d hx hd), fun c hc => (c3 c hc).1, ?_⟩
    refine (show Own (h.wo rb) (H.new h h2) 3 1 v acc.length css.flatten from c4.keep fun b n' p e ob hg => ?_).row
    rcases c4.2 with ⟨_, z⟩ | ⟨b', z1, z2, z3⟩
    · rw [e] at z; cases z
    · rw [e] at z1; injection z1 with z1 _; subst z1
      rw [H.get_wo] at z2
      split at z2
      · rename_i eb; rw [eb, r2.g] at z3; injection z3 with z3; injection z3 with _ z3 _; cases z3
      · simp only [H.new, H.only]
        rw [if_pos z2]; exact hg
end
end Go.Proofs.YtdljelicbnjfjaaGreat.X
set_option linter.unusedVariables false
set_option linter.unusedSimpArgs false
set_option maxRecDepth 20000
namespace Go.Proofs.YtdljelicbnjfjaaGreat.X
open Go Go.RowKit
def relI (_ : H) (x : Int) (c : List AV) : Prop := c = [.int .i64 x] ∧ rg x
def relS (_ : H) (s : List UInt8) (c : List AV) : Prop := c = [.str s] ∧ s.length ≤ reachBytes
def relTy (h : H) (t : Ty) (c : List AV) : Prop := tyR h t c ∧ t.ok
def relSh (h : H) (t : Shp) (c : List AV) : Prop := shR h t c ∧ t.ok
def relIn (h : H) (t : Ins) (c : List AV) : Prop := insR h t c ∧ t.ok
def relBl (h : H) (t : Blk) (c : List AV) : Prop := blkR h t c ∧ t.ok
def relFn (h : H) (t : Fn) (c : List AV) : Prop := fnR h t c ∧ t.ok
def numsR (B : List Nat) (s : RS) : List Int × RS := someR B (longR B) s
def kindR (B : List Nat) (s : RS) : Ty × RS :=
  let r := longR B s
  let q := numsR B ⟨r.2.pos, (r.2.bad || decide (r.1 < 0)) || decide (1 < r.1)⟩
  (⟨decide (r.1 = 1), q.1⟩, q.2)
def shapeR (B : List Nat) (s : RS) : Shp × RS :=
  let a := longR B s
  let b := numsR B a.2
  let c := textR B b.2
  (⟨a.1, b.1, c.1⟩, c.2)
def fldR (B : List Nat) (q : Ins × RS) (c : UInt8) : Ins × RS :=
  let x := q.1
  let n := longR B q.2
  let l := numsR B q.2
  if c = 78 then ({ x with n := n.1 }, n.2) else if c = 68 then ({ x with d := n.1 }, n.2) else if c = 65 then ({ x with a := n.1 }, n.2) else if c = 66 then ({ x with b := n.1 }, n.2) else if c = 67 then ({ x with c := n.1 }, n.2) else
  if c = 76 then ({ x with l := l.1 }, l.2) else if c = 77 then ({ x with m := l.1 }, l.2) else ({ x with live := l.1 }, l.2)
theorem rg0 : rg 0 := by unfold rg; omega
def insZ (op : Int) : Ins := ⟨op, 0, 0, 0, 0, 0, [], [], []⟩
def instrR (B : List Nat) (s : RS) : Ins × RS :=
  let a := longR B s
  (usesN a.1).foldl (fldR B) (insZ a.1, ⟨a.2.pos, a.2.bad || decide (usesN a.1 = [])⟩)
def blockR (B : List Nat) (s : RS) : Blk × RS :=
  let a := numsR B s
  let b := someR B (instrR B) a.2
  (⟨a.1, b.1⟩, b.2)
def functionR (B : List Nat) (s : RS) : Fn × RS :=
  let a := numsR B s
  let b := longR B a.2
  let c := longR B b.2
  let d := someR B (blockR B) c.2
  (⟨a.1, b.1, c.1, d.1⟩, d.2)
theorem stepsR_len {α : Type} {dec : RS → α × RS} : ∀ (n : Nat) (s : RS) (acc : List α), (stepsR dec n s acc).1.length ≤ acc.length + n
  | 0, s, acc => Nat.le_refl _
  | n + 1, s, acc => by
    rw [stepsR]; split
    · simp
    · have := stepsR_len (dec := dec) n (dec s).2 (acc ++ [(dec s).1])
      simp at this; omega
theorem someR_len {α : Type} {B : List Nat} {dec : RS → α × RS} {s : RS} (hs : s.pos ≤ B.length) : (someR B dec s).1.length ≤ B.length := by
  have h1 := stepsR_len (dec := dec) (countR B s).1 (countR B s).2 []
  have h2 := countR_facts B s hs
  unfold someR
  simp at h1; omega
theorem ints_row {h : H} {v : AV} {l : List Int} (r : RowOf h 1 (relI h) v l) : Row h v l.length 1 (ic l) ∧ ∀ n ∈ l, rg n := by
  obtain ⟨css, h1, h2, h3, r⟩ := r
  have e : ∀ i (hi : i < l.length), css[i]? = some [.int .i64 l[i]] ∧ rg l[i] := fun i hi => by
    have hc : i < css.length := by omega
    have := h2 i l[i] css[i] (by simp [hi]) (by simp [hc])
    exact ⟨by rw [List.getElem?_eq_getElem hc, this.1], this.2⟩
  have e2 : css = l.map fun n => [AV.int .i64 n] := by
    apply List.ext_getElem?
    intro i
    by_cases hi : i < l.length
    · rw [(e i hi).1, List.getElem?_map, List.getElem?_eq_getElem hi]; rfl
    · rw [List.getElem?_eq_none (by omega), List.getElem?_eq_none (by simp; omega)]
  refine ⟨?_, fun n hn => ?_⟩
  · have : css.flatten = ic l := by
      rw [e2]; unfold ic
      clear e2 e h1 h2 h3 r
      induction l with
      | nil => rfl
      | cons x l ih => simp [ih]
    rw [← this]; exact r
  · obtain ⟨i, hi, rfl⟩ := List.getElem_of_mem hn
    exact (e i hi).2
theorem agg_st {h : H} {d e n : Nat} {cs c : List AV} (hd : h.get d = Option.some (.live cs e true)) (hcs : cs.length = n) (hc : c.length = n) (hl : leaves c = true) : stA h n (.ptr d 0) (.agg c) = some (h.set d (.live c e true)) := by
  have ec : (AV.agg c).cells = c := rfl
  simp only [stA_p, ec, hc, if_true]
  unfold H.write
  rw [hd]
  simp only [hl, and_true]
  rw [if_pos (by omega)]
  have := overlay_end' c cs [] (by omega)
  simp only [List.nil_append, List.length_nil] at this
  rw [this]
section
variable {h : H} {rb e : Nat} {vB : AV} {B : List Nat} {s : RS}
theorem RdE.re (r : RdE e h rb vB B s) {h' : H} (f : Fr [rb] h h') {s' : RS} (g : h'.get rb = Option.some (.live [vB, .int .i64 s'.pos, .bool s'.bad] e true)) (hp : s'.pos ≤ B.length) : RdE e h' rb vB B s' := ⟨g, r.row.fr f.wo, hp, r.lt, r.len, r.some⟩
theorem RdE.ne (r : RdE e h rb vB B s) {d : Nat} (hd : h.get d = none) : d ≠ rb := fun e => by rw [e, r.g] at hd; cases hd
theorem eachI : EachR rb B 42 1 (longR B) relI := by
  intro h vB s r K hK
  refine rnum_c r fun h' f' r' => ?_
  exact hK h' [.int .i64 (longR B s).1] f' r' ⟨rfl, (longR_facts B s r.pos).1⟩ rfl
theorem relI_mono {h h' : H} {x : Int} {c : List AV} (_ : Fr [] h h') (r : relI h x c) : relI h' x c := r
theorem relI_leaf {h : H} {x : Int} {c : List AV} (r : relI h x c) : leaves c = true ∧ ∃ v, c = [v] ∧ v.cells = [v] ∧ v.leaf = true := by
  obtain ⟨rfl, _⟩ := r; exact ⟨rfl, _, rfl, rfl, rfl⟩
theorem eachS : EachR rb B 39 1 (textR B) relS := by
  intro h vB s r K hK
  refine rtext_c r fun h' f' r' => ?_
  refine hK h' [.str (textR B s).1] f' r' ⟨rfl, ?_⟩ rfl
  have : 4294967296 ≤ reachBytes := by decide
  have := r.len
  unfold textR
  simp only [List.length_map, List.length_take, List.length_drop]
  omega
theorem relS_mono {h h' : H} {x : List UInt8} {c : List AV} (_ : Fr [] h h') (r : relS h x c) : relS h' x c := r
theorem relS_leaf {h : H} {x : List UInt8} {c : List AV} (r : relS h x c) : leaves c = true ∧ ∃ v, c = [v] ∧ v.cells = [v] ∧ v.leaf = true := by
  obtain ⟨rfl, _⟩ := r; exact ⟨rfl, _, rfl, rfl, rfl⟩
theorem rnums_c (r : Rd h rb vB B s) {K : AV → H → Prop} (hK : ∀ v h', Fr [rb] h h' → Rd h' rb vB B (numsR B s).2 → Row (H.new h h') v (numsR B s).1.length 1 (ic (numsR B s).1) → rgs (numsR B s).1 → K v h') : C 83 [.ptr rb 0] h K := by
  refine run83 ?_
  unfold sh83
  refine someInt_c r (dec := longR B) (Rel := relI) (fun f r => relI_mono f r) (fun r => relI_leaf r) eachI fun v h' f' r' rr => ?_
  obtain ⟨q1, q2⟩ := ints_row rr
  have h1 : (numsR B s).1.length ≤ B.length := someR_len (B := B) (dec := longR B) (s := s) r.pos
  have : 4294967296 ≤ reachBytes := by decide
  have := r.len
  exact hK v h' f' r' q1 ⟨by omega, q2⟩
theorem chunkK {b : Bool} {n : Int} {K : AV → H → Prop} : (whenA (.bool b) false (fun K => K (.int .i64 n) h) h fun t12 h => whenA (.bool b) false (fun K => valA (binOp .lss .num t12 (.int .i64 0)) h K) h fun t13 h => valA (pickA (.bool b) (.bool true) t13) h fun t14 h => K t14 h) = K (.bool (b || decide (n < 0))) h := by
  cases b <;> simp only [go_sem, reduceIte, Nat.reduceAdd, Nat.reduceSub, Nat.reduceMul, Nat.reducePow, Nat.reduceLT, Nat.reduceLeDiff, Nat.reduceEqDiff, Int.reduceAdd, Int.reduceSub, Int.reduceMul, Int.reduceNeg, Int.reducePow, Int.reduceLT, Int.reduceLE, Int.reduceEq, Int.reduceNe, Int.reduceToNat, Int.toNat_natCast, Nat.zero_add, Nat.add_zero, Nat.mul_one, Nat.one_mul, Bool.not_true, Bool.not_false, ne_eq, not_true_eq_false, not_false_eq_true, Bool.false_eq_true, Bool.true_or, Bool.false_or]
theorem chunkK1 {b : Bool} {n : Int} {K : AV → H → Prop} : (whenA (.bool b) false (fun K => K (.int .i64 n) h) h fun t16 h => whenA (.bool b) false (fun K => valA (binOp .gtr .num t16 (.int .i64 1)) h K) h fun t17 h => valA (pickA (.bool b) (.bool true) t17) h fun t18 h => K t18 h) = K (.bool (b || decide (1 < n))) h := by
  cases b <;> simp only [go_sem, reduceIte, Nat.reduceAdd, Nat.reduceSub, Nat.reduceMul, Nat.reducePow, Nat.reduceLT, Nat.reduceLeDiff, Nat.reduceEqDiff, Int.reduceAdd, Int.reduceSub, Int.reduceMul, Int.reduceNeg, Int.reducePow, Int.reduceLT, Int.reduceLE, Int.reduceEq, Int.reduceNe, Int.reduceToNat, Int.toNat_natCast, Nat.zero_add, Nat.add_zero, Nat.mul_one, Nat.one_mul, Bool.not_true, Bool.not_false, ne_eq, not_true_eq_false, not_false_eq_true, Bool.false_eq_true, Bool.true_or, Bool.false_or]
theorem eachT : EachR rb B 35 2 (kindR B) relTy := by
  intro h vB s r K hK
  refine run35 ?_
  unfold sh35
  refine box_r rfl fun d hd => ?_
  have f0 : Fr [] h (h.set d (.live [.bool false, .nilsl] 46 true)) := (Fr.refl _ _).set' hd
  have gd : (h.set d (.live [.bool false, .nilsl] 46 true)).get d = some (.live [.bool false, .nilsl] 46 true) := H.get_same ..
  have hdr := r.ne hd
  have r1 := r.keep f0
  generalize h.set d (.live [.bool false, .nilsl] 46 true) = h1 at *
  refine rnum_c r1 fun h2 f2 r2 => ?_
  have gd2 := f2 d _ (by simpa using hdr) gd
  have hp := (longR_facts B s r.pos).2.2
  unfold kindR at hK
  simp only at hK
  generalize longR B s = x at *
  obtain ⟨n, t⟩ := x
  simp only at hK r2 hp ⊢
  rw [nilcA_p, valA_some]
  refine fld_r (r2.cell 2) ?_
  rw [chunkK, chunkK1]
  have st := st_val r2.g (off := 2) (v := .bool ((t.bad || decide (n < 0)) || decide (1 < n))) (by simp) rfl rfl
  obtain ⟨r3, f3⟩ := r2.put ⟨t.pos, (t.bad || decide (n < 0)) || decide (1 < n)⟩ hp (cs := [vB, AV.int .i64 t.pos, .bool t.bad].set 2 (.bool ((t.bad || decide (n < 0)) || decide (1 < n)))) rfl
  have gd3 := f3 d _ (by simpa using hdr) gd2
  simp only [nilcA_p, valA_some, faA_p, Nat.zero_add, st, memA_some, b_eql]
  refine rnums_c r3 fun v h4 f4 r4 rv ok => ?_
  have gd4 := f4 d _ (by simpa using hdr) gd3
  rw [fill2 rfl rfl rv.one.1 rv.one.2, buildA_s, valA_some]
  have hlv : leaves [AV.bool (decide (n = 1)), v] = true := by simp only [leaves, rv.one.1]; rfl
  rw [show stA h4 2 (.ptr d 0) (.agg [AV.bool (decide (n = 1)), v]) = _ from agg_st (n := 2) gd4 rfl rfl hlv, memA_some]
  have f04 : Fr [rb] h h4 := ((f0.more.trans f2).trans f3).trans f4
  have f05 : Fr [rb] h (h4.set d (.live [AV.bool (decide (n = 1)), v] 46 true)) := f04.set' hd
  have f45 : Fr [d] h4 (h4.set d (.live [AV.bool (decide (n = 1)), v] 46 true)) := Fr.put (by simp)
  have r5 := r.re f05 (s' := (numsR B ⟨t.pos, (t.bad || decide (n < 0)) || decide (1 < n)⟩).2) (by rw [H.get_other _ _ hdr.symm]; exact r4.g) r4.pos
  rw [ldA_read (H.read_eq (H.get_same ..) (by simp) rfl), valA_some]
  refine hK _ [AV.bool (decide (n = 1)), v] f05 r5 ⟨⟨v, rfl, rv.fr (new_mono f45 (fun k hk => ?_) fun k hk => ?_)⟩, ok⟩ rfl
  · simp at hk; subst hk; rw [gd3]; simp
  · have := alive_of ((f0.more.trans f2).trans f3) (by rw [r3.g]; simp) k hk
    exact this
structure RdDE (E : Nat) (h h1 hi : H) (rb d : Nat) (vB : AV) (B : List Nat) (s : RS) (cs : List AV) (e : Nat) : Prop where
  f : Fr [rb] h hi
  g : Fr [rb, d] h1 hi
  a0 : ∀ k, h.get k ≠ none → h1.get k ≠ none
  a : ∀ k, h1.get k ≠ none → hi.get k ≠ none
  k1 : ∀ k ∈ [rb, d], h1.get k ≠ none
  hd : h.get d = none
  r : RdE E hi rb vB B s
  gd : hi.get d = some (.live cs e true)
abbrev RdD := RdDE 67
section
variable {h h1 hi h2 h' : H} {rb d e E : Nat} {vB : AV} {B : List Nat} {s s' : RS} {cs : List AV}
theorem RdE.box (r : RdE E h rb vB B s) (hd : h.get d = none) : RdDE E h (h.set d (.live cs e true)) (h.set d (.live cs e true)) rb d vB B s cs e := by
  have f : Fr [] h (h.set d (.live cs e true)) := (Fr.refl _ _).set' hd
  have hr := r.ne hd
  refine ⟨f.more, Fr.refl _ _, fun k hk => ?_, fun k hk => hk, fun k hk => ?_, hd, r.keep f, H.get_same ..⟩
  · rw [H.get_other _ _ (fun e => hk (by rw [e]; exact hd))]; exact hk
  · simp only [List.mem_cons, List.not_mem_nil, or_false] at hk
    rcases hk with rfl | rfl
    · rw [H.get_other _ _ hr.symm, r.g]; simp
    · rw [H.get_same]; simp
theorem RdDE.ne (q : RdDE E h h1 hi rb d vB B s cs e) (r : RdE E h rb vB B s') : d ≠ rb := r.ne q.hd
theorem Fr.rd (f : Fr [rb] h h') : Fr [rb, d] h h' := f.weaken fun k hk => by simp at hk ⊢; exact .inl hk
theorem RdDE.call (q : RdDE E h h1 hi rb d vB B s cs e) (hn : d ≠ rb) (f2 : Fr [rb] hi h2) (r2 : RdE E h2 rb vB B s') : RdDE E h h1 h2 rb d vB B s' cs e :=
  ⟨q.f.trans f2, q.g.trans f2.rd, q.a0, fun k hk => alive_of f2 (by rw [r2.g]; simp) k (q.a k hk), q.k1, q.hd, r2, f2 d _ (by simpa using hn) q.gd⟩
theorem RdDE.put (q : RdDE E h h1 hi rb d vB B s cs e) {s0 : RS} (r : RdE E h rb vB B s0) {cs' cs'' : List AV} (hc : cs'' = cs') : RdDE E h h1 (hi.set d (.live cs'' e true)) rb d vB B s cs' e := by
  subst hc
  have f' : Fr [rb] h (hi.set d (.live cs'' e true)) := q.f.set' q.hd
  refine ⟨f', q.g.trans (Fr.put (by simp)), q.a0, fun k hk => ?_, q.k1, q.hd, r.re f' (by rw [H.get_other _ _ (r.ne q.hd).symm]; exact q.r.g) q.r.pos, H.get_same ..⟩
  rw [H.get_set]; split
  · simp
  · exact q.a k hk
theorem RdDE.val (q : RdDE E h h1 hi rb d vB B s cs e) (f : Fr [rb, d] h2 h') : Fr [] (H.new hi h2) (H.new h1 h') := new_mono f (fun k hk => q.a k (q.k1 k hk)) q.a
theorem RdDE.val0 (q : RdDE E h h1 hi rb d vB B s cs e) (f : Fr [rb, d] h2 h') : Fr [] (H.new h1 h2) (H.new h1 h') := new_mono f q.k1 fun _ hk => hk
theorem RdDE.fin (q : RdDE E h h1 hi rb d vB B s cs e) : Fr [] (H.new h1 h2) (H.new h h2) := new_mono (S := []) (Fr.refl _ _) (by simp) q.a0
theorem RdDE.cell (q : RdDE E h h1 hi rb d vB B s cs e) (off : Nat) : hi.cell d off = cs[off]? := cell_of q.gd off
theorem RdDE.read (q : RdDE E h h1 hi rb d vB B s cs e) {n : Nat} (hn : cs.length = n) : hi.read d 0 n = some cs := H.read_eq q.gd (by omega) (by rw [List.drop_zero, List.take_of_length_le (by omega)])
theorem RdDE.st (q : RdDE E h h1 hi rb d vB B s cs e) {s0 : RS} (r : RdE E h rb vB B s0) {off : Nat} {v : AV} {cs' : List AV} (hc : cs.set off v = cs') (ho : off < cs.length) (hv : v.leaf = true) (hv' : v.cells = [v]) {K : AV → H → Prop}
    (hK : ∀ h', Fr [rb, d] hi h' → RdDE E h h1 h' rb d vB B s cs' e → K .undef h') : valA (faA off (.ptr d 0)) hi fun t h => memA (stA h 1 t v) .undef K := by
  rw [faA_p, valA_some, Nat.zero_add, st_val q.gd ho hv hv', memA_some]
  exact hK _ (Fr.put (by simp)) (q.put r hc)
theorem RdDE.done (q : RdDE E h h1 hi rb d vB B s cs e) {s0 : RS} (r : RdE E h rb vB B s0) {n : Nat} (hn : cs.length = n) (hl : leaves cs = true) {K : AV → H → Prop}
    (hK : ∀ h', Fr [rb, d] hi h' → RdDE E h h1 h' rb d vB B s cs e → K (.agg cs) h') : valA (ldA hi (some n) (.ptr d 0)) hi fun t h => memA (stA h n (.ptr d 0) t) .undef fun _ h => valA (ldA h (some n) (.ptr d 0)) h fun res _ => K res h := by
  have q' := q.put r (cs'' := cs) rfl
  rw [ldA_read (q.read hn), valA_some, agg_st q.gd hn hn hl, memA_some, ldA_read (q'.read hn), valA_some]
  exact hK _ (Fr.put (by simp)) q'
end
end
section
variable {rb : Nat} {B : List Nat}
theorem eachSh : EachR rb B 37 3 (shapeR B) relSh := by
  intro h vB s r K hK
  refine run37 ?_
  unfold sh37
  refine box_r rfl fun d hd => ?_
  have hdr := r.ne hd
  have q1 := r.box hd (cs := [.int .i64 0, .nilsl, .str []]) (e := 61)
  generalize h.set d (.live [.int .i64 0, .nilsl, .str []] 61 true) = h1 at *
  refine rnum_c q1.r fun h2 f2 r2 => ?_
  refine (q1.call hdr f2 r2).st r (cs' := [.int .i64 (longR B s).1, .nilsl, .str []]) rfl (by simp) rfl rfl fun h3 g3 q3 => ?_
  refine rnums_c q3.r fun v h4 f4 r4 rv ok => ?_
  refine (q3.call hdr f4 r4).st r (cs' := [.int .i64 (longR B s).1, v, .str []]) rfl (by simp) rv.one.1 rv.one.2 fun h5 g5 q5 => ?_
  refine eachS h5 vB _ q5.r _ fun h6 c f6 r6 rs _ => ?_
  obtain ⟨rfl, lt⟩ := rs
  refine (q5.call hdr f6 r6).st r (v := .str (textR B (numsR B (longR B s).2).2).1) (cs' := [.int .i64 (longR B s).1, v, .str (textR B (numsR B (longR B s).2).2).1]) rfl (by simp) rfl rfl fun h7 g7 q7 => ?_
  refine q7.done r rfl (by simp only [leaves, rv.one.1]; rfl) fun h8 g8 q8 => ?_
  have g : Fr [rb, d] h4 h8 := ((g5.trans f6.rd).trans g7).trans g8
  exact hK h8 _ q8.f q8.r ⟨⟨v, rfl, (rv.fr (q3.val g)).fr q3.fin⟩, (longR_facts B s r.pos).1, ok, lt⟩ rfl
theorem RowOf.all {α : Type} {h : H} {esz : Nat} {R : α → List AV → Prop} {P : α → Prop} {v : AV} {l : List α} (r : RowOf h esz (fun x c => R x c ∧ P x) v l) {x : α} (hx : x ∈ l) : P x := by
  obtain ⟨css, h1, h2, _, _⟩ := r
  obtain ⟨i, hi, rfl⟩ := List.getElem_of_mem hx
  have hc : i < css.length := by omega
  exact (h2 i l[i] css[i] (by simp [hi]) (by simp [hc])).2
theorem relSh_mono {h h' : H} {x : Shp} {c : List AV} (f : Fr [] h h') (r : relSh h x c) : relSh h' x c := ⟨r.1.fr f, r.2⟩
theorem relTy_mono {h h' : H} {x : Ty} {c : List AV} (f : Fr [] h h') (r : relTy h x c) : relTy h' x c := ⟨r.1.fr f, r.2⟩
theorem relIn_mono {h h' : H} {x : Ins} {c : List AV} (f : Fr [] h h') (r : relIn h x c) : relIn h' x c := ⟨r.1.fr f, r.2⟩
theorem relBl_mono {h h' : H} {x : Blk} {c : List AV} (f : Fr [] h h') (r : relBl h x c) : relBl h' x c := ⟨r.1.fr f, r.2⟩
theorem relFn_mono {h h' : H} {x : Fn} {c : List AV} (f : Fr [] h h') (r : relFn h x c) : relFn h' x c := ⟨r.1.fr f, r.2⟩
def R3 (h : H) (x : Ins) (vl vm vv : AV) : Prop := Row h vl x.l.length 1 (ic x.l) ∧ Row h vm x.m.length 1 (ic x.m) ∧ Row h vv x.live.length 1 (ic x.live)
theorem R3.fr {h h' : H} {x : Ins} {vl vm vv : AV} (f : Fr [] h h') (r : R3 h x vl vm vv) : R3 h' x vl vm vv := ⟨r.1.fr f, r.2.1.fr f, r.2.2.fr f⟩
theorem chunkU {b : Bool} {u : List UInt8} {h : H} {K : AV → H → Prop} : (whenA (.bool b) false (fun K => K (.str u) h) h fun t19 h => whenA (.bool b) false (fun K => valA (binOp .eql .num t19 (.str [])) h K) h fun t20 h => valA (pickA (.bool b) (.bool true) t20) h K) = K (.bool (b || decide (u = []))) h := by
  cases b <;> simp only [go_sem, reduceIte, Nat.reduceAdd, Nat.reduceSub, Nat.reduceMul, Nat.reducePow, Nat.reduceLT, Nat.reduceLeDiff, Nat.reduceEqDiff, Int.reduceAdd, Int.reduceSub, Int.reduceMul, Int.reduceNeg, Int.reducePow, Int.reduceLT, Int.reduceLE, Int.reduceEq, Int.reduceNe, Int.reduceToNat, Int.toNat_natCast, Nat.zero_add, Nat.add_zero, Nat.mul_one, Nat.one_mul, Bool.not_true, Bool.not_false, ne_eq, not_true_eq_false, not_false_eq_true, Bool.false_eq_true, Bool.true_or, Bool.false_or]
theorem eachIn : EachR rb B 130 9 (instrR B) relIn := by
  intro h vB s r K hK
  refine run130 ?_
  unfold sh130
  refine box_r rfl fun d hd => ?_
  have hdr := r.ne hd
  have q1 := r.box hd (cs := insC (insZ 0) .nilsl .nilsl .nilsl) (e := 55)
  change C 42 _ (h.set d (.live (insC (insZ 0) .nilsl .nilsl .nilsl) 55 true)) _
  generalize h.set d (.live (insC (insZ 0) .nilsl .nilsl .nilsl) 55 true) = h1 at *
  refine rnum_c q1.r fun h2 f2 r2 => ?_
  refine (q1.call hdr f2 r2).st r (cs' := insC (insZ (longR B s).1) .nilsl .nilsl .nilsl) rfl (by simp [insC]) rfl rfl fun h3 g3 q3 => ?_
  have hop := (longR_facts B s r.pos).1
  unfold instrR at hK
  simp only at hK
  generalize longR B s = a at *
  obtain ⟨op, s3⟩ := a
  simp only at q3 hK hop ⊢
  refine fld_r (v := .int .i64 op) (by rw [q3.cell]; rfl) ?_
  rw [uses_c, nilcA_p, valA_some]
  refine fld_r (q3.r.cell 2) ?_
  show whenA (.bool s3.bad) _ _ _ _
  rw [chunkU]
  have hu := usesN_len op
  have hrb : reachBytes ≤ 4611686018427387903 := by decide
  generalize usesN op = u at *
  have hlen := q3.r.len
  have st := st_val q3.r.g (off := 2) (v := .bool (s3.bad || decide (u = []))) (by simp) rfl rfl
  rw [valA_some, faA_p, valA_some, Nat.zero_add, st, memA_some]
  obtain ⟨r4, f4⟩ := q3.r.put ⟨s3.pos, s3.bad || decide (u = [])⟩ q3.r.pos (cs := [vB, AV.int .i64 s3.pos, .bool s3.bad].set 2 (.bool (s3.bad || decide (u = [])))) rfl
  have q4 := q3.call hdr f4 r4
  generalize h3.set rb _ = h4 at *
  refine join_r (fun (J : H → Prop) => ∀ h5 x s5 vl vm vv, RdD h h1 h5 rb d vB B s5 (insC x vl vm vv) 55 → R3 (H.new h1 h5) x vl vm vv → x.ok → u.foldl (fldR B) (insZ op, ⟨s3.pos, s3.bad || decide (u = [])⟩) = (x, s5) → J h5) ?_ fun J hJ => ?_
  · intro h5 x s5 vl vm vv q5 r3 ok e5
    refine q5.done r rfl (by simp only [insC, leaves, r3.1.one.1, r3.2.1.one.1, r3.2.2.one.1]; rfl) fun h6 g6 q6 => ?_
    have r3 := r3.fr ((q6.val0 g6).trans q6.fin)
    rw [e5] at hK
    exact hK h6 (insC x vl vm vv) q6.f q6.r ⟨⟨vl, vm, vv, rfl, r3.1, r3.2.1, r3.2.2⟩, ok⟩ rfl
  refine s2b_r fun m hmm => ?_
  have fm : Fr [] h4 (h4.set m (.live (u.map fun c => AV.int .u8 c.toNat) 5 true)) := (Fr.refl _ _).set' hmm
  have gm : (h4.set m (.live (u.map fun c => AV.int .u8 c.toNat) 5 true)).get m = some (.live (u.map fun c => AV.int .u8 c.toNat) 5 true) := H.get_same ..
  have hm1 : m ≠ rb := fun e => by rw [e, r4.g] at hmm; cases hmm
  have hm2 : m ≠ d := fun e => by rw [e, q4.gd] at hmm; cases hmm
  have q5 := q4.call hdr fm.more (q4.r.keep fm)
  generalize h4.set m (.live (u.map fun c => AV.int .u8 c.toNat) 5 true) = h5 at *
  have rowm : ∀ {h4 : H}, h4.get m = some (.live (u.map fun c => AV.int .u8 c.toNat) 5 true) → Row h4 (.sl m 0 u.length (.more 1)) u.length 1 (u.map fun c => AV.int .u8 c.toNat) := fun q =>
    ⟨by simp, .inr ⟨m, 0, _, rfl, rfl, H.read_eq q (by simp) (by rw [List.drop_zero, List.take_of_length_le (by simp)])⟩⟩
  rw [(rowm gm).len, valA_some]
  have take_succ : ∀ (i : Nat) (c : UInt8), u[i]? = some c → u.take (i + 1) = u.take i ++ [c] := fun i c hc => by
    rw [List.take_add_one, hc]; rfl
  have hlr : ∀ s, (RS.pos s ≤ B.length) → rg (longR B s).1 := fun s hs => (longR_facts B s hs).1
  refine loop_r (u.length + 1) (fun k ls h5 => ∃ (i : Nat) (x : Ins) (s5 : RS) (vl vm vv : AV), ls = [.int .i64 i] ∧ i ≤ u.length ∧ RdD h h1 h5 rb d vB B s5 (insC x vl vm vv) 55 ∧ R3 (H.new h1 h5) x vl vm vv ∧ x.ok ∧ (u.take i).foldl (fldR B) (insZ op, ⟨s3.pos, s3.bad || decide (u = [])⟩) = (x, s5) ∧
      h5.get m = some (.live (u.map fun c => AV.int .u8 c.toNat) 5 true) ∧ k = u.length + 1 - i)
    ⟨0, _, _, _, _, _, rfl, by omega, q5, ⟨Row.nil _ _, Row.nil _ _, Row.nil _ _⟩, ⟨⟨hop, rg0, rg0, rg0, rg0, rg0⟩, ⟨by simp [insZ], by simp [insZ]⟩, ⟨by simp [insZ], by simp [insZ]⟩, ⟨by simp [insZ], by simp [insZ]⟩⟩, rfl, gm, rfl⟩ ?_
  rintro k ls h5 ⟨i, x, s5, vl, vm, vv, rfl, hi, q5, r3, ok, e5, gm, rfl⟩
  by_cases q : (i : Int) < u.length
  · have hi' : i < u.length := by omega
    obtain ⟨c, hc⟩ : ∃ c, u[i]? = some c := ⟨u[i], by simp [hi']⟩
    obtain ⟨bo, oo, m1, m2⟩ := (rowm gm).at (i := i) (x := .int .u8 c.toNat) (by omega) q (by rw [Int.toNat_natCast, List.getElem?_map, hc]; rfl)
    have en : IntKind.i64.wrap ((i : Int) + 1) = ((i + 1 : Nat) : Int) := by rw [i64_id (by omega) (by omega)]; rfl
    have done : ∀ h6 x' s' vl' vm' vv', Fr [rb, d] h5 h6 → RdD h h1 h6 rb d vB B s' (insC x' vl' vm' vv') 55 → R3 (H.new h1 h6) x' vl' vm' vv' → x'.ok → fldR B (x, s5) c = (x', s') → ∃ n', n' < u.length + 1 - i ∧
        ∃ (i' : Nat) (x : Ins) (s5 : RS) (vl vm vv : AV), [AV.int .i64 ((i + 1 : Nat) : Int)] = [.int .i64 i'] ∧ i' ≤ u.length ∧ RdD h h1 h6 rb d vB B s5 (insC x vl vm vv) 55 ∧ R3 (H.new h1 h6) x vl vm vv ∧ x.ok ∧ (u.take i').foldl (fldR B) (insZ op, ⟨s3.pos, s3.bad || decide (u = [])⟩) = (x, s5) ∧
      h6.get m = some (.live (u.map fun c => AV.int .u8 c.toNat) 5 true) ∧ n' = u.length + 1 - i' := fun h6 x' s' vl' vm' vv' g q6 r3 ok e =>
      ⟨u.length + 1 - (i + 1), by omega, i + 1, x', s', vl', vm', vv', rfl, by omega, q6, r3, ok, by rw [take_succ i c hc, List.foldl_append, e5]; exact e, g m _ (by simp [hm1, hm2]) gm, rfl⟩
    have fn : ∀ k : UInt8, ¬ c = k → ¬ ((c.toNat : Nat) : Int) = (k.toNat : Nat) := fun k e q => e (UInt8.toNat_inj.1 (by omega))
    have hu : insC x vl vm vv = [.int .i64 x.op, .int .i64 x.d, .int .i64 x.a, .int .i64 x.b, .int .i64 x.c, .int .i64 x.n, vl, vm, vv] := rfl
    obtain ⟨⟨o1, o2, o3, o4, o5, o6⟩, o7, o8, o9⟩ := ok
    have hn := hlr s5 q5.r.pos
    by_cases c0 : c = 78
    · subst c0
      have t : ((UInt8.toNat 78 : Nat) : Int) = 78 := rfl
      simp only [joinA, go_sem, reduceIte, Nat.reduceAdd, Nat.reduceSub, Nat.reduceMul, Nat.reducePow, Nat.reduceLT, Nat.reduceLeDiff, Nat.reduceEqDiff, Int.reduceAdd, Int.reduceSub, Int.reduceMul, Int.reduceNeg, Int.reducePow, Int.reduceLT, Int.reduceLE, Int.reduceEq, Int.reduceNe, Int.reduceToNat, Int.toNat_natCast, Nat.zero_add, Nat.add_zero, Nat.mul_one, Nat.one_mul, Bool.not_true, Bool.not_false, ne_eq, not_true_eq_false, not_false_eq_true, Bool.false_eq_true, q, m1, m2, t]
      refine long_c q5.r fun h6 f6 r6 => ?_
      have q6 := q5.call hdr f6 r6
      have st := st_val q6.gd (off := 5) (v := .int .i64 (longR B s5).1) (by simp [insC]) rfl rfl
      simp only [go_sem, reduceIte, Nat.reduceAdd, Nat.reduceSub, Nat.reduceMul, Nat.reducePow, Nat.reduceLT, Nat.reduceLeDiff, Nat.reduceEqDiff, Int.reduceAdd, Int.reduceSub, Int.reduceMul, Int.reduceNeg, Int.reducePow, Int.reduceLT, Int.reduceLE, Int.reduceEq, Int.reduceNe, Int.reduceToNat, Int.toNat_natCast, Nat.zero_add, Nat.add_zero, Nat.mul_one, Nat.one_mul, Bool.not_true, Bool.not_false, ne_eq, not_true_eq_false, not_false_eq_true, Bool.false_eq_true, st, en]
      have q7 := q6.put r (cs'' := (insC x vl vm vv).set 5 (.int .i64 (longR B s5).1)) (cs' := insC { x with n := (longR B s5).1 } vl vm vv) rfl
      have g7 : Fr [rb, d] h6 (h6.set d (.live ((insC x vl vm vv).set 5 (.int .i64 (longR B s5).1)) 55 true)) := Fr.put (by simp)
      exact done _ { x with n := (longR B s5).1 } (longR B s5).2 vl vm vv (f6.rd.trans g7) q7 (r3.fr (q7.val0 (f6.rd.trans g7))) ⟨⟨o1, o2, o3, o4, o5, hn⟩, o7, o8, o9⟩ (by rfl)
    have n0 : ¬ ((c.toNat : Nat) : Int) = 78 := fn 78 c0
    by_cases c1 : c = 68
    · subst c1
      have t : ((UInt8.toNat 68 : Nat) : Int) = 68 := rfl
      have tn : numAt 68 = some 1 := rfl
      simp only [joinA, go_sem, reduceIte, Nat.reduceAdd, Nat.reduceSub, Nat.reduceMul, Nat.reducePow, Nat.reduceLT, Nat.reduceLeDiff, Nat.reduceEqDiff, Int.reduceAdd, Int.reduceSub, Int.reduceMul, Int.reduceNeg, Int.reducePow, Int.reduceLT, Int.reduceLE, Int.reduceEq, Int.reduceNe, Int.reduceToNat, Int.toNat_natCast, Nat.zero_add, Nat.add_zero, Nat.mul_one, Nat.one_mul, Bool.not_true, Bool.not_false, ne_eq, not_true_eq_false, not_false_eq_true, Bool.false_eq_true, q, m1, m2, t, number_c, tn]
      refine rnum_c q5.r fun h6 f6 r6 => ?_
      have q6 := q5.call hdr f6 r6
      have st := st_val q6.gd (off := 1) (v := .int .i64 (longR B s5).1) (by simp [insC]) rfl rfl
      simp only [go_sem, reduceIte, Nat.reduceAdd, Nat.reduceSub, Nat.reduceMul, Nat.reducePow, Nat.reduceLT, Nat.reduceLeDiff, Nat.reduceEqDiff, Int.reduceAdd, Int.reduceSub, Int.reduceMul, Int.reduceNeg, Int.reducePow, Int.reduceLT, Int.reduceLE, Int.reduceEq, Int.reduceNe, Int.reduceToNat, Int.toNat_natCast, Nat.zero_add, Nat.add_zero, Nat.mul_one, Nat.one_mul, Bool.not_true, Bool.not_false, ne_eq, not_true_eq_false, not_false_eq_true, Bool.false_eq_true, st, en]
      have q7 := q6.put r (cs'' := (insC x vl vm vv).set 1 (.int .i64 (longR B s5).1)) (cs' := insC { x with d := (longR B s5).1 } vl vm vv) rfl
      have g7 : Fr [rb, d] h6 (h6.set d (.live ((insC x vl vm vv).set 1 (.int .i64 (longR B s5).1)) 55 true)) := Fr.put (by simp)
      exact done _ { x with d := (longR B s5).1 } (longR B s5).2 vl vm vv (f6.rd.trans g7) q7 (r3.fr (q7.val0 (f6.rd.trans g7))) ⟨⟨o1, hn, o3, o4, o5, o6⟩, o7, o8, o9⟩ (by rfl)
    have n1 : ¬ ((c.toNat : Nat) : Int) = 68 := fn 68 c1
    by_cases c2 : c = 65
    · subst c2
      have t : ((UInt8.toNat 65 : Nat) : Int) = 65 := rfl
      have tn : numAt 65 = some 2 := rfl
      simp only [joinA, go_sem, reduceIte, Nat.reduceAdd, Nat.reduceSub, Nat.reduceMul, Nat.reducePow, Nat.reduceLT, Nat.reduceLeDiff, Nat.reduceEqDiff, Int.reduceAdd, Int.reduceSub, Int.reduceMul, Int.reduceNeg, Int.reducePow, Int.reduceLT, Int.reduceLE, Int.reduceEq, Int.reduceNe, Int.reduceToNat, Int.toNat_natCast, Nat.zero_add, Nat.add_zero, Nat.mul_one, Nat.one_mul, Bool.not_true, Bool.not_false, ne_eq, not_true_eq_false, not_false_eq_true, Bool.false_eq_true, q, m1, m2, t, number_c, tn]
      refine rnum_c q5.r fun h6 f6 r6 => ?_
      have q6 := q5.call hdr f6 r6
      have st := st_val q6.gd (off := 2) (v := .int .i64 (longR B s5).1) (by simp [insC]) rfl rfl
      simp only [go_sem, reduceIte, Nat.reduceAdd, Nat.reduceSub, Nat.reduceMul, Nat.reducePow, Nat.reduceLT, Nat.reduceLeDiff, Nat.reduceEqDiff, Int.reduceAdd, Int.reduceSub, Int.reduceMul, Int.reduceNeg, Int.reducePow, Int.reduceLT, Int.reduceLE, Int.reduceEq, Int.reduceNe, Int.reduceToNat, Int.toNat_natCast, Nat.zero_add, Nat.add_zero, Nat.mul_one, Nat.one_mul, Bool.not_true, Bool.not_false, ne_eq, not_true_eq_false, not_false_eq_true, Bool.false_eq_true, st, en]
      have q7 := q6.put r (cs'' := (insC x vl vm vv).set 2 (.int .i64 (longR B s5).1)) (cs' := insC { x with a := (longR B s5).1 } vl vm vv) rfl
      have g7 : Fr [rb, d] h6 (h6.set d (.live ((insC x vl vm vv).set 2 (.int .i64 (longR B s5).1)) 55 true)) := Fr.put (by simp)
      exact done _ { x with a := (longR B s5).1 } (longR B s5).2 vl vm vv (f6.rd.trans g7) q7 (r3.fr (q7.val0 (f6.rd.trans g7))) ⟨⟨o1, o2, hn, o4, o5, o6⟩, o7, o8, o9⟩ (by rfl)
    have n2 : ¬ ((c.toNat : Nat) : Int) = 65 := fn 65 c2
    by_cases c3 : c = 66
    · subst c3
      have t : ((UInt8.toNat 66 : Nat) : Int) = 66 := rfl
      have tn : numAt 66 = some 3 := rfl
      simp only [joinA, go_sem, reduceIte, Nat.reduceAdd, Nat.reduceSub, Nat.reduceMul, Nat.reducePow, Nat.reduceLT, Nat.reduceLeDiff, Nat.reduceEqDiff, Int.reduceAdd, Int.reduceSub, Int.reduceMul, Int.reduceNeg, Int.reducePow, Int.reduceLT, Int.reduceLE, Int.reduceEq, Int.reduceNe, Int.reduceToNat, Int.toNat_natCast, Nat.zero_add, Nat.add_zero, Nat.mul_one, Nat.one_mul, Bool.not_true, Bool.not_false, ne_eq, not_true_eq_false, not_false_eq_true, Bool.false_eq_true, q, m1, m2, t, number_c, tn]
      refine rnum_c q5.r fun h6 f6 r6 => ?_
      have q6 := q5.call hdr f6 r6
      have st := st_val q6.gd (off := 3) (v := .int .i64 (longR B s5).1) (by simp [insC]) rfl rfl
      simp only [go_sem, reduceIte, Nat.reduceAdd, Nat.reduceSub, Nat.reduceMul, Nat.reducePow, Nat.reduceLT, Nat.reduceLeDiff, Nat.reduceEqDiff, Int.reduceAdd, Int.reduceSub, Int.reduceMul, Int.reduceNeg, Int.reducePow, Int.reduceLT, Int.reduceLE, Int.reduceEq, Int.reduceNe, Int.reduceToNat, Int.toNat_natCast, Nat.zero_add, Nat.add_zero, Nat.mul_one, Nat.one_mul, Bool.not_true, Bool.not_false, ne_eq, not_true_eq_false, not_false_eq_true, Bool.false_eq_true, st, en]
      have q7 := q6.put r (cs'' := (insC x vl vm vv).set 3 (.int .i64 (longR B s5).1)) (cs' := insC { x with b := (longR B s5).1 } vl vm vv) rfl
      have g7 : Fr [rb, d] h6 (h6.set d (.live ((insC x vl vm vv).set 3 (.int .i64 (longR B s5).1)) 55 true)) := Fr.put (by simp)
      exact done _ { x with b := (longR B s5).1 } (longR B s5).2 vl vm vv (f6.rd.trans g7) q7 (r3.fr (q7.val0 (f6.rd.trans g7))) ⟨⟨o1, o2, o3, hn, o5, o6⟩, o7, o8, o9⟩ (by rfl)
    have n3 : ¬ ((c.toNat : Nat) : Int) = 66 := fn 66 c3
    by_cases c4 : c = 67
    · subst c4
      have t : ((UInt8.toNat 67 : Nat) : Int) = 67 := rfl
      have tn : numAt 67 = some 4 := rfl
      simp only [joinA, go_sem, reduceIte, Nat.reduceAdd, Nat.reduceSub, Nat.reduceMul, Nat.reducePow, Nat.reduceLT, Nat.reduceLeDiff, Nat.reduceEqDiff, Int.reduceAdd, Int.reduceSub, Int.reduceMul, Int.reduceNeg, Int.reducePow, Int.reduceLT, Int.reduceLE, Int.reduceEq, Int.reduceNe, Int.reduceToNat, Int.toNat_natCast, Nat.zero_add, Nat.add_zero, Nat.mul_one, Nat.one_mul, Bool.not_true, Bool.not_false, ne_eq, not_true_eq_false, not_false_eq_true, Bool.false_eq_true, q, m1, m2, t, number_c, tn]
      refine rnum_c q5.r fun h6 f6 r6 => ?_
      have q6 := q5.call hdr f6 r6
      have st := st_val q6.gd (off := 4) (v := .int .i64 (longR B s5).1) (by simp [insC]) rfl rfl
      simp only [go_sem, reduceIte, Nat.reduceAdd, Nat.reduceSub, Nat.reduceMul, Nat.reducePow, Nat.reduceLT, Nat.reduceLeDiff, Nat.reduceEqDiff, Int.reduceAdd, Int.reduceSub, Int.reduceMul, Int.reduceNeg, Int.reducePow, Int.reduceLT, Int.reduceLE, Int.reduceEq, Int.reduceNe, Int.reduceToNat, Int.toNat_natCast, Nat.zero_add, Nat.add_zero, Nat.mul_one, Nat.one_mul, Bool.not_true, Bool.not_false, ne_eq, not_true_eq_false, not_false_eq_true, Bool.false_eq_true, st, en]
      have q7 := q6.put r (cs'' := (insC x vl vm vv).set 4 (.int .i64 (longR B s5).1)) (cs' := insC { x with c := (longR B s5).1 } vl vm vv) rfl
      have g7 : Fr [rb, d] h6 (h6.set d (.live ((insC x vl vm vv).set 4 (.int .i64 (longR B s5).1)) 55 true)) := Fr.put (by simp)
      exact done _ { x with c := (longR B s5).1 } (longR B s5).2 vl vm vv (f6.rd.trans g7) q7 (r3.fr (q7.val0 (f6.rd.trans g7))) ⟨⟨o1, o2, o3, o4, hn, o6⟩, o7, o8, o9⟩ (by rfl)
    have n4 : ¬ ((c.toNat : Nat) : Int) = 67 := fn 67 c4
    by_cases c5 : c = 76
    · subst c5
      have t : ((UInt8.toNat 76 : Nat) : Int) = 76 := rfl
      have tn : numAt 76 = none := rfl
      have tl : listAt 76 = 6 := rfl
      simp only [joinA, go_sem, reduceIte, Nat.reduceAdd, Nat.reduceSub, Nat.reduceMul, Nat.reducePow, Nat.reduceLT, Nat.reduceLeDiff, Nat.reduceEqDiff, Int.reduceAdd, Int.reduceSub, Int.reduceMul, Int.reduceNeg, Int.reducePow, Int.reduceLT, Int.reduceLE, Int.reduceEq, Int.reduceNe, Int.reduceToNat, Int.toNat_natCast, Nat.zero_add, Nat.add_zero, Nat.mul_one, Nat.one_mul, Bool.not_true, Bool.not_false, ne_eq, not_true_eq_false, not_false_eq_true, Bool.false_eq_true, q, m1, m2, t, number_c, tn, list_c, tl]
      refine rnums_c q5.r fun v h6 f6 r6 rv okl => ?_
      have q6 := q5.call hdr f6 r6
      have st := st_val q6.gd (off := 6) (v := v) (by simp [insC]) rv.one.1 rv.one.2
      simp only [go_sem, reduceIte, Nat.reduceAdd, Nat.reduceSub, Nat.reduceMul, Nat.reducePow, Nat.reduceLT, Nat.reduceLeDiff, Nat.reduceEqDiff, Int.reduceAdd, Int.reduceSub, Int.reduceMul, Int.reduceNeg, Int.reducePow, Int.reduceLT, Int.reduceLE, Int.reduceEq, Int.reduceNe, Int.reduceToNat, Int.toNat_natCast, Nat.zero_add, Nat.add_zero, Nat.mul_one, Nat.one_mul, Bool.not_true, Bool.not_false, ne_eq, not_true_eq_false, not_false_eq_true, Bool.false_eq_true, st, en]
      have q7 := q6.put r (cs'' := (insC x vl vm vv).set 6 v) (cs' := insC { x with l := (numsR B s5).1 } v vm vv) rfl
      have g7 : Fr [rb, d] h6 (h6.set d (.live ((insC x vl vm vv).set 6 v) 55 true)) := Fr.put (by simp)
      have r3' := r3.fr (q7.val0 (f6.rd.trans g7))
      exact done _ { x with l := (numsR B s5).1 } (numsR B s5).2 v vm vv (f6.rd.trans g7) q7 ⟨rv.fr (q5.val g7), r3'.2.1, r3'.2.2⟩ ⟨⟨o1, o2, o3, o4, o5, o6⟩, okl, o8, o9⟩ (by rfl)
    have n5 : ¬ ((c.toNat : Nat) : Int) = 76 := fn 76 c5
    by_cases c6 : c = 77
    · subst c6
      have t : ((UInt8.toNat 77 : Nat) : Int) = 77 := rfl
      have tn : numAt 77 = none := rfl
      have tl : listAt 77 = 7 := rfl
      simp only [joinA, go_sem, reduceIte, Nat.reduceAdd, Nat.reduceSub, Nat.reduceMul, Nat.reducePow, Nat.reduceLT, Nat.reduceLeDiff, Nat.reduceEqDiff, Int.reduceAdd, Int.reduceSub, Int.reduceMul, Int.reduceNeg, Int.reducePow, Int.reduceLT, Int.reduceLE, Int.reduceEq, Int.reduceNe, Int.reduceToNat, Int.toNat_natCast, Nat.zero_add, Nat.add_zero, Nat.mul_one, Nat.one_mul, Bool.not_true, Bool.not_false, ne_eq, not_true_eq_false, not_false_eq_true, Bool.false_eq_true, q, m1, m2, t, number_c, tn, list_c, tl]
      refine rnums_c q5.r fun v h6 f6 r6 rv okl => ?_
      have q6 := q5.call hdr f6 r6
      have st := st_val q6.gd (off := 7) (v := v) (by simp [insC]) rv.one.1 rv.one.2
      simp only [go_sem, reduceIte, Nat.reduceAdd, Nat.reduceSub, Nat.reduceMul, Nat.reducePow, Nat.reduceLT, Nat.reduceLeDiff, Nat.reduceEqDiff, Int.reduceAdd, Int.reduceSub, Int.reduceMul, Int.reduceNeg, Int.reducePow, Int.reduceLT, Int.reduceLE, Int.reduceEq, Int.reduceNe, Int.reduceToNat, Int.toNat_natCast, Nat.zero_add, Nat.add_zero, Nat.mul_one, Nat.one_mul, Bool.not_true, Bool.not_false, ne_eq, not_true_eq_false, not_false_eq_true, Bool.false_eq_true, st, en]
      have q7 := q6.put r (cs'' := (insC x vl vm vv).set 7 v) (cs' := insC { x with m := (numsR B s5).1 } vl v vv) rfl
      have g7 : Fr [rb, d] h6 (h6.set d (.live ((insC x vl vm vv).set 7 v) 55 true)) := Fr.put (by simp)
      have r3' := r3.fr (q7.val0 (f6.rd.trans g7))
      exact done _ { x with m := (numsR B s5).1 } (numsR B s5).2 vl v vv (f6.rd.trans g7) q7 ⟨r3'.1, rv.fr (q5.val g7), r3'.2.2⟩ ⟨⟨o1, o2, o3, o4, o5, o6⟩, o7, okl, o9⟩ (by rfl)
    have n6 : ¬ ((c.toNat : Nat) : Int) = 77 := fn 77 c6
    have tn : numAt ((c.toNat : Nat) : Int) = none := by unfold numAt; rw [if_neg n1, if_neg n2, if_neg n3, if_neg n4]
    have tl : listAt ((c.toNat : Nat) : Int) = 8 := by unfold listAt; rw [if_neg n5, if_neg n6]
    simp only [joinA, go_sem, reduceIte, Nat.reduceAdd, Nat.reduceSub, Nat.reduceMul, Nat.reducePow, Nat.reduceLT, Nat.reduceLeDiff, Nat.reduceEqDiff, Int.reduceAdd, Int.reduceSub, Int.reduceMul, Int.reduceNeg, Int.reducePow, Int.reduceLT, Int.reduceLE, Int.reduceEq, Int.reduceNe, Int.reduceToNat, Int.toNat_natCast, Nat.zero_add, Nat.add_zero, Nat.mul_one, Nat.one_mul, Bool.not_true, Bool.not_false, ne_eq, not_true_eq_false, not_false_eq_true, Bool.false_eq_true, q, m1, m2, n0, number_c, tn, list_c, tl]
    refine rnums_c q5.r fun v h6 f6 r6 rv okl => ?_
    have q6 := q5.call hdr f6 r6
    have st := st_val q6.gd (off := 8) (v := v) (by simp [insC]) rv.one.1 rv.one.2
    simp only [go_sem, reduceIte, Nat.reduceAdd, Nat.reduceSub, Nat.reduceMul, Nat.reducePow, Nat.reduceLT, Nat.reduceLeDiff, Nat.reduceEqDiff, Int.reduceAdd, Int.reduceSub, Int.reduceMul, Int.reduceNeg, Int.reducePow, Int.reduceLT, Int.reduceLE, Int.reduceEq, Int.reduceNe, Int.reduceToNat, Int.toNat_natCast, Nat.zero_add, Nat.add_zero, Nat.mul_one, Nat.one_mul, Bool.not_true, Bool.not_false, ne_eq, not_true_eq_false, not_false_eq_true, Bool.false_eq_true, st, en]
    have q7 := q6.put r (cs'' := (insC x vl vm vv).set 8 v) (cs' := insC { x with live := (numsR B s5).1 } vl vm v) rfl
    have g7 : Fr [rb, d] h6 (h6.set d (.live ((insC x vl vm vv).set 8 v) 55 true)) := Fr.put (by simp)
    have r3' := r3.fr (q7.val0 (f6.rd.trans g7))
    refine done _ { x with live := (numsR B s5).1 } (numsR B s5).2 vl vm v (f6.rd.trans g7) q7 ⟨r3'.1, r3'.2.1, rv.fr (q5.val g7)⟩ ⟨⟨o1, o2, o3, o4, o5, o6⟩, o7, o8, okl⟩ ?_
    unfold fldR
    rw [if_neg c0, if_neg c1, if_neg c2, if_neg c3, if_neg c4, if_neg c5, if_neg c6]
  · have : u.take i = u := List.take_of_length_le (by omega)
    rw [this] at e5
    simp only [go_sem, reduceIte, Nat.reduceAdd, Nat.reduceSub, Nat.reduceMul, Nat.reducePow, Nat.reduceLT, Nat.reduceLeDiff, Nat.reduceEqDiff, Int.reduceAdd, Int.reduceSub, Int.reduceMul, Int.reduceNeg, Int.reducePow, Int.reduceLT, Int.reduceLE, Int.reduceEq, Int.reduceNe, Int.reduceToNat, Int.toNat_natCast, Nat.zero_add, Nat.add_zero, Nat.mul_one, Nat.one_mul, Bool.not_true, Bool.not_false, ne_eq, not_true_eq_false, not_false_eq_true, Bool.false_eq_true, q]
    exact hJ h5 x s5 vl vm vv q5 r3 ok e5
theorem eachBl : EachR rb B 85 2 (blockR B) relBl := by
  intro h vB s r K hK
  refine run85 ?_
  unfold sh85
  refine box_r rfl fun d hd => ?_
  have hdr := r.ne hd
  have q1 := r.box hd (cs := [.nilsl, .nilsl]) (e := 42)
  generalize h.set d (.live [.nilsl, .nilsl] 42 true) = h1 at *
  refine rnums_c q1.r fun v h2 f2 r2 rv ok => ?_
  refine (q1.call hdr f2 r2).st r (cs' := [v, .nilsl]) rfl (by simp) rv.one.1 rv.one.2 fun h3 g3 q3 => ?_
  refine someIns_c q3.r (dec := instrR B) (Rel := relIn) relIn_mono (fun r => r.1.leaves) eachIn fun w h4 f4 r4 rw_ => ?_
  have hl := someR_len (B := B) (dec := instrR B) q3.r.pos
  have hlen := r.len
  have : 4294967296 ≤ reachBytes := by decide
  refine (q3.call hdr f4 r4).st r (cs' := [v, w]) rfl (by simp) rw_.one.1 rw_.one.2 fun h5 g5 q5 => ?_
  refine q5.done r rfl (by simp only [leaves, rv.one.1, rw_.one.1]; rfl) fun h6 g6 q6 => ?_
  have g4 : Fr [rb, d] h4 h6 := g5.trans g6
  have g2 : Fr [rb, d] h2 h6 := (g3.trans f4.rd).trans g4
  have F4 := (q3.val g4).trans q6.fin
  refine hK h6 [v, w] q6.f q6.r ⟨⟨v, w, rfl, rv.fr ((q1.val g2).trans q6.fin), rw_.mono F4 fun _ _ _ r => r.1.fr F4⟩, ok, by show (someR B (instrR B) _).1.length ≤ _; omega, ?_⟩ rfl
  intro x hx
  exact (rw_.all hx)
theorem eachFn : EachR rb B 41 4 (functionR B) relFn := by
  intro h vB s r K hK
  refine run41 ?_
  unfold sh41
  refine box_r rfl fun d hd => ?_
  have hdr := r.ne hd
  have q1 := r.box hd (cs := [.nilsl, .int .i64 0, .int .i64 0, .nilsl]) (e := 39)
  generalize h.set d (.live [.nilsl, .int .i64 0, .int .i64 0, .nilsl] 39 true) = h1 at *
  refine rnums_c q1.r fun v h2 f2 r2 rv ok => ?_
  refine (q1.call hdr f2 r2).st r (cs' := [v, .int .i64 0, .int .i64 0, .nilsl]) rfl (by simp) rv.one.1 rv.one.2 fun h3 g3 q3 => ?_
  have w1 := longR_facts B _ q3.r.pos
  refine rnum_c q3.r fun h4 f4 r4 => ?_
  refine (q3.call hdr f4 r4).st r (cs' := [v, .int .i64 (longR B (numsR B s).2).1, .int .i64 0, .nilsl]) rfl (by simp) rfl rfl fun h5 g5 q5 => ?_
  have w2 := longR_facts B _ q5.r.pos
  refine rnum_c q5.r fun h6 f6 r6 => ?_
  refine (q5.call hdr f6 r6).st r (cs' := [v, .int .i64 (longR B (numsR B s).2).1, .int .i64 (longR B (longR B (numsR B s).2).2).1, .nilsl]) rfl (by simp) rfl rfl fun h7 g7 q7 => ?_
  refine someBlk_c q7.r (dec := blockR B) (Rel := relBl) relBl_mono (fun r => r.1.leaves) eachBl fun w h8 f8 r8 rw_ => ?_
  have hl := someR_len (B := B) (dec := blockR B) q7.r.pos
  have hlen := r.len
  have : 4294967296 ≤ reachBytes := by decide
  refine (q7.call hdr f8 r8).st r (cs' := [v, .int .i64 (longR B (numsR B s).2).1, .int .i64 (longR B (longR B (numsR B s).2).2).1, w]) rfl (by simp) rw_.one.1 rw_.one.2 fun h9 g9 q9 => ?_
  refine q9.done r rfl (by simp only [leaves, rv.one.1, rw_.one.1]; rfl) fun ha ga qa => ?_
  have g8 : Fr [rb, d] h8 ha := g9.trans ga
  have g2 : Fr [rb, d] h2 ha := (((((g3.trans f4.rd).trans g5).trans f6.rd).trans g7).trans f8.rd).trans g8
  have F8 := (q7.val g8).trans qa.fin
  refine hK ha [v, .int .i64 (longR B (numsR B s).2).1, .int .i64 (longR B (longR B (numsR B s).2).2).1, w] qa.f qa.r ⟨⟨v, w, rfl, rv.fr ((q1.val g2).trans qa.fin), rw_.mono F8 fun _ _ _ r => r.1.fr F8⟩, ok, w1.1, w2.1, by show (someR B (blockR B) _).1.length ≤ _; omega, ?_⟩ rfl
  intro x hx
  exact (rw_.all hx)
end
end Go.Proofs.YtdljelicbnjfjaaGreat.X
set_option linter.unusedVariables false
set_option linter.unusedSimpArgs false
set_option maxRecDepth 20000
namespace Go.Proofs.YtdljelicbnjfjaaGreat.X
open Go Go.RowKit
def imgZ : Img := ⟨[], [], [], [], [], 0, 0⟩
def noHead (B : List Nat) : Bool := decide ((B.length : Int) < 4) || decide ((B.take 4).map UInt8.ofNat ≠ [66, 69, 76, 49])
def imageR (B : List Nat) : Img × RS :=
  let a := someR B (kindR B) ⟨4, false⟩
  let b := someR B (shapeR B) a.2
  let c := someR B (textR B) b.2
  let d := someR B (textR B) c.2
  let e := someR B (functionR B) d.2
  let f := longR B e.2
  let g := longR B f.2
  (⟨a.1, b.1, c.1, d.1, e.1, f.1, g.1⟩, g.2)
def badEnd (B : List Nat) (r : Img × RS) : Bool := (r.2.bad || decide ((r.2.pos : Int) ≠ B.length)) || decide (checkN r.1 ≠ 0)
def decodeN (B : List Nat) : Img × Int := if noHead B then (imgZ, 20) else if badEnd B (imageR B) then (imgZ, 20) else ((imageR B).1, 0)
theorem imgZ_r (h : H) : imgR h imgZ [.nilsl, .nilsl, .nilsl, .nilsl, .nilsl, .int .i64 0, .int .i64 0] := ⟨_, _, _, _, _, rfl, RowOf.nil .., RowOf.nil .., RowOf.nil .., RowOf.nil .., RowOf.nil ..⟩
theorem imgZ_ok : imgZ.ok := by simp [Img.ok, imgZ, rg0]
theorem chunkH {h : H} {v : AV} {B : List Nat} (r : Row h v B.length 1 (bc B)) {K : AV → H → Prop} :
    (valA (lenA false v) h fun t7 h => valA (binOp .lss .num t7 (.int .i64 4)) h fun t8 h => whenA t8 false (fun K => K v h) h fun t10 h => whenA t8 false (fun K => valA (sliceOp (.row 1) t10 none (some (.int .i64 4)) none) h K) h fun t11 h =>
      whenA t8 false (fun K => valA (b2sA h t11) h K) h fun t12 h => whenA t8 false (fun K => valA (binOp .neq .num t12 (.str [66, 69, 76, 49])) h K) h fun t13 h => valA (pickA t8 (.bool true) t13) h K) = K (.bool (noHead B)) h := by
  unfold noHead
  by_cases c : (B.length : Int) < 4
  · simp only [go_sem, reduceIte, Nat.reduceAdd, Nat.reduceSub, Nat.reduceMul, Nat.reducePow, Nat.reduceLT, Nat.reduceLeDiff, Nat.reduceEqDiff, Int.reduceAdd, Int.reduceSub, Int.reduceMul, Int.reduceNeg, Int.reducePow, Int.reduceLT, Int.reduceLE, Int.reduceEq, Int.reduceNe, Int.reduceToNat, Int.toNat_natCast, Nat.zero_add, Nat.add_zero, Nat.mul_one, Nat.one_mul, Bool.not_true, Bool.not_false, ne_eq, not_true_eq_false, not_false_eq_true, Bool.false_eq_true, r.len, c, decide_true, Bool.true_or]
  · have hs : sliceOp (.row 1) v none (some (.int .i64 4)) none = sliceOp (.row 1) v (some (.int .i64 0)) (some (.int .i64 4)) none := by cases v <;> rfl
    obtain ⟨v', w1, w2⟩ := r.slice (k := .i64) (k' := .i64) (i := 0) (j := 4) (by omega) (by omega) (by omega) (by omega)
    have e : (List.drop ((0 : Int).toNat * 1) (bc B)).take (((4 : Int).toNat - (0 : Int).toNat) * 1) = bc (B.take 4) := by simp [bc, List.map_take]
    rw [e] at w2
    have w2 : Row h v' (B.take 4).length 1 (bc (B.take 4)) := by
      have : (B.take 4).length = (4 : Int).toNat - (0 : Int).toNat := by rw [List.length_take]; omega
      rw [this]; exact w2
    simp only [go_sem, reduceIte, Nat.reduceAdd, Nat.reduceSub, Nat.reduceMul, Nat.reducePow, Nat.reduceLT, Nat.reduceLeDiff, Nat.reduceEqDiff, Int.reduceAdd, Int.reduceSub, Int.reduceMul, Int.reduceNeg, Int.reducePow, Int.reduceLT, Int.reduceLE, Int.reduceEq, Int.reduceNe, Int.reduceToNat, Int.toNat_natCast, Nat.zero_add, Nat.add_zero, Nat.mul_one, Nat.one_mul, Bool.not_true, Bool.not_false, ne_eq, not_true_eq_false, not_false_eq_true, Bool.false_eq_true, r.len, c, hs, w1, w2.b2s, decide_false, Bool.false_or]
theorem RowOf.both {α : Type} {h : H} {esz : Nat} {R : α → List AV → Prop} {P : α → Prop} {v : AV} {l : List α} (r : RowOf h esz (fun x c => R x c ∧ P x) v l) : RowOf h esz R v l ∧ ∀ x ∈ l, P x :=
  ⟨r.mono (Fr.refl _ _) fun _ _ _ q => q.1, fun _ hx => r.all hx⟩
theorem RowOf.up {α : Type} {h h' : H} {esz : Nat} {R : H → α → List AV → Prop} (hmono : ∀ {h h' : H} {x c}, Fr [] h h' → R h x c → R h' x c) {v : AV} {l : List α} (r : RowOf h esz (R h) v l) (f : Fr [] h h') : RowOf h' esz (R h') v l :=
  r.mono f fun _ _ _ q => hmono f q
theorem chunkEnd {b : Bool} {rb : Nat} {v : AV} {h : H} {p n : Nat} (hp : h.cell rb 1 = some (.int .i64 p)) (hn : lenA false v = some (.int .i64 n)) {K : AV → H → Prop} :
    (whenA (.bool b) false (fun K => K (.ptr rb 0) h) h fun t55 h => whenA (.bool b) false (fun K => valA (nilcA t55) h K) h fun t56 h => whenA (.bool b) false (fun K => valA (faA 1 t56) h K) h fun t57 h =>
      whenA (.bool b) false (fun K => valA (ldA h none t57) h K) h fun t58 h => whenA (.bool b) false (fun K => K v h) h fun t59 h => whenA (.bool b) false (fun K => valA (lenA false t59) h K) h fun t60 h =>
      whenA (.bool b) false (fun K => valA (binOp .neq .num t58 t60) h K) h fun t61 h => valA (pickA (.bool b) (.bool true) t61) h K) = K (.bool (b || decide ((p : Int) ≠ n))) h := by
  cases b <;> simp only [go_sem, reduceIte, Nat.reduceAdd, Nat.reduceSub, Nat.reduceMul, Nat.reducePow, Nat.reduceLT, Nat.reduceLeDiff, Nat.reduceEqDiff, Int.reduceAdd, Int.reduceSub, Int.reduceMul, Int.reduceNeg, Int.reducePow, Int.reduceLT, Int.reduceLE, Int.reduceEq, Int.reduceNe, Int.reduceToNat, Int.toNat_natCast, Nat.zero_add, Nat.add_zero, Nat.mul_one, Nat.one_mul, Bool.not_true, Bool.not_false, ne_eq, not_true_eq_false, not_false_eq_true, Bool.false_eq_true, hp, hn, Bool.true_or, Bool.false_or]
theorem chunkC {b : Bool} {d : Nat} {h : H} {m : Img} {c : List AV} (hr : h.read d 0 7 = some c) (r : imgR h m c) (ok : m.ok) {K : AV → H → Prop} (hK : ∀ h', Fr [] h h' → K (.bool (b || decide (checkN m ≠ 0))) h') :
    whenA (.bool b) false (fun K => valA (ldA h (some 7) (.ptr d 0)) h K) h fun t64 h => whenA (.bool b) false (fun K => C 43 [t64] h K) h fun t65 h =>
      whenA (.bool b) false (fun K => valA (binOp .neq .num t65 (.int .i64 0)) h K) h fun t66 h => valA (pickA (.bool b) (.bool true) t66) h K := by
  cases b with
  | true => simp only [go_sem, reduceIte, Nat.reduceAdd, Nat.reduceSub, Nat.reduceMul, Nat.reducePow, Nat.reduceLT, Nat.reduceLeDiff, Nat.reduceEqDiff, Int.reduceAdd, Int.reduceSub, Int.reduceMul, Int.reduceNeg, Int.reducePow, Int.reduceLT, Int.reduceLE, Int.reduceEq, Int.reduceNe, Int.reduceToNat, Int.toNat_natCast, Nat.zero_add, Nat.add_zero, Nat.mul_one, Nat.one_mul, Bool.not_true, Bool.not_false, ne_eq, not_true_eq_false, not_false_eq_true, Bool.false_eq_true]; have := hK h (Fr.refl _ _); rwa [Bool.true_or] at this
  | false =>
    simp only [go_sem, reduceIte, Nat.reduceAdd, Nat.reduceSub, Nat.reduceMul, Nat.reducePow, Nat.reduceLT, Nat.reduceLeDiff, Nat.reduceEqDiff, Int.reduceAdd, Int.reduceSub, Int.reduceMul, Int.reduceNeg, Int.reducePow, Int.reduceLT, Int.reduceLE, Int.reduceEq, Int.reduceNe, Int.reduceToNat, Int.toNat_natCast, Nat.zero_add, Nat.add_zero, Nat.mul_one, Nat.one_mul, Bool.not_true, Bool.not_false, ne_eq, not_true_eq_false, not_false_eq_true, Bool.false_eq_true, hr]
    refine check_c r ok fun h' f => ?_
    simp only [go_sem, reduceIte, Nat.reduceAdd, Nat.reduceSub, Nat.reduceMul, Nat.reducePow, Nat.reduceLT, Nat.reduceLeDiff, Nat.reduceEqDiff, Int.reduceAdd, Int.reduceSub, Int.reduceMul, Int.reduceNeg, Int.reducePow, Int.reduceLT, Int.reduceLE, Int.reduceEq, Int.reduceNe, Int.reduceToNat, Int.toNat_natCast, Nat.zero_add, Nat.add_zero, Nat.mul_one, Nat.one_mul, Bool.not_true, Bool.not_false, ne_eq, not_true_eq_false, not_false_eq_true, Bool.false_eq_true]
    have := hK h' f; rwa [Bool.false_or] at this
theorem decode_c {h : H} {v : AV} {B : List Nat} (r : Row h v B.length 1 (bc B)) (lt : ∀ d ∈ B, d < 256) (len : B.length ≤ 4294967296) {K : AV → H → Prop}
    (hK : ∀ h' c, Fr [] h h' → imgR h' (decodeN B).1 c → (decodeN B).1.ok → K (.tup [.agg c, .int .i64 (decodeN B).2]) h') : C 12 [v] h K := by
  refine run12 ?_
  unfold sh12
  refine box_r rfl fun t ht => ?_
  have f1 : Fr [] h (h.set t (.live [.nilsl, .nilsl, .nilsl, .nilsl, .nilsl, .int .i64 0, .int .i64 0] 28 true)) := (Fr.refl _ _).set' ht
  have gt : (h.set t (.live [.nilsl, .nilsl, .nilsl, .nilsl, .nilsl, .int .i64 0, .int .i64 0] 28 true)).get t = some (.live [.nilsl, .nilsl, .nilsl, .nilsl, .nilsl, .int .i64 0, .int .i64 0] 28 true) := H.get_same ..
  have r1 := r.fr f1
  generalize h.set t (.live [.nilsl, .nilsl, .nilsl, .nilsl, .nilsl, .int .i64 0, .int .i64 0] 28 true) = h1 at *
  have out : ∀ {h2 : H} {c : List AV} {n : Int} {m : Img}, h2.get t = some (.live [.nilsl, .nilsl, .nilsl, .nilsl, .nilsl, .int .i64 0, .int .i64 0] 28 true) → Fr [] h h2 → (imgR (H.only h2 fun k => k ≠ t) m c) → decodeN B = (m, n) → m.ok →
      memA (stA h2 7 (.ptr t 0) (.agg c)) .undef fun _ h => valA (ldA h (some 7) (.ptr t 0)) h fun res _ => K (.tup [res, .int .i64 n]) h := by
    intro h2 c n m gt2 f2 ri hd ok
    have hcl : c.length = 7 := by obtain ⟨_, _, _, _, _, rfl, _⟩ := ri; rfl
    rw [show stA h2 7 (.ptr t 0) (.agg c) = _ from agg_st (n := 7) gt2 rfl hcl ri.leaves, memA_some, ldA_read (H.read_eq (H.get_same ..) (by omega) (by rw [List.drop_zero, List.take_of_length_le (by omega)])), valA_some]
    have := hK (h2.set t (.live c 28 true)) c (f2.set' ht)
    rw [hd] at this
    refine this (ri.fr fun k o _ x => ?_) ok
    simp only [H.only] at x
    split at x
    · rename_i q; rw [H.get_other _ _ q]; exact x
    · cases x
  rw [chunkH r1]
  cases hh : noHead B with
  | true =>
    rw [condA_t, show buildA (fillV [AV.nilsl, AV.nilsl, AV.nilsl, AV.nilsl, AV.nilsl, AV.int .i64 0, AV.int .i64 0] []) = some (.agg [AV.nilsl, AV.nilsl, AV.nilsl, AV.nilsl, AV.nilsl, AV.int .i64 0, AV.int .i64 0]) from rfl, valA_some]
    exact out gt f1 (imgZ_r _) (by unfold decodeN; rw [hh]; rfl) imgZ_ok
  | false =>
    have hB : 4 ≤ B.length := by
      unfold noHead at hh
      simp only [Bool.or_eq_false_iff, decide_eq_false_iff_not] at hh; omega
    rw [condA_f, show fillV [AV.nilsl, .int .i64 0, .bool false] [(0, 1, v), (1, 1, .int .i64 4)] = some [v, .int .i64 4, .bool false] by simp [fillV, r.one.2, leaves, r.one.1, overlay, show (AV.int .i64 4).cells = [.int .i64 4] from rfl, show (AV.int .i64 4).leaf = true from rfl], buildA_s, valA_some]
    refine box_r (cs := [v, .int .i64 4, .bool false]) (by simp only [leaves, r.one.1]; rfl) fun rb hrb => ?_
    have f2 : Fr [] h1 (h1.set rb (.live [v, .int .i64 4, .bool false] 67 true)) := (Fr.refl _ _).set' hrb
    have rd : Rd (h1.set rb (.live [v, .int .i64 4, .bool false] 67 true)) rb v B ⟨4, false⟩ := by
      refine ⟨H.get_same .., r1.fr fun k o _ x => ?_, hB, lt, len, by omega⟩
      have hk : k ≠ rb := fun e => by rw [e, hrb] at x; cases x
      rw [H.get_wo, if_neg hk, H.get_other _ _ hk]; exact x
    have gt2 := f2 t _ (by simp) gt
    have htr : t ≠ rb := fun e => by rw [e, hrb] at gt; cases gt
    change boxA (h1.set rb (.live [v, .int .i64 4, .bool false] 67 true)) _ _ _
    generalize h1.set rb (.live [v, .int .i64 4, .bool false] 67 true) = h2 at *
    refine box_r rfl fun d hd => ?_
    have hdr := rd.ne hd
    have q3 := rd.box hd (cs := [.nilsl, .nilsl, .nilsl, .nilsl, .nilsl, .int .i64 0, .int .i64 0]) (e := 28)
    generalize h2.set d (.live [.nilsl, .nilsl, .nilsl, .nilsl, .nilsl, .int .i64 0, .int .i64 0] 28 true) = h3 at *
    have big : 4294967296 ≤ reachBytes := by decide
    have x1 := someR_len (B := B) (dec := kindR B) q3.r.pos
    have ei : imageR B = imageR B := rfl
    conv at ei => rhs; unfold imageR
    simp only at ei
    refine someTy_c q3.r (dec := kindR B) (Rel := relTy) relTy_mono (fun r => r.1.leaves) eachT fun v1 ha1 fa1 ra1 u1 => ?_
    refine (q3.call hdr fa1 ra1).st rd (cs' := [v1, .nilsl, .nilsl, .nilsl, .nilsl, .int .i64 0, .int .i64 0]) rfl (by simp) u1.one.1 u1.one.2 fun hb1 gb1 q4 => ?_
    generalize hA : someR B (kindR B) ⟨4, false⟩ = A at *
    have x2 := someR_len (B := B) (dec := shapeR B) q4.r.pos
    refine someShp_c q4.r (dec := shapeR B) (Rel := relSh) relSh_mono (fun r => r.1.leaves) eachSh fun v2 ha2 fa2 ra2 u2 => ?_
    refine (q4.call hdr fa2 ra2).st rd (cs' := [v1, v2, .nilsl, .nilsl, .nilsl, .int .i64 0, .int .i64 0]) rfl (by simp) u2.one.1 u2.one.2 fun hb2 gb2 q5 => ?_
    generalize hB' : someR B (shapeR B) A.2 = Bs at *
    have x3 := someR_len (B := B) (dec := textR B) q5.r.pos
    refine someStr_c q5.r (dec := textR B) (Rel := relS) relS_mono relS_leaf eachS fun v3 ha3 fa3 ra3 u3 => ?_
    refine (q5.call hdr fa3 ra3).st rd (cs' := [v1, v2, v3, .nilsl, .nilsl, .int .i64 0, .int .i64 0]) rfl (by simp) u3.one.1 u3.one.2 fun hb3 gb3 q6 => ?_
    generalize hC : someR B (textR B) Bs.2 = Cs at *
    have x4 := someR_len (B := B) (dec := textR B) q6.r.pos
    refine someStr_c q6.r (dec := textR B) (Rel := relS) relS_mono relS_leaf eachS fun v4 ha4 fa4 ra4 u4 => ?_
    refine (q6.call hdr fa4 ra4).st rd (cs' := [v1, v2, v3, v4, .nilsl, .int .i64 0, .int .i64 0]) rfl (by simp) u4.one.1 u4.one.2 fun hb4 gb4 q7 => ?_
    generalize hD : someR B (textR B) Cs.2 = Ds at *
    have x5 := someR_len (B := B) (dec := functionR B) q7.r.pos
    refine someFn_c q7.r (dec := functionR B) (Rel := relFn) relFn_mono (fun r => r.1.leaves) eachFn fun v5 ha5 fa5 ra5 u5 => ?_
    refine (q7.call hdr fa5 ra5).st rd (cs' := [v1, v2, v3, v4, v5, .int .i64 0, .int .i64 0]) rfl (by simp) u5.one.1 u5.one.2 fun hb5 gb5 q8 => ?_
    generalize hE : someR B (functionR B) Ds.2 = Es at *
    have x6 := longR_facts B _ q8.r.pos
    refine rnum_c q8.r fun ha6 fa6 ra6 => ?_
    refine (q8.call hdr fa6 ra6).st rd (cs' := [v1, v2, v3, v4, v5, .int .i64 (longR B Es.2).1, .int .i64 0]) rfl (by simp) rfl rfl fun hb6 gb6 q9 => ?_
    generalize hF : longR B Es.2 = Fs at *
    have x7 := longR_facts B _ q9.r.pos
    refine rnum_c q9.r fun ha7 fa7 ra7 => ?_
    refine (q9.call hdr fa7 ra7).st rd (cs' := [v1, v2, v3, v4, v5, .int .i64 Fs.1, .int .i64 (longR B Fs.2).1]) rfl (by simp) rfl rfl fun hb7 gb7 qa => ?_
    generalize hG : longR B Fs.2 = Gs at *
    have g7 : Fr [rb, d] ha5 hb7 := (((gb5.trans fa6.rd).trans gb6).trans fa7.rd).trans gb7
    have g6 : Fr [rb, d] ha4 hb7 := (gb4.trans fa5.rd).trans g7
    have g5 : Fr [rb, d] ha3 hb7 := (gb3.trans fa4.rd).trans g6
    have g4 : Fr [rb, d] ha2 hb7 := (gb2.trans fa3.rd).trans g5
    have g3 : Fr [rb, d] ha1 hb7 := (gb1.trans fa2.rd).trans g4
    have u1 := (RowOf.up (R := relTy) relTy_mono u1 ((q3.val g3).trans qa.fin)).both
    have u2 := (RowOf.up (R := relSh) relSh_mono u2 ((q4.val g4).trans qa.fin)).both
    have u3 := (RowOf.up (R := relS) relS_mono u3 ((q5.val g5).trans qa.fin)).both
    have u4 := (RowOf.up (R := relS) relS_mono u4 ((q6.val g6).trans qa.fin)).both
    have u5 := (RowOf.up (R := relFn) relFn_mono u5 ((q7.val g7).trans qa.fin)).both
    have im : imgR (H.new h2 hb7) (imageR B).1 [v1, v2, v3, v4, v5, .int .i64 Fs.1, .int .i64 Gs.1] := by
      rw [ei]; exact ⟨v1, v2, v3, v4, v5, rfl, u1.1, u2.1, u3.1, u4.1, u5.1⟩
    have ok : (imageR B).1.ok := by
      rw [ei]
      exact ⟨⟨by show A.1.length ≤ _; omega, u1.2⟩, ⟨by show Bs.1.length ≤ _; omega, u2.2⟩, ⟨by show Cs.1.length ≤ _; omega, u3.2⟩, ⟨by show Ds.1.length ≤ _; omega, u4.2⟩, ⟨by show Es.1.length ≤ _; omega, u5.2⟩, x6.1, x7.1⟩
    have im7 := im.fr (only_le hb7 _)
    have gt7 := qa.f t _ (by simpa using htr) gt2
    have f12 := f1.trans f2
    have hrh : h.get rb = none := f1.free hrb
    have fall : Fr [] h hb7 := fun k o _ x => by
      refine qa.f k o (fun q => ?_) (f12 k o (by simp) x)
      simp at q; rw [q, hrh] at x; cases x
    rw [nilcA_p, valA_some]
    refine fld_r (qa.r.cell 2) ?_
    show whenA (.bool Gs.2.bad) _ _ _ _
    rw [chunkEnd (qa.r.cell 1) r.len]
    refine chunkC (qa.read rfl) im7 ok fun hc fc => ?_
    have gt8 := fc t _ (by simp) gt7
    have fall8 := fall.trans fc
    have eb : badEnd B (imageR B) = ((Gs.2.bad || decide ((Gs.2.pos : Int) ≠ B.length)) || decide (checkN (imageR B).1 ≠ 0)) := by rw [ei]; rfl
    rw [← eb]
    cases hbe : badEnd B (imageR B) with
    | true =>
      rw [condA_t, show buildA (fillV [AV.nilsl, AV.nilsl, AV.nilsl, AV.nilsl, AV.nilsl, AV.int .i64 0, AV.int .i64 0] []) = some (.agg [AV.nilsl, AV.nilsl, AV.nilsl, AV.nilsl, AV.nilsl, AV.int .i64 0, AV.int .i64 0]) from rfl, valA_some]
      exact out gt8 fall8 (imgZ_r _) (by unfold decodeN; rw [hh, hbe]; rfl) imgZ_ok
    | false =>
      rw [condA_f, ldA_read (H.read_eq (fc d _ (by simp) qa.gd) (by simp) rfl), valA_some]
      refine out gt8 fall8 (im.fr (only_fr fun k o q x => ⟨fun e => ?_, fc k o (by simp) x⟩)) (by unfold decodeN; rw [hh, hbe]; rfl) ok
      rw [e, gt2] at q; cases q
end Go.Proofs.YtdljelicbnjfjaaGreat.X
