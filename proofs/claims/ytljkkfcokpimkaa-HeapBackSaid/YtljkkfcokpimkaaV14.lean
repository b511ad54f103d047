/- Both heaps side by side: a call of both. -/
import Derived.Test.YtljkkfcokpimkaaV13
set_option linter.unusedVariables false
set_option linter.unusedSimpArgs false
set_option maxRecDepth 20000
namespace Go.Proofs.Ytljkkfcokpimkaa.X
open Go Go.RowKit

structure Both (h0 h : H) (b bw bd : Nat) (B : List Nat) (s : Hs) (os : List Ob) (bx : Nat) (BL : List Nat) (l : List RV) : Prop where
  hh : HeapAt h b bw bd B s
  A : Abs s os
  R : RefAt h0 h bx s.words.length s.lays BL l
  r : Rel s.lays 0 os l
  ap : ∀ c ∈ b :: bw :: bd :: B, c ∉ blocksR bx BL l
  new : ∀ c ∈ b :: bw :: bd :: B, h0.get c = none
/-- A heap of n words, and the reference's, with the same objects. -/
def Two (h0 h : H) (b bx : Nat) (n : Nat) (lays : List (Int × Int)) (l : List RV) : Prop :=
  ∃ bw bd B s os BL, Both h0 h b bw bd B s os bx BL l ∧ s.words.length = n ∧ s.lays = lays
theorem Both.keep0 {h0 h h' : H} {b bw bd : Nat} {B : List Nat} {s : Hs} {os : List Ob} {bx : Nat} {BL : List Nat} {l : List RV} (t : Both h0 h b bw bd B s os bx BL l) (f : Fr [] h h') : Both h0 h' b bw bd B s os bx BL l :=
  ⟨t.hh.fr0 f, t.A, t.R.keep0 f, t.r, t.ap, t.new⟩
theorem Two.keep0 {h0 h h' : H} {b bx n : Nat} {lays : List (Int × Int)} {l : List RV} (t : Two h0 h b bx n lays l) (f : Fr [] h h') : Two h0 h' b bx n lays l := by
  obtain ⟨bw, bd, B, s, os, BL, t, e⟩ := t
  exact ⟨bw, bd, B, s, os, BL, t.keep0 f, e⟩
theorem Rel.pos {lays : List (Int × Int)} : ∀ {p : Nat} {os : List Ob} {l : List RV}, Rel lays p os l → ∀ x ∈ l, (p : Int) ≤ x.r.a ∧ x.r.a ≤ ((p + (rowOf os).length : Nat) : Int)
  | _, [], [], _, x, hx => by cases hx
  | _, [], _ :: _, h, _, _ => h.elim
  | _, _ :: _, [], h, _, _ => h.elim
  | p, o :: os, y :: l, h, x, hx => by
    obtain ⟨h1, h2, h3⟩ := h
    rw [rowOf_cons, List.length_append]
    rcases List.mem_cons.1 hx with rfl | hx
    · omega
    · have := h3.pos x hx
      omega
theorem modR_length (l : List RV) (a : Int) (f : RV → RV) : (modR l a f).length = l.length := by
  induction l with
  | nil => rfl
  | cons x l ih =>
    rw [modR]; split
    · rfl
    · simp [ih]
theorem modR_blocks (bx : Nat) (BL : List Nat) (l : List RV) (a : Int) (f : RV → RV) (hf : ∀ x, (f x).blocks = x.blocks) : blocksR bx BL (modR l a f) = blocksR bx BL l := by
  have : (modR l a f).flatMap RV.blocks = l.flatMap RV.blocks := by
    induction l with
    | nil => rfl
    | cons x l ih =>
      rw [modR]; split
      · simp [hf]
      · simp [ih]
  unfold blocksR; rw [this]
section
variable {h0 h : H} {b bw bd bx : Nat} {B BL : List Nat} {s : Hs} {os : List Ob} {l : List RV}
theorem Both.range (t : Both h0 h b bw bd B s os bx BL l) : ∀ x ∈ l, 0 ≤ x.r.a ∧ x.r.a ≤ 70000 := fun x hx => by
  have h1 := t.r.pos x hx
  have h2 := t.A.top
  have h3 := t.A.good.top
  have h4 := t.A.good.wlen
  omega
theorem place_c {Lv : AV} (o : SlV h 89 5 Lv BL l.length (cellsR l)) (hr : ∀ x ∈ l, 0 ≤ x.r.a ∧ x.r.a ≤ 70000) (hl : l.length ≤ 1000) {a : Int} (a0 : -9223372036854775808 ≤ a) (a1 : a ≤ 9223372036854775807) {K : AV → H → Prop}
    (hK : ∀ p : Int, -9223372036854775808 ≤ p → p ≤ 9223372036854775807 → K (.int .i64 p) h) : C 61 [Lv, .int .i64 a] h K := by
  refine run61 ?_
  by_cases h1 : 0 ≤ a
  · simp only [sh61, go_sem, reduceIte, Nat.reduceAdd, Nat.reduceSub, Nat.reduceMul, Nat.reducePow, Nat.reduceLT, Nat.reduceLeDiff, Nat.reduceEqDiff, Int.reduceAdd, Int.reduceSub, Int.reduceMul, Int.reduceNeg, Int.reducePow, Int.reduceLT, Int.reduceLE, Int.reduceEq, Int.reduceNe, Int.reduceToNat, Int.toNat_natCast, Nat.zero_add, Nat.add_zero, Nat.mul_one, Nat.one_mul, Bool.not_true, Bool.not_false, ne_eq, not_true_eq_false, not_false_eq_true, Bool.false_eq_true, h1]; exact hK a a0 a1
  · by_cases hn : (l.length : Int) = 0
    · simp only [sh61, go_sem, reduceIte, Nat.reduceAdd, Nat.reduceSub, Nat.reduceMul, Nat.reducePow, Nat.reduceLT, Nat.reduceLeDiff, Nat.reduceEqDiff, Int.reduceAdd, Int.reduceSub, Int.reduceMul, Int.reduceNeg, Int.reducePow, Int.reduceLT, Int.reduceLE, Int.reduceEq, Int.reduceNe, Int.reduceToNat, Int.toNat_natCast, Nat.zero_add, Nat.add_zero, Nat.mul_one, Nat.one_mul, Bool.not_true, Bool.not_false, ne_eq, not_true_eq_false, not_false_eq_true, Bool.false_eq_true, h1, o.row.len, hn]; exact hK a a0 a1
    · have e1 : IntKind.i64.wrap (a + 1) = a + 1 := i64_id (by omega) (by omega)
      have e2 : IntKind.i64.wrap (0 - (a + 1)) = -(a + 1) := by rw [i64_id (by omega) (by omega)]; omega
      have e3 : IntKind.u64.wrap (-(a + 1)) = -(a + 1) := u64_id (by omega) (by omega)
      have e4 : IntKind.u64.wrap (l.length : Int) = l.length := u64_id (by omega) (by omega)
      have e5 : (-(a + 1)).tmod (l.length : Int) = -(a + 1) % (l.length : Int) := Int.tmod_eq_emod_of_nonneg (by omega)
      have m0 := Int.emod_nonneg (-(a + 1)) hn
      have m1 := Int.emod_lt_of_pos (-(a + 1)) (show (0 : Int) < l.length by omega)
      obtain ⟨k, hk⟩ := Int.eq_ofNat_of_zero_le m0
      rw [hk] at m1 e5
      have hkl : k < l.length := by omega
      have e6 : IntKind.i64.wrap (k : Int) = k := i64_id (by omega) (by omega)
      obtain ⟨x, hx⟩ : ∃ x, l[k]? = some x := ⟨l[k], by simp [hkl]⟩
      obtain ⟨b', q, q1, q2, q3⟩ := o.obj hx
      obtain ⟨c3, c4, c0⟩ := cells3 q2
      have hx' := hr x (List.mem_of_getElem? hx)
      simp only [sh61, go_sem, reduceIte, Nat.reduceAdd, Nat.reduceSub, Nat.reduceMul, Nat.reducePow, Nat.reduceLT, Nat.reduceLeDiff, Nat.reduceEqDiff, Int.reduceAdd, Int.reduceSub, Int.reduceMul, Int.reduceNeg, Int.reducePow, Int.reduceLT, Int.reduceLE, Int.reduceEq, Int.reduceNe, Int.reduceToNat, Int.toNat_natCast, Nat.zero_add, Nat.add_zero, Nat.mul_one, Nat.one_mul, Bool.not_true, Bool.not_false, ne_eq, not_true_eq_false, not_false_eq_true, Bool.false_eq_true, h1, o.row.len, hn, e1, e2, e3, e4, e5, e6, q1, c0]
      exact hK _ (by omega) (by omega)
/-- A call. -/
structure OpI where
  k : Int
  a : Int
  b : Int
  w : Int
  near : Bool
def OpI.cells (o : OpI) : List AV := [.int .i64 o.k, .int .i64 o.a, .int .i64 o.b, .int .u64 o.w, .bool o.near]
structure OpI.ok (o : OpI) : Prop where
  a0 : -9223372036854775808 ≤ o.a
  a1 : o.a ≤ 9223372036854775807
  w0 : 0 ≤ o.w
  w1 : o.w < 18446744073709551616
theorem Both.top (t : Both h0 h b bw bd B s os bx BL l) : topR s.lays l = s.top := t.r.top t.A
theorem Both.alloc (t : Both h0 h b bw bd B s os bx BL l) (hl : l.length ≤ 900) (i n : Int) {d : Nat} {od : List AV × Nat} (hd : h.get d = some (.live od.1 od.2 true)) (hdn : d ∉ b :: bw :: bd :: B) {K : AV → H → Prop}
    (hK : ∀ v h' s', Fr [b, bw, bd] h h' → HeapAt h' b bw bd B s' → s'.lays = s.lays → s'.words.length = s.words.length →
      (∀ K', (∀ h2 os2 BL2 l2, Fr (blocksR bx BL l) h' h2 → Both h0 h2 b bw bd B s' os2 bx BL2 l2 → l2.length ≤ l.length + 1 → K' v h2) → C 102 [.ptr bx 0, .int .i64 i, .int .i64 n] h' K') → (∃ p e, v = .tup [.int .i64 p, .int .i64 e]) → K v h') :
    C 55 [.ptr b 0, .int .i64 i, .int .i64 n] h K := by
  have ht := t.top
  have w1 := t.A.good.wlen
  refine alloc_c t.hh t.A.good i n (fun he h' f => ?_) (fun he hk h' f => ?_) fun he hk h' f hh' => ?_
  · have t' := t.keep0 f
    refine hK _ h' s f.more t'.hh rfl rfl (fun K' hK' => ?_) ⟨_, _, rfl⟩
    refine ralloc_c t'.R (by omega) (by omega) (by omega) i n (fun _ h2 f2 => hK' h2 os BL l f2.more (t'.keep0 f2) (by omega)) (fun q => absurd q he) (fun q => absurd q he)
  · have t' := t.keep0 f
    refine hK _ h' s f.more t'.hh rfl rfl (fun K' hK' => ?_) ⟨_, _, rfl⟩
    refine ralloc_c t'.R (by omega) (by omega) (by omega) i n (fun q => absurd he q) (fun _ _ h2 f2 => hK' h2 os BL l f2.more (t'.keep0 f2) (by omega)) (fun _ q => by rw [ht] at q; omega)
  · have A' := abs_alloc t.A he hk
    have hlen : (s.alloc i n (needN s.lays i n).1).words.length = s.words.length := by
      simp only [Hs.alloc, Hs.mark]
      split
      · rw [List.length_set]
      · rw [fillW_length, List.length_set]
    have hlay : (s.alloc i n (needN s.lays i n).1).lays = s.lays := rfl
    have f0 : Fr [] h0 h' := t.R.fr.cons (fun c hc => t.new c (by simp at hc ⊢; rcases hc with q | q | q <;> simp [q])) f
    have R' : RefAt h0 h' bx s.words.length s.lays BL l := t.R.keep f (fun c hc q => t.ap c (by simp at q ⊢; rcases q with q | q | q <;> simp [q]) hc) f0
    refine hK _ h' _ f hh' hlay hlen (fun K' hK' => ?_) ⟨_, _, rfl⟩
    refine ralloc_c R' (by omega) (by omega) (by omega) i n (fun q => absurd he q) (fun _ q => by rw [ht] at q; omega) fun _ _ h2 BL2 x f2 R2 hx hb => ?_
    rw [ht]
    have p := need_pos he
    refine hK' h2 _ BL2 (l ++ [x]) f2 ⟨hh'.fr f2 (fun c hc => t.ap c hc), A', by rw [hlen, hlay]; exact R2, ?_, ?_, t.new⟩ (by simp)
    · rw [hlay]
      refine t.r.snoc _ x ?_ (by rw [hx]; exact newRO_rel p.2.2.2.1)
      rw [hx]
      show topR s.lays l = _
      rw [ht, t.A.top]; simp
    · intro c hc q
      rcases hb c q with q | q
      · exact t.ap c hc q
      · exact hh'.alive c hc q
end
end Go.Proofs.Ytljkkfcokpimkaa.X
