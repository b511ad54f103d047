/- A call of both heaps. -/
import Derived.Test.YtljkkfcokpimkaaV14
set_option linter.unusedVariables false
set_option linter.unusedSimpArgs false
set_option maxRecDepth 20000
namespace Go.Proofs.Ytljkkfcokpimkaa.X
open Go Go.RowKit

section
variable {h0 h : H} {b bw bd bx : Nat} {B BL : List Nat} {s : Hs} {os : List Ob} {l : List RV}
/-- Set in both. -/
theorem Both.set (t : Both h0 h b bw bd B s os bx BL l) (hl : l.length ≤ 900) (a i : Int) {w : Int} (w0 : 0 ≤ w) (w1 : w < 18446744073709551616) {K : AV → H → Prop}
    (hK : ∀ v h', (∀ K', (∀ h2 s2 os2 l2, Both h0 h2 b bw bd B s2 os2 bx BL l2 → s2.lays = s.lays → s2.words.length = s.words.length → l2.length = l.length → K' v h2) → C 103 [.ptr bx 0, .int .i64 a, .int .i64 i, .int .u64 w] h' K') → Fr [bw] h h' → (∃ e, v = .int .i64 e) → K v h') :
    C 63 [.ptr b 0, .int .i64 a, .int .i64 i, .int .u64 w] h K := by
  rw [set_a t.hh t.A w0 w1]
  have e1 := t.r.has a i
  have e2 := t.r.fits w
  rw [e1.1, e2]
  cases hq : (hasF l a i && fitsR l w) with
  | false =>
    refine hK _ h (fun K' hK' => ?_) (Fr.refl _ _) ⟨_, rfl⟩
    exact rset_c t.R (by omega) a i w0 w1 (fun _ h2 f2 => hK' h2 s os l (t.keep0 f2) rfl rfl rfl) (fun q => by rw [hq] at q; cases q)
  | true =>
    obtain ⟨q1, q2⟩ : hasF l a i = true ∧ fitsR l w = true := by simpa using hq
    rw [← e1.1] at q1
    obtain ⟨o, hf, k1, k2, k3⟩ := hasO_some q1
    have k1 : kindAt s.lays o.sh ≠ 3 := by simpa using k1
    have hbl := t.A.body hf
    rw [if_neg k1] at hbl
    have hi : ((i.toNat : Nat) : Int) = i := by omega
    have A' := abs_set t.A hf (i := i.toNat) (w := w) (by omega) w0 w1
    rw [hi] at A'
    have f : Fr [bw] h (h.set bw (.live (wc (s.put (a + 1 + i) w).words) 25 true)) := Fr.put (by simp)
    have hh' := t.hh.put (a + 1 + i) w
    have f0 : Fr [] h0 (h.set bw (.live (wc (s.put (a + 1 + i) w).words) 25 true)) := t.R.fr.cons (fun c hc => t.new c (by simp at hc ⊢; simp [hc])) f
    have R' := t.R.keep f (fun c hc q => t.ap c (by simp at q ⊢; simp [q]) hc) f0
    refine hK _ _ (fun K' hK' => ?_) f ⟨_, rfl⟩
    refine rset_c R' (by omega) a i w0 w1 (fun q => by rw [hq] at q; cases q) fun _ h2 f2 R2 => ?_
    have hlen : (s.put (a + 1 + i) w).words.length = s.words.length := by simp [Hs.put]
    have hr := t.r.setF a i.toNat w o (by simpa using hf) k1
    refine hK' h2 (s.put (a + 1 + i) w) _ _ ⟨hh'.fr f2 (fun c hc => t.ap c hc), A', by rw [hlen]; exact R2, by show Rel s.lays 0 _ _; simpa using hr, ?_, t.new⟩ rfl hlen (modR_length ..)
    intro c hc
    rw [modR_blocks bx BL l a (·.setF i.toNat w) fun x => rfl]
    exact t.ap c hc
/-- A byte set in both. -/
theorem Both.setByte (t : Both h0 h b bw bd B s os bx BL l) (hl : l.length ≤ 900) (a i : Int) {c : Nat} (hc : c < 256) {K : AV → H → Prop}
    (hK : ∀ v h', (∀ K', (∀ h2 s2 os2 l2, Both h0 h2 b bw bd B s2 os2 bx BL l2 → s2.lays = s.lays → s2.words.length = s.words.length → l2.length = l.length → K' v h2) → C 104 [.ptr bx 0, .int .i64 a, .int .i64 i, .int .u8 (c : Nat)] h' K') → Fr [bw] h h' → (∃ e, v = .int .i64 e) → K v h') :
    C 65 [.ptr b 0, .int .i64 a, .int .i64 i, .int .u8 (c : Nat)] h K := by
  rw [setByte_a t.hh t.A hc]
  have e1 := t.r.has a i
  rw [e1.2]
  cases hq : hasB l a i with
  | false =>
    refine hK _ h (fun K' hK' => ?_) (Fr.refl _ _) ⟨_, rfl⟩
    exact rsetByte_c t.R (by omega) a i c (fun _ h2 f2 => hK' h2 s os l (t.keep0 f2) rfl rfl rfl) (fun q => by rw [hq] at q; cases q)
  | true =>
    have q1 := hq
    rw [← e1.2] at q1
    obtain ⟨o, hf, k1, k2, k3⟩ := hasO_some q1
    have k1 : kindAt s.lays o.sh = 3 := by simpa using k1
    have hbl := t.A.body hf
    rw [if_pos k1] at hbl
    have hlt := findO_lt os a o hf
    have hi : ((i.toNat / 8 : Nat) : Int) = i / 8 := by omega
    have hm : i.toNat % 8 = (i % 8).toNat := by omega
    have hw := t.A.word hf (i.toNat / 8) (by omega)
    rw [hi] at hw
    have wr := t.A.good.wdr (a + 1 + i / 8)
    have pr := putW_range (k := (i % 8).toNat) (c := c) wr.1 wr.2 (by omega) hc
    have A' := abs_set t.A hf (i := i.toNat / 8) (by omega) pr.1 pr.2
    rw [hi] at A'
    generalize hv : putW (s.wd (a + 1 + i / 8)) (i % 8).toNat c = v at *
    have f : Fr [bw] h (h.set bw (.live (wc (s.put (a + 1 + i / 8) v).words) 25 true)) := Fr.put (by simp)
    have hh' := t.hh.put (a + 1 + i / 8) v
    have f0 : Fr [] h0 (h.set bw (.live (wc (s.put (a + 1 + i / 8) v).words) 25 true)) := t.R.fr.cons (fun c hc => t.new c (by simp at hc ⊢; simp [hc])) f
    have R' := t.R.keep f (fun c hc q => t.ap c (by simp at q ⊢; simp [q]) hc) f0
    refine hK _ _ (fun K' hK' => ?_) f ⟨_, rfl⟩
    refine rsetByte_c R' (by omega) a i c (fun q => by rw [hq] at q; cases q) fun _ h2 f2 R2 => ?_
    have hlen : (s.put (a + 1 + i / 8) v).words.length = s.words.length := by simp [Hs.put]
    have hr := t.r.setB a i.toNat c o (by simpa using hf) k1 (by omega) hc
    rw [← hw, hm, hv] at hr
    refine hK' h2 (s.put (a + 1 + i / 8) v) _ _ ⟨hh'.fr f2 (fun c hc => t.ap c hc), A', by rw [hlen]; exact R2, by show Rel s.lays 0 _ _; simpa using hr, ?_, t.new⟩ rfl hlen (modR_length ..)
    intro c' hc'
    rw [modR_blocks bx BL l a (·.setB i.toNat c) fun x => rfl]
    exact t.ap c' hc'
theorem Both.two (t : Both h0 h b bw bd B s os bx BL l) : Two h0 h b bx s.words.length s.lays l := ⟨bw, bd, B, s, os, BL, t, rfl, rfl⟩
theorem u8_nat (w : Int) : ∃ c : Nat, IntKind.u8.wrap w = (c : Int) ∧ c < 256 := by
  refine ⟨(w % 256).toNat, ?_, by omega⟩
  simp [IntKind.wrap, IntKind.bits, IntKind.signed]
  omega
theorem does_c {n : Nat} {lays : List (Int × Int)} (t : Two h0 h b bx n lays l) (hl : l.length ≤ 900) {o : OpI} (ho : o.ok) {K : AV → H → Prop}
    (hK : ∀ h' l', Two h0 h' b bx n lays l' → l'.length ≤ l.length + 1 → (o.k ≠ 1 → l'.length = l.length) → K (.bool true) h') : C 74 [.ptr b 0, .ptr bx 0, .agg o.cells] h K := by
  obtain ⟨bw, bd, B, s, os, BL, t, rfl, rfl⟩ := t
  refine run74 ?_
  have ec : (AV.agg o.cells).cells = o.cells := rfl
  have eo3 : o.cells[3]? = some (.int .u64 o.w) := rfl
  simp only [sh74, go_sem, reduceIte, Nat.reduceAdd, Nat.reduceSub, Nat.reduceMul, Nat.reducePow, Nat.reduceLT, Nat.reduceLeDiff, Nat.reduceEqDiff, Int.reduceAdd, Int.reduceSub, Int.reduceMul, Int.reduceNeg, Int.reducePow, Int.reduceLT, Int.reduceLE, Int.reduceEq, Int.reduceNe, Int.reduceToNat, Int.toNat_natCast, Nat.zero_add, Nat.add_zero, Nat.mul_one, Nat.one_mul, Bool.not_true, Bool.not_false, ne_eq, not_true_eq_false, not_false_eq_true, Bool.false_eq_true, ec, eo3]
  refine ⟨rfl, fun d hd => ?_⟩
  have t1 := t.keep0 (h' := h.set d (.live o.cells 72 true)) ((Fr.refl _ _).set' hd)
  have g1 : (h.set d (.live o.cells 72 true)).get d = some (.live o.cells 72 true) := H.get_same ..
  have hdn : d ∉ b :: bw :: bd :: B := fun q => t.hh.alive d q hd
  have hdx : d ∉ blocksR bx BL l := fun q => t.R.alive d q hd
  generalize h.set d (.live o.cells 72 true) = h1 at *
  have cd : ∀ off, h1.cell d off = [AV.int .i64 o.k, .int .i64 o.a, .int .i64 o.b, .int .u64 o.w, .bool o.near][off]? := fun off => cell_of g1 off
  obtain ⟨lv, Lv, c, r, ov⟩ := t1.R.cells
  have a0 := ho.a0; have a1 := ho.a1; have w0 := ho.w0; have w1 := ho.w1
  simp only [go_sem, reduceIte, Nat.reduceAdd, Nat.reduceSub, Nat.reduceMul, Nat.reducePow, Nat.reduceLT, Nat.reduceLeDiff, Nat.reduceEqDiff, Int.reduceAdd, Int.reduceSub, Int.reduceMul, Int.reduceNeg, Int.reducePow, Int.reduceLT, Int.reduceLE, Int.reduceEq, Int.reduceNe, Int.reduceToNat, Int.toNat_natCast, Nat.zero_add, Nat.add_zero, Nat.mul_one, Nat.one_mul, Bool.not_true, Bool.not_false, ne_eq, not_true_eq_false, not_false_eq_true, Bool.false_eq_true, cd]
  refine join_r (fun (J : AV → H → Prop) => ∀ w : Int, 0 ≤ w → w < 18446744073709551616 → J (.int .u64 w) h1) ?_ fun J hJ => ?_
  · intro w w0 w1
    simp only [go_sem, reduceIte, Nat.reduceAdd, Nat.reduceSub, Nat.reduceMul, Nat.reducePow, Nat.reduceLT, Nat.reduceLeDiff, Nat.reduceEqDiff, Int.reduceAdd, Int.reduceSub, Int.reduceMul, Int.reduceNeg, Int.reducePow, Int.reduceLT, Int.reduceLE, Int.reduceEq, Int.reduceNe, Int.reduceToNat, Int.toNat_natCast, Nat.zero_add, Nat.add_zero, Nat.mul_one, Nat.one_mul, Bool.not_true, Bool.not_false, ne_eq, not_true_eq_false, not_false_eq_true, Bool.false_eq_true, c, cd]
    refine place_c ov t1.range (by omega) a0 a1 fun p p0 p1 => ?_
    by_cases k1 : o.k = 1
    · simp only [go_sem, reduceIte, Nat.reduceAdd, Nat.reduceSub, Nat.reduceMul, Nat.reducePow, Nat.reduceLT, Nat.reduceLeDiff, Nat.reduceEqDiff, Int.reduceAdd, Int.reduceSub, Int.reduceMul, Int.reduceNeg, Int.reducePow, Int.reduceLT, Int.reduceLE, Int.reduceEq, Int.reduceNe, Int.reduceToNat, Int.toNat_natCast, Nat.zero_add, Nat.add_zero, Nat.mul_one, Nat.one_mul, Bool.not_true, Bool.not_false, ne_eq, not_true_eq_false, not_false_eq_true, Bool.false_eq_true, cd, k1]
      refine t1.alloc hl o.a o.b (od := (_, _)) g1 hdn fun v h2 s2 f2 hh2 el ew hc hv => ?_
      obtain ⟨p, e, rfl⟩ := hv
      have g2 := f2 d _ (fun q => hdn (by simp at q ⊢; rcases q with q | q | q <;> simp [q])) g1
      have cd2 : ∀ off, h2.cell d off = [AV.int .i64 o.k, .int .i64 o.a, .int .i64 o.b, .int .u64 o.w, .bool o.near][off]? := fun off => cell_of g2 off
      simp only [go_sem, reduceIte, Nat.reduceAdd, Nat.reduceSub, Nat.reduceMul, Nat.reducePow, Nat.reduceLT, Nat.reduceLeDiff, Nat.reduceEqDiff, Int.reduceAdd, Int.reduceSub, Int.reduceMul, Int.reduceNeg, Int.reducePow, Int.reduceLT, Int.reduceLE, Int.reduceEq, Int.reduceNe, Int.reduceToNat, Int.toNat_natCast, Nat.zero_add, Nat.add_zero, Nat.mul_one, Nat.one_mul, Bool.not_true, Bool.not_false, ne_eq, not_true_eq_false, not_false_eq_true, Bool.false_eq_true, cd2]
      refine hc _ fun h3 os3 BL3 l3 f3 t3 hl3 => ?_
      simp only [go_sem, reduceIte, Nat.reduceAdd, Nat.reduceSub, Nat.reduceMul, Nat.reducePow, Nat.reduceLT, Nat.reduceLeDiff, Nat.reduceEqDiff, Int.reduceAdd, Int.reduceSub, Int.reduceMul, Int.reduceNeg, Int.reducePow, Int.reduceLT, Int.reduceLE, Int.reduceEq, Int.reduceNe, Int.reduceToNat, Int.toNat_natCast, Nat.zero_add, Nat.add_zero, Nat.mul_one, Nat.one_mul, Bool.not_true, Bool.not_false, ne_eq, not_true_eq_false, not_false_eq_true, Bool.false_eq_true]
      have := t3.two
      rw [el, ew] at this
      exact hK h3 l3 this hl3 (fun q => absurd k1 q)
    · by_cases k2 : o.k = 2
      · simp only [go_sem, reduceIte, Nat.reduceAdd, Nat.reduceSub, Nat.reduceMul, Nat.reducePow, Nat.reduceLT, Nat.reduceLeDiff, Nat.reduceEqDiff, Int.reduceAdd, Int.reduceSub, Int.reduceMul, Int.reduceNeg, Int.reducePow, Int.reduceLT, Int.reduceLE, Int.reduceEq, Int.reduceNe, Int.reduceToNat, Int.toNat_natCast, Nat.zero_add, Nat.add_zero, Nat.mul_one, Nat.one_mul, Bool.not_true, Bool.not_false, ne_eq, not_true_eq_false, not_false_eq_true, Bool.false_eq_true, cd, k1, k2]
        refine t1.set hl p o.b w0 w1 fun v h2 hc f2 hv => ?_
        obtain ⟨e, rfl⟩ := hv
        have g2 := f2 d _ (fun q => hdn (by simp at q ⊢; simp [q])) g1
        have cd2 : ∀ off, h2.cell d off = [AV.int .i64 o.k, .int .i64 o.a, .int .i64 o.b, .int .u64 o.w, .bool o.near][off]? := fun off => cell_of g2 off
        simp only [go_sem, reduceIte, Nat.reduceAdd, Nat.reduceSub, Nat.reduceMul, Nat.reducePow, Nat.reduceLT, Nat.reduceLeDiff, Nat.reduceEqDiff, Int.reduceAdd, Int.reduceSub, Int.reduceMul, Int.reduceNeg, Int.reducePow, Int.reduceLT, Int.reduceLE, Int.reduceEq, Int.reduceNe, Int.reduceToNat, Int.toNat_natCast, Nat.zero_add, Nat.add_zero, Nat.mul_one, Nat.one_mul, Bool.not_true, Bool.not_false, ne_eq, not_true_eq_false, not_false_eq_true, Bool.false_eq_true, cd2]
        refine hc _ fun h3 s3 os3 l3 t3 el ew hl3 => ?_
        simp only [go_sem, reduceIte, Nat.reduceAdd, Nat.reduceSub, Nat.reduceMul, Nat.reducePow, Nat.reduceLT, Nat.reduceLeDiff, Nat.reduceEqDiff, Int.reduceAdd, Int.reduceSub, Int.reduceMul, Int.reduceNeg, Int.reducePow, Int.reduceLT, Int.reduceLE, Int.reduceEq, Int.reduceNe, Int.reduceToNat, Int.toNat_natCast, Nat.zero_add, Nat.add_zero, Nat.mul_one, Nat.one_mul, Bool.not_true, Bool.not_false, ne_eq, not_true_eq_false, not_false_eq_true, Bool.false_eq_true]
        have := t3.two
        rw [el, ew] at this
        exact hK h3 l3 this (by omega) (fun _ => hl3)
      · by_cases k3 : o.k = 3
        · obtain ⟨cc, hcc, hc8⟩ := u8_nat w
          simp only [go_sem, reduceIte, Nat.reduceAdd, Nat.reduceSub, Nat.reduceMul, Nat.reducePow, Nat.reduceLT, Nat.reduceLeDiff, Nat.reduceEqDiff, Int.reduceAdd, Int.reduceSub, Int.reduceMul, Int.reduceNeg, Int.reducePow, Int.reduceLT, Int.reduceLE, Int.reduceEq, Int.reduceNe, Int.reduceToNat, Int.toNat_natCast, Nat.zero_add, Nat.add_zero, Nat.mul_one, Nat.one_mul, Bool.not_true, Bool.not_false, ne_eq, not_true_eq_false, not_false_eq_true, Bool.false_eq_true, cd, k1, k2, k3, hcc]
          refine t1.setByte hl p o.b hc8 fun v h2 hc f2 hv => ?_
          obtain ⟨e, rfl⟩ := hv
          have g2 := f2 d _ (fun q => hdn (by simp at q ⊢; simp [q])) g1
          have cd2 : ∀ off, h2.cell d off = [AV.int .i64 o.k, .int .i64 o.a, .int .i64 o.b, .int .u64 o.w, .bool o.near][off]? := fun off => cell_of g2 off
          simp only [go_sem, reduceIte, Nat.reduceAdd, Nat.reduceSub, Nat.reduceMul, Nat.reducePow, Nat.reduceLT, Nat.reduceLeDiff, Nat.reduceEqDiff, Int.reduceAdd, Int.reduceSub, Int.reduceMul, Int.reduceNeg, Int.reducePow, Int.reduceLT, Int.reduceLE, Int.reduceEq, Int.reduceNe, Int.reduceToNat, Int.toNat_natCast, Nat.zero_add, Nat.add_zero, Nat.mul_one, Nat.one_mul, Bool.not_true, Bool.not_false, ne_eq, not_true_eq_false, not_false_eq_true, Bool.false_eq_true, cd2, hcc]
          refine hc _ fun h3 s3 os3 l3 t3 el ew hl3 => ?_
          simp only [go_sem, reduceIte, Nat.reduceAdd, Nat.reduceSub, Nat.reduceMul, Nat.reducePow, Nat.reduceLT, Nat.reduceLeDiff, Nat.reduceEqDiff, Int.reduceAdd, Int.reduceSub, Int.reduceMul, Int.reduceNeg, Int.reducePow, Int.reduceLT, Int.reduceLE, Int.reduceEq, Int.reduceNe, Int.reduceToNat, Int.toNat_natCast, Nat.zero_add, Nat.add_zero, Nat.mul_one, Nat.one_mul, Bool.not_true, Bool.not_false, ne_eq, not_true_eq_false, not_false_eq_true, Bool.false_eq_true]
          have := t3.two
          rw [el, ew] at this
          exact hK h3 l3 this (by omega) (fun _ => hl3)
        · simp only [go_sem, reduceIte, Nat.reduceAdd, Nat.reduceSub, Nat.reduceMul, Nat.reducePow, Nat.reduceLT, Nat.reduceLeDiff, Nat.reduceEqDiff, Int.reduceAdd, Int.reduceSub, Int.reduceMul, Int.reduceNeg, Int.reducePow, Int.reduceLT, Int.reduceLE, Int.reduceEq, Int.reduceNe, Int.reduceToNat, Int.toNat_natCast, Nat.zero_add, Nat.add_zero, Nat.mul_one, Nat.one_mul, Bool.not_true, Bool.not_false, ne_eq, not_true_eq_false, not_false_eq_true, Bool.false_eq_true, cd, k1, k2, k3]
          exact hK h1 l t1.two (by omega) (fun _ => rfl)
  · cases hn : o.near with
    | false => simp only [go_sem, reduceIte, Nat.reduceAdd, Nat.reduceSub, Nat.reduceMul, Nat.reducePow, Nat.reduceLT, Nat.reduceLeDiff, Nat.reduceEqDiff, Int.reduceAdd, Int.reduceSub, Int.reduceMul, Int.reduceNeg, Int.reducePow, Int.reduceLT, Int.reduceLE, Int.reduceEq, Int.reduceNe, Int.reduceToNat, Int.toNat_natCast, Nat.zero_add, Nat.add_zero, Nat.mul_one, Nat.one_mul, Bool.not_true, Bool.not_false, ne_eq, not_true_eq_false, not_false_eq_true, Bool.false_eq_true, cd, hn]; exact hJ _ w0 w1
    | true =>
      by_cases hz : (l.length : Int) = 0
      · have hz' : ¬ (0 : Int) < l.length := by omega
        simp only [go_sem, reduceIte, Nat.reduceAdd, Nat.reduceSub, Nat.reduceMul, Nat.reducePow, Nat.reduceLT, Nat.reduceLeDiff, Nat.reduceEqDiff, Int.reduceAdd, Int.reduceSub, Int.reduceMul, Int.reduceNeg, Int.reducePow, Int.reduceLT, Int.reduceLE, Int.reduceEq, Int.reduceNe, Int.reduceToNat, Int.toNat_natCast, Nat.zero_add, Nat.add_zero, Nat.mul_one, Nat.one_mul, Bool.not_true, Bool.not_false, ne_eq, not_true_eq_false, not_false_eq_true, Bool.false_eq_true, cd, hn, c, ov.row.len, hz']; exact hJ _ w0 w1
      · have hz' : (0 : Int) < l.length := by omega
        have e4 : IntKind.u64.wrap (l.length : Int) = l.length := u64_id (by omega) (by omega)
        have e5 : o.w.tmod (l.length : Int) = o.w % (l.length : Int) := Int.tmod_eq_emod_of_nonneg w0
        have m0 := Int.emod_nonneg o.w hz
        have m1 := Int.emod_lt_of_pos o.w hz'
        obtain ⟨k, hk⟩ := Int.eq_ofNat_of_zero_le m0
        rw [hk] at m1 e5
        have hkl : k < l.length := by omega
        have e6 : IntKind.i64.wrap (k : Int) = k := i64_id (by omega) (by omega)
        obtain ⟨x, hx⟩ : ∃ x, l[k]? = some x := ⟨l[k], by simp [hkl]⟩
        obtain ⟨b', q, q1, q2, q3⟩ := ov.obj hx
        obtain ⟨c3, c4, c0⟩ := cells3 q2
        have hx' := t1.range x (List.mem_of_getElem? hx)
        have e7 : IntKind.u64.wrap x.r.a = x.r.a := u64_id (by omega) (by omega)
        have e8 : IntKind.u64.wrap (x.r.a * 2) = x.r.a * 2 := u64_id (by omega) (by omega)
        simp only [go_sem, reduceIte, Nat.reduceAdd, Nat.reduceSub, Nat.reduceMul, Nat.reducePow, Nat.reduceLT, Nat.reduceLeDiff, Nat.reduceEqDiff, Int.reduceAdd, Int.reduceSub, Int.reduceMul, Int.reduceNeg, Int.reducePow, Int.reduceLT, Int.reduceLE, Int.reduceEq, Int.reduceNe, Int.reduceToNat, Int.toNat_natCast, Nat.zero_add, Nat.add_zero, Nat.mul_one, Nat.one_mul, Bool.not_true, Bool.not_false, ne_eq, not_true_eq_false, not_false_eq_true, Bool.false_eq_true, cd, hn, c, ov.row.len, hz', hz, e4, e5, e6, q1, c0, e7, e8]
        exact hJ _ (by omega) (by omega)
end
end Go.Proofs.Ytljkkfcokpimkaa.X
