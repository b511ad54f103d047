/- What the law law27 needs: texts of one's own, put together; functions' contracts and plain facts. -/
import Derived.Test.YtljkkfcokpimkaaT27B
set_option linter.unusedVariables false
set_option linter.unusedSimpArgs false
set_option maxRecDepth 20000
namespace Go.Proofs.Ytljkkfcokpimkaa.X
open Go Go.RowKit
section
variable {h0 h : H} {b bw bd bx : Nat} {B BL : List Nat} {s : Hs} {os : List Ob} {l : List RV}
theorem Both.set (t : Both h0 h b bw bd B s os bx BL l) (hl : l.length ≤ 900) (a i : Int) {w : Int} (w0 : 0 ≤ w) (w1 : w < 18446744073709551616) {K : AV → H → Prop}
    (hK : ∀ v h', (∀ K', (∀ h2 s2 os2 l2, Both h0 h2 b bw bd B s2 os2 bx BL l2 → s2.lays = s.lays → s2.words.length = s.words.length → l2.length = l.length → K' v h2) → C 103 [.ptr bx 0, .int .i64 a, .int .i64 i, .int .u64 w] h' K') → Fr [bw] h h' → (∃ e, v = .int .i64 e) → K v h') :
    C 63 [.ptr b 0, .int .i64 a, .int .i64 i, .int .u64 w] h K := by
  rw [set_a t.hh t.A w0 w1]
  have e1 := t.r.has a i
  have e2 := t.r.fits w
  rw [e1.1, e2]
  cases hq : (hasF l a i && fitsR l w) with
  | false =>
    refine hK _ h (fun K' hK' => ?_) (Fr.refl _ _) ⟨_, rfl⟩
    exact rset_c t.R (by omega) a i w0 w1 (fun _ h2 f2 => hK' h2 s os l (t.keep0 f2) rfl rfl rfl) (fun q => by rw [hq] at q; cases q)
  | true =>
    obtain ⟨q1, q2⟩ : hasF l a i = true ∧ fitsR l w = true := by simpa using hq
    rw [← e1.1] at q1
    obtain ⟨o, hf, k1, k2, k3⟩ := hasO_some q1
    have k1 : kindAt s.lays o.sh ≠ 3 := by simpa using k1
    have hbl := t.A.body hf
    rw [if_neg k1] at hbl
    have hi : ((i.toNat : Nat) : Int) = i := by omega
    have A' := abs_set t.A hf (i := i.toNat) (w := w) (by omega) w0 w1
    rw [hi] at A'
    have f : Fr [bw] h (h.set bw (.live (wc (s.put (a + 1 + i) w).words) 25 true)) := Fr.put (by simp)
    have hh' := t.hh.put (a + 1 + i) w
    have f0 : Fr [] h0 (h.set bw (.live (wc (s.put (a + 1 + i) w).words) 25 true)) := t.R.fr.cons (fun c hc => t.new c (by simp at hc ⊢; simp [hc])) f
    have R' := t.R.keep f (fun c hc q => t.ap c (by simp at q ⊢; simp [q]) hc) f0
    refine hK _ _ (fun K' hK' => ?_) f ⟨_, rfl⟩
    refine rset_c R' (by omega) a i w0 w1 (fun q => by rw [hq] at q; cases q) fun _ h2 f2 R2 => ?_
    have hlen : (s.put (a + 1 + i) w).words.length = s.words.length := by simp [Hs.put]
    have hr := t.r.setF a i.toNat w o (by simpa using hf) k1
    refine hK' h2 (s.put (a + 1 + i) w) _ _ ⟨hh'.fr f2 (fun c hc => t.ap c hc), A', by rw [hlen]; exact R2, by show Rel s.lays 0 _ _; simpa using hr, ?_, t.new, fitAll_set t.fit hf fun _ => by rw [e2]; exact q2⟩ rfl hlen (modR_length ..)
    intro c hc
    rw [modR_blocks bx BL l a (·.setF i.toNat w) fun x => rfl]
    exact t.ap c hc
theorem Both.setByte (t : Both h0 h b bw bd B s os bx BL l) (hl : l.length ≤ 900) (a i : Int) {c : Nat} (hc : c < 256) {K : AV → H → Prop}
    (hK : ∀ v h', (∀ K', (∀ h2 s2 os2 l2, Both h0 h2 b bw bd B s2 os2 bx BL l2 → s2.lays = s.lays → s2.words.length = s.words.length → l2.length = l.length → K' v h2) → C 104 [.ptr bx 0, .int .i64 a, .int .i64 i, .int .u8 (c : Nat)] h' K') → Fr [bw] h h' → (∃ e, v = .int .i64 e) → K v h') :
    C 65 [.ptr b 0, .int .i64 a, .int .i64 i, .int .u8 (c : Nat)] h K := by
  rw [setByte_a t.hh t.A hc]
  have e1 := t.r.has a i
  rw [e1.2]
  cases hq : hasB l a i with
  | false =>
    refine hK _ h (fun K' hK' => ?_) (Fr.refl _ _) ⟨_, rfl⟩
    exact rsetByte_c t.R (by omega) a i c (fun _ h2 f2 => hK' h2 s os l (t.keep0 f2) rfl rfl rfl) (fun q => by rw [hq] at q; cases q)
  | true =>
    have q1 := hq
    rw [← e1.2] at q1
    obtain ⟨o, hf, k1, k2, k3⟩ := hasO_some q1
    have k1 : kindAt s.lays o.sh = 3 := by simpa using k1
    have hbl := t.A.body hf
    rw [if_pos k1] at hbl
    have hlt := findO_lt os a o hf
    have hi : ((i.toNat / 8 : Nat) : Int) = i / 8 := by omega
    have hm : i.toNat % 8 = (i % 8).toNat := by omega
    have hw := t.A.word hf (i.toNat / 8) (by omega)
    rw [hi] at hw
    have wr := t.A.good.wdr (a + 1 + i / 8)
    have pr := putW_range (k := (i % 8).toNat) (c := c) wr.1 wr.2 (by omega) hc
    have A' := abs_set t.A hf (i := i.toNat / 8) (by omega) pr.1 pr.2
    rw [hi] at A'
    generalize hv : putW (s.wd (a + 1 + i / 8)) (i % 8).toNat c = v at *
    have f : Fr [bw] h (h.set bw (.live (wc (s.put (a + 1 + i / 8) v).words) 25 true)) := Fr.put (by simp)
    have hh' := t.hh.put (a + 1 + i / 8) v
    have f0 : Fr [] h0 (h.set bw (.live (wc (s.put (a + 1 + i / 8) v).words) 25 true)) := t.R.fr.cons (fun c hc => t.new c (by simp at hc ⊢; simp [hc])) f
    have R' := t.R.keep f (fun c hc q => t.ap c (by simp at q ⊢; simp [q]) hc) f0
    refine hK _ _ (fun K' hK' => ?_) f ⟨_, rfl⟩
    refine rsetByte_c R' (by omega) a i c (fun q => by rw [hq] at q; cases q) fun _ h2 f2 R2 => ?_
    have hlen : (s.put (a + 1 + i / 8) v).words.length = s.words.length := by simp [Hs.put]
    have hr := t.r.setB a i.toNat c o (by simpa using hf) k1 (by omega) hc
    rw [← hw, hm, hv] at hr
    refine hK' h2 (s.put (a + 1 + i / 8) v) _ _ ⟨hh'.fr f2 (fun c hc => t.ap c hc), A', by rw [hlen]; exact R2, by show Rel s.lays 0 _ _; simpa using hr, ?_, t.new, fitAll_set t.fit hf fun q => absurd k1 q⟩ rfl hlen (modR_length ..)
    intro c' hc'
    rw [modR_blocks bx BL l a (·.setB i.toNat c) fun x => rfl]
    exact t.ap c' hc'
theorem Both.two (t : Both h0 h b bw bd B s os bx BL l) : Two h0 h b bx s.words.length s.lays l := ⟨bw, bd, B, s, os, BL, t, rfl, rfl⟩
theorem u8_nat (w : Int) : ∃ c : Nat, IntKind.u8.wrap w = (c : Int) ∧ c < 256 := by
  refine ⟨(w % 256).toNat, ?_, by omega⟩
  simp [IntKind.wrap, IntKind.bits, IntKind.signed]
  omega
theorem does_c {n : Nat} {lays : List (Int × Int)} (t : Two h0 h b bx n lays l) (hl : l.length ≤ 900) {o : OpI} (ho : o.ok) {K : AV → H → Prop}
    (hK : ∀ h' l', Two h0 h' b bx n lays l' → l'.length ≤ l.length + 1 → (o.k ≠ 1 → l'.length = l.length) → K (.bool true) h') : C 74 [.ptr b 0, .ptr bx 0, .agg o.cells] h K := by
  obtain ⟨bw, bd, B, s, os, BL, t, rfl, rfl⟩ := t
  refine run74 ?_
  have ec : (AV.agg o.cells).cells = o.cells := rfl
  have eo3 : o.cells[3]? = some (.int .u64 o.w) := rfl
  simp only [sh74, go_sem, reduceIte, Nat.reduceAdd, Nat.reduceSub, Nat.reduceMul, Nat.reducePow, Nat.reduceLT, Nat.reduceLeDiff, Nat.reduceEqDiff, Int.reduceAdd, Int.reduceSub, Int.reduceMul, Int.reduceNeg, Int.reducePow, Int.reduceLT, Int.reduceLE, Int.reduceEq, Int.reduceNe, Int.reduceToNat, Int.toNat_natCast, Nat.zero_add, Nat.add_zero, Nat.mul_one, Nat.one_mul, Bool.not_true, Bool.not_false, ne_eq, not_true_eq_false, not_false_eq_true, Bool.false_eq_true, ec, eo3]
  refine ⟨rfl, fun d hd => ?_⟩
  have t1 := t.keep0 (h' := h.set d (.live o.cells 72 true)) ((Fr.refl _ _).set' hd)
  have g1 : (h.set d (.live o.cells 72 true)).get d = some (.live o.cells 72 true) := H.get_same ..
  have hdn : d ∉ b :: bw :: bd :: B := fun q => t.hh.alive d q hd
  have hdx : d ∉ blocksR bx BL l := fun q => t.R.alive d q hd
  generalize h.set d (.live o.cells 72 true) = h1 at *
  have cd : ∀ off, h1.cell d off = [AV.int .i64 o.k, .int .i64 o.a, .int .i64 o.b, .int .u64 o.w, .bool o.near][off]? := fun off => cell_of g1 off
  obtain ⟨lv, Lv, c, r, ov⟩ := t1.R.cells
  have a0 := ho.a0; have a1 := ho.a1; have w0 := ho.w0; have w1 := ho.w1
  simp only [go_sem, reduceIte, Nat.reduceAdd, Nat.reduceSub, Nat.reduceMul, Nat.reducePow, Nat.reduceLT, Nat.reduceLeDiff, Nat.reduceEqDiff, Int.reduceAdd, Int.reduceSub, Int.reduceMul, Int.reduceNeg, Int.reducePow, Int.reduceLT, Int.reduceLE, Int.reduceEq, Int.reduceNe, Int.reduceToNat, Int.toNat_natCast, Nat.zero_add, Nat.add_zero, Nat.mul_one, Nat.one_mul, Bool.not_true, Bool.not_false, ne_eq, not_true_eq_false, not_false_eq_true, Bool.false_eq_true, cd]
  refine join_r (fun (J : AV → H → Prop) => ∀ w : Int, 0 ≤ w → w < 18446744073709551616 → J (.int .u64 w) h1) ?_ fun J hJ => ?_
  · intro w w0 w1
    simp only [go_sem, reduceIte, Nat.reduceAdd, Nat.reduceSub, Nat.reduceMul, Nat.reducePow, Nat.reduceLT, Nat.reduceLeDiff, Nat.reduceEqDiff, Int.reduceAdd, Int.reduceSub, Int.reduceMul, Int.reduceNeg, Int.reducePow, Int.reduceLT, Int.reduceLE, Int.reduceEq, Int.reduceNe, Int.reduceToNat, Int.toNat_natCast, Nat.zero_add, Nat.add_zero, Nat.mul_one, Nat.one_mul, Bool.not_true, Bool.not_false, ne_eq, not_true_eq_false, not_false_eq_true, Bool.false_eq_true, c, cd]
    refine place_c ov t1.range (by omega) a0 a1 fun p p0 p1 => ?_
    by_cases k1 : o.k = 1
    · simp only [go_sem, reduceIte, Nat.reduceAdd, Nat.reduceSub, Nat.reduceMul, Nat.reducePow, Nat.reduceLT, Nat.reduceLeDiff, Nat.reduceEqDiff, Int.reduceAdd, Int.reduceSub, Int.reduceMul, Int.reduceNeg, Int.reducePow, Int.reduceLT, Int.reduceLE, Int.reduceEq, Int.reduceNe, Int.reduceToNat, Int.toNat_natCast, Nat.zero_add, Nat.add_zero, Nat.mul_one, Nat.one_mul, Bool.not_true, Bool.not_false, ne_eq, not_true_eq_false, not_false_eq_true, Bool.false_eq_true, cd, k1]
      refine t1.alloc hl o.a o.b (od := (_, _)) g1 hdn fun v h2 s2 f2 hh2 el ew hc hv => ?_
      obtain ⟨p, e, rfl⟩ := hv
      have g2 := f2 d _ (fun q => hdn (by simp at q ⊢; rcases q with q | q | q <;> simp [q])) g1
      have cd2 : ∀ off, h2.cell d off = [AV.int .i64 o.k, .int .i64 o.a, .int .i64 o.b, .int .u64 o.w, .bool o.near][off]? := fun off => cell_of g2 off
      simp only [go_sem, reduceIte, Nat.reduceAdd, Nat.reduceSub, Nat.reduceMul, Nat.reducePow, Nat.reduceLT, Nat.reduceLeDiff, Nat.reduceEqDiff, Int.reduceAdd, Int.reduceSub, Int.reduceMul, Int.reduceNeg, Int.reducePow, Int.reduceLT, Int.reduceLE, Int.reduceEq, Int.reduceNe, Int.reduceToNat, Int.toNat_natCast, Nat.zero_add, Nat.add_zero, Nat.mul_one, Nat.one_mul, Bool.not_true, Bool.not_false, ne_eq, not_true_eq_false, not_false_eq_true, Bool.false_eq_true, cd2]
      refine hc _ fun h3 os3 BL3 l3 f3 t3 hl3 => ?_
      simp only [go_sem, reduceIte, Nat.reduceAdd, Nat.reduceSub, Nat.reduceMul, Nat.reducePow, Nat.reduceLT, Nat.reduceLeDiff, Nat.reduceEqDiff, Int.reduceAdd, Int.reduceSub, Int.reduceMul, Int.reduceNeg, Int.reducePow, Int.reduceLT, Int.reduceLE, Int.reduceEq, Int.reduceNe, Int.reduceToNat, Int.toNat_natCast, Nat.zero_add, Nat.add_zero, Nat.mul_one, Nat.one_mul, Bool.not_true, Bool.not_false, ne_eq, not_true_eq_false, not_false_eq_true, Bool.false_eq_true]
      have := t3.two
      rw [el, ew] at this
      exact hK h3 l3 this hl3 (fun q => absurd k1 q)
    · by_cases k2 : o.k = 2
      · simp only [go_sem, reduceIte, Nat.reduceAdd, Nat.reduceSub, Nat.reduceMul, Nat.reducePow, Nat.reduceLT, Nat.reduceLeDiff, Nat.reduceEqDiff, Int.reduceAdd, Int.reduceSub, Int.reduceMul, Int.reduceNeg, Int.reducePow, Int.reduceLT, Int.reduceLE, Int.reduceEq, Int.reduceNe, Int.reduceToNat, Int.toNat_natCast, Nat.zero_add, Nat.add_zero, Nat.mul_one, Nat.one_mul, Bool.not_true, Bool.not_false, ne_eq, not_true_eq_false, not_false_eq_true, Bool.false_eq_true, cd, k1, k2]
        refine t1.set hl p o.b w0 w1 fun v h2 hc f2 hv => ?_
        obtain ⟨e, rfl⟩ := hv
        have g2 := f2 d _ (fun q => hdn (by simp at q ⊢; simp [q])) g1
        have cd2 : ∀ off, h2.cell d off = [AV.int .i64 o.k, .int .i64 o.a, .int .i64 o.b, .int .u64 o.w, .bool o.near][off]? := fun off => cell_of g2 off
        simp only [go_sem, reduceIte, Nat.reduceAdd, Nat.reduceSub, Nat.reduceMul, Nat.reducePow, Nat.reduceLT, Nat.reduceLeDiff, Nat.reduceEqDiff, Int.reduceAdd, Int.reduceSub, Int.reduceMul, Int.reduceNeg, Int.reducePow, Int.reduceLT, Int.reduceLE, Int.reduceEq, Int.reduceNe, Int.reduceToNat, Int.toNat_natCast, Nat.zero_add, Nat.add_zero, Nat.mul_one, Nat.one_mul, Bool.not_true, Bool.not_false, ne_eq, not_true_eq_false, not_false_eq_true, Bool.false_eq_true, cd2]
        refine hc _ fun h3 s3 os3 l3 t3 el ew hl3 => ?_
        simp only [go_sem, reduceIte, Nat.reduceAdd, Nat.reduceSub, Nat.reduceMul, Nat.reducePow, Nat.reduceLT, Nat.reduceLeDiff, Nat.reduceEqDiff, Int.reduceAdd, Int.reduceSub, Int.reduceMul, Int.reduceNeg, Int.reducePow, Int.reduceLT, Int.reduceLE, Int.reduceEq, Int.reduceNe, Int.reduceToNat, Int.toNat_natCast, Nat.zero_add, Nat.add_zero, Nat.mul_one, Nat.one_mul, Bool.not_true, Bool.not_false, ne_eq, not_true_eq_false, not_false_eq_true, Bool.false_eq_true]
        have := t3.two
        rw [el, ew] at this
        exact hK h3 l3 this (by omega) (fun _ => hl3)
      · by_cases k3 : o.k = 3
        · obtain ⟨cc, hcc, hc8⟩ := u8_nat w
          simp only [go_sem, reduceIte, Nat.reduceAdd, Nat.reduceSub, Nat.reduceMul, Nat.reducePow, Nat.reduceLT, Nat.reduceLeDiff, Nat.reduceEqDiff, Int.reduceAdd, Int.reduceSub, Int.reduceMul, Int.reduceNeg, Int.reducePow, Int.reduceLT, Int.reduceLE, Int.reduceEq, Int.reduceNe, Int.reduceToNat, Int.toNat_natCast, Nat.zero_add, Nat.add_zero, Nat.mul_one, Nat.one_mul, Bool.not_true, Bool.not_false, ne_eq, not_true_eq_false, not_false_eq_true, Bool.false_eq_true, cd, k1, k2, k3, hcc]
          refine t1.setByte hl p o.b hc8 fun v h2 hc f2 hv => ?_
          obtain ⟨e, rfl⟩ := hv
          have g2 := f2 d _ (fun q => hdn (by simp at q ⊢; simp [q])) g1
          have cd2 : ∀ off, h2.cell d off = [AV.int .i64 o.k, .int .i64 o.a, .int .i64 o.b, .int .u64 o.w, .bool o.near][off]? := fun off => cell_of g2 off
          simp only [go_sem, reduceIte, Nat.reduceAdd, Nat.reduceSub, Nat.reduceMul, Nat.reducePow, Nat.reduceLT, Nat.reduceLeDiff, Nat.reduceEqDiff, Int.reduceAdd, Int.reduceSub, Int.reduceMul, Int.reduceNeg, Int.reducePow, Int.reduceLT, Int.reduceLE, Int.reduceEq, Int.reduceNe, Int.reduceToNat, Int.toNat_natCast, Nat.zero_add, Nat.add_zero, Nat.mul_one, Nat.one_mul, Bool.not_true, Bool.not_false, ne_eq, not_true_eq_false, not_false_eq_true, Bool.false_eq_true, cd2, hcc]
          refine hc _ fun h3 s3 os3 l3 t3 el ew hl3 => ?_
          simp only [go_sem, reduceIte, Nat.reduceAdd, Nat.reduceSub, Nat.reduceMul, Nat.reducePow, Nat.reduceLT, Nat.reduceLeDiff, Nat.reduceEqDiff, Int.reduceAdd, Int.reduceSub, Int.reduceMul, Int.reduceNeg, Int.reducePow, Int.reduceLT, Int.reduceLE, Int.reduceEq, Int.reduceNe, Int.reduceToNat, Int.toNat_natCast, Nat.zero_add, Nat.add_zero, Nat.mul_one, Nat.one_mul, Bool.not_true, Bool.not_false, ne_eq, not_true_eq_false, not_false_eq_true, Bool.false_eq_true]
          have := t3.two
          rw [el, ew] at this
          exact hK h3 l3 this (by omega) (fun _ => hl3)
        · simp only [go_sem, reduceIte, Nat.reduceAdd, Nat.reduceSub, Nat.reduceMul, Nat.reducePow, Nat.reduceLT, Nat.reduceLeDiff, Nat.reduceEqDiff, Int.reduceAdd, Int.reduceSub, Int.reduceMul, Int.reduceNeg, Int.reducePow, Int.reduceLT, Int.reduceLE, Int.reduceEq, Int.reduceNe, Int.reduceToNat, Int.toNat_natCast, Nat.zero_add, Nat.add_zero, Nat.mul_one, Nat.one_mul, Bool.not_true, Bool.not_false, ne_eq, not_true_eq_false, not_false_eq_true, Bool.false_eq_true, cd, k1, k2, k3]
          exact hK h1 l t1.two (by omega) (fun _ => rfl)
  · cases hn : o.near with
    | false => simp only [go_sem, reduceIte, Nat.reduceAdd, Nat.reduceSub, Nat.reduceMul, Nat.reducePow, Nat.reduceLT, Nat.reduceLeDiff, Nat.reduceEqDiff, Int.reduceAdd, Int.reduceSub, Int.reduceMul, Int.reduceNeg, Int.reducePow, Int.reduceLT, Int.reduceLE, Int.reduceEq, Int.reduceNe, Int.reduceToNat, Int.toNat_natCast, Nat.zero_add, Nat.add_zero, Nat.mul_one, Nat.one_mul, Bool.not_true, Bool.not_false, ne_eq, not_true_eq_false, not_false_eq_true, Bool.false_eq_true, cd, hn]; exact hJ _ w0 w1
    | true =>
      by_cases hz : (l.length : Int) = 0
      · have hz' : ¬ (0 : Int) < l.length := by omega
        simp only [go_sem, reduceIte, Nat.reduceAdd, Nat.reduceSub, Nat.reduceMul, Nat.reducePow, Nat.reduceLT, Nat.reduceLeDiff, Nat.reduceEqDiff, Int.reduceAdd, Int.reduceSub, Int.reduceMul, Int.reduceNeg, Int.reducePow, Int.reduceLT, Int.reduceLE, Int.reduceEq, Int.reduceNe, Int.reduceToNat, Int.toNat_natCast, Nat.zero_add, Nat.add_zero, Nat.mul_one, Nat.one_mul, Bool.not_true, Bool.not_false, ne_eq, not_true_eq_false, not_false_eq_true, Bool.false_eq_true, cd, hn, c, ov.row.len, hz']; exact hJ _ w0 w1
      · have hz' : (0 : Int) < l.length := by omega
        have e4 : IntKind.u64.wrap (l.length : Int) = l.length := u64_id (by omega) (by omega)
        have e5 : o.w.tmod (l.length : Int) = o.w % (l.length : Int) := Int.tmod_eq_emod_of_nonneg w0
        have m0 := Int.emod_nonneg o.w hz
        have m1 := Int.emod_lt_of_pos o.w hz'
        obtain ⟨k, hk⟩ := Int.eq_ofNat_of_zero_le m0
        rw [hk] at m1 e5
        have hkl : k < l.length := by omega
        have e6 : IntKind.i64.wrap (k : Int) = k := i64_id (by omega) (by omega)
        obtain ⟨x, hx⟩ : ∃ x, l[k]? = some x := ⟨l[k], by simp [hkl]⟩
        obtain ⟨b', q, q1, q2, q3⟩ := ov.obj hx
        obtain ⟨c3, c4, c0⟩ := cells3 q2
        have hx' := t1.range x (List.mem_of_getElem? hx)
        have e7 : IntKind.u64.wrap x.r.a = x.r.a := u64_id (by omega) (by omega)
        have e8 : IntKind.u64.wrap (x.r.a * 2) = x.r.a * 2 := u64_id (by omega) (by omega)
        simp only [go_sem, reduceIte, Nat.reduceAdd, Nat.reduceSub, Nat.reduceMul, Nat.reducePow, Nat.reduceLT, Nat.reduceLeDiff, Nat.reduceEqDiff, Int.reduceAdd, Int.reduceSub, Int.reduceMul, Int.reduceNeg, Int.reducePow, Int.reduceLT, Int.reduceLE, Int.reduceEq, Int.reduceNe, Int.reduceToNat, Int.toNat_natCast, Nat.zero_add, Nat.add_zero, Nat.mul_one, Nat.one_mul, Bool.not_true, Bool.not_false, ne_eq, not_true_eq_false, not_false_eq_true, Bool.false_eq_true, cd, hn, c, ov.row.len, hz', hz, e4, e5, e6, q1, c0, e7, e8]
        exact hJ _ (by omega) (by omega)
end
end Go.Proofs.Ytljkkfcokpimkaa.X
set_option linter.unusedVariables false
set_option linter.unusedSimpArgs false
set_option maxRecDepth 20000
namespace Go.Proofs.Ytljkkfcokpimkaa.X
open Go Go.RowKit
def opsC (l : List OpI) : List AV := l.flatMap OpI.cells
theorem flat_take {α : Type} (f : α → List AV) (k : Nat) (hk : ∀ x, (f x).length = k) : ∀ (l : List α) (j : Nat), (l.flatMap f).take (j * k) = (l.take j).flatMap f
  | [], j => by simp
  | x :: l, 0 => by simp
  | x :: l, j + 1 => by
    rw [List.take_succ_cons, List.flatMap_cons, List.flatMap_cons, List.take_append, ← flat_take f k hk l j, hk x, List.take_of_length_le (by rw [hk x, Nat.add_mul]; omega)]
    congr 2; rw [Nat.add_mul]; omega
theorem flat_drop {α : Type} (f : α → List AV) (k : Nat) (hk : ∀ x, (f x).length = k) : ∀ (l : List α) (i : Nat) (x : α), l[i]? = some x → ((l.flatMap f).drop (i * k)).take k = f x
  | [], i, x, h => by simp at h
  | y :: l, 0, x, h => by
    simp at h; subst h
    rw [Nat.zero_mul, List.drop_zero, List.flatMap_cons, List.take_append, hk y, Nat.sub_self, List.take_zero, List.append_nil, List.take_of_length_le (by rw [hk y]; omega)]
  | y :: l, i + 1, x, h => by
    rw [List.flatMap_cons, List.drop_append, hk y, List.drop_eq_nil_of_le (by rw [hk y, Nat.add_mul]; omega), List.nil_append]
    have : (i + 1) * k - k = i * k := by rw [Nat.add_mul]; omega
    rw [this]
    exact flat_drop f k hk l i x (by simpa using h)
theorem lies_op {h : H} {l : List AV} (hl : Lies h (.st [.int .i64, .int .i64, .int .i64, .int .u64, .bool]) l) : ∃ o : OpI, l = o.cells ∧ o.ok := by
  simp only [Lies, LiesL] at hl
  obtain ⟨a1, t1, rfl, g1, a2, t2, rfl, g2, a3, t3, rfl, g3, a4, t4, rfl, g4, a5, t5, rfl, g5, rfl⟩ := hl
  obtain ⟨x1, rfl, u1, u1'⟩ := lies_i64 (h := h) (by simpa only [Lies] using g1)
  obtain ⟨x2, rfl, u2, u2'⟩ := lies_i64 (h := h) (by simpa only [Lies] using g2)
  obtain ⟨x3, rfl, u3, u3'⟩ := lies_i64 (h := h) (by simpa only [Lies] using g3)
  obtain ⟨x4, rfl, u4, u4'⟩ := lies_u64 (h := h) (by simpa only [Lies] using g4)
  obtain ⟨x5, rfl⟩ : ∃ x : Bool, a5 = [.bool x] := by simpa only [Lies] using g5
  exact ⟨⟨x1, x2, x3, x4, x5⟩, rfl, ⟨u2, by show x2 ≤ _; omega, u4, u4'⟩⟩
theorem lies_ops {h : H} {l : List AV} (hl : Lies h (.sl (.st [.int .i64, .int .i64, .int .i64, .int .u64, .bool])) l) : ∃ v L, l = [v] ∧ Row h v L.length 5 (opsC L) ∧ (∀ x ∈ L, x.ok) ∧ L.length ≤ reachBytes := by
  rw [Lies] at hl
  rcases hl with rfl | ⟨b, ei, css, rfl, hb, hm, hcs⟩
  · exact ⟨.nilsl, [], rfl, ⟨rfl, .inl ⟨rfl, rfl⟩⟩, by simp, by simp⟩
  · obtain ⟨L, hL, hfl, hlen⟩ : ∃ L : List OpI, (∀ x ∈ L, x.ok) ∧ css.flatten = opsC L ∧ css.length = L.length := by
      clear hb hm
      induction css with
      | nil => exact ⟨[], by simp, rfl, rfl⟩
      | cons c css ih =>
        obtain ⟨L, i1, i2, i3⟩ := ih fun c hc => hcs c (by simp [hc])
        obtain ⟨o, rfl, ho⟩ := lies_op (hcs c (by simp))
        refine ⟨o :: L, ?_, by simp only [List.flatten_cons, i2, opsC, List.flatMap_cons], by simp [i3]⟩
        intro d hd
        rcases List.mem_cons.1 hd with rfl | hd
        · exact ho
        · exact i1 d hd
    have ol : ∀ L : List OpI, (opsC L).length = L.length * 5 := fun L => by
      induction L with
      | nil => rfl
      | cons x l ih => simp only [opsC, List.flatMap_cons] at ih ⊢; simp [OpI.cells, ih]; omega
    refine ⟨_, L, rfl, ⟨ol L, .inr ⟨b, 0, .any, by rw [hlen], rfl, ?_⟩⟩, hL, by omega⟩
    refine H.read_eq hb (by rw [hfl, ol]; omega) ?_
    rw [hfl, List.drop_zero, List.take_of_length_le (by rw [ol]; omega)]
section
variable {h : H}
theorem few_c {v : AV} {ops : List OpI} (hr : Row h v ops.length 5 (opsC ops)) (hm : ops.length ≤ reachBytes) {K : AV → H → Prop}
    (hK : ∀ v' ops', (∀ h1, Row h1 v ops.length 5 (opsC ops) → Row h1 v' ops'.length 5 (opsC ops')) → ops'.length ≤ 200 → ops'.length ≤ ops.length → (∀ o ∈ ops', o ∈ ops) → K v' h) : C 73 [v] h K := by
  refine run73 ?_
  by_cases h1 : 200 < (ops.length : Int)
  · obtain ⟨v', w1, w2⟩ := sl_none hr (j := 200) (by omega) (by omega)
    have w1 : sliceOp (.row 5) v none (some (.int .i64 200)) none = some v' := w1
    simp only [sh73, go_sem, reduceIte, Nat.reduceAdd, Nat.reduceSub, Nat.reduceMul, Nat.reducePow, Nat.reduceLT, Nat.reduceLeDiff, Nat.reduceEqDiff, Int.reduceAdd, Int.reduceSub, Int.reduceMul, Int.reduceNeg, Int.reducePow, Int.reduceLT, Int.reduceLE, Int.reduceEq, Int.reduceNe, Int.reduceToNat, Int.toNat_natCast, Nat.zero_add, Nat.add_zero, Nat.mul_one, Nat.one_mul, Bool.not_true, Bool.not_false, ne_eq, not_true_eq_false, not_false_eq_true, Bool.false_eq_true, hr.len, h1, w1]
    refine hK v' (ops.take 200) (fun h1 r1 => ?_) (by simp; omega) (by simp; omega) fun o ho => List.mem_of_mem_take ho
    obtain ⟨v2, y1, y2⟩ := sl_none r1 (j := 200) (by omega) (by omega)
    have y1 : sliceOp (.row 5) v none (some (.int .i64 200)) none = some v2 := y1
    rw [w1] at y1
    injection y1 with y1
    subst y1
    unfold opsC at y2
    rw [flat_take OpI.cells 5 (fun _ => rfl)] at y2
    have : (ops.take 200).length = 200 := by simp; omega
    rw [this]; exact y2
  · simp only [sh73, go_sem, reduceIte, Nat.reduceAdd, Nat.reduceSub, Nat.reduceMul, Nat.reducePow, Nat.reduceLT, Nat.reduceLeDiff, Nat.reduceEqDiff, Int.reduceAdd, Int.reduceSub, Int.reduceMul, Int.reduceNeg, Int.reducePow, Int.reduceLT, Int.reduceLE, Int.reduceEq, Int.reduceNe, Int.reduceToNat, Int.toNat_natCast, Nat.zero_add, Nat.add_zero, Nat.mul_one, Nat.one_mul, Bool.not_true, Bool.not_false, ne_eq, not_true_eq_false, not_false_eq_true, Bool.false_eq_true, hr.len, h1]
    exact hK v ops (fun _ r => r) (by omega) (by omega) fun o ho => ho
theorem made_d {lv Lo : AV} {lays : List (Int × Int)} {ops : List OpI} (hl : Row h lv lays.length 2 (lc lays)) (hm : lays.length ≤ reachBytes) (ho : Row h Lo ops.length 5 (opsC ops)) (hm2 : ops.length ≤ reachBytes) (hok : ∀ o ∈ ops, o.ok) (words : Int) {K : AV → H → Prop}
    (hnil : ∀ h', Fr [] h h' → K (.tup [.nilp, .nilp]) h')
    (hK : ∀ h' b bx n lays' l, lays' = lays → Two h h' b bx n lays' l → n ≤ 4000 → (words ≤ 4000 → (n : Int) = words) → l.length ≤ 150 → l.length ≤ ops.length → K (.tup [.ptr b 0, .ptr bx 0]) h') : C 60 [.int .i64 words, lv, Lo] h K := by
  refine run60 ?_
  unfold sh60
  refine join_r (fun (J : AV → H → Prop) => ∀ (v : AV) (L : List (Int × Int)), Row h v L.length 2 (lc L) → L.length ≤ reachBytes → (L.length ≤ 512 → L = lays) → J v h) ?_ fun J hJ => ?_
  · intro v L hr hrm hLl
    obtain ⟨W, hW⟩ : ∃ W : Int, (if 4000 < words then (4000 : Int) else words) = W := ⟨_, rfl⟩
    simp only [go_sem, reduceIte, Nat.reduceAdd, Nat.reduceSub, Nat.reduceMul, Nat.reducePow, Nat.reduceLT, Nat.reduceLeDiff, Nat.reduceEqDiff, Int.reduceAdd, Int.reduceSub, Int.reduceMul, Int.reduceNeg, Int.reducePow, Int.reduceLT, Int.reduceLE, Int.reduceEq, Int.reduceNe, Int.reduceToNat, Int.toNat_natCast, Nat.zero_add, Nat.add_zero, Nat.mul_one, Nat.one_mul, Bool.not_true, Bool.not_false, ne_eq, not_true_eq_false, not_false_eq_true, Bool.false_eq_true, hW]
    refine new_c hr hrm (fun he h1 f1 => ?_) (fun he h1 b bw bd B f1 hfr hh => ?_)
    · simp only [go_sem, reduceIte, Nat.reduceAdd, Nat.reduceSub, Nat.reduceMul, Nat.reducePow, Nat.reduceLT, Nat.reduceLeDiff, Nat.reduceEqDiff, Int.reduceAdd, Int.reduceSub, Int.reduceMul, Int.reduceNeg, Int.reducePow, Int.reduceLT, Int.reduceLE, Int.reduceEq, Int.reduceNe, Int.reduceToNat, Int.toNat_natCast, Nat.zero_add, Nat.add_zero, Nat.mul_one, Nat.one_mul, Bool.not_true, Bool.not_false, ne_eq, not_true_eq_false, not_false_eq_true, Bool.false_eq_true, he]
      exact hnil h1 f1
    · obtain ⟨r1, r2, r3, r4⟩ := newErr_range he
      have hWn : ((W.toNat : Nat) : Int) = W := by omega
      simp only [go_sem, reduceIte, Nat.reduceAdd, Nat.reduceSub, Nat.reduceMul, Nat.reducePow, Nat.reduceLT, Nat.reduceLeDiff, Nat.reduceEqDiff, Int.reduceAdd, Int.reduceSub, Int.reduceMul, Int.reduceNeg, Int.reducePow, Int.reduceLT, Int.reduceLE, Int.reduceEq, Int.reduceNe, Int.reduceToNat, Int.toNat_natCast, Nat.zero_add, Nat.add_zero, Nat.mul_one, Nat.one_mul, Bool.not_true, Bool.not_false, ne_eq, not_true_eq_false, not_false_eq_true, Bool.false_eq_true, b_pn]
      refine check_c (hr.fr f1) hrm fun h2 f2 => ?_
      have ev : fillV [.int .i64 0, .nilsl, .nilsl] [(0, 1, .int .i64 W), (1, 1, v)] = some [.int .i64 W, v, .nilsl] := by
        rcases hr.2 with ⟨_, e⟩ | ⟨_, _, _, e, _⟩ <;> subst e <;> rfl
      have elv : leaves [.int .i64 W, v, .nilsl] = true := by simp only [leaves, hr.one.1]; rfl
      simp only [go_sem, reduceIte, Nat.reduceAdd, Nat.reduceSub, Nat.reduceMul, Nat.reducePow, Nat.reduceLT, Nat.reduceLeDiff, Nat.reduceEqDiff, Int.reduceAdd, Int.reduceSub, Int.reduceMul, Int.reduceNeg, Int.reducePow, Int.reduceLT, Int.reduceLE, Int.reduceEq, Int.reduceNe, Int.reduceToNat, Int.toNat_natCast, Nat.zero_add, Nat.add_zero, Nat.mul_one, Nat.one_mul, Bool.not_true, Bool.not_false, ne_eq, not_true_eq_false, not_false_eq_true, Bool.false_eq_true, he, ev, AV.cells]
      refine ⟨elv, fun bx hbx => ?_⟩
      have f12 := f1.trans f2
      have f3 : Fr [] h (h2.set bx (.live [.int .i64 W, v, .nilsl] 56 true)) := f12.set' (f12.free hbx)
      have hh2 := hh.fr0 f2
      have T : Two h (h2.set bx (.live [.int .i64 W, v, .nilsl] 56 true)) b bx W.toNat L [] := by
        refine ⟨bw, bd, B, newHs W.toNat L, [], [], ⟨hh2.fr0 (Fr.new hbx), abs_new _ (by omega) r3 r4, ⟨f3, ⟨v, .nilsl, ?_, hr, rfl, .inl ⟨rfl, rfl, rfl⟩⟩, by simp, by simp [blocksR], ?_⟩, trivial, ?_, ?_, fun o ho => by cases ho⟩, by simp [newHs], rfl⟩
        · have : ((newHs W.toNat L).words.length : Int) = W := by simp [newHs]; omega
          rw [this]; exact H.get_same ..
        · intro c hc
          simp [blocksR] at hc; subst hc
          exact f12.free hbx
        · intro c hc q
          simp [blocksR] at q; subst q
          exact hh2.alive c hc hbx
        · exact fun c hc => hfr c hc
      generalize h2.set bx (.live [.int .i64 W, v, .nilsl] 56 true) = h3 at *
      refine join_r (fun (J : H → Prop) => ∀ h' l, Two h h' b bx W.toNat L l → l.length ≤ 150 → l.length ≤ ops.length → J h') ?_ fun J hJ => ?_
      · intro h' l t q1 q2
        refine hK h' b bx W.toNat L l (hLl r3) t (by split at hW <;> omega) (fun q => by rw [if_neg (by omega)] at hW; omega) q1 q2
      · have ho3 := ho.fr f3
        refine few_c ho3 hm2 fun v' ops' hrr hl1 hl2 hsub => ?_
        have hr0 := hrr h ho
        have hr' := hrr _ ho3
        simp only [go_sem, reduceIte, Nat.reduceAdd, Nat.reduceSub, Nat.reduceMul, Nat.reducePow, Nat.reduceLT, Nat.reduceLeDiff, Nat.reduceEqDiff, Int.reduceAdd, Int.reduceSub, Int.reduceMul, Int.reduceNeg, Int.reducePow, Int.reduceLT, Int.reduceLE, Int.reduceEq, Int.reduceNe, Int.reduceToNat, Int.toNat_natCast, Nat.zero_add, Nat.add_zero, Nat.mul_one, Nat.one_mul, Bool.not_true, Bool.not_false, ne_eq, not_true_eq_false, not_false_eq_true, Bool.false_eq_true, hr'.len]
        refine loop_r (ops'.length + 1) (fun c ls h' => ∃ (l : List RV) (i : Nat), ls = [.int .i64 i] ∧ i ≤ ops'.length ∧ Two h h' b bx W.toNat L l ∧ l.length ≤ 150 ∧ l.length ≤ i ∧ Row h' v' ops'.length 5 (opsC ops') ∧ c = ops'.length + 1 - i)
          ⟨[], 0, rfl, by omega, T, by simp, by simp, hr', by omega⟩ ?_
        rintro c ls h' ⟨l, i, rfl, hi, t, l1, l2, hro, rfl⟩
        by_cases q1 : (i : Int) < ops'.length
        · have hi' : i < ops'.length := by omega
          obtain ⟨o, hoi⟩ : ∃ o, ops'[i]? = some o := ⟨ops'[i], by simp [hi']⟩
          have hoo := hok o (hsub o (List.mem_of_getElem? hoi))
          obtain ⟨b', q, x1, x2, x3⟩ := hro.el (i := i) (by omega) q1
          have x3 : h'.read b' q 5 = some o.cells := by
            rw [x3, Int.toNat_natCast]
            exact congrArg some (flat_drop OpI.cells 5 (fun _ => rfl) ops' i o hoi)
          simp only [go_sem, reduceIte, Nat.reduceAdd, Nat.reduceSub, Nat.reduceMul, Nat.reducePow, Nat.reduceLT, Nat.reduceLeDiff, Nat.reduceEqDiff, Int.reduceAdd, Int.reduceSub, Int.reduceMul, Int.reduceNeg, Int.reducePow, Int.reduceLT, Int.reduceLE, Int.reduceEq, Int.reduceNe, Int.reduceToNat, Int.toNat_natCast, Nat.zero_add, Nat.add_zero, Nat.mul_one, Nat.one_mul, Bool.not_true, Bool.not_false, ne_eq, not_true_eq_false, not_false_eq_true, Bool.false_eq_true, q1, x1, x3]
          refine ⟨rfl, fun d hd => ?_⟩
          have hw : (h'.set d (.live [.int .i64 0, .int .i64 0, .int .i64 0, .int .u64 0, .bool false] 72 true)).write d 0 o.cells = some (h'.set d (.live o.cells 72 true)) := write_new rfl rfl
          have ec : (AV.agg o.cells).cells = o.cells := rfl
          have el : o.cells.length = 5 := rfl
          have f4 : Fr [] h' (h'.set d (.live o.cells 72 true)) := (Fr.refl _ _).set' hd
          have t4 := t.keep0 f4
          have hro4 := hro.fr f4
          have gd : (h'.set d (.live o.cells 72 true)).get d = some (.live o.cells 72 true) := H.get_same ..
          have rd : (h'.set d (.live o.cells 72 true)).read d 0 5 = some o.cells := H.read_eq gd (by rw [el]; omega) rfl
          have c0 : (h'.set d (.live o.cells 72 true)).cell d 0 = some (.int .i64 o.k) := cell_of gd 0
          have en : IntKind.i64.wrap ((i : Int) + 1) = ((i + 1 : Nat) : Int) := by rw [i64_id (by omega) (by omega)]; rfl
          generalize h'.set d (.live o.cells 72 true) = h4 at *
          have t5 := t4
          obtain ⟨bw5, bd5, B5, s5, os5, BL5, t5, e5, e5'⟩ := t5
          obtain ⟨lv5, Lv5, cx, _, ov⟩ := t5.R.cells
          have step : (l.length < 150 ∨ o.k ≠ 1) → ∀ K : AV → H → Prop, (∀ h5 l5, Two h h5 b bx W.toNat L l5 → l5.length ≤ 150 → l5.length ≤ i + 1 → Row h5 v' ops'.length 5 (opsC ops') → K (.bool true) h5) → C 74 [.ptr b 0, .ptr bx 0, .agg o.cells] h4 K := by
            intro hk N hN
            refine does_c t4 (by omega) hoo fun h5 l5 t5 g1 g2 => ?_
            have hro5 : Row h5 v' ops'.length 5 (opsC ops') := by
              obtain ⟨_, _, _, _, _, _, T5, _⟩ := t5
              exact hr0.fr T5.R.fr
            refine hN h5 l5 t5 ?_ (by omega) hro5
            rcases hk with hk | hk
            · omega
            · rw [g2 hk]; exact l1
          by_cases k1 : o.k = 1
          · by_cases k2 : (l.length : Int) < 150
            · simp only [go_sem, reduceIte, Nat.reduceAdd, Nat.reduceSub, Nat.reduceMul, Nat.reducePow, Nat.reduceLT, Nat.reduceLeDiff, Nat.reduceEqDiff, Int.reduceAdd, Int.reduceSub, Int.reduceMul, Int.reduceNeg, Int.reducePow, Int.reduceLT, Int.reduceLE, Int.reduceEq, Int.reduceNe, Int.reduceToNat, Int.toNat_natCast, Nat.zero_add, Nat.add_zero, Nat.mul_one, Nat.one_mul, Bool.not_true, Bool.not_false, ne_eq, not_true_eq_false, not_false_eq_true, Bool.false_eq_true, stA_p, ec, el, hw, c0, k1, cx, ov.row.len, k2, rd]
              exact step (.inl (by omega)) _ fun h5 l5 t5 g1 g2 g3 => ⟨ops'.length + 1 - (i + 1), by omega, l5, i + 1, by rw [en], by omega, t5, g1, g2, g3, rfl⟩
            · simp only [go_sem, reduceIte, Nat.reduceAdd, Nat.reduceSub, Nat.reduceMul, Nat.reducePow, Nat.reduceLT, Nat.reduceLeDiff, Nat.reduceEqDiff, Int.reduceAdd, Int.reduceSub, Int.reduceMul, Int.reduceNeg, Int.reducePow, Int.reduceLT, Int.reduceLE, Int.reduceEq, Int.reduceNe, Int.reduceToNat, Int.toNat_natCast, Nat.zero_add, Nat.add_zero, Nat.mul_one, Nat.one_mul, Bool.not_true, Bool.not_false, ne_eq, not_true_eq_false, not_false_eq_true, Bool.false_eq_true, stA_p, ec, el, hw, c0, k1, cx, ov.row.len, k2, en]
              exact ⟨_, by omega, l, i + 1, rfl, by omega, t4, l1, by omega, hro4, rfl⟩
          · simp only [go_sem, reduceIte, Nat.reduceAdd, Nat.reduceSub, Nat.reduceMul, Nat.reducePow, Nat.reduceLT, Nat.reduceLeDiff, Nat.reduceEqDiff, Int.reduceAdd, Int.reduceSub, Int.reduceMul, Int.reduceNeg, Int.reducePow, Int.reduceLT, Int.reduceLE, Int.reduceEq, Int.reduceNe, Int.reduceToNat, Int.toNat_natCast, Nat.zero_add, Nat.add_zero, Nat.mul_one, Nat.one_mul, Bool.not_true, Bool.not_false, ne_eq, not_true_eq_false, not_false_eq_true, Bool.false_eq_true, stA_p, ec, el, hw, c0, k1, rd]
            exact step (.inr k1) _ fun h5 l5 t5 g1 g2 g3 => ⟨ops'.length + 1 - (i + 1), by omega, l5, i + 1, by rw [en], by omega, t5, g1, g2, g3, rfl⟩
        · simp only [go_sem, reduceIte, Nat.reduceAdd, Nat.reduceSub, Nat.reduceMul, Nat.reducePow, Nat.reduceLT, Nat.reduceLeDiff, Nat.reduceEqDiff, Int.reduceAdd, Int.reduceSub, Int.reduceMul, Int.reduceNeg, Int.reducePow, Int.reduceLT, Int.reduceLE, Int.reduceEq, Int.reduceNe, Int.reduceToNat, Int.toNat_natCast, Nat.zero_add, Nat.add_zero, Nat.mul_one, Nat.one_mul, Bool.not_true, Bool.not_false, ne_eq, not_true_eq_false, not_false_eq_true, Bool.false_eq_true, q1]
          exact hJ h' l t l1 (by omega)
  · by_cases h1 : 600 < (lays.length : Int)
    · obtain ⟨v', w1, w2⟩ := sl_none hl (j := 600) (by omega) (by omega)
      have w1 : sliceOp (.row 2) lv none (some (.int .i64 600)) none = some v' := w1
      simp only [go_sem, reduceIte, Nat.reduceAdd, Nat.reduceSub, Nat.reduceMul, Nat.reducePow, Nat.reduceLT, Nat.reduceLeDiff, Nat.reduceEqDiff, Int.reduceAdd, Int.reduceSub, Int.reduceMul, Int.reduceNeg, Int.reducePow, Int.reduceLT, Int.reduceLE, Int.reduceEq, Int.reduceNe, Int.reduceToNat, Int.toNat_natCast, Nat.zero_add, Nat.add_zero, Nat.mul_one, Nat.one_mul, Bool.not_true, Bool.not_false, ne_eq, not_true_eq_false, not_false_eq_true, Bool.false_eq_true, hl.len, h1, w1]
      unfold lc at w2
      rw [flat_take _ 2 (fun _ => rfl)] at w2
      refine hJ v' (lays.take 600) ?_ (by simp; omega) (fun q => by simp at q; omega)
      have : (lays.take 600).length = 600 := by simp; omega
      rw [this]; exact w2
    · simp only [go_sem, reduceIte, Nat.reduceAdd, Nat.reduceSub, Nat.reduceMul, Nat.reducePow, Nat.reduceLT, Nat.reduceLeDiff, Nat.reduceEqDiff, Int.reduceAdd, Int.reduceSub, Int.reduceMul, Int.reduceNeg, Int.reducePow, Int.reduceLT, Int.reduceLE, Int.reduceEq, Int.reduceNe, Int.reduceToNat, Int.toNat_natCast, Nat.zero_add, Nat.add_zero, Nat.mul_one, Nat.one_mul, Bool.not_true, Bool.not_false, ne_eq, not_true_eq_false, not_false_eq_true, Bool.false_eq_true, hl.len, h1]
      exact hJ lv lays hl hm fun _ => rfl
end
end Go.Proofs.Ytljkkfcokpimkaa.X
set_option linter.unusedVariables false
set_option linter.unusedSimpArgs false
set_option maxRecDepth 20000
namespace Go.Proofs.Ytljkkfcokpimkaa.X
open Go Go.RowKit
theorem mks_zero {h : H} {n : Nat} (hn : n ≤ 65536) {K : AV → H → Prop} (hK : ∀ m, h.get m = none → K (.sl m 0 n (.exact n)) (h.set m (.live (wc (List.replicate n 0)) 25 true))) : mksA h 25 [.int .u64 0] 8 (.int .i64 n) (.int .i64 n) K := by
  have n1 : natOf (.int .i64 (n : Int)) = some n := by simp [natOf]
  unfold mksA
  rw [n1]
  simp only
  refine ⟨⟨Nat.le_refl _, by unfold most; omega, by omega⟩, by rw [repCells_int]; exact leaves_replicate .., fun m hm => ?_⟩
  have := hK m hm
  rw [repCells_int]
  simpa [wc] using this
section
variable {h : H}
theorem get_b {b bw bd : Nat} {B : List Nat} {s : Hs} {os : List Ob} (hh : HeapAt h b bw bd B s) (A : Abs s os) {a i : Int} (K : AV → H → Prop) : C 64 [.ptr b 0, .int .i64 a, .int .i64 i] h K =
    K (if hasO s.lays os a i false then .tup [.int .u64 (s.wd (a + 1 + i)), .int .i64 0] else .tup [.int .u64 0, .int .i64 1]) h := by
  cases hq : hasO s.lays os a i false with
  | true =>
    obtain ⟨o, hf, k1, k2, k3⟩ := hasO_some hq
    have hlt := findO_lt os a o hf
    have htp := A.top; have htp2 := A.good.top; have g1 := A.good.wlen
    rw [get_a hh A (by omega), hq]
  | false =>
    refine callA_eq (run64 ?_) K
    simp only [sh64, go_sem, reduceIte, Nat.reduceAdd, Nat.reduceSub, Nat.reduceMul, Nat.reducePow, Nat.reduceLT, Nat.reduceLeDiff, Nat.reduceEqDiff, Int.reduceAdd, Int.reduceSub, Int.reduceMul, Int.reduceNeg, Int.reducePow, Int.reduceLT, Int.reduceLE, Int.reduceEq, Int.reduceNe, Int.reduceToNat, Int.toNat_natCast, Nat.zero_add, Nat.add_zero, Nat.mul_one, Nat.one_mul, Bool.not_true, Bool.not_false, ne_eq, not_true_eq_false, not_false_eq_true, Bool.false_eq_true, has_a hh A, hq]
end
end Go.Proofs.Ytljkkfcokpimkaa.X
set_option linter.unusedVariables false
set_option linter.unusedSimpArgs false
set_option maxRecDepth 20000
namespace Go.Proofs.Ytljkkfcokpimkaa.X
open Go Go.RowKit
theorem mks_zero8 {h : H} {n : Nat} (hn : n ≤ 65536) {K : AV → H → Prop} (hK : ∀ m, h.get m = none → K (.sl m 0 n (.exact n)) (h.set m (.live (bc (List.replicate n 0)) 5 true))) : mksA h 5 [.int .u8 0] 1 (.int .i64 n) (.int .i64 n) K := by
  have n1 : natOf (.int .i64 (n : Int)) = some n := by simp [natOf]
  unfold mksA
  rw [n1]
  simp only
  refine ⟨⟨Nat.le_refl _, by unfold most; omega, by omega⟩, by rw [repCells_int]; exact leaves_replicate .., fun m hm => ?_⟩
  have := hK m hm
  rw [repCells_int]
  simpa [bc] using this
def Hs.bytes (s : Hs) (a : Int) (n : Nat) : List Nat := (List.range n).map fun i => (byteW (s.wd (a + 1 + ((i / 8 : Nat) : Int))) (i % 8)).toNat
section
variable {h : H} {b bw bd : Nat} {B : List Nat} {s : Hs} {os : List Ob}
theorem text_a (hh : HeapAt h b bw bd B s) (A : Abs s os) (a : Int) {K : AV → H → Prop}
    (hno : (∀ o, findO os a = some o → kindAt s.lays o.sh ≠ 3) → K (.tup [.str [], .int .i64 1]) h)
    (hyes : ∀ o, findO os a = some o → kindAt s.lays o.sh = 3 → ∀ h', Fr [] h h' → K (.tup [.str ((s.bytes a o.n.toNat).map UInt8.ofNat), .int .i64 0]) h') : C 71 [.ptr b 0, .int .i64 a] h K := by
  refine run71 ?_
  obtain ⟨lv, cc, r, _⟩ := hh.cells
  cases hf : findO os a with
  | none =>
    simp only [sh71, go_sem, reduceIte, Nat.reduceAdd, Nat.reduceSub, Nat.reduceMul, Nat.reducePow, Nat.reduceLT, Nat.reduceLeDiff, Nat.reduceEqDiff, Int.reduceAdd, Int.reduceSub, Int.reduceMul, Int.reduceNeg, Int.reducePow, Int.reduceLT, Int.reduceLE, Int.reduceEq, Int.reduceNe, Int.reduceToNat, Int.toNat_natCast, Nat.zero_add, Nat.add_zero, Nat.mul_one, Nat.one_mul, Bool.not_true, Bool.not_false, ne_eq, not_true_eq_false, not_false_eq_true, Bool.false_eq_true, is_a hh A, hf, Option.isSome_none]
    exact hno (by rw [hf]; simp)
  | some o =>
    obtain ⟨t1, t2, t3, t4, t5, t6, t7, t8, t9, t10, t11⟩ := A.at hf
    have g3 := A.good.top
    have hp := row_pos o
    have i1 : a < (s.words.length : Nat) := by omega
    have wr := A.good.wdr a
    obtain ⟨bl, q, q1, q2, q3, q4⟩ := r.lay (lay_get (L := s.lays) t4 t5)
    have hi : ((o.sh.toNat : Nat) : Int) = o.sh := by omega
    rw [hi] at q1
    have sc : ∀ (h : H) K, C 33 [.int .u64 (s.wd a)] h K = K (.int .i64 o.sh) h := fun h K => by rw [shape_c wr.1 wr.2]; unfold shapeOf at t2; rw [t2]
    have lc' : ∀ (h : H) K, C 35 [.int .u64 (s.wd a)] h K = K (.int .i64 o.n) h := fun h K => by rw [len_c wr.1 wr.2]; unfold lenOf at t3; rw [t3]
    by_cases k1 : kindAt s.lays o.sh = 3
    · simp only [sh71, go_sem, reduceIte, Nat.reduceAdd, Nat.reduceSub, Nat.reduceMul, Nat.reducePow, Nat.reduceLT, Nat.reduceLeDiff, Nat.reduceEqDiff, Int.reduceAdd, Int.reduceSub, Int.reduceMul, Int.reduceNeg, Int.reducePow, Int.reduceLT, Int.reduceLE, Int.reduceEq, Int.reduceNe, Int.reduceToNat, Int.toNat_natCast, Nat.zero_add, Nat.add_zero, Nat.mul_one, Nat.one_mul, Bool.not_true, Bool.not_false, ne_eq, not_true_eq_false, not_false_eq_true, Bool.false_eq_true, is_a hh A, hf, Option.isSome_some, cc, t8, i1, hh.word t8 i1, sc, q1, q2, k1, lc']
      obtain ⟨n, hn⟩ := Int.eq_ofNat_of_zero_le t6
      rw [hn]
      have hyes := hyes o hf k1
      rw [hn] at hyes t7 t10
      rw [Int.toNat_natCast] at hyes
      rw [if_pos k1] at t10
      have g1 := A.good.wlen
      have hbl : (s.bytes a n).length = n := by simp [Hs.bytes]
      refine mks_zero8 (n := n) (by omega) fun m hm => ?_
      refine join_r (fun (J : H → Prop) => ∀ h', Fr [] h h' → h'.get m = some (.live (bc (s.bytes a n)) 5 true) → J h') ?_ fun J hJ => ?_
      · intro h' f gm
        have rw1 : Row h' (.sl m 0 n (.exact n)) (s.bytes a n).length 1 (bc (s.bytes a n)) := ⟨by rw [bc_length]; omega, .inr ⟨m, 0, _, by rw [hbl], by simp [Cap.fits], H.read_eq gm (by rw [bc_length]; omega) (by rw [List.drop_zero, List.take_of_length_le (by rw [bc_length]; omega)])⟩⟩
        simp only [go_sem, reduceIte, Nat.reduceAdd, Nat.reduceSub, Nat.reduceMul, Nat.reducePow, Nat.reduceLT, Nat.reduceLeDiff, Nat.reduceEqDiff, Int.reduceAdd, Int.reduceSub, Int.reduceMul, Int.reduceNeg, Int.reducePow, Int.reduceLT, Int.reduceLE, Int.reduceEq, Int.reduceNe, Int.reduceToNat, Int.toNat_natCast, Nat.zero_add, Nat.add_zero, Nat.mul_one, Nat.one_mul, Bool.not_true, Bool.not_false, ne_eq, not_true_eq_false, not_false_eq_true, Bool.false_eq_true, rw1.b2s]
        exact hyes h' f
      · simp only [go_sem, reduceIte, Nat.reduceAdd, Nat.reduceSub, Nat.reduceMul, Nat.reducePow, Nat.reduceLT, Nat.reduceLeDiff, Nat.reduceEqDiff, Int.reduceAdd, Int.reduceSub, Int.reduceMul, Int.reduceNeg, Int.reducePow, Int.reduceLT, Int.reduceLE, Int.reduceEq, Int.reduceNe, Int.reduceToNat, Int.toNat_natCast, Nat.zero_add, Nat.add_zero, Nat.mul_one, Nat.one_mul, Bool.not_true, Bool.not_false, ne_eq, not_true_eq_false, not_false_eq_true, Bool.false_eq_true, lenA_s]
        refine loop_r (n + 1) (fun c ls h2 => ∃ (i : Nat) (M : List Nat), ls = [.int .i64 i] ∧ i ≤ n ∧ h2.get m = some (.live (bc M) 5 true) ∧ M.length = n ∧ (∀ k, k < i → M[k]? = (s.bytes a n)[k]?) ∧ Fr [] h h2 ∧ c = n + 1 - i)
          ⟨0, _, rfl, by omega, H.get_same .., by simp, by simp, (Fr.refl _ _).set' hm, rfl⟩ ?_
        rintro c ls h2 ⟨i, M, rfl, hin, gm, hM, hMk, f, rfl⟩
        by_cases q1 : (i : Int) < n
        · have hh2 := hh.fr0 f
          obtain ⟨lv2, cc2, r2, _⟩ := hh2.cells
          have i0 : (0 : Int) ≤ i := by omega
          have d1 : (i : Int).tdiv 8 = ((i / 8 : Nat) : Int) := by rw [Int.tdiv_eq_ediv_of_nonneg i0]; omega
          have d2 : (i : Int).tmod 8 = ((i % 8 : Nat) : Int) := by rw [Int.tmod_eq_emod_of_nonneg i0]; omega
          have e0 : IntKind.i64.wrap ((i / 8 : Nat) : Int) = ((i / 8 : Nat) : Int) := i64_id (by omega) (by omega)
          have e1 : IntKind.i64.wrap (IntKind.i64.wrap (a + 1) + ((i / 8 : Nat) : Int)) = a + 1 + ((i / 8 : Nat) : Int) := by rw [i64_id (n := a + 1) (by omega) (by omega), i64_id (by omega) (by omega)]
          have e2 : IntKind.i64.wrap (((i % 8 : Nat) : Int) * 8) = ((i % 8 : Nat) : Int) * 8 := i64_id (by omega) (by omega)
          have e3 : (((i % 8 : Nat) : Int) * 8).toNat = 8 * (i % 8) := by omega
          have b0 : 0 ≤ ((i % 8 : Nat) : Int) * 8 := by omega
          have b1 : ((i % 8 : Nat) : Int) * 8 ≤ 64 := by omega
          have j0 : 0 ≤ a + 1 + ((i / 8 : Nat) : Int) := by omega
          have j1 : a + 1 + ((i / 8 : Nat) : Int) < (s.words.length : Nat) := by omega
          have en : IntKind.i64.wrap ((i : Int) + 1) = ((i + 1 : Nat) : Int) := by rw [i64_id (by omega) (by omega)]; rfl
          have br := byteW_range (s.wd (a + 1 + ((i / 8 : Nat) : Int))) (i % 8)
          obtain ⟨c, hc⟩ := Int.eq_ofNat_of_zero_le br.1
          have st := st_one (k := .u8) (n := (c : Int)) gm (off := i) (by rw [bc_length]; omega)
          rw [bc_set] at st
          simp only [go_sem, reduceIte, Nat.reduceAdd, Nat.reduceSub, Nat.reduceMul, Nat.reducePow, Nat.reduceLT, Nat.reduceLeDiff, Nat.reduceEqDiff, Int.reduceAdd, Int.reduceSub, Int.reduceMul, Int.reduceNeg, Int.reducePow, Int.reduceLT, Int.reduceLE, Int.reduceEq, Int.reduceNe, Int.reduceToNat, Int.toNat_natCast, Nat.zero_add, Nat.add_zero, Nat.mul_one, Nat.one_mul, Bool.not_true, Bool.not_false, ne_eq, not_true_eq_false, not_false_eq_true, Bool.false_eq_true, q1, i0, cc2, d1, d2, e0, e1, e2, e3, b0, b1, j0, j1, hh2.word j0 j1, u8_byte, hc, st, en, Int.toNat_natCast]
          refine ⟨n + 1 - (i + 1), by omega, i + 1, _, rfl, by omega, H.get_same .., by simpa using hM, fun k hk => ?_, f.set' hm, rfl⟩
          rw [List.getElem?_set]
          by_cases e : i = k
          · subst e
            rw [if_pos rfl, if_pos (by omega)]
            simp only [Hs.bytes, List.getElem?_map, List.getElem?_range (show i < n by omega), Option.map_some, hc]
            rfl
          · rw [if_neg e]; exact hMk k (by omega)
        · have : M = s.bytes a n := by
            apply List.ext_getElem?
            intro k
            by_cases hk : k < n
            · exact hMk k (by omega)
            · rw [List.getElem?_eq_none (by omega), List.getElem?_eq_none (by omega)]
          subst this
          simp only [go_sem, reduceIte, Nat.reduceAdd, Nat.reduceSub, Nat.reduceMul, Nat.reducePow, Nat.reduceLT, Nat.reduceLeDiff, Nat.reduceEqDiff, Int.reduceAdd, Int.reduceSub, Int.reduceMul, Int.reduceNeg, Int.reducePow, Int.reduceLT, Int.reduceLE, Int.reduceEq, Int.reduceNe, Int.reduceToNat, Int.toNat_natCast, Nat.zero_add, Nat.add_zero, Nat.mul_one, Nat.one_mul, Bool.not_true, Bool.not_false, ne_eq, not_true_eq_false, not_false_eq_true, Bool.false_eq_true, q1]
          exact hJ h2 f gm
    · simp only [sh71, go_sem, reduceIte, Nat.reduceAdd, Nat.reduceSub, Nat.reduceMul, Nat.reducePow, Nat.reduceLT, Nat.reduceLeDiff, Nat.reduceEqDiff, Int.reduceAdd, Int.reduceSub, Int.reduceMul, Int.reduceNeg, Int.reducePow, Int.reduceLT, Int.reduceLE, Int.reduceEq, Int.reduceNe, Int.reduceToNat, Int.toNat_natCast, Nat.zero_add, Nat.add_zero, Nat.mul_one, Nat.one_mul, Bool.not_true, Bool.not_false, ne_eq, not_true_eq_false, not_false_eq_true, Bool.false_eq_true, is_a hh A, hf, Option.isSome_some, cc, t8, i1, hh.word t8 i1, sc, q1, q2, k1, lc']
      exact hno (by rw [hf]; intro o' e; injection e with e; subst e; exact k1)
end
end Go.Proofs.Ytljkkfcokpimkaa.X
set_option linter.unusedVariables false
set_option linter.unusedSimpArgs false
set_option maxRecDepth 20000
namespace Go.Proofs.Ytljkkfcokpimkaa.X
open Go Go.RowKit
section
variable {s : Hs} {os : List Ob} {l : List RV}
theorem Packs.wd (A : Abs s os) {a : Int} {o : Ob} (hf : findO os a = some o) {bs : List Nat} (p : Packs bs o.body) : s.bytes a bs.length = bs := by
  apply List.ext_getElem?
  intro k
  by_cases hk : k < bs.length
  · have hb : k / 8 < o.body.length := by rw [p.1]; omega
    have hw := A.word hf (k / 8) hb
    have h2 := p.2 k (by rw [p.1]; omega)
    simp only [Hs.bytes, List.getElem?_map, List.getElem?_range hk, Option.map_some]
    rw [hw, h2, Int.toNat_natCast, List.getD_eq_getElem?_getD, List.getElem?_eq_getElem hk]
    rfl
  · have : (s.bytes a bs.length).length = bs.length := by simp [Hs.bytes]
    rw [List.getElem?_eq_none (by omega), List.getElem?_eq_none (by omega)]
theorem Packs.byte (A : Abs s os) {a i : Int} {o : Ob} (hf : findO os a = some o) {bs : List Nat} (p : Packs bs o.body) (h0 : 0 ≤ i) (h1 : i < bs.length) : byteW (s.wd (a + 1 + i / 8)) (i % 8).toNat = ((bs.getD i.toNat 0 : Nat) : Int) := by
  have hb : i.toNat / 8 < o.body.length := by rw [p.1]; omega
  have hw := A.word hf (i.toNat / 8) hb
  have h2 := p.2 i.toNat (by rw [p.1]; omega)
  have e1 : ((i.toNat / 8 : Nat) : Int) = i / 8 := by omega
  have e2 : i.toNat % 8 = (i % 8).toNat := by omega
  rw [e1] at hw
  rw [e2] at h2
  rw [hw, h2]
end
end Go.Proofs.Ytljkkfcokpimkaa.X
set_option linter.unusedVariables false
set_option linter.unusedSimpArgs false
set_option maxRecDepth 20000
namespace Go.Proofs.Ytljkkfcokpimkaa.X
open Go Go.RowKit
structure Pre (s : Hs) (os : List Ob) : Prop where
  good : s.good
  rest : ∃ r, s.words = rowOf os ++ r
  top : s.top = (rowOf os).length
  bits : ∀ a : Nat, a / 64 < s.heads.length → (s.bit a ↔ (findO os a).isSome = true)
  each : ∀ o ∈ os, needN s.lays o.sh o.n = ((o.row.length : Int), 0)
def Hs.cut (s : Hs) (os : List Ob) : Hs := { s with words := rowOf os ++ List.replicate (s.words.length - (rowOf os).length) 0 }
theorem Abs.pre {s : Hs} {os : List Ob} (A : Abs s os) : Pre s os := ⟨A.good, ⟨_, A.words⟩, A.top, A.bits, A.each⟩
theorem Pre.le {s : Hs} {os : List Ob} (P : Pre s os) : (rowOf os).length ≤ s.words.length := by
  obtain ⟨r, hr⟩ := P.rest; rw [hr]; simp
theorem Pre.cut {s : Hs} {os : List Ob} (P : Pre s os) : Abs (s.cut os) os := by
  have g := P.good; have hle := P.le
  have hl : (s.cut os).words.length = s.words.length := by simp [Hs.cut]; omega
  obtain ⟨r, hr⟩ := P.rest
  refine ⟨⟨by rw [hl]; exact g.wlen, by rw [hl]; exact g.hlen, g.llen, g.kinds, fun w hw => ?_, g.hrange, by rw [hl]; exact g.top⟩, ?_, P.top, P.bits, P.each⟩
  · simp only [Hs.cut, List.mem_append, List.mem_replicate] at hw
    rcases hw with hw | ⟨_, rfl⟩
    · exact g.wrange w (by rw [hr]; simp [hw])
    · omega
  · rw [hl]; rfl
theorem Pre.isAt {s : Hs} {os : List Ob} (P : Pre s os) (a : Int) : s.isAt a = (findO os a).isSome := P.cut.isAt a
theorem Pre.wd {s : Hs} {os : List Ob} (P : Pre s os) {a : Int} (h1 : a.toNat < (rowOf os).length) : s.wd a = (s.cut os).wd a := by
  obtain ⟨r, hr⟩ := P.rest
  unfold Hs.wd
  rw [hr]
  simp only [Hs.cut, List.getD_eq_getElem?_getD]
  rw [List.getElem?_append_left h1, List.getElem?_append_left h1]
theorem Pre.at {s : Hs} {os : List Ob} (P : Pre s os) {a : Int} {o : Ob} (h : findO os a = some o) :
    s.wd a = headN o.sh o.n ∧ shapeOf (s.wd a) = o.sh ∧ lenOf (s.wd a) = o.n ∧ 0 ≤ o.sh ∧ o.sh < s.lays.length ∧ 0 ≤ o.n ∧ o.n ≤ 65536 ∧ 0 ≤ a ∧ a + o.row.length ≤ s.top ∧ (o.row.length : Int) = (if kindAt s.lays o.sh = 3 then 1 + (o.n + 7) / 8 else 1 + o.n) ∧ (kindAt s.lays o.sh = 1 → o.n = nAt s.lays o.sh) := by
  have hlt := findO_lt os a o h
  have hp := row_pos o
  rw [P.wd (by omega)]
  exact P.cut.at h
theorem Pre.word {s : Hs} {os : List Ob} (P : Pre s os) {a : Int} {o : Ob} (h : findO os a = some o) (j : Nat) (hj : j < o.body.length) : s.wd (a + 1 + j) = o.body.getD j 0 := by
  have hlt := findO_lt os a o h
  have hl : o.row.length = o.body.length + 1 := by simp [Ob.row]
  rw [P.wd (by omega)]
  exact P.cut.word h j hj
theorem Pre.body {s : Hs} {os : List Ob} (P : Pre s os) {a : Int} {o : Ob} (hf : findO os a = some o) : (o.body.length : Int) = (if kindAt s.lays o.sh = 3 then (o.n + 7) / 8 else o.n) := P.cut.body hf
theorem os_le : ∀ os : List Ob, os.length ≤ (rowOf os).length
  | [] => by simp
  | o :: os => by rw [rowOf_cons, List.length_append, List.length_cons]; have := row_pos o; have := os_le os; omega
def atsO : List Ob → Nat → List Nat
  | [], _ => []
  | o :: os, p => p :: atsO os (p + o.row.length)
theorem atsO_length : ∀ (os : List Ob) (p : Nat), (atsO os p).length = os.length
  | [], _ => rfl
  | o :: os, p => by simp [atsO, atsO_length os]
theorem atsO_le : ∀ (os : List Ob) (p : Nat), ∀ a ∈ atsO os p, p ≤ a
  | [], _, _, h => by cases h
  | o :: os, p, a, h => by
    rcases List.mem_cons.1 h with rfl | h
    · exact Nat.le_refl _
    · have := atsO_le os _ a h; omega
theorem atsO_sorted : ∀ (os : List Ob) (p : Nat), (atsO os p).Pairwise (· < ·)
  | [], _ => .nil
  | o :: os, p => .cons (fun a h => by have := atsO_le os _ a h; have := row_pos o; omega) (atsO_sorted os _)
theorem atsO_mem : ∀ (os : List Ob) (p a : Nat), a ∈ atsO os p ↔ (findO os ((a : Int) - p)).isSome = true
  | [], p, a => by simp [atsO, findO]
  | o :: os, p, a => by
    have hp := row_pos o
    rw [atsO, List.mem_cons, findO, atsO_mem os]
    by_cases h : a = p
    · subst h; simp
    · have e : ((a : Int) - p) - o.row.length = (a : Int) - ((p + o.row.length : Nat) : Int) := by omega
      rw [if_neg (by omega), e]
      simp [h]
theorem atsO_get : ∀ (os : List Ob) (p i : Nat) (o : Ob), os[i]? = some o → ∃ a, (atsO os p)[i]? = some a ∧ findO os ((a : Int) - p) = some o
  | [], p, i, o, h => by simp at h
  | x :: os, p, 0, o, h => by
    simp at h; subst h
    exact ⟨p, rfl, by simp [findO]⟩
  | x :: os, p, i + 1, o, h => by
    obtain ⟨a, h1, h2⟩ := atsO_get os (p + x.row.length) i o (by simpa using h)
    have hle := atsO_le os _ a (List.mem_of_getElem? h1)
    have hp := row_pos x
    refine ⟨a, by simpa [atsO] using h1, ?_⟩
    rw [findO, if_neg (by omega)]
    have e : ((a : Int) - p) - x.row.length = (a : Int) - ((p + x.row.length : Nat) : Int) := by omega
    rw [e]; exact h2
theorem filt_step : ∀ (l : List Nat) (t : Nat), l.Pairwise (· < ·) → l.filter (fun a => decide (a < t + 1)) = l.filter (fun a => decide (a < t)) ++ if t ∈ l then [t] else []
  | [], t, _ => rfl
  | a :: l, t, h => by
    obtain ⟨h1, h2⟩ := List.pairwise_cons.1 h
    have ih := filt_step l t h2
    by_cases q : a < t
    · have e : t ≠ a := by omega
      rw [List.filter_cons, List.filter_cons, if_pos (by simp; omega), if_pos (by simp; omega), ih]
      simp [e]
    · have e1 : l.filter (fun a => decide (a < t)) = [] := by
        rw [List.filter_eq_nil_iff]; intro x hx; have := h1 x hx; simp; omega
      have e2 : t ∉ l := fun hx => by have := h1 t hx; omega
      rw [e1, if_neg e2] at ih
      by_cases q2 : a = t
      · subst q2
        rw [List.filter_cons, List.filter_cons, if_pos (by simp), if_neg (by simp), ih, e1]
        simp
      · rw [List.filter_cons, List.filter_cons, if_neg (by simp; omega), if_neg (by simp; omega), ih, e1]
        have : t ≠ a := by omega
        simp [this, e2]
def nc (l : List Nat) : List AV := l.map fun n : Nat => AV.int .i64 (n : Int)
section
variable {h : H} {b bw bd : Nat} {B : List Nat} {s : Hs} {os : List Ob}
theorem objects_p (hh : HeapAt h b bw bd B s) (P : Pre s os) {K : AV → H → Prop} (hK : ∀ v h', Fr [] h h' → Row h' v os.length 1 (nc (atsO os 0)) → K v h') : C 59 [.ptr b 0] h K := by
  refine run59 ?_
  have g := P.good
  have gw := g.wlen; have gt := g.top
  unfold sh59
  refine join_r (fun (J : AV → H → Prop) => ∀ v h', Fr [] h h' → Row h' v os.length 1 (nc (atsO os 0)) → J v h') (fun v h' f r => hK v h' f r) fun J hJ => ?_
  simp only [top_c hh]
  refine loop_r (s.top + 1) (fun c ls h2 => ∃ (t : Nat) (v : AV), ls = [v, .int .i64 t] ∧ t ≤ s.top ∧ Own h h2 3 1 v ((atsO os 0).filter (fun a => decide (a < t))).length (nc ((atsO os 0).filter (fun a => decide (a < t)))) ∧ Fr [] h h2 ∧ c = s.top + 1 - t)
    ⟨0, .nilsl, rfl, by omega, by rw [show (atsO os 0).filter (fun a => decide (a < 0)) = [] from List.filter_eq_nil_iff.2 (by simp)]; exact Own.nil .., Fr.refl _ _, rfl⟩ ?_
  rintro c ls h2 ⟨t, v, rfl, ht, o, f, rfl⟩
  by_cases q1 : (t : Int) < s.top
  · have en : IntKind.i64.wrap ((t : Int) + 1) = ((t + 1 : Nat) : Int) := by rw [i64_id (by omega) (by omega)]; rfl
    have isc := fun K => is_c (hh.fr0 f) g t K
    have hm : s.isAt t = decide (t ∈ atsO os 0) := by
      have := atsO_mem os 0 t
      rw [P.isAt]
      simp only [Int.sub_zero, Int.natCast_zero, Int.ofNat_eq_natCast] at this
      cases hq : (findO os t).isSome <;> rw [hq] at this <;> simpa using this
    have hs := filt_step (atsO os 0) t (atsO_sorted os 0)
    by_cases q2 : t ∈ atsO os 0
    · rw [if_pos q2] at hs
      have ef : fillV [.int .i64 0] [(0, 1, .int .i64 t)] = some [.int .i64 t] := rfl
      have hlen : ((atsO os 0).filter (fun a => decide (a < t))).length ≤ 65536 := by
        have h1 := List.length_filter_le (fun a => decide (a < t)) (atsO os 0)
        have h2 := os_le os
        have h3 := P.top
        rw [atsO_length] at h1
        omega
      simp only [joinA, go_sem, reduceIte, Nat.reduceAdd, Nat.reduceSub, Nat.reduceMul, Nat.reducePow, Nat.reduceLT, Nat.reduceLeDiff, Nat.reduceEqDiff, Int.reduceAdd, Int.reduceSub, Int.reduceMul, Int.reduceNeg, Int.reducePow, Int.reduceLT, Int.reduceLE, Int.reduceEq, Int.reduceNe, Int.reduceToNat, Int.toNat_natCast, Nat.zero_add, Nat.add_zero, Nat.mul_one, Nat.one_mul, Bool.not_true, Bool.not_false, ne_eq, not_true_eq_false, not_false_eq_true, Bool.false_eq_true, q1, isc, hm, q2, ef]
      refine append_one (ty := 3) o rfl (by decide) (leaves_map _ (fun _ => rfl) _) rfl f ?_ fun v' h' o' f' _ => ?_
      · unfold most; omega
      · simp only [go_sem, reduceIte, Nat.reduceAdd, Nat.reduceSub, Nat.reduceMul, Nat.reducePow, Nat.reduceLT, Nat.reduceLeDiff, Nat.reduceEqDiff, Int.reduceAdd, Int.reduceSub, Int.reduceMul, Int.reduceNeg, Int.reducePow, Int.reduceLT, Int.reduceLE, Int.reduceEq, Int.reduceNe, Int.reduceToNat, Int.toNat_natCast, Nat.zero_add, Nat.add_zero, Nat.mul_one, Nat.one_mul, Bool.not_true, Bool.not_false, ne_eq, not_true_eq_false, not_false_eq_true, Bool.false_eq_true, en]
        refine ⟨s.top + 1 - (t + 1), by omega, t + 1, v', rfl, by omega, ?_, f', rfl⟩
        rw [hs, List.length_append]
        simpa [nc] using o'
    · rw [if_neg q2, List.append_nil] at hs
      simp only [joinA, go_sem, reduceIte, Nat.reduceAdd, Nat.reduceSub, Nat.reduceMul, Nat.reducePow, Nat.reduceLT, Nat.reduceLeDiff, Nat.reduceEqDiff, Int.reduceAdd, Int.reduceSub, Int.reduceMul, Int.reduceNeg, Int.reducePow, Int.reduceLT, Int.reduceLE, Int.reduceEq, Int.reduceNe, Int.reduceToNat, Int.toNat_natCast, Nat.zero_add, Nat.add_zero, Nat.mul_one, Nat.one_mul, Bool.not_true, Bool.not_false, ne_eq, not_true_eq_false, not_false_eq_true, Bool.false_eq_true, q1, isc, hm, q2, en]
      exact ⟨s.top + 1 - (t + 1), by omega, t + 1, v, rfl, by omega, by rw [hs]; exact o, f, rfl⟩
  · have e : t = s.top := by omega
    have hall : (atsO os 0).filter (fun a => decide (a < t)) = atsO os 0 := by
      rw [List.filter_eq_self]
      intro a ha
      have := (atsO_mem os 0 a).1 ha
      obtain ⟨o', ho'⟩ := Option.isSome_iff_exists.1 this
      have := findO_lt os _ o' ho'
      have := row_pos o'
      have := P.top
      simp; omega
    simp only [go_sem, reduceIte, Nat.reduceAdd, Nat.reduceSub, Nat.reduceMul, Nat.reducePow, Nat.reduceLT, Nat.reduceLeDiff, Nat.reduceEqDiff, Int.reduceAdd, Int.reduceSub, Int.reduceMul, Int.reduceNeg, Int.reducePow, Int.reduceLT, Int.reduceLE, Int.reduceEq, Int.reduceNe, Int.reduceToNat, Int.toNat_natCast, Nat.zero_add, Nat.add_zero, Nat.mul_one, Nat.one_mul, Bool.not_true, Bool.not_false, ne_eq, not_true_eq_false, not_false_eq_true, Bool.false_eq_true, q1]
    rw [hall, atsO_length] at o
    exact hJ v h2 f o.row
end
end Go.Proofs.Ytljkkfcokpimkaa.X
set_option linter.unusedVariables false
set_option linter.unusedSimpArgs false
set_option maxRecDepth 20000
namespace Go.Proofs.Ytljkkfcokpimkaa.X
open Go Go.RowKit
def wdL (ws : List Int) (a : Nat) : Int := ws.getD a 0
def needL (lays : List (Int × Int)) (ws : List Int) (a : Nat) : Int × Int := needN lays (shapeOf (wdL ws a)) (lenOf (wdL ws a))
def badL (lays : List (Int × Int)) (ws : List Int) (top a : Nat) : Prop := (needL lays ws a).2 ≠ 0 ∨ headN (shapeOf (wdL ws a)) (lenOf (wdL ws a)) ≠ wdL ws a ∨ (top : Int) - a < (needL lays ws a).1
def obL (lays : List (Int × Int)) (ws : List Int) (a : Nat) : Ob := ⟨shapeOf (wdL ws a), lenOf (wdL ws a), (ws.drop (a + 1)).take ((needL lays ws a).1.toNat - 1)⟩
open Classical in
noncomputable def parse (lays : List (Int × Int)) (ws : List Int) (top : Nat) : Nat → List Ob → Option (List Ob)
  | 0, _ => none
  | k + 1, acc => if (rowOf acc).length < top then (if badL lays ws top (rowOf acc).length then none else parse lays ws top k (acc ++ [obL lays ws (rowOf acc).length])) else some acc
structure Got (lays : List (Int × Int)) (ws : List Int) (top : Nat) (acc : List Ob) : Prop where
  row : rowOf acc = ws.take (rowOf acc).length
  le : (rowOf acc).length ≤ top
  each : ∀ o ∈ acc, needN lays o.sh o.n = ((o.row.length : Int), 0)
theorem got_nil (lays : List (Int × Int)) (ws : List Int) (top : Nat) : Got lays ws top [] := ⟨by simp [rowOf], by simp [rowOf], by simp⟩
theorem got_step {lays : List (Int × Int)} {ws : List Int} {top : Nat} {acc : List Ob} (g : Got lays ws top acc) (ht : top ≤ ws.length) (h1 : (rowOf acc).length < top) (h2 : ¬ badL lays ws top (rowOf acc).length) :
    Got lays ws top (acc ++ [obL lays ws (rowOf acc).length]) ∧ ((rowOf (acc ++ [obL lays ws (rowOf acc).length])).length : Int) = (rowOf acc).length + (needL lays ws (rowOf acc).length).1 := by
  unfold badL at h2
  obtain ⟨h2, h2'⟩ := not_or.1 h2
  obtain ⟨h3, h4⟩ := not_or.1 h2'
  have he : (needL lays ws (rowOf acc).length).2 = 0 := by simpa using h2
  have h3 : headN (shapeOf (wdL ws (rowOf acc).length)) (lenOf (wdL ws (rowOf acc).length)) = wdL ws (rowOf acc).length := by simpa using h3
  obtain ⟨p1, _⟩ := need_pos he
  have p1 : 1 ≤ (needL lays ws (rowOf acc).length).1 := p1
  generalize ha : (rowOf acc).length = a at *
  have hrow : (obL lays ws a).row = (ws.drop a).take (needL lays ws a).1.toNat := by
    have hd : ws.drop a = wdL ws a :: ws.drop (a + 1) := by
      rw [List.drop_eq_getElem_cons (by omega)]; congr 1
      unfold wdL
      rw [List.getD_eq_getElem?_getD, List.getElem?_eq_getElem (by omega)]; rfl
    obtain ⟨k, hk⟩ : ∃ k, (needL lays ws a).1.toNat = k + 1 := ⟨(needL lays ws a).1.toNat - 1, by omega⟩
    rw [hd, hk, List.take_succ_cons]
    simp only [Ob.row, obL, h3, hk, Nat.add_sub_cancel]
  have hlen : (obL lays ws a).row.length = (needL lays ws a).1.toNat := by
    rw [hrow, List.length_take, List.length_drop]; omega
  have hr2 : rowOf (acc ++ [obL lays ws a]) = rowOf acc ++ (obL lays ws a).row := by rw [rowOf_append]; simp [rowOf]
  have hl2 : (rowOf (acc ++ [obL lays ws a])).length = a + (needL lays ws a).1.toNat := by rw [hr2, List.length_append, ha, hlen]
  refine ⟨⟨?_, by rw [hl2]; omega, ?_⟩, by rw [hl2]; omega⟩
  · rw [hl2, hr2, g.row, ha, hrow, List.take_add]
  · intro o ho
    rcases List.mem_append.1 ho with ho | ho
    · exact g.each o ho
    · simp at ho; subst ho
      rw [hlen]
      show needL lays ws a = _
      refine Prod.ext ?_ he
      show (needL lays ws a).1 = _
      omega
def tailO (o : Ob) : Bool := decide (o.n % 8 = 0) || decide (o.body.getD (o.n / 8).toNat 0 / 2 ^ (8 * (o.n % 8).toNat) = 0)
def okO (lays : List (Int × Int)) (os : List Ob) (o : Ob) : Bool := if kindAt lays o.sh = 3 then tailO o else o.body.all (fitsO os)
def wholeO (lays : List (Int × Int)) (os : List Ob) : Bool := os.all (okO lays os)
noncomputable def closeO (lays : List (Int × Int)) (ws : List Int) (t : Int) : Option (List Ob) :=
  if t < 0 ∨ (ws.length : Int) < t then none else match parse lays ws t.toNat (t.toNat + 1) [] with
  | none => none
  | some os => if wholeO lays os = true then some os else none
section
variable {h : H} {b bw bd : Nat} {B : List Nat} {s : Hs} {os : List Ob}
theorem whole_c (hh : HeapAt h b bw bd B s) (P : Pre s os) {K : AV → H → Prop} (hK : ∀ h', Fr [] h h' → K (.bool (wholeO s.lays os)) h') : C 106 [.ptr b 0] h K := by
  refine run106 ?_
  have g := P.good
  have gw := g.wlen; have gt := g.top
  unfold sh106
  refine join_r (fun (J : H → Prop) => ∀ h', Fr [] h h' → wholeO s.lays os = true → J h') (fun h' f e => by have := hK h' f; rw [e] at this; exact this) fun J hJ => ?_
  refine objects_p hh P fun v h1 f1 r => ?_
  simp only [go_sem, reduceIte, Nat.reduceAdd, Nat.reduceSub, Nat.reduceMul, Nat.reducePow, Nat.reduceLT, Nat.reduceLeDiff, Nat.reduceEqDiff, Int.reduceAdd, Int.reduceSub, Int.reduceMul, Int.reduceNeg, Int.reducePow, Int.reduceLT, Int.reduceLE, Int.reduceEq, Int.reduceNe, Int.reduceToNat, Int.toNat_natCast, Nat.zero_add, Nat.add_zero, Nat.mul_one, Nat.one_mul, Bool.not_true, Bool.not_false, ne_eq, not_true_eq_false, not_false_eq_true, Bool.false_eq_true, r.len]
  have hol : os.length ≤ 65536 := by
    have h1 := P.top
    have := os_le os
    omega
  refine loop_r (os.length + 1) (fun c ls h2 => ∃ i : Nat, ls = [.int .i64 i] ∧ i ≤ os.length ∧ Fr [] h1 h2 ∧ wholeO s.lays os = (os.drop i).all (okO s.lays os) ∧ c = os.length + 1 - i) ⟨0, rfl, by omega, Fr.refl _ _, rfl, rfl⟩ ?_
  rintro c ls h2 ⟨i, rfl, hi, f2, hw, rfl⟩
  by_cases q1 : (i : Int) < os.length
  · have hi' : i < os.length := by omega
    obtain ⟨o, ho⟩ : ∃ o, os[i]? = some o := ⟨os[i], by simp [hi']⟩
    obtain ⟨a, ha, hf⟩ := atsO_get os 0 i o ho
    have hf : findO os a = some o := by simpa using hf
    have hdrop : os.drop i = o :: os.drop (i + 1) := by
      rw [List.drop_eq_getElem_cons hi']; congr 1
      rw [List.getElem?_eq_getElem hi'] at ho; injection ho
    rw [hdrop, List.all_cons] at hw
    have en : IntKind.i64.wrap ((i : Int) + 1) = ((i + 1 : Nat) : Int) := by rw [i64_id (by omega) (by omega)]; rfl
    have hh2 := (hh.fr0 f1).fr0 f2
    obtain ⟨b5, o5, x1, x2⟩ := (r.fr f2).at (i := i) (x := .int .i64 a) (by omega) q1 (by rw [Int.toNat_natCast]; unfold nc; rw [List.getElem?_map, ha]; rfl)
    obtain ⟨lv, cc, rl, _⟩ := hh2.cells
    obtain ⟨t1, t2, t3, t4, t5, t6, t7, t8, t9, t10, t11⟩ := P.at hf
    have hp := row_pos o
    have hrl : o.row.length = o.body.length + 1 := by simp [Ob.row]
    have hbl := P.body hf
    have i1 : (a : Int) < (s.words.length : Nat) := by omega
    have wr := g.wdr a
    obtain ⟨bl, q, y1, y2, y3, y4⟩ := rl.lay (lay_get (L := s.lays) t4 t5)
    have hi3 : ((o.sh.toNat : Nat) : Int) = o.sh := by omega
    rw [hi3] at y1
    have sc : ∀ (h : H) K, C 33 [.int .u64 (s.wd a)] h K = K (.int .i64 o.sh) h := fun h K => by rw [shape_c wr.1 wr.2]; unfold shapeOf at t2; rw [t2]
    have lc' : ∀ (h : H) K, C 35 [.int .u64 (s.wd a)] h K = K (.int .i64 o.n) h := fun h K => by rw [len_c wr.1 wr.2]; unfold lenOf at t3; rw [t3]
    have hwd := hh2.word t8 i1
    rw [Int.toNat_natCast] at hwd
    have fin : okO s.lays os o = true → ∃ n', n' < os.length + 1 - i ∧ ∃ i' : Nat, [AV.int .i64 ((i + 1 : Nat) : Int)] = [.int .i64 i'] ∧ i' ≤ os.length ∧ Fr [] h1 h2 ∧ wholeO s.lays os = (os.drop i').all (okO s.lays os) ∧ n' = os.length + 1 - i' := fun e =>
      ⟨os.length + 1 - (i + 1), by omega, i + 1, rfl, by omega, f2, by rw [hw, e, Bool.true_and], rfl⟩
    have bad : okO s.lays os o = false → K (.bool false) h2 := fun e => by
      have := hK h2 (f1.trans f2)
      rw [hw, e, Bool.false_and] at this
      exact this
    clear hw hK hJ
    by_cases k3 : kindAt s.lays o.sh = 3
    · have eok : okO s.lays os o = tailO o := by unfold okO; rw [if_pos k3]
      rw [if_pos k3] at hbl
      rw [eok] at fin bad
      have e2 : o.n.tmod 8 = o.n % 8 := Int.tmod_eq_emod_of_nonneg t6
      by_cases m : 0 < o.n % 8
      · obtain ⟨k, hk⟩ := Int.eq_ofNat_of_zero_le (show 0 ≤ o.n % 8 by omega)
        obtain ⟨j, hj⟩ := Int.eq_ofNat_of_zero_le (show 0 ≤ o.n / 8 by omega)
        have e1 : IntKind.i64.wrap (o.n.tdiv 8) = j := by rw [Int.tdiv_eq_ediv_of_nonneg t6, hj, i64_id (by omega) (by omega)]
        have e3 : IntKind.i64.wrap (IntKind.i64.wrap ((a : Int) + 1) + j) = a + 1 + j := by rw [i64_id (n := (a : Int) + 1) (by omega) (by omega), i64_id (by omega) (by omega)]
        have e4 : IntKind.i64.wrap ((k : Int) * 8) = k * 8 := i64_id (by omega) (by omega)
        have b0 : 0 ≤ (k : Int) * 8 := by omega
        have b1 : (k : Int) * 8 ≤ 64 := by omega
        have j0 : 0 ≤ (a : Int) + 1 + j := by omega
        have j1 : (a : Int) + 1 + j < (s.words.length : Nat) := by omega
        have wr2 := g.wdr (a + 1 + j)
        have hw2 := P.word hf j (by omega)
        have e5 : ((k : Int) * 8).toNat = 8 * k := by omega
        have hq := div_pow_range (8 * k) wr2.1 wr2.2
        have et : tailO o = decide (s.wd (a + 1 + j) / 2 ^ (8 * k) = 0) := by
          unfold tailO
          rw [hk, hj, Int.toNat_natCast, Int.toNat_natCast, hw2]
          have : ¬ (k : Int) = 0 := by omega
          rw [decide_eq_false this, Bool.false_or]
        rw [hk] at m e2
        by_cases z : 0 < s.wd (a + 1 + j) / 2 ^ (8 * k)
        · rw [et, decide_eq_false (by omega)] at bad
          simp only [joinA, go_sem, reduceIte, Nat.reduceAdd, Nat.reduceSub, Nat.reduceMul, Nat.reducePow, Nat.reduceLT, Nat.reduceLeDiff, Nat.reduceEqDiff, Int.reduceAdd, Int.reduceSub, Int.reduceMul, Int.reduceNeg, Int.reducePow, Int.reduceLT, Int.reduceLE, Int.reduceEq, Int.reduceNe, Int.reduceToNat, Int.toNat_natCast, Nat.zero_add, Nat.add_zero, Nat.mul_one, Nat.one_mul, Bool.not_true, Bool.not_false, ne_eq, not_true_eq_false, not_false_eq_true, Bool.false_eq_true, q1, x1, x2, cc, t8, i1, hwd, lc', sc, y1, y2, k3, e2, m, e1, e3, e4, b0, b1, j0, j1, hh2.word j0 j1, e5, z]
          exact bad rfl
        · rw [et, decide_eq_true (by omega)] at fin
          simp only [joinA, go_sem, reduceIte, Nat.reduceAdd, Nat.reduceSub, Nat.reduceMul, Nat.reducePow, Nat.reduceLT, Nat.reduceLeDiff, Nat.reduceEqDiff, Int.reduceAdd, Int.reduceSub, Int.reduceMul, Int.reduceNeg, Int.reducePow, Int.reduceLT, Int.reduceLE, Int.reduceEq, Int.reduceNe, Int.reduceToNat, Int.toNat_natCast, Nat.zero_add, Nat.add_zero, Nat.mul_one, Nat.one_mul, Bool.not_true, Bool.not_false, ne_eq, not_true_eq_false, not_false_eq_true, Bool.false_eq_true, q1, x1, x2, cc, t8, i1, hwd, lc', sc, y1, y2, k3, e2, m, e1, e3, e4, b0, b1, j0, j1, hh2.word j0 j1, e5, z, en]
          exact fin rfl
      · have et : tailO o = true := by
          unfold tailO
          have : o.n % 8 = 0 := by omega
          simp [this]
        simp only [joinA, go_sem, reduceIte, Nat.reduceAdd, Nat.reduceSub, Nat.reduceMul, Nat.reducePow, Nat.reduceLT, Nat.reduceLeDiff, Nat.reduceEqDiff, Int.reduceAdd, Int.reduceSub, Int.reduceMul, Int.reduceNeg, Int.reducePow, Int.reduceLT, Int.reduceLE, Int.reduceEq, Int.reduceNe, Int.reduceToNat, Int.toNat_natCast, Nat.zero_add, Nat.add_zero, Nat.mul_one, Nat.one_mul, Bool.not_true, Bool.not_false, ne_eq, not_true_eq_false, not_false_eq_true, Bool.false_eq_true, q1, x1, x2, cc, t8, i1, hwd, lc', sc, y1, y2, k3, e2, m, en]
        exact fin et
    · have eok : okO s.lays os o = o.body.all (fitsO os) := by unfold okO; rw [if_neg k3]
      rw [if_neg k3] at hbl
      rw [eok] at fin bad
      obtain ⟨n, hn⟩ := Int.eq_ofNat_of_zero_le t6
      rw [hn] at lc' hbl
      simp only [joinA, go_sem, reduceIte, Nat.reduceAdd, Nat.reduceSub, Nat.reduceMul, Nat.reducePow, Nat.reduceLT, Nat.reduceLeDiff, Nat.reduceEqDiff, Int.reduceAdd, Int.reduceSub, Int.reduceMul, Int.reduceNeg, Int.reducePow, Int.reduceLT, Int.reduceLE, Int.reduceEq, Int.reduceNe, Int.reduceToNat, Int.toNat_natCast, Nat.zero_add, Nat.add_zero, Nat.mul_one, Nat.one_mul, Bool.not_true, Bool.not_false, ne_eq, not_true_eq_false, not_false_eq_true, Bool.false_eq_true, q1, x1, x2, cc, t8, i1, hwd, lc', sc, y1, y2, k3]
      refine loop_r (n + 1) (fun c ls h3 => ∃ j : Nat, ls = [.int .i64 j] ∧ j ≤ n ∧ o.body.all (fitsO os) = (o.body.drop j).all (fitsO os) ∧ h3 = h2 ∧ c = n + 1 - j) ⟨0, rfl, by omega, rfl, rfl, rfl⟩ ?_
      rintro c ls h3 ⟨j, rfl, hj, hw, he, rfl⟩
      rw [he]
      by_cases q2 : (j : Int) < n
      · have hj' : j < o.body.length := by omega
        have e3 : IntKind.i64.wrap (IntKind.i64.wrap ((a : Int) + 1) + j) = a + 1 + j := by rw [i64_id (n := (a : Int) + 1) (by omega) (by omega), i64_id (by omega) (by omega)]
        have j0 : 0 ≤ (a : Int) + 1 + j := by omega
        have j1 : (a : Int) + 1 + j < (s.words.length : Nat) := by omega
        have wr2 := g.wdr (a + 1 + j)
        have hw2 := P.word hf j (by omega)
        have en2 : IntKind.i64.wrap ((j : Int) + 1) = ((j + 1 : Nat) : Int) := by rw [i64_id (by omega) (by omega)]; rfl
        have hd : o.body.drop j = s.wd (a + 1 + j) :: o.body.drop (j + 1) := by
          rw [List.drop_eq_getElem_cons hj', hw2, List.getD_eq_getElem?_getD, List.getElem?_eq_getElem hj']; rfl
        have ef : s.fits (s.wd (a + 1 + j)) = fitsO os (s.wd (a + 1 + j)) := by unfold Hs.fits fitsO; rw [P.isAt]
        rw [hd, List.all_cons] at hw
        cases z : fitsO os (s.wd (a + 1 + j)) with
        | true =>
          rw [z, Bool.true_and] at hw
          simp only [go_sem, reduceIte, Nat.reduceAdd, Nat.reduceSub, Nat.reduceMul, Nat.reducePow, Nat.reduceLT, Nat.reduceLeDiff, Nat.reduceEqDiff, Int.reduceAdd, Int.reduceSub, Int.reduceMul, Int.reduceNeg, Int.reducePow, Int.reduceLT, Int.reduceLE, Int.reduceEq, Int.reduceNe, Int.reduceToNat, Int.toNat_natCast, Nat.zero_add, Nat.add_zero, Nat.mul_one, Nat.one_mul, Bool.not_true, Bool.not_false, ne_eq, not_true_eq_false, not_false_eq_true, Bool.false_eq_true, q2, cc, e3, j0, j1, hh2.word j0 j1, fits_c hh2 g wr2.1 wr2.2, ef, z, en2]
          exact ⟨n + 1 - (j + 1), by omega, j + 1, rfl, by omega, hw, rfl⟩
        | false =>
          rw [z, Bool.false_and] at hw
          simp only [go_sem, reduceIte, Nat.reduceAdd, Nat.reduceSub, Nat.reduceMul, Nat.reducePow, Nat.reduceLT, Nat.reduceLeDiff, Nat.reduceEqDiff, Int.reduceAdd, Int.reduceSub, Int.reduceMul, Int.reduceNeg, Int.reducePow, Int.reduceLT, Int.reduceLE, Int.reduceEq, Int.reduceNe, Int.reduceToNat, Int.toNat_natCast, Nat.zero_add, Nat.add_zero, Nat.mul_one, Nat.one_mul, Bool.not_true, Bool.not_false, ne_eq, not_true_eq_false, not_false_eq_true, Bool.false_eq_true, q2, cc, e3, j0, j1, hh2.word j0 j1, fits_c hh2 g wr2.1 wr2.2, ef, z]
          exact bad hw
      · have : o.body.drop j = [] := List.drop_eq_nil_of_le (by omega)
        rw [this] at hw
        simp only [go_sem, reduceIte, Nat.reduceAdd, Nat.reduceSub, Nat.reduceMul, Nat.reducePow, Nat.reduceLT, Nat.reduceLeDiff, Nat.reduceEqDiff, Int.reduceAdd, Int.reduceSub, Int.reduceMul, Int.reduceNeg, Int.reducePow, Int.reduceLT, Int.reduceLE, Int.reduceEq, Int.reduceNe, Int.reduceToNat, Int.toNat_natCast, Nat.zero_add, Nat.add_zero, Nat.mul_one, Nat.one_mul, Bool.not_true, Bool.not_false, ne_eq, not_true_eq_false, not_false_eq_true, Bool.false_eq_true, q2, en]
        exact fin hw
  · simp only [go_sem, reduceIte, Nat.reduceAdd, Nat.reduceSub, Nat.reduceMul, Nat.reducePow, Nat.reduceLT, Nat.reduceLeDiff, Nat.reduceEqDiff, Int.reduceAdd, Int.reduceSub, Int.reduceMul, Int.reduceNeg, Int.reducePow, Int.reduceLT, Int.reduceLE, Int.reduceEq, Int.reduceNe, Int.reduceToNat, Int.toNat_natCast, Nat.zero_add, Nat.add_zero, Nat.mul_one, Nat.one_mul, Bool.not_true, Bool.not_false, ne_eq, not_true_eq_false, not_false_eq_true, Bool.false_eq_true, q1]
    have : os.drop i = [] := List.drop_eq_nil_of_le (by omega)
    rw [this] at hw
    exact hJ h2 (f1.trans f2) hw
end
end Go.Proofs.Ytljkkfcokpimkaa.X
set_option linter.unusedVariables false
set_option linter.unusedSimpArgs false
set_option maxRecDepth 20000
namespace Go.Proofs.Ytljkkfcokpimkaa.X
open Go Go.RowKit
theorem overlay_end : ∀ (vs cs pre : List AV), vs.length = cs.length → overlay (pre ++ cs) pre.length vs = pre ++ vs
  | [], cs, pre, hl => by
    have : cs = [] := List.eq_nil_of_length_eq_zero (by simpa using hl.symm)
    subst this; rfl
  | v :: vs, [], pre, hl => by simp at hl
  | v :: vs, c :: cs, pre, hl => by
    have := overlay_end vs cs (pre ++ [v]) (by simpa using hl)
    simp only [List.length_append, List.length_singleton, List.append_assoc, List.singleton_append] at this
    rw [overlay, List.set_append_right _ _ (Nat.le_refl _)]
    simpa using this
theorem clear_end {h : H} {b e t n : Nat} {ws : List Int} (hb : h.get b = some (.live (wc ws) e true)) (hn : t + n = ws.length) {K : AV → H → Prop}
    (hK : K .undef (if n = 0 then h else h.set b (.live (wc (ws.take t ++ List.replicate n 0)) e true))) (c : Cap) : clearA h [.int .u64 0] (.sl b t n c) K := by
  unfold clearA
  by_cases h0 : n = 0
  · simp only [h0, if_true] at hK ⊢; exact hK
  · simp only [h0, if_false] at hK ⊢
    have hl : leaves (repCells [AV.int .u64 0] n) = true := by rw [repCells_int]; exact leaves_replicate ..
    have : h.write b t (repCells [AV.int .u64 0] n) = some (h.set b (.live (wc (ws.take t ++ List.replicate n 0)) e true)) := by
      unfold H.write
      rw [hb]
      simp only [hl, and_true]
      rw [repCells_int, if_pos (by rw [List.length_replicate, wc_length]; omega)]
      congr 3
      have e1 : wc ws = wc (ws.take t) ++ wc (ws.drop t) := by unfold wc; rw [← List.map_append, List.take_append_drop]
      have e2 : (wc (ws.take t)).length = t := by rw [wc_length, List.length_take]; omega
      rw [e1]
      conv => lhs; arg 2; rw [← e2]
      rw [overlay_end _ _ _ (by rw [List.length_replicate, wc_length, List.length_drop]; omega)]
      simp [wc]
    rw [this]
    exact hK
theorem mark_bits {M : List Int} (hM : ∀ w ∈ M, 0 ≤ w ∧ w < 18446744073709551616) {t : Nat} (ht : t / 64 < M.length) (a : Nat) :
    ((M.set (t / 64) (orBit (M.getD (t / 64) 0) (t % 64))).getD (a / 64) 0 / 2 ^ (a % 64) % 2 = 1) ↔ (a = t ∨ M.getD (a / 64) 0 / 2 ^ (a % 64) % 2 = 1) := by
  have hbr := getD_range hM (t / 64)
  by_cases hq : a / 64 = t / 64
  · have : (M.set (t / 64) (orBit (M.getD (t / 64) 0) (t % 64))).getD (a / 64) 0 = orBit (M.getD (t / 64) 0) (t % 64) := by
      rw [hq, List.getD_eq_getElem?_getD, List.getElem?_set]; simp [ht]
    rw [this, orBit_bit hbr.1 hbr.2 (by omega), hq]
    constructor
    · rintro (h | h)
      · left; omega
      · exact .inr h
    · rintro (h | h)
      · left; omega
      · exact .inr h
  · have : (M.set (t / 64) (orBit (M.getD (t / 64) 0) (t % 64))).getD (a / 64) 0 = M.getD (a / 64) 0 := by
      rw [List.getD_eq_getElem?_getD, List.getElem?_set, if_neg (fun e => hq e.symm), ← List.getD_eq_getElem?_getD]
    rw [this]
    constructor
    · exact .inr
    · rintro (h | h)
      · subst h; exact absurd rfl hq
      · exact h
section
variable {h : H} {b bw bd : Nat} {B : List Nat} {s : Hs} {os : List Ob}
theorem HeapAt.blank (hh : HeapAt h b bw bd B s) {m : Nat} (hm : ∀ c ∈ b :: bw :: bd :: B, c ≠ m) {M : List Int} (gm : h.get m = some (.live (wc M) 25 true)) (t : Nat) : ∃ cs, h.get b = some (.live cs 130 true) ∧ cs.length = 4 ∧
    HeapAt (h.set b (.live ((cs.set 1 (.sl m 0 M.length (.exact M.length))).set 3 (.int .i64 t)) 130 true)) b bw m B { s with heads := M, top := t } := by
  obtain ⟨⟨lv, h1, h2⟩, h3, h4, h5⟩ := hh
  refine ⟨_, h1, by simp, ⟨lv, ?_, ?_⟩, ?_, ?_, h5.1, hm b (by simp), hm bw (by simp), h5.2.2.2.1, h5.2.2.2.2.1, fun q => hm m (by simp [q]) rfl⟩
  · rw [H.get_same]; rfl
  · rcases h2 with q | ⟨bl, q1, q2, q3⟩
    · exact .inl q
    · exact .inr ⟨bl, q1, q2, by rw [H.get_other _ _ (fun e => h5.2.2.2.1 (by rw [q2, ← e]; simp))]; exact q3⟩
  · rw [H.get_other _ _ (fun e => h5.1 e.symm), h3]
  · rw [H.get_other _ _ (fun e => hm b (by simp) e.symm), gm]
theorem set_set {h : H} {b : Nat} {x y : Obj} : (h.set b x).set b y = h.set b y := by
  apply H.ext'
  intro k
  simp only [H.get_set]
  split <;> rfl
theorem close_c (hh : HeapAt h b bw bd B s) (g : s.good) (t : Int) {K : AV → H → Prop} (hno : closeO s.lays s.words t = none → ∀ h', Fr [] h h' → K (.int .i64 1) h')
    (hyes : ∀ os, closeO s.lays s.words t = some os → ∀ h' m s', Fr [b, bw] h h' → h.get m = none → HeapAt h' b bw m B s' → Abs s' os → s'.lays = s.lays → s'.words.length = s.words.length → K (.int .i64 0) h') : C 80 [.ptr b 0, .int .i64 t] h K := by
  refine run80 ?_
  have gw := g.wlen; have gl := g.hlen
  obtain ⟨lv, cc, rl, gb⟩ := hh.cells
  by_cases c1 : t < 0
  · simp only [sh80, go_sem, reduceIte, Nat.reduceAdd, Nat.reduceSub, Nat.reduceMul, Nat.reducePow, Nat.reduceLT, Nat.reduceLeDiff, Nat.reduceEqDiff, Int.reduceAdd, Int.reduceSub, Int.reduceMul, Int.reduceNeg, Int.reducePow, Int.reduceLT, Int.reduceLE, Int.reduceEq, Int.reduceNe, Int.reduceToNat, Int.toNat_natCast, Nat.zero_add, Nat.add_zero, Nat.mul_one, Nat.one_mul, Bool.not_true, Bool.not_false, ne_eq, not_true_eq_false, not_false_eq_true, Bool.false_eq_true, b_pn, c1, cc]
    exact hno (by unfold closeO; rw [if_pos (.inl c1)]) h (Fr.refl _ _)
  by_cases c2 : (s.words.length : Int) < t
  · simp only [sh80, go_sem, reduceIte, Nat.reduceAdd, Nat.reduceSub, Nat.reduceMul, Nat.reducePow, Nat.reduceLT, Nat.reduceLeDiff, Nat.reduceEqDiff, Int.reduceAdd, Int.reduceSub, Int.reduceMul, Int.reduceNeg, Int.reducePow, Int.reduceLT, Int.reduceLE, Int.reduceEq, Int.reduceNe, Int.reduceToNat, Int.toNat_natCast, Nat.zero_add, Nat.add_zero, Nat.mul_one, Nat.one_mul, Bool.not_true, Bool.not_false, ne_eq, not_true_eq_false, not_false_eq_true, Bool.false_eq_true, b_pn, c1, c2, cc]
    exact hno (by unfold closeO; rw [if_pos (.inr c2)]) h (Fr.refl _ _)
  obtain ⟨n, rfl⟩ := Int.eq_ofNat_of_zero_le (show 0 ≤ t by omega)
  have eC : closeO s.lays s.words n = match parse s.lays s.words n (n + 1) [] with | none => none | some os => if wholeO s.lays os = true then some os else none := by
    unfold closeO; rw [if_neg (by omega), Int.toNat_natCast] <;> rfl
  rw [eC] at hno hyes
  simp only [sh80, go_sem, reduceIte, Nat.reduceAdd, Nat.reduceSub, Nat.reduceMul, Nat.reducePow, Nat.reduceLT, Nat.reduceLeDiff, Nat.reduceEqDiff, Int.reduceAdd, Int.reduceSub, Int.reduceMul, Int.reduceNeg, Int.reducePow, Int.reduceLT, Int.reduceLE, Int.reduceEq, Int.reduceNe, Int.reduceToNat, Int.toNat_natCast, Nat.zero_add, Nat.add_zero, Nat.mul_one, Nat.one_mul, Bool.not_true, Bool.not_false, ne_eq, not_true_eq_false, not_false_eq_true, Bool.false_eq_true, b_pn, c1, c2, cc]
  refine mks_zero (n := s.heads.length) (by omega) fun m hm => ?_
  have hmb : ∀ c ∈ b :: bw :: bd :: B, c ≠ m := fun c hc q => by have := hh.alive c hc; rw [q] at this; exact this hm
  refine join_r (fun (J : H → Prop) => ∀ os M h2, parse s.lays s.words n (n + 1) [] = some os → Got s.lays s.words n os → (rowOf os).length = n → Fr [] h h2 → h2.get m = some (.live (wc M) 25 true) → M.length = s.heads.length → (∀ w ∈ M, 0 ≤ w ∧ w < 18446744073709551616) →
    (∀ a : Nat, a / 64 < M.length → (M.getD (a / 64) 0 / 2 ^ (a % 64) % 2 = 1 ↔ (findO os a).isSome = true)) → J h2) ?_ fun J hJ => ?_
  · intro os M h2 ep gt en f gm hM hMr hMb
    rw [ep] at hno hyes
    have hh2 := hh.fr0 f
    obtain ⟨cs, gb2, hcs, hh3⟩ := hh2.blank hmb gm n
    obtain ⟨lv2, cc2, rl2, gb2'⟩ := hh2.cells
    have ecs : cs = [AV.sl bw 0 s.words.length (.exact s.words.length), .sl bd 0 s.heads.length (.exact s.heads.length), lv2, .int .i64 s.top] := by
      rw [gb2'] at gb2; injection gb2 with gb2; injection gb2 with gb2; exact gb2.symm
    subst ecs
    have st1 : stA h2 1 (.ptr b 1) (.sl m 0 s.heads.length (.exact s.heads.length)) = some (h2.set b (.live [AV.sl bw 0 s.words.length (.exact s.words.length), .sl m 0 s.heads.length (.exact s.heads.length), lv2, .int .i64 s.top] 130 true)) := st_val gb2 (off := 1) (by simp) rfl rfl
    have st3 : stA (h2.set b (.live [AV.sl bw 0 s.words.length (.exact s.words.length), .sl m 0 s.heads.length (.exact s.heads.length), lv2, .int .i64 s.top] 130 true)) 1 (.ptr b 3) (.int .i64 n) = some (h2.set b (.live [AV.sl bw 0 s.words.length (.exact s.words.length), .sl m 0 s.heads.length (.exact s.heads.length), lv2, .int .i64 n] 130 true)) := by
      rw [st_val (H.get_same ..) (off := 3) (by simp) rfl rfl, set_set]; rfl
    rw [hM] at hh3
    have hh3 : HeapAt (h2.set b (.live [AV.sl bw 0 s.words.length (.exact s.words.length), .sl m 0 s.heads.length (.exact s.heads.length), lv2, .int .i64 n] 130 true)) b bw m B { s with heads := M, top := n } := hh3
    have P : Pre { s with heads := M, top := n } os := by
      refine ⟨⟨g.wlen, by show M.length = _; rw [hM]; exact gl, g.llen, g.kinds, g.wrange, hMr, by show n ≤ s.words.length; omega⟩, ⟨s.words.drop n, ?_⟩, en.symm, hMb, gt.each⟩
      show s.words = _
      rw [gt.row, en, List.take_append_drop]
    simp only [go_sem, reduceIte, Nat.reduceAdd, Nat.reduceSub, Nat.reduceMul, Nat.reducePow, Nat.reduceLT, Nat.reduceLeDiff, Nat.reduceEqDiff, Int.reduceAdd, Int.reduceSub, Int.reduceMul, Int.reduceNeg, Int.reducePow, Int.reduceLT, Int.reduceLE, Int.reduceEq, Int.reduceNe, Int.reduceToNat, Int.toNat_natCast, Nat.zero_add, Nat.add_zero, Nat.mul_one, Nat.one_mul, Bool.not_true, Bool.not_false, ne_eq, not_true_eq_false, not_false_eq_true, Bool.false_eq_true, cc2, st1, st3]
    refine whole_c hh3 P fun h4 f4 => ?_
    have gb4 := f4 b _ (by simp) (H.get_same ..)
    have hh4 := hh3.fr0 f4
    have cc4 : ∀ off, h4.cell b off = [AV.sl bw 0 s.words.length (.exact s.words.length), .sl m 0 s.heads.length (.exact s.heads.length), lv2, .int .i64 n][off]? := fun off => cell_of gb4 off
    by_cases w : wholeO s.lays os = true
    · have hsl : sliceOp (.row 1) (.sl bw 0 s.words.length (.exact s.words.length)) (some (.int .i64 n)) none none = some (.sl bw n (s.words.length - n) (.exact (s.words.length - n))) := by
        have n1 : natOf (.int .i64 (n : Int)) = some n := by simp [natOf]
        have n2 : n ≤ s.words.length := by omega
        simp only [sliceOp, Cap.fits, if_true, slBounds, loB, hiB, n1, within, n2, Nat.le_refl, decide_true, Bool.true_or, and_self, Cap.less, Nat.zero_add, Nat.mul_one]
      simp only [go_sem, reduceIte, Nat.reduceAdd, Nat.reduceSub, Nat.reduceMul, Nat.reducePow, Nat.reduceLT, Nat.reduceLeDiff, Nat.reduceEqDiff, Int.reduceAdd, Int.reduceSub, Int.reduceMul, Int.reduceNeg, Int.reducePow, Int.reduceLT, Int.reduceLE, Int.reduceEq, Int.reduceNe, Int.reduceToNat, Int.toNat_natCast, Nat.zero_add, Nat.add_zero, Nat.mul_one, Nat.one_mul, Bool.not_true, Bool.not_false, ne_eq, not_true_eq_false, not_false_eq_true, Bool.false_eq_true, w, cc4, hsl]
      refine clear_end hh4.wd (by show n + (s.words.length - n) = s.words.length; omega) ?_ _
      have hyes := hyes os (by show (if wholeO s.lays os = true then some os else none) = _; rw [if_pos w])
      have hcut : (Hs.cut { s with heads := M, top := n } os).words = s.words.take n ++ List.replicate (s.words.length - n) 0 := by
        show rowOf os ++ List.replicate (s.words.length - (rowOf os).length) 0 = _
        rw [gt.row, en]
        rw [List.length_take, Nat.min_eq_left (by omega)]
      have hlen : (Hs.cut { s with heads := M, top := n } os).words.length = s.words.length := by rw [hcut]; simp; omega
      have f2 : Fr [b, bw] h h4 := (f.more.trans (Fr.put (by simp))).trans f4.more
      by_cases z : s.words.length - n = 0
      · rw [if_pos z]
        refine hyes h4 m (Hs.cut { s with heads := M, top := n } os) f2 hm ?_ P.cut rfl hlen
        have : Hs.cut { s with heads := M, top := n } os = { s with heads := M, top := n } := by
          have e : (Hs.cut { s with heads := M, top := n } os).words = s.words := by
            rw [hcut, z, List.take_of_length_le (by omega)]; simp
          unfold Hs.cut at e ⊢
          simp only at e
          simp only [e]
        rw [this]; exact hh4
      · rw [if_neg z]
        refine hyes _ m (Hs.cut { s with heads := M, top := n } os) (f2.trans (Fr.put (by simp))) hm ?_ P.cut rfl hlen
        obtain ⟨⟨lv4, k1, k2⟩, k3, k4, k5⟩ := hh4
        refine ⟨⟨lv4, ?_, ?_⟩, ?_, ?_, k5⟩
        · rw [hlen, H.get_other _ _ k5.1]; exact k1
        · rcases k2 with q | ⟨bl, q1, q2, q3⟩
          · exact .inl q
          · exact .inr ⟨bl, q1, q2, by rw [H.get_other _ _ (fun e => k5.2.2.2.2.1 (by rw [q2, ← e]; simp))]; exact q3⟩
        · rw [H.get_same, hcut]
        · rw [H.get_other _ _ (fun e => k5.2.2.1 e.symm)]; exact k4
    · have w' : wholeO s.lays os = false := by simpa using w
      have st5 : stA h4 1 (.ptr b 1) (.sl bd 0 s.heads.length (.exact s.heads.length)) = some (h4.set b (.live [AV.sl bw 0 s.words.length (.exact s.words.length), .sl bd 0 s.heads.length (.exact s.heads.length), lv2, .int .i64 n] 130 true)) := st_val gb4 (off := 1) (by simp) rfl rfl
      have st6 : stA (h4.set b (.live [AV.sl bw 0 s.words.length (.exact s.words.length), .sl bd 0 s.heads.length (.exact s.heads.length), lv2, .int .i64 n] 130 true)) 1 (.ptr b 3) (.int .i64 s.top) = some (h4.set b (.live [AV.sl bw 0 s.words.length (.exact s.words.length), .sl bd 0 s.heads.length (.exact s.heads.length), lv2, .int .i64 s.top] 130 true)) := by
        rw [st_val (H.get_same ..) (off := 3) (by simp) rfl rfl, set_set]; rfl
      simp only [go_sem, reduceIte, Nat.reduceAdd, Nat.reduceSub, Nat.reduceMul, Nat.reducePow, Nat.reduceLT, Nat.reduceLeDiff, Nat.reduceEqDiff, Int.reduceAdd, Int.reduceSub, Int.reduceMul, Int.reduceNeg, Int.reducePow, Int.reduceLT, Int.reduceLE, Int.reduceEq, Int.reduceNe, Int.reduceToNat, Int.toNat_natCast, Nat.zero_add, Nat.add_zero, Nat.mul_one, Nat.one_mul, Bool.not_true, Bool.not_false, ne_eq, not_true_eq_false, not_false_eq_true, Bool.false_eq_true, w', st5, st6]
      refine hno (by show (if wholeO s.lays os = true then some os else none) = _; rw [w']; rfl) _ fun c o hc hg => ?_
      by_cases e : c = b
      · subst e
        have := f c o hc hg
        rw [gb2'] at this
        rw [H.get_same]; exact this
      · rw [H.get_other _ _ e]
        exact f4 c o hc (by rw [H.get_other _ _ e]; exact f c o hc hg)
  · refine loop_r (n + 1) (fun c ls h2 => ∃ (acc : List Ob) (M : List Int) (k : Nat), ls = [.int .i64 (rowOf acc).length] ∧ Got s.lays s.words n acc ∧ parse s.lays s.words n (n + 1) [] = parse s.lays s.words n k acc ∧ n + 1 ≤ k + (rowOf acc).length ∧ h2.get m = some (.live (wc M) 25 true) ∧ M.length = s.heads.length ∧ (∀ w ∈ M, 0 ≤ w ∧ w < 18446744073709551616) ∧
      (∀ a : Nat, a / 64 < M.length → (M.getD (a / 64) 0 / 2 ^ (a % 64) % 2 = 1 ↔ (findO acc a).isSome = true)) ∧ Fr [] h h2 ∧ c = n + 1 - (rowOf acc).length)
      ⟨[], List.replicate s.heads.length 0, n + 1, rfl, got_nil .., rfl, by simp, H.get_same .., by simp, fun w hw => by simp at hw; omega, fun a ha => ?_, (Fr.refl _ _).set' hm, by simp [rowOf]⟩ ?_
    · have : (List.replicate s.heads.length (0 : Int)).getD (a / 64) 0 = 0 := by
        rw [List.getD_eq_getElem?_getD, List.getElem?_replicate]; split <;> rfl
      rw [this]; simp [findO]
    rintro c ls h2 ⟨acc, M, k, rfl, gt, ep, hk, gm, hM, hMr, hMb, f, rfl⟩
    have hle := gt.le
    obtain ⟨k, rfl⟩ : ∃ k', k = k' + 1 := ⟨k - 1, by omega⟩
    conv at ep => rhs; rw [parse]
    by_cases q1 : ((rowOf acc).length : Int) < n
    · have q1' : (rowOf acc).length < n := by omega
      rw [if_pos q1'] at ep
      have hh2 := hh.fr0 f
      obtain ⟨lv2, cc2, rl2, gb2'⟩ := hh2.cells
      have t8 : (0 : Int) ≤ (rowOf acc).length := by omega
      have i1 : ((rowOf acc).length : Int) < (s.words.length : Nat) := by omega
      have hwd := hh2.word t8 i1
      rw [Int.toNat_natCast] at hwd
      have wr := g.wdr ((rowOf acc).length : Int)
      have ewd : wdL s.words (rowOf acc).length = s.wd (rowOf acc).length := by unfold wdL Hs.wd; rw [Int.toNat_natCast]
      have sc : ∀ (h : H) K, C 33 [.int .u64 (s.wd (rowOf acc).length)] h K = K (.int .i64 (shapeOf (s.wd (rowOf acc).length))) h := fun h K => by rw [shape_c wr.1 wr.2]; rfl
      have lc' : ∀ (h : H) K, C 35 [.int .u64 (s.wd (rowOf acc).length)] h K = K (.int .i64 (lenOf (s.wd (rowOf acc).length))) h := fun h K => by rw [len_c wr.1 wr.2]; rfl
      simp only [go_sem, reduceIte, Nat.reduceAdd, Nat.reduceSub, Nat.reduceMul, Nat.reducePow, Nat.reduceLT, Nat.reduceLeDiff, Nat.reduceEqDiff, Int.reduceAdd, Int.reduceSub, Int.reduceMul, Int.reduceNeg, Int.reducePow, Int.reduceLT, Int.reduceLE, Int.reduceEq, Int.reduceNe, Int.reduceToNat, Int.toNat_natCast, Nat.zero_add, Nat.add_zero, Nat.mul_one, Nat.one_mul, Bool.not_true, Bool.not_false, ne_eq, not_true_eq_false, not_false_eq_true, Bool.false_eq_true, q1, cc2, t8, i1, hwd, sc, lc']
      refine need_c hh2 g _ _ fun h3 f3 => ?_
      have f13 := f.trans f3
      have gm3 := f3 m _ (by simp) gm
      have eN : needN s.lays (shapeOf (s.wd (rowOf acc).length)) (lenOf (s.wd (rowOf acc).length)) = needL s.lays s.words (rowOf acc).length := by unfold needL; rw [ewd]
      rw [eN]
      have es : IntKind.i64.wrap ((n : Int) - (rowOf acc).length) = n - (rowOf acc).length := i64_id (by omega) (by omega)
      have hd : ∀ (h : H) K, C 31 [.int .i64 (shapeOf (s.wd (rowOf acc).length)), .int .i64 (lenOf (s.wd (rowOf acc).length))] h K = K (.int .u64 (headN (shapeOf (s.wd (rowOf acc).length)) (lenOf (s.wd (rowOf acc).length)))) h := fun h K => head_c ..
      have bad : badL s.lays s.words n (rowOf acc).length → K (.int .i64 1) h3 := fun q => by
        rw [if_pos q] at ep
        exact hno (by rw [ep]) h3 f13
      by_cases e1 : (needL s.lays s.words (rowOf acc).length).2 = 0
      · by_cases e2 : s.wd (rowOf acc).length = headN (shapeOf (s.wd (rowOf acc).length)) (lenOf (s.wd (rowOf acc).length))
        · by_cases e3 : (n : Int) - (rowOf acc).length < (needL s.lays s.words (rowOf acc).length).1
          · simp only [go_sem, reduceIte, Nat.reduceAdd, Nat.reduceSub, Nat.reduceMul, Nat.reducePow, Nat.reduceLT, Nat.reduceLeDiff, Nat.reduceEqDiff, Int.reduceAdd, Int.reduceSub, Int.reduceMul, Int.reduceNeg, Int.reducePow, Int.reduceLT, Int.reduceLE, Int.reduceEq, Int.reduceNe, Int.reduceToNat, Int.toNat_natCast, Nat.zero_add, Nat.add_zero, Nat.mul_one, Nat.one_mul, Bool.not_true, Bool.not_false, ne_eq, not_true_eq_false, not_false_eq_true, Bool.false_eq_true, e1, sc, lc', hd, ← e2, es, e3]
            exact bad (.inr (.inr e3))
          · have nb : ¬ badL s.lays s.words n (rowOf acc).length := by
              rintro (q | q | q)
              · exact q e1
              · rw [ewd] at q; exact q e2.symm
              · exact e3 q
            rw [if_neg nb] at ep
            obtain ⟨g2, gl2⟩ := got_step gt (by omega) q1' nb
            have hle2 := g2.le
            have hno : True := trivial
            obtain ⟨p1, p2, p3, p4, p5, p6⟩ := need_pos (lays := s.lays) (i := shapeOf (s.wd (rowOf acc).length)) (n := lenOf (s.wd (rowOf acc).length)) (by rw [eN]; exact e1)
            rw [eN] at p1
            generalize hob : acc ++ [obL s.lays s.words (rowOf acc).length] = acc2 at *
            have hfa : ∀ a : Int, findO acc2 a = if a = (rowOf acc).length then some (obL s.lays s.words (rowOf acc).length) else findO acc a := fun a => by rw [← hob, findO_append]
            generalize hat : (rowOf acc).length = at0 at *
            have f1 : IntKind.i64.wrap ((at0 : Int).tdiv 64) = ((at0 / 64 : Nat) : Int) := by
              rw [Int.tdiv_eq_ediv_of_nonneg t8, i64_id (by omega) (by omega)]; rfl
            have f2 : (at0 : Int).tmod 64 = ((at0 % 64 : Nat) : Int) := by rw [Int.tmod_eq_emod_of_nonneg t8]; rfl
            have j0 : (0 : Int) ≤ ((at0 / 64 : Nat) : Int) := by omega
            have j1 : ((at0 / 64 : Nat) : Int) < (s.heads.length : Nat) := by omega
            have j1' : at0 / 64 < M.length := by omega
            have cm : h3.cell m (at0 / 64) = some (.int .u64 (M.getD (at0 / 64) 0)) := by
              rw [cell_of gm3, wc_get, List.getD_eq_getElem?_getD, List.getElem?_eq_getElem j1']; rfl
            have m0 : (0 : Int) ≤ ((at0 % 64 : Nat) : Int) := by omega
            have m1 : ((at0 % 64 : Nat) : Int) ≤ 64 := by omega
            have m2 : at0 % 64 < 64 := by omega
            have hMw := getD_range hMr (at0 / 64)
            have hst := st_one (k := .u64) (n := orBit (M.getD (at0 / 64) 0) (at0 % 64)) gm3 (off := at0 / 64) (by rw [wc_length]; exact j1')
            rw [wc_set] at hst
            have ea : IntKind.i64.wrap ((at0 : Int) + (needL s.lays s.words at0).1) = ((rowOf acc2).length : Int) := by rw [gl2, i64_id (by omega) (by omega)]
            simp only [go_sem, reduceIte, Nat.reduceAdd, Nat.reduceSub, Nat.reduceMul, Nat.reducePow, Nat.reduceLT, Nat.reduceLeDiff, Nat.reduceEqDiff, Int.reduceAdd, Int.reduceSub, Int.reduceMul, Int.reduceNeg, Int.reducePow, Int.reduceLT, Int.reduceLE, Int.reduceEq, Int.reduceNe, Int.reduceToNat, Int.toNat_natCast, Nat.zero_add, Nat.add_zero, Nat.mul_one, Nat.one_mul, Bool.not_true, Bool.not_false, ne_eq, not_true_eq_false, not_false_eq_true, Bool.false_eq_true, e1, sc, lc', hd, ← e2, es, e3, f1, f2, j0, j1, cm, m0, m1, pow_wrap m2, or_bit hMw.1 hMw.2 m2, hst, ea, Int.toNat_natCast]
            refine ⟨n + 1 - (rowOf acc2).length, by omega, acc2, _, k, rfl, g2, ep, by omega, H.get_same .., by simpa using hM, fun w hw => ?_, fun a ha => ?_, f13.set' hm, rfl⟩
            · rcases List.mem_or_eq_of_mem_set hw with hw | rfl
              · exact hMr w hw
              · exact orBit_range hMw.1 hMw.2 m2
            · rw [List.length_set] at ha
              rw [mark_bits hMr j1' a, hMb a ha, hfa]
              by_cases q : a = at0
              · subst q; simp
              · have q' : ¬ (a : Int) = at0 := by omega
                rw [if_neg q']; simp [q]
        · simp only [go_sem, reduceIte, Nat.reduceAdd, Nat.reduceSub, Nat.reduceMul, Nat.reducePow, Nat.reduceLT, Nat.reduceLeDiff, Nat.reduceEqDiff, Int.reduceAdd, Int.reduceSub, Int.reduceMul, Int.reduceNeg, Int.reducePow, Int.reduceLT, Int.reduceLE, Int.reduceEq, Int.reduceNe, Int.reduceToNat, Int.toNat_natCast, Nat.zero_add, Nat.add_zero, Nat.mul_one, Nat.one_mul, Bool.not_true, Bool.not_false, ne_eq, not_true_eq_false, not_false_eq_true, Bool.false_eq_true, e1, sc, lc', hd, e2]
          exact bad (.inr (.inl (by rw [ewd]; exact fun q => e2 q.symm)))
      · simp only [go_sem, reduceIte, Nat.reduceAdd, Nat.reduceSub, Nat.reduceMul, Nat.reducePow, Nat.reduceLT, Nat.reduceLeDiff, Nat.reduceEqDiff, Int.reduceAdd, Int.reduceSub, Int.reduceMul, Int.reduceNeg, Int.reducePow, Int.reduceLT, Int.reduceLE, Int.reduceEq, Int.reduceNe, Int.reduceToNat, Int.toNat_natCast, Nat.zero_add, Nat.add_zero, Nat.mul_one, Nat.one_mul, Bool.not_true, Bool.not_false, ne_eq, not_true_eq_false, not_false_eq_true, Bool.false_eq_true, e1]
        exact bad (.inl e1)
    · rw [if_neg (by omega)] at ep
      simp only [go_sem, reduceIte, Nat.reduceAdd, Nat.reduceSub, Nat.reduceMul, Nat.reducePow, Nat.reduceLT, Nat.reduceLeDiff, Nat.reduceEqDiff, Int.reduceAdd, Int.reduceSub, Int.reduceMul, Int.reduceNeg, Int.reducePow, Int.reduceLT, Int.reduceLE, Int.reduceEq, Int.reduceNe, Int.reduceToNat, Int.toNat_natCast, Nat.zero_add, Nat.add_zero, Nat.mul_one, Nat.one_mul, Bool.not_true, Bool.not_false, ne_eq, not_true_eq_false, not_false_eq_true, Bool.false_eq_true, q1]
      exact hJ acc M h2 ep gt (by omega) f gm hM hMr hMb
end
end Go.Proofs.Ytljkkfcokpimkaa.X
set_option linter.unusedVariables false
set_option linter.unusedSimpArgs false
set_option maxRecDepth 20000
namespace Go.Proofs.Ytljkkfcokpimkaa.X
open Go Go.RowKit
theorem Rel.get {lays : List (Int × Int)} : ∀ {p : Nat} {os : List Ob} {l : List RV}, Rel lays p os l → ∀ (i : Nat) (x : RV), l[i]? = some x → ∃ o a, os[i]? = some o ∧ (atsO os p)[i]? = some a ∧ x.r.a = (a : Int) ∧ RelO lays o x.r ∧ findO os ((a : Int) - p) = some o
  | _, [], [], _, i, x, h => by simp at h
  | _, [], _ :: _, h, _, _, _ => h.elim
  | _, _ :: _, [], h, _, _, _ => h.elim
  | p, o :: os, y :: l, h, 0, x, hx => by
    simp at hx; subst hx
    exact ⟨o, p, rfl, rfl, h.1, h.2.1, by simp [findO]⟩
  | p, o :: os, y :: l, h, i + 1, x, hx => by
    obtain ⟨o', a, h1, h2, h3, h4, h5⟩ := h.2.2.get i x (by simpa using hx)
    have hle := atsO_le os _ a (List.mem_of_getElem? h2)
    have hp := row_pos o
    refine ⟨o', a, by simpa using h1, by simpa [atsO] using h2, h3, h4, ?_⟩
    rw [findO, if_neg (by omega)]
    have e : ((a : Int) - p) - o.row.length = (a : Int) - ((p + o.row.length : Nat) : Int) := by omega
    rw [e]; exact h5
theorem RelO.row {s : Hs} {os : List Ob} (A : Abs s os) {a : Int} {o : Ob} {r : RO} (hf : findO os a = some o) (h : RelO s.lays o r) :
    ∃ bw, o.row = headN o.sh o.n :: (r.fs ++ bw) ∧ Packs r.bs bw ∧ (∀ w ∈ bw, 0 ≤ w ∧ w < 18446744073709551616) ∧ r.fs.length ≤ 65536 ∧ r.bs.length ≤ 65536 := by
  obtain ⟨h1, h2, h3⟩ := h
  obtain ⟨u1, u2, u3, u4, u5, u6, u7, u8, u9, u10, u11⟩ := A.at hf
  have hb : ∀ w ∈ o.body, 0 ≤ w ∧ w < 18446744073709551616 := fun w hw => by
    obtain ⟨j, hj, rfl⟩ := List.getElem_of_mem hw
    have := A.word hf j hj
    rw [List.getD_eq_getElem?_getD, List.getElem?_eq_getElem hj] at this
    have w1 := A.good.wdr (a + 1 + j)
    rw [this] at w1; exact w1
  by_cases k : kindAt s.lays o.sh = 3
  · rw [if_pos k] at h3
    obtain ⟨k1, k2, k3⟩ := h3
    exact ⟨o.body, by rw [k1]; rfl, k3, hb, by rw [k1]; simp, by omega⟩
  · rw [if_neg k] at h3
    obtain ⟨k1, k2, k3⟩ := h3
    exact ⟨[], by rw [k1, List.append_nil]; rfl, ⟨by rw [k2]; rfl, by simp⟩, by simp, by omega, by rw [k2]; simp⟩
theorem pow8_step (W : Int) (k : Nat) : W / 2 ^ (8 * (k + 1)) * 256 + byteW W k = W / 2 ^ (8 * k) := by
  have e : (2 : Int) ^ (8 * (k + 1)) = 2 ^ (8 * k) * 256 := by rw [show 8 * (k + 1) = 8 * k + 8 by omega, Int.pow_add]; rfl
  unfold byteW
  rw [e, ← Int.ediv_ediv_of_nonneg (Int.pow_nonneg (by decide))]
  omega
end Go.Proofs.Ytljkkfcokpimkaa.X
set_option linter.unusedVariables false
set_option linter.unusedSimpArgs false
set_option maxRecDepth 20000
namespace Go.Proofs.Ytljkkfcokpimkaa.X
open Go Go.RowKit
theorem parse_go {lays : List (Int × Int)} (hl : lays.length ≤ 512) {ws : List Int} {top : Nat} : ∀ (post acc : List Ob) (r : List Int) (k : Nat), ws = rowOf (acc ++ post) ++ r → (rowOf (acc ++ post)).length ≤ top → (∀ o ∈ post, needN lays o.sh o.n = ((o.row.length : Int), 0)) → top + 1 ≤ k + (rowOf acc).length →
    ∃ k', parse lays ws top k acc = parse lays ws top k' (acc ++ post) ∧ top + 1 ≤ k' + (rowOf (acc ++ post)).length
  | [], acc, r, k, _, _, _, hk => ⟨k, by rw [List.append_nil], by rw [List.append_nil]; exact hk⟩
  | o :: post, acc, r, k, hw, ht, he, hk => by
    have hp := row_pos o
    have hlen : (rowOf (acc ++ o :: post)).length = (rowOf acc).length + o.row.length + (rowOf post).length := by rw [rowOf_append, rowOf_cons]; simp; omega
    obtain ⟨k, rfl⟩ : ∃ k', k = k' + 1 := ⟨k - 1, by omega⟩
    have hr : o.row = headN o.sh o.n :: o.body := rfl
    have hw2 : ws = rowOf acc ++ (headN o.sh o.n :: (o.body ++ (rowOf post ++ r))) := by rw [hw, rowOf_append, rowOf_cons, hr]; simp
    have hwd : wdL ws (rowOf acc).length = headN o.sh o.n := by
      unfold wdL
      rw [hw2, List.getD_eq_getElem?_getD, List.getElem?_append_right (Nat.le_refl _), Nat.sub_self]; rfl
    have ho := he o (by simp)
    obtain ⟨p1, p2, p3, p4, p5, p6⟩ := need_pos (lays := lays) (i := o.sh) (n := o.n) (by rw [ho])
    have e1 : shapeOf (wdL ws (rowOf acc).length) = o.sh := by rw [hwd, headN_shape (by omega) (by omega)]
    have e2 : lenOf (wdL ws (rowOf acc).length) = o.n := by rw [hwd, headN_len (by omega) (by omega)]
    have eN : needL lays ws (rowOf acc).length = ((o.row.length : Int), 0) := by unfold needL; rw [e1, e2, ho]
    have eO : obL lays ws (rowOf acc).length = o := by
      unfold obL
      rw [e1, e2, eN]
      have : (ws.drop ((rowOf acc).length + 1)).take (((o.row.length : Int)).toNat - 1) = o.body := by
        rw [hw2, ← List.drop_drop, List.drop_left]
        simp only [List.drop_succ_cons, List.drop_zero, Int.toNat_natCast, hr, List.length_cons, Nat.add_sub_cancel]
        rw [List.take_left]
      rw [this]
    have nb : ¬ badL lays ws top (rowOf acc).length := by
      unfold badL
      rw [eN, e1, e2, hwd]
      simp only [ne_eq, not_true_eq_false, false_or]
      omega
    have ha : (rowOf (acc ++ [o])).length = (rowOf acc).length + o.row.length := by rw [rowOf_append]; simp [rowOf]
    have hc : acc ++ o :: post = acc ++ [o] ++ post := by simp
    obtain ⟨k', q1, q2⟩ := parse_go (ws := ws) hl post (acc ++ [o]) r k (by rw [← hc, hw]) (by rw [← hc]; exact ht) (fun o' h' => he o' (by simp [h'])) (by omega)
    refine ⟨k', ?_, by rw [hc]; exact q2⟩
    rw [parse, if_pos (by omega), if_neg nb, eO, q1, ← hc]
theorem parse_all {s : Hs} {os : List Ob} (A : Abs s os) : parse s.lays s.words s.top (s.top + 1) [] = some os := by
  obtain ⟨k, h1, h2⟩ := parse_go (ws := s.words) (top := s.top) A.good.llen os [] _ (s.top + 1) (by rw [List.nil_append]; exact A.words) (by rw [List.nil_append, A.top]; exact Nat.le_refl _) A.each (by omega)
  rw [List.nil_append] at h1 h2
  rw [← A.top] at h2
  obtain ⟨k, rfl⟩ : ∃ k', k = k' + 1 := ⟨k - 1, by omega⟩
  rw [h1, parse, if_neg (by rw [A.top]; omega)]
theorem tail_zero {W : Int} (h0 : 0 ≤ W) (h1 : W < 18446744073709551616) {m : Nat} (hm : m ≤ 8) (hz : ∀ k, m ≤ k → k < 8 → byteW W k = 0) : W / 2 ^ (8 * m) = 0 := by
  have : ∀ j, j + m ≤ 8 → W / 2 ^ (8 * (8 - j)) = 0 := by
    intro j
    induction j with
    | zero => intro _; exact Int.ediv_eq_zero_of_lt h0 (by simpa using h1)
    | succ j ih =>
      intro hj
      have := pow8_step W (8 - (j + 1))
      rw [show 8 - (j + 1) + 1 = 8 - j by omega, ih (by omega), hz _ (by omega) (by omega)] at this
      rw [← this]; rfl
  have := this (8 - m) (by omega)
  rwa [show 8 - (8 - m) = m by omega] at this
section
variable {h0 h : H} {b bw bd bx : Nat} {B BL : List Nat} {s : Hs} {os : List Ob} {l : List RV}
theorem Both.whole (t : Both h0 h b bw bd B s os bx BL l) : wholeO s.lays os = true := by
  unfold wholeO
  rw [List.all_eq_true]
  intro o ho
  obtain ⟨i, hi⟩ := List.getElem?_of_mem ho
  have hil : i < l.length := by rw [← t.r.len]; exact (List.getElem?_eq_some_iff.1 hi).1
  obtain ⟨x, hx⟩ : ∃ x, l[i]? = some x := ⟨l[i], by simp [hil]⟩
  obtain ⟨o', a, p1, p2, p3, p4, p5⟩ := t.r.get i x hx
  rw [hi] at p1; injection p1 with p1; subst p1
  have p5 : findO os a = some o := by simpa using p5
  unfold okO
  split
  · rename_i k
    obtain ⟨q1, q2, q3⟩ := p4
    rw [if_pos k] at q3
    obtain ⟨_, q3, q4⟩ := q3
    obtain ⟨bw', y1, y2, y3, y4, y5⟩ := RelO.row t.A p5 ⟨q1, q2, by rw [if_pos k]; exact ⟨by assumption, q3, q4⟩⟩
    have hb : bw' = o.body := by
      rename_i hfs
      rw [hfs] at y1
      have : o.row = headN o.sh o.n :: o.body := rfl
      rw [this] at y1; injection y1 with _ y1; exact y1.symm
    subst hb
    unfold tailO
    by_cases z : o.n % 8 = 0
    · simp [z]
    · have hl := q4.1
      have hj : (o.n / 8).toNat < o.body.length := by omega
      obtain ⟨W, hW⟩ : ∃ W, o.body[(o.n / 8).toNat]? = some W := ⟨o.body[(o.n / 8).toNat], by simp [hj]⟩
      have hWr := y3 W (List.mem_of_getElem? hW)
      have : W / 2 ^ (8 * (o.n % 8).toNat) = 0 := by
        refine tail_zero hWr.1 hWr.2 (by omega) fun k k1 k2 => ?_
        have := q4.2 (8 * (o.n / 8).toNat + k) (by omega)
        rw [show (8 * (o.n / 8).toNat + k) / 8 = (o.n / 8).toNat by omega, show (8 * (o.n / 8).toNat + k) % 8 = k by omega, List.getD_eq_getElem?_getD, hW] at this
        rw [List.getD_eq_getElem?_getD, List.getElem?_eq_none (by omega)] at this
        exact this
      rw [List.getD_eq_getElem?_getD, hW]
      simp only [Option.getD_some, this, decide_true, Bool.or_true]
  · rename_i k
    rw [List.all_eq_true]
    exact t.fit o ho k
theorem Both.closeO (t : Both h0 h b bw bd B s os bx BL l) : closeO s.lays s.words s.top = some os := by
  unfold Go.Proofs.Ytljkkfcokpimkaa.X.closeO
  have := t.A.good.top
  rw [if_neg (by omega), Int.toNat_natCast, parse_all t.A]
  simp only [t.whole, if_true]
theorem Both.closed (t : Both h0 h b bw bd B s os bx BL l) {h' : H} {m : Nat} {s' : Hs} (f : Fr [b, bw] h h') (hm : h.get m = none) (hh : HeapAt h' b bw m B s') (A : Abs s' os) (e1 : s'.lays = s.lays) (e2 : s'.words.length = s.words.length) : Both h0 h' b bw m B s' os bx BL l := by
  have f0 : Fr [] h0 h' := t.R.fr.cons (fun c hc => t.new c (by simp at hc ⊢; rcases hc with q | q <;> simp [q])) f
  have ap : ∀ c ∈ b :: bw :: m :: B, c ∉ blocksR bx BL l := fun c hc q => by
    simp only [List.mem_cons] at hc
    rcases hc with hc | hc | hc | hc
    · exact t.ap c (by simp [hc]) q
    · exact t.ap c (by simp [hc]) q
    · rw [hc] at q; exact t.R.alive m q hm
    · exact t.ap c (by simp [hc]) q
  refine ⟨hh, A, ?_, by rw [e1]; exact t.r, ap, fun c hc => ?_, by rw [e1]; exact t.fit⟩
  · rw [e1, e2]
    exact t.R.keep f (fun c hc q => t.ap c (by simp at q ⊢; rcases q with q | q <;> simp [q]) hc) f0
  · simp only [List.mem_cons] at hc
    rcases hc with hc | hc | hc | hc
    · exact t.new c (by simp [hc])
    · exact t.new c (by simp [hc])
    · rw [hc]; exact t.R.fr.free hm
    · exact t.new c (by simp [hc])
theorem Both.back (t : Both h0 h b bw bd B s os bx BL l) {h' : H} (f : Fr [bw] h h') (hh : HeapAt h' b bw bd B s) : Both h0 h' b bw bd B s os bx BL l :=
  ⟨hh, t.A, t.R.keep f (fun c hc q => t.ap c (by simp at q ⊢; simp [q]) hc) (t.R.fr.cons (fun c hc => t.new c (by simp at hc ⊢; simp [hc])) f), t.r, t.ap, t.new, t.fit⟩
end
end Go.Proofs.Ytljkkfcokpimkaa.X
