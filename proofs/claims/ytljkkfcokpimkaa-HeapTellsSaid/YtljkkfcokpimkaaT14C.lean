/- What the law law14 needs: texts of one's own, put together; functions' contracts and plain facts. -/
import Derived.Test.YtljkkfcokpimkaaT14B
set_option linter.unusedVariables false
set_option linter.unusedSimpArgs false
set_option maxRecDepth 20000
namespace Go.Proofs.Ytljkkfcokpimkaa.X
open Go Go.RowKit
section
variable {h0 h : H} {b bw bd bx : Nat} {B BL : List Nat} {s : Hs} {os : List Ob} {l : List RV}
/-- Set in both. -/
theorem Both.set (t : Both h0 h b bw bd B s os bx BL l) (hl : l.length ≤ 900) (a i : Int) {w : Int} (w0 : 0 ≤ w) (w1 : w < 18446744073709551616) {K : AV → H → Prop}
    (hK : ∀ v h', (∀ K', (∀ h2 s2 os2 l2, Both h0 h2 b bw bd B s2 os2 bx BL l2 → s2.lays = s.lays → s2.words.length = s.words.length → l2.length = l.length → K' v h2) → C 103 [.ptr bx 0, .int .i64 a, .int .i64 i, .int .u64 w] h' K') → Fr [bw] h h' → (∃ e, v = .int .i64 e) → K v h') :
    C 63 [.ptr b 0, .int .i64 a, .int .i64 i, .int .u64 w] h K := by
  rw [set_a t.hh t.A w0 w1]
  have e1 := t.r.has a i
  have e2 := t.r.fits w
  rw [e1.1, e2]
  cases hq : (hasF l a i && fitsR l w) with
  | false =>
    refine hK _ h (fun K' hK' => ?_) (Fr.refl _ _) ⟨_, rfl⟩
    exact rset_c t.R (by omega) a i w0 w1 (fun _ h2 f2 => hK' h2 s os l (t.keep0 f2) rfl rfl rfl) (fun q => by rw [hq] at q; cases q)
  | true =>
    obtain ⟨q1, q2⟩ : hasF l a i = true ∧ fitsR l w = true := by simpa using hq
    rw [← e1.1] at q1
    obtain ⟨o, hf, k1, k2, k3⟩ := hasO_some q1
    have k1 : kindAt s.lays o.sh ≠ 3 := by simpa using k1
    have hbl := t.A.body hf
    rw [if_neg k1] at hbl
    have hi : ((i.toNat : Nat) : Int) = i := by omega
    have A' := abs_set t.A hf (i := i.toNat) (w := w) (by omega) w0 w1
    rw [hi] at A'
    have f : Fr [bw] h (h.set bw (.live (wc (s.put (a + 1 + i) w).words) 25 true)) := Fr.put (by simp)
    have hh' := t.hh.put (a + 1 + i) w
    have f0 : Fr [] h0 (h.set bw (.live (wc (s.put (a + 1 + i) w).words) 25 true)) := t.R.fr.cons (fun c hc => t.new c (by simp at hc ⊢; simp [hc])) f
    have R' := t.R.keep f (fun c hc q => t.ap c (by simp at q ⊢; simp [q]) hc) f0
    refine hK _ _ (fun K' hK' => ?_) f ⟨_, rfl⟩
    refine rset_c R' (by omega) a i w0 w1 (fun q => by rw [hq] at q; cases q) fun _ h2 f2 R2 => ?_
    have hlen : (s.put (a + 1 + i) w).words.length = s.words.length := by simp [Hs.put]
    have hr := t.r.setF a i.toNat w o (by simpa using hf) k1
    refine hK' h2 (s.put (a + 1 + i) w) _ _ ⟨hh'.fr f2 (fun c hc => t.ap c hc), A', by rw [hlen]; exact R2, by show Rel s.lays 0 _ _; simpa using hr, ?_, t.new, fitAll_set t.fit hf fun _ => by rw [e2]; exact q2⟩ rfl hlen (modR_length ..)
    intro c hc
    rw [modR_blocks bx BL l a (·.setF i.toNat w) fun x => rfl]
    exact t.ap c hc
/-- A byte set in both. -/
theorem Both.setByte (t : Both h0 h b bw bd B s os bx BL l) (hl : l.length ≤ 900) (a i : Int) {c : Nat} (hc : c < 256) {K : AV → H → Prop}
    (hK : ∀ v h', (∀ K', (∀ h2 s2 os2 l2, Both h0 h2 b bw bd B s2 os2 bx BL l2 → s2.lays = s.lays → s2.words.length = s.words.length → l2.length = l.length → K' v h2) → C 104 [.ptr bx 0, .int .i64 a, .int .i64 i, .int .u8 (c : Nat)] h' K') → Fr [bw] h h' → (∃ e, v = .int .i64 e) → K v h') :
    C 65 [.ptr b 0, .int .i64 a, .int .i64 i, .int .u8 (c : Nat)] h K := by
  rw [setByte_a t.hh t.A hc]
  have e1 := t.r.has a i
  rw [e1.2]
  cases hq : hasB l a i with
  | false =>
    refine hK _ h (fun K' hK' => ?_) (Fr.refl _ _) ⟨_, rfl⟩
    exact rsetByte_c t.R (by omega) a i c (fun _ h2 f2 => hK' h2 s os l (t.keep0 f2) rfl rfl rfl) (fun q => by rw [hq] at q; cases q)
  | true =>
    have q1 := hq
    rw [← e1.2] at q1
    obtain ⟨o, hf, k1, k2, k3⟩ := hasO_some q1
    have k1 : kindAt s.lays o.sh = 3 := by simpa using k1
    have hbl := t.A.body hf
    rw [if_pos k1] at hbl
    have hlt := findO_lt os a o hf
    have hi : ((i.toNat / 8 : Nat) : Int) = i / 8 := by omega
    have hm : i.toNat % 8 = (i % 8).toNat := by omega
    have hw := t.A.word hf (i.toNat / 8) (by omega)
    rw [hi] at hw
    have wr := t.A.good.wdr (a + 1 + i / 8)
    have pr := putW_range (k := (i % 8).toNat) (c := c) wr.1 wr.2 (by omega) hc
    have A' := abs_set t.A hf (i := i.toNat / 8) (by omega) pr.1 pr.2
    rw [hi] at A'
    generalize hv : putW (s.wd (a + 1 + i / 8)) (i % 8).toNat c = v at *
    have f : Fr [bw] h (h.set bw (.live (wc (s.put (a + 1 + i / 8) v).words) 25 true)) := Fr.put (by simp)
    have hh' := t.hh.put (a + 1 + i / 8) v
    have f0 : Fr [] h0 (h.set bw (.live (wc (s.put (a + 1 + i / 8) v).words) 25 true)) := t.R.fr.cons (fun c hc => t.new c (by simp at hc ⊢; simp [hc])) f
    have R' := t.R.keep f (fun c hc q => t.ap c (by simp at q ⊢; simp [q]) hc) f0
    refine hK _ _ (fun K' hK' => ?_) f ⟨_, rfl⟩
    refine rsetByte_c R' (by omega) a i c (fun q => by rw [hq] at q; cases q) fun _ h2 f2 R2 => ?_
    have hlen : (s.put (a + 1 + i / 8) v).words.length = s.words.length := by simp [Hs.put]
    have hr := t.r.setB a i.toNat c o (by simpa using hf) k1 (by omega) hc
    rw [← hw, hm, hv] at hr
    refine hK' h2 (s.put (a + 1 + i / 8) v) _ _ ⟨hh'.fr f2 (fun c hc => t.ap c hc), A', by rw [hlen]; exact R2, by show Rel s.lays 0 _ _; simpa using hr, ?_, t.new, fitAll_set t.fit hf fun q => absurd k1 q⟩ rfl hlen (modR_length ..)
    intro c' hc'
    rw [modR_blocks bx BL l a (·.setB i.toNat c) fun x => rfl]
    exact t.ap c' hc'
theorem Both.two (t : Both h0 h b bw bd B s os bx BL l) : Two h0 h b bx s.words.length s.lays l := ⟨bw, bd, B, s, os, BL, t, rfl, rfl⟩
theorem u8_nat (w : Int) : ∃ c : Nat, IntKind.u8.wrap w = (c : Int) ∧ c < 256 := by
  refine ⟨(w % 256).toNat, ?_, by omega⟩
  simp [IntKind.wrap, IntKind.bits, IntKind.signed]
  omega
theorem does_c {n : Nat} {lays : List (Int × Int)} (t : Two h0 h b bx n lays l) (hl : l.length ≤ 900) {o : OpI} (ho : o.ok) {K : AV → H → Prop}
    (hK : ∀ h' l', Two h0 h' b bx n lays l' → l'.length ≤ l.length + 1 → (o.k ≠ 1 → l'.length = l.length) → K (.bool true) h') : C 74 [.ptr b 0, .ptr bx 0, .agg o.cells] h K := by
  obtain ⟨bw, bd, B, s, os, BL, t, rfl, rfl⟩ := t
  refine run74 ?_
  have ec : (AV.agg o.cells).cells = o.cells := rfl
  have eo3 : o.cells[3]? = some (.int .u64 o.w) := rfl
  simp only [sh74, go_sem, reduceIte, Nat.reduceAdd, Nat.reduceSub, Nat.reduceMul, Nat.reducePow, Nat.reduceLT, Nat.reduceLeDiff, Nat.reduceEqDiff, Int.reduceAdd, Int.reduceSub, Int.reduceMul, Int.reduceNeg, Int.reducePow, Int.reduceLT, Int.reduceLE, Int.reduceEq, Int.reduceNe, Int.reduceToNat, Int.toNat_natCast, Nat.zero_add, Nat.add_zero, Nat.mul_one, Nat.one_mul, Bool.not_true, Bool.not_false, ne_eq, not_true_eq_false, not_false_eq_true, Bool.false_eq_true, ec, eo3]
  refine ⟨rfl, fun d hd => ?_⟩
  have t1 := t.keep0 (h' := h.set d (.live o.cells 72 true)) ((Fr.refl _ _).set' hd)
  have g1 : (h.set d (.live o.cells 72 true)).get d = some (.live o.cells 72 true) := H.get_same ..
  have hdn : d ∉ b :: bw :: bd :: B := fun q => t.hh.alive d q hd
  have hdx : d ∉ blocksR bx BL l := fun q => t.R.alive d q hd
  generalize h.set d (.live o.cells 72 true) = h1 at *
  have cd : ∀ off, h1.cell d off = [AV.int .i64 o.k, .int .i64 o.a, .int .i64 o.b, .int .u64 o.w, .bool o.near][off]? := fun off => cell_of g1 off
  obtain ⟨lv, Lv, c, r, ov⟩ := t1.R.cells
  have a0 := ho.a0; have a1 := ho.a1; have w0 := ho.w0; have w1 := ho.w1
  simp only [go_sem, reduceIte, Nat.reduceAdd, Nat.reduceSub, Nat.reduceMul, Nat.reducePow, Nat.reduceLT, Nat.reduceLeDiff, Nat.reduceEqDiff, Int.reduceAdd, Int.reduceSub, Int.reduceMul, Int.reduceNeg, Int.reducePow, Int.reduceLT, Int.reduceLE, Int.reduceEq, Int.reduceNe, Int.reduceToNat, Int.toNat_natCast, Nat.zero_add, Nat.add_zero, Nat.mul_one, Nat.one_mul, Bool.not_true, Bool.not_false, ne_eq, not_true_eq_false, not_false_eq_true, Bool.false_eq_true, cd]
  refine join_r (fun (J : AV → H → Prop) => ∀ w : Int, 0 ≤ w → w < 18446744073709551616 → J (.int .u64 w) h1) ?_ fun J hJ => ?_
  · intro w w0 w1
    simp only [go_sem, reduceIte, Nat.reduceAdd, Nat.reduceSub, Nat.reduceMul, Nat.reducePow, Nat.reduceLT, Nat.reduceLeDiff, Nat.reduceEqDiff, Int.reduceAdd, Int.reduceSub, Int.reduceMul, Int.reduceNeg, Int.reducePow, Int.reduceLT, Int.reduceLE, Int.reduceEq, Int.reduceNe, Int.reduceToNat, Int.toNat_natCast, Nat.zero_add, Nat.add_zero, Nat.mul_one, Nat.one_mul, Bool.not_true, Bool.not_false, ne_eq, not_true_eq_false, not_false_eq_true, Bool.false_eq_true, c, cd]
    refine place_c ov t1.range (by omega) a0 a1 fun p p0 p1 => ?_
    by_cases k1 : o.k = 1
    · simp only [go_sem, reduceIte, Nat.reduceAdd, Nat.reduceSub, Nat.reduceMul, Nat.reducePow, Nat.reduceLT, Nat.reduceLeDiff, Nat.reduceEqDiff, Int.reduceAdd, Int.reduceSub, Int.reduceMul, Int.reduceNeg, Int.reducePow, Int.reduceLT, Int.reduceLE, Int.reduceEq, Int.reduceNe, Int.reduceToNat, Int.toNat_natCast, Nat.zero_add, Nat.add_zero, Nat.mul_one, Nat.one_mul, Bool.not_true, Bool.not_false, ne_eq, not_true_eq_false, not_false_eq_true, Bool.false_eq_true, cd, k1]
      refine t1.alloc hl o.a o.b (od := (_, _)) g1 hdn fun v h2 s2 f2 hh2 el ew hc hv => ?_
      obtain ⟨p, e, rfl⟩ := hv
      have g2 := f2 d _ (fun q => hdn (by simp at q ⊢; rcases q with q | q | q <;> simp [q])) g1
      have cd2 : ∀ off, h2.cell d off = [AV.int .i64 o.k, .int .i64 o.a, .int .i64 o.b, .int .u64 o.w, .bool o.near][off]? := fun off => cell_of g2 off
      simp only [go_sem, reduceIte, Nat.reduceAdd, Nat.reduceSub, Nat.reduceMul, Nat.reducePow, Nat.reduceLT, Nat.reduceLeDiff, Nat.reduceEqDiff, Int.reduceAdd, Int.reduceSub, Int.reduceMul, Int.reduceNeg, Int.reducePow, Int.reduceLT, Int.reduceLE, Int.reduceEq, Int.reduceNe, Int.reduceToNat, Int.toNat_natCast, Nat.zero_add, Nat.add_zero, Nat.mul_one, Nat.one_mul, Bool.not_true, Bool.not_false, ne_eq, not_true_eq_false, not_false_eq_true, Bool.false_eq_true, cd2]
      refine hc _ fun h3 os3 BL3 l3 f3 t3 hl3 => ?_
      simp only [go_sem, reduceIte, Nat.reduceAdd, Nat.reduceSub, Nat.reduceMul, Nat.reducePow, Nat.reduceLT, Nat.reduceLeDiff, Nat.reduceEqDiff, Int.reduceAdd, Int.reduceSub, Int.reduceMul, Int.reduceNeg, Int.reducePow, Int.reduceLT, Int.reduceLE, Int.reduceEq, Int.reduceNe, Int.reduceToNat, Int.toNat_natCast, Nat.zero_add, Nat.add_zero, Nat.mul_one, Nat.one_mul, Bool.not_true, Bool.not_false, ne_eq, not_true_eq_false, not_false_eq_true, Bool.false_eq_true]
      have := t3.two
      rw [el, ew] at this
      exact hK h3 l3 this hl3 (fun q => absurd k1 q)
    · by_cases k2 : o.k = 2
      · simp only [go_sem, reduceIte, Nat.reduceAdd, Nat.reduceSub, Nat.reduceMul, Nat.reducePow, Nat.reduceLT, Nat.reduceLeDiff, Nat.reduceEqDiff, Int.reduceAdd, Int.reduceSub, Int.reduceMul, Int.reduceNeg, Int.reducePow, Int.reduceLT, Int.reduceLE, Int.reduceEq, Int.reduceNe, Int.reduceToNat, Int.toNat_natCast, Nat.zero_add, Nat.add_zero, Nat.mul_one, Nat.one_mul, Bool.not_true, Bool.not_false, ne_eq, not_true_eq_false, not_false_eq_true, Bool.false_eq_true, cd, k1, k2]
        refine t1.set hl p o.b w0 w1 fun v h2 hc f2 hv => ?_
        obtain ⟨e, rfl⟩ := hv
        have g2 := f2 d _ (fun q => hdn (by simp at q ⊢; simp [q])) g1
        have cd2 : ∀ off, h2.cell d off = [AV.int .i64 o.k, .int .i64 o.a, .int .i64 o.b, .int .u64 o.w, .bool o.near][off]? := fun off => cell_of g2 off
        simp only [go_sem, reduceIte, Nat.reduceAdd, Nat.reduceSub, Nat.reduceMul, Nat.reducePow, Nat.reduceLT, Nat.reduceLeDiff, Nat.reduceEqDiff, Int.reduceAdd, Int.reduceSub, Int.reduceMul, Int.reduceNeg, Int.reducePow, Int.reduceLT, Int.reduceLE, Int.reduceEq, Int.reduceNe, Int.reduceToNat, Int.toNat_natCast, Nat.zero_add, Nat.add_zero, Nat.mul_one, Nat.one_mul, Bool.not_true, Bool.not_false, ne_eq, not_true_eq_false, not_false_eq_true, Bool.false_eq_true, cd2]
        refine hc _ fun h3 s3 os3 l3 t3 el ew hl3 => ?_
        simp only [go_sem, reduceIte, Nat.reduceAdd, Nat.reduceSub, Nat.reduceMul, Nat.reducePow, Nat.reduceLT, Nat.reduceLeDiff, Nat.reduceEqDiff, Int.reduceAdd, Int.reduceSub, Int.reduceMul, Int.reduceNeg, Int.reducePow, Int.reduceLT, Int.reduceLE, Int.reduceEq, Int.reduceNe, Int.reduceToNat, Int.toNat_natCast, Nat.zero_add, Nat.add_zero, Nat.mul_one, Nat.one_mul, Bool.not_true, Bool.not_false, ne_eq, not_true_eq_false, not_false_eq_true, Bool.false_eq_true]
        have := t3.two
        rw [el, ew] at this
        exact hK h3 l3 this (by omega) (fun _ => hl3)
      · by_cases k3 : o.k = 3
        · obtain ⟨cc, hcc, hc8⟩ := u8_nat w
          simp only [go_sem, reduceIte, Nat.reduceAdd, Nat.reduceSub, Nat.reduceMul, Nat.reducePow, Nat.reduceLT, Nat.reduceLeDiff, Nat.reduceEqDiff, Int.reduceAdd, Int.reduceSub, Int.reduceMul, Int.reduceNeg, Int.reducePow, Int.reduceLT, Int.reduceLE, Int.reduceEq, Int.reduceNe, Int.reduceToNat, Int.toNat_natCast, Nat.zero_add, Nat.add_zero, Nat.mul_one, Nat.one_mul, Bool.not_true, Bool.not_false, ne_eq, not_true_eq_false, not_false_eq_true, Bool.false_eq_true, cd, k1, k2, k3, hcc]
          refine t1.setByte hl p o.b hc8 fun v h2 hc f2 hv => ?_
          obtain ⟨e, rfl⟩ := hv
          have g2 := f2 d _ (fun q => hdn (by simp at q ⊢; simp [q])) g1
          have cd2 : ∀ off, h2.cell d off = [AV.int .i64 o.k, .int .i64 o.a, .int .i64 o.b, .int .u64 o.w, .bool o.near][off]? := fun off => cell_of g2 off
          simp only [go_sem, reduceIte, Nat.reduceAdd, Nat.reduceSub, Nat.reduceMul, Nat.reducePow, Nat.reduceLT, Nat.reduceLeDiff, Nat.reduceEqDiff, Int.reduceAdd, Int.reduceSub, Int.reduceMul, Int.reduceNeg, Int.reducePow, Int.reduceLT, Int.reduceLE, Int.reduceEq, Int.reduceNe, Int.reduceToNat, Int.toNat_natCast, Nat.zero_add, Nat.add_zero, Nat.mul_one, Nat.one_mul, Bool.not_true, Bool.not_false, ne_eq, not_true_eq_false, not_false_eq_true, Bool.false_eq_true, cd2, hcc]
          refine hc _ fun h3 s3 os3 l3 t3 el ew hl3 => ?_
          simp only [go_sem, reduceIte, Nat.reduceAdd, Nat.reduceSub, Nat.reduceMul, Nat.reducePow, Nat.reduceLT, Nat.reduceLeDiff, Nat.reduceEqDiff, Int.reduceAdd, Int.reduceSub, Int.reduceMul, Int.reduceNeg, Int.reducePow, Int.reduceLT, Int.reduceLE, Int.reduceEq, Int.reduceNe, Int.reduceToNat, Int.toNat_natCast, Nat.zero_add, Nat.add_zero, Nat.mul_one, Nat.one_mul, Bool.not_true, Bool.not_false, ne_eq, not_true_eq_false, not_false_eq_true, Bool.false_eq_true]
          have := t3.two
          rw [el, ew] at this
          exact hK h3 l3 this (by omega) (fun _ => hl3)
        · simp only [go_sem, reduceIte, Nat.reduceAdd, Nat.reduceSub, Nat.reduceMul, Nat.reducePow, Nat.reduceLT, Nat.reduceLeDiff, Nat.reduceEqDiff, Int.reduceAdd, Int.reduceSub, Int.reduceMul, Int.reduceNeg, Int.reducePow, Int.reduceLT, Int.reduceLE, Int.reduceEq, Int.reduceNe, Int.reduceToNat, Int.toNat_natCast, Nat.zero_add, Nat.add_zero, Nat.mul_one, Nat.one_mul, Bool.not_true, Bool.not_false, ne_eq, not_true_eq_false, not_false_eq_true, Bool.false_eq_true, cd, k1, k2, k3]
          exact hK h1 l t1.two (by omega) (fun _ => rfl)
  · cases hn : o.near with
    | false => simp only [go_sem, reduceIte, Nat.reduceAdd, Nat.reduceSub, Nat.reduceMul, Nat.reducePow, Nat.reduceLT, Nat.reduceLeDiff, Nat.reduceEqDiff, Int.reduceAdd, Int.reduceSub, Int.reduceMul, Int.reduceNeg, Int.reducePow, Int.reduceLT, Int.reduceLE, Int.reduceEq, Int.reduceNe, Int.reduceToNat, Int.toNat_natCast, Nat.zero_add, Nat.add_zero, Nat.mul_one, Nat.one_mul, Bool.not_true, Bool.not_false, ne_eq, not_true_eq_false, not_false_eq_true, Bool.false_eq_true, cd, hn]; exact hJ _ w0 w1
    | true =>
      by_cases hz : (l.length : Int) = 0
      · have hz' : ¬ (0 : Int) < l.length := by omega
        simp only [go_sem, reduceIte, Nat.reduceAdd, Nat.reduceSub, Nat.reduceMul, Nat.reducePow, Nat.reduceLT, Nat.reduceLeDiff, Nat.reduceEqDiff, Int.reduceAdd, Int.reduceSub, Int.reduceMul, Int.reduceNeg, Int.reducePow, Int.reduceLT, Int.reduceLE, Int.reduceEq, Int.reduceNe, Int.reduceToNat, Int.toNat_natCast, Nat.zero_add, Nat.add_zero, Nat.mul_one, Nat.one_mul, Bool.not_true, Bool.not_false, ne_eq, not_true_eq_false, not_false_eq_true, Bool.false_eq_true, cd, hn, c, ov.row.len, hz']; exact hJ _ w0 w1
      · have hz' : (0 : Int) < l.length := by omega
        have e4 : IntKind.u64.wrap (l.length : Int) = l.length := u64_id (by omega) (by omega)
        have e5 : o.w.tmod (l.length : Int) = o.w % (l.length : Int) := Int.tmod_eq_emod_of_nonneg w0
        have m0 := Int.emod_nonneg o.w hz
        have m1 := Int.emod_lt_of_pos o.w hz'
        obtain ⟨k, hk⟩ := Int.eq_ofNat_of_zero_le m0
        rw [hk] at m1 e5
        have hkl : k < l.length := by omega
        have e6 : IntKind.i64.wrap (k : Int) = k := i64_id (by omega) (by omega)
        obtain ⟨x, hx⟩ : ∃ x, l[k]? = some x := ⟨l[k], by simp [hkl]⟩
        obtain ⟨b', q, q1, q2, q3⟩ := ov.obj hx
        obtain ⟨c3, c4, c0⟩ := cells3 q2
        have hx' := t1.range x (List.mem_of_getElem? hx)
        have e7 : IntKind.u64.wrap x.r.a = x.r.a := u64_id (by omega) (by omega)
        have e8 : IntKind.u64.wrap (x.r.a * 2) = x.r.a * 2 := u64_id (by omega) (by omega)
        simp only [go_sem, reduceIte, Nat.reduceAdd, Nat.reduceSub, Nat.reduceMul, Nat.reducePow, Nat.reduceLT, Nat.reduceLeDiff, Nat.reduceEqDiff, Int.reduceAdd, Int.reduceSub, Int.reduceMul, Int.reduceNeg, Int.reducePow, Int.reduceLT, Int.reduceLE, Int.reduceEq, Int.reduceNe, Int.reduceToNat, Int.toNat_natCast, Nat.zero_add, Nat.add_zero, Nat.mul_one, Nat.one_mul, Bool.not_true, Bool.not_false, ne_eq, not_true_eq_false, not_false_eq_true, Bool.false_eq_true, cd, hn, c, ov.row.len, hz', hz, e4, e5, e6, q1, c0, e7, e8]
        exact hJ _ (by omega) (by omega)
end
end Go.Proofs.Ytljkkfcokpimkaa.X
set_option linter.unusedVariables false
set_option linter.unusedSimpArgs false
set_option maxRecDepth 20000
namespace Go.Proofs.Ytljkkfcokpimkaa.X
open Go Go.RowKit
def opsC (l : List OpI) : List AV := l.flatMap OpI.cells
theorem flat_take {α : Type} (f : α → List AV) (k : Nat) (hk : ∀ x, (f x).length = k) : ∀ (l : List α) (j : Nat), (l.flatMap f).take (j * k) = (l.take j).flatMap f
  | [], j => by simp
  | x :: l, 0 => by simp
  | x :: l, j + 1 => by
    rw [List.take_succ_cons, List.flatMap_cons, List.flatMap_cons, List.take_append, ← flat_take f k hk l j, hk x, List.take_of_length_le (by rw [hk x, Nat.add_mul]; omega)]
    congr 2; rw [Nat.add_mul]; omega
theorem flat_drop {α : Type} (f : α → List AV) (k : Nat) (hk : ∀ x, (f x).length = k) : ∀ (l : List α) (i : Nat) (x : α), l[i]? = some x → ((l.flatMap f).drop (i * k)).take k = f x
  | [], i, x, h => by simp at h
  | y :: l, 0, x, h => by
    simp at h; subst h
    rw [Nat.zero_mul, List.drop_zero, List.flatMap_cons, List.take_append, hk y, Nat.sub_self, List.take_zero, List.append_nil, List.take_of_length_le (by rw [hk y]; omega)]
  | y :: l, i + 1, x, h => by
    rw [List.flatMap_cons, List.drop_append, hk y, List.drop_eq_nil_of_le (by rw [hk y, Nat.add_mul]; omega), List.nil_append]
    have : (i + 1) * k - k = i * k := by rw [Nat.add_mul]; omega
    rw [this]
    exact flat_drop f k hk l i x (by simpa using h)
theorem lies_op {h : H} {l : List AV} (hl : Lies h (.st [.int .i64, .int .i64, .int .i64, .int .u64, .bool]) l) : ∃ o : OpI, l = o.cells ∧ o.ok := by
  simp only [Lies, LiesL] at hl
  obtain ⟨a1, t1, rfl, g1, a2, t2, rfl, g2, a3, t3, rfl, g3, a4, t4, rfl, g4, a5, t5, rfl, g5, rfl⟩ := hl
  obtain ⟨x1, rfl, u1, u1'⟩ := lies_i64 (h := h) (by simpa only [Lies] using g1)
  obtain ⟨x2, rfl, u2, u2'⟩ := lies_i64 (h := h) (by simpa only [Lies] using g2)
  obtain ⟨x3, rfl, u3, u3'⟩ := lies_i64 (h := h) (by simpa only [Lies] using g3)
  obtain ⟨x4, rfl, u4, u4'⟩ := lies_u64 (h := h) (by simpa only [Lies] using g4)
  obtain ⟨x5, rfl⟩ : ∃ x : Bool, a5 = [.bool x] := by simpa only [Lies] using g5
  exact ⟨⟨x1, x2, x3, x4, x5⟩, rfl, ⟨u2, by show x2 ≤ _; omega, u4, u4'⟩⟩
theorem lies_ops {h : H} {l : List AV} (hl : Lies h (.sl (.st [.int .i64, .int .i64, .int .i64, .int .u64, .bool])) l) : ∃ v L, l = [v] ∧ Row h v L.length 5 (opsC L) ∧ (∀ x ∈ L, x.ok) ∧ L.length ≤ reachBytes := by
  rw [Lies] at hl
  rcases hl with rfl | ⟨b, ei, css, rfl, hb, hm, hcs⟩
  · exact ⟨.nilsl, [], rfl, ⟨rfl, .inl ⟨rfl, rfl⟩⟩, by simp, by simp⟩
  · obtain ⟨L, hL, hfl, hlen⟩ : ∃ L : List OpI, (∀ x ∈ L, x.ok) ∧ css.flatten = opsC L ∧ css.length = L.length := by
      clear hb hm
      induction css with
      | nil => exact ⟨[], by simp, rfl, rfl⟩
      | cons c css ih =>
        obtain ⟨L, i1, i2, i3⟩ := ih fun c hc => hcs c (by simp [hc])
        obtain ⟨o, rfl, ho⟩ := lies_op (hcs c (by simp))
        refine ⟨o :: L, ?_, by simp only [List.flatten_cons, i2, opsC, List.flatMap_cons], by simp [i3]⟩
        intro d hd
        rcases List.mem_cons.1 hd with rfl | hd
        · exact ho
        · exact i1 d hd
    have ol : ∀ L : List OpI, (opsC L).length = L.length * 5 := fun L => by
      induction L with
      | nil => rfl
      | cons x l ih => simp only [opsC, List.flatMap_cons] at ih ⊢; simp [OpI.cells, ih]; omega
    refine ⟨_, L, rfl, ⟨ol L, .inr ⟨b, 0, .any, by rw [hlen], rfl, ?_⟩⟩, hL, by omega⟩
    refine H.read_eq hb (by rw [hfl, ol]; omega) ?_
    rw [hfl, List.drop_zero, List.take_of_length_le (by rw [ol]; omega)]
section
variable {h : H}
theorem few_c {v : AV} {ops : List OpI} (hr : Row h v ops.length 5 (opsC ops)) (hm : ops.length ≤ reachBytes) {K : AV → H → Prop}
    (hK : ∀ v' ops', (∀ h1, Row h1 v ops.length 5 (opsC ops) → Row h1 v' ops'.length 5 (opsC ops')) → ops'.length ≤ 200 → ops'.length ≤ ops.length → (∀ o ∈ ops', o ∈ ops) → K v' h) : C 73 [v] h K := by
  refine run73 ?_
  by_cases h1 : 200 < (ops.length : Int)
  · obtain ⟨v', w1, w2⟩ := sl_none hr (j := 200) (by omega) (by omega)
    have w1 : sliceOp (.row 5) v none (some (.int .i64 200)) none = some v' := w1
    simp only [sh73, go_sem, reduceIte, Nat.reduceAdd, Nat.reduceSub, Nat.reduceMul, Nat.reducePow, Nat.reduceLT, Nat.reduceLeDiff, Nat.reduceEqDiff, Int.reduceAdd, Int.reduceSub, Int.reduceMul, Int.reduceNeg, Int.reducePow, Int.reduceLT, Int.reduceLE, Int.reduceEq, Int.reduceNe, Int.reduceToNat, Int.toNat_natCast, Nat.zero_add, Nat.add_zero, Nat.mul_one, Nat.one_mul, Bool.not_true, Bool.not_false, ne_eq, not_true_eq_false, not_false_eq_true, Bool.false_eq_true, hr.len, h1, w1]
    refine hK v' (ops.take 200) (fun h1 r1 => ?_) (by simp; omega) (by simp; omega) fun o ho => List.mem_of_mem_take ho
    obtain ⟨v2, y1, y2⟩ := sl_none r1 (j := 200) (by omega) (by omega)
    have y1 : sliceOp (.row 5) v none (some (.int .i64 200)) none = some v2 := y1
    rw [w1] at y1
    injection y1 with y1
    subst y1
    unfold opsC at y2
    rw [flat_take OpI.cells 5 (fun _ => rfl)] at y2
    have : (ops.take 200).length = 200 := by simp; omega
    rw [this]; exact y2
  · simp only [sh73, go_sem, reduceIte, Nat.reduceAdd, Nat.reduceSub, Nat.reduceMul, Nat.reducePow, Nat.reduceLT, Nat.reduceLeDiff, Nat.reduceEqDiff, Int.reduceAdd, Int.reduceSub, Int.reduceMul, Int.reduceNeg, Int.reducePow, Int.reduceLT, Int.reduceLE, Int.reduceEq, Int.reduceNe, Int.reduceToNat, Int.toNat_natCast, Nat.zero_add, Nat.add_zero, Nat.mul_one, Nat.one_mul, Bool.not_true, Bool.not_false, ne_eq, not_true_eq_false, not_false_eq_true, Bool.false_eq_true, hr.len, h1]
    exact hK v ops (fun _ r => r) (by omega) (by omega) fun o ho => ho
theorem made_c {lv Lo : AV} {lays : List (Int × Int)} {ops : List OpI} (hl : Row h lv lays.length 2 (lc lays)) (hm : lays.length ≤ reachBytes) (ho : Row h Lo ops.length 5 (opsC ops)) (hm2 : ops.length ≤ reachBytes) (hok : ∀ o ∈ ops, o.ok) (words : Int) {K : AV → H → Prop}
    (hnil : ∀ h', Fr [] h h' → K (.tup [.nilp, .nilp]) h')
    (hK : ∀ h' b bx n lays' l, Two h h' b bx n lays' l → n ≤ 4000 → (words ≤ 4000 → (n : Int) = words) → l.length ≤ 150 → l.length ≤ ops.length → K (.tup [.ptr b 0, .ptr bx 0]) h') : C 60 [.int .i64 words, lv, Lo] h K := by
  refine run60 ?_
  unfold sh60
  refine join_r (fun (J : AV → H → Prop) => ∀ (v : AV) (L : List (Int × Int)), Row h v L.length 2 (lc L) → L.length ≤ reachBytes → J v h) ?_ fun J hJ => ?_
  · intro v L hr hrm
    obtain ⟨W, hW⟩ : ∃ W : Int, (if 4000 < words then (4000 : Int) else words) = W := ⟨_, rfl⟩
    simp only [go_sem, reduceIte, Nat.reduceAdd, Nat.reduceSub, Nat.reduceMul, Nat.reducePow, Nat.reduceLT, Nat.reduceLeDiff, Nat.reduceEqDiff, Int.reduceAdd, Int.reduceSub, Int.reduceMul, Int.reduceNeg, Int.reducePow, Int.reduceLT, Int.reduceLE, Int.reduceEq, Int.reduceNe, Int.reduceToNat, Int.toNat_natCast, Nat.zero_add, Nat.add_zero, Nat.mul_one, Nat.one_mul, Bool.not_true, Bool.not_false, ne_eq, not_true_eq_false, not_false_eq_true, Bool.false_eq_true, hW]
    refine new_c hr hrm (fun he h1 f1 => ?_) (fun he h1 b bw bd B f1 hfr hh => ?_)
    · simp only [go_sem, reduceIte, Nat.reduceAdd, Nat.reduceSub, Nat.reduceMul, Nat.reducePow, Nat.reduceLT, Nat.reduceLeDiff, Nat.reduceEqDiff, Int.reduceAdd, Int.reduceSub, Int.reduceMul, Int.reduceNeg, Int.reducePow, Int.reduceLT, Int.reduceLE, Int.reduceEq, Int.reduceNe, Int.reduceToNat, Int.toNat_natCast, Nat.zero_add, Nat.add_zero, Nat.mul_one, Nat.one_mul, Bool.not_true, Bool.not_false, ne_eq, not_true_eq_false, not_false_eq_true, Bool.false_eq_true, he]
      exact hnil h1 f1
    · obtain ⟨r1, r2, r3, r4⟩ := newErr_range he
      have hWn : ((W.toNat : Nat) : Int) = W := by omega
      simp only [go_sem, reduceIte, Nat.reduceAdd, Nat.reduceSub, Nat.reduceMul, Nat.reducePow, Nat.reduceLT, Nat.reduceLeDiff, Nat.reduceEqDiff, Int.reduceAdd, Int.reduceSub, Int.reduceMul, Int.reduceNeg, Int.reducePow, Int.reduceLT, Int.reduceLE, Int.reduceEq, Int.reduceNe, Int.reduceToNat, Int.toNat_natCast, Nat.zero_add, Nat.add_zero, Nat.mul_one, Nat.one_mul, Bool.not_true, Bool.not_false, ne_eq, not_true_eq_false, not_false_eq_true, Bool.false_eq_true, b_pn]
      refine check_c (hr.fr f1) hrm fun h2 f2 => ?_
      have ev : fillV [.int .i64 0, .nilsl, .nilsl] [(0, 1, .int .i64 W), (1, 1, v)] = some [.int .i64 W, v, .nilsl] := by
        rcases hr.2 with ⟨_, e⟩ | ⟨_, _, _, e, _⟩ <;> subst e <;> rfl
      have elv : leaves [.int .i64 W, v, .nilsl] = true := by simp only [leaves, hr.one.1]; rfl
      simp only [go_sem, reduceIte, Nat.reduceAdd, Nat.reduceSub, Nat.reduceMul, Nat.reducePow, Nat.reduceLT, Nat.reduceLeDiff, Nat.reduceEqDiff, Int.reduceAdd, Int.reduceSub, Int.reduceMul, Int.reduceNeg, Int.reducePow, Int.reduceLT, Int.reduceLE, Int.reduceEq, Int.reduceNe, Int.reduceToNat, Int.toNat_natCast, Nat.zero_add, Nat.add_zero, Nat.mul_one, Nat.one_mul, Bool.not_true, Bool.not_false, ne_eq, not_true_eq_false, not_false_eq_true, Bool.false_eq_true, he, ev, AV.cells]
      refine ⟨elv, fun bx hbx => ?_⟩
      have f12 := f1.trans f2
      have f3 : Fr [] h (h2.set bx (.live [.int .i64 W, v, .nilsl] 56 true)) := f12.set' (f12.free hbx)
      have hh2 := hh.fr0 f2
      have T : Two h (h2.set bx (.live [.int .i64 W, v, .nilsl] 56 true)) b bx W.toNat L [] := by
        refine ⟨bw, bd, B, newHs W.toNat L, [], [], ⟨hh2.fr0 (Fr.new hbx), abs_new _ (by omega) r3 r4, ⟨f3, ⟨v, .nilsl, ?_, hr, rfl, .inl ⟨rfl, rfl, rfl⟩⟩, by simp, by simp [blocksR], ?_⟩, trivial, ?_, ?_, fun o ho => by cases ho⟩, by simp [newHs], rfl⟩
        · have : ((newHs W.toNat L).words.length : Int) = W := by simp [newHs]; omega
          rw [this]; exact H.get_same ..
        · intro c hc
          simp [blocksR] at hc; subst hc
          exact f12.free hbx
        · intro c hc q
          simp [blocksR] at q; subst q
          exact hh2.alive c hc hbx
        · exact fun c hc => hfr c hc
      generalize h2.set bx (.live [.int .i64 W, v, .nilsl] 56 true) = h3 at *
      refine join_r (fun (J : H → Prop) => ∀ h' l, Two h h' b bx W.toNat L l → l.length ≤ 150 → l.length ≤ ops.length → J h') ?_ fun J hJ => ?_
      · intro h' l t q1 q2
        refine hK h' b bx W.toNat L l t (by split at hW <;> omega) (fun q => by rw [if_neg (by omega)] at hW; omega) q1 q2
      · have ho3 := ho.fr f3
        refine few_c ho3 hm2 fun v' ops' hrr hl1 hl2 hsub => ?_
        have hr0 := hrr h ho
        have hr' := hrr _ ho3
        simp only [go_sem, reduceIte, Nat.reduceAdd, Nat.reduceSub, Nat.reduceMul, Nat.reducePow, Nat.reduceLT, Nat.reduceLeDiff, Nat.reduceEqDiff, Int.reduceAdd, Int.reduceSub, Int.reduceMul, Int.reduceNeg, Int.reducePow, Int.reduceLT, Int.reduceLE, Int.reduceEq, Int.reduceNe, Int.reduceToNat, Int.toNat_natCast, Nat.zero_add, Nat.add_zero, Nat.mul_one, Nat.one_mul, Bool.not_true, Bool.not_false, ne_eq, not_true_eq_false, not_false_eq_true, Bool.false_eq_true, hr'.len]
        refine loop_r (ops'.length + 1) (fun c ls h' => ∃ (l : List RV) (i : Nat), ls = [.int .i64 i] ∧ i ≤ ops'.length ∧ Two h h' b bx W.toNat L l ∧ l.length ≤ 150 ∧ l.length ≤ i ∧ Row h' v' ops'.length 5 (opsC ops') ∧ c = ops'.length + 1 - i)
          ⟨[], 0, rfl, by omega, T, by simp, by simp, hr', by omega⟩ ?_
        rintro c ls h' ⟨l, i, rfl, hi, t, l1, l2, hro, rfl⟩
        by_cases q1 : (i : Int) < ops'.length
        · have hi' : i < ops'.length := by omega
          obtain ⟨o, hoi⟩ : ∃ o, ops'[i]? = some o := ⟨ops'[i], by simp [hi']⟩
          have hoo := hok o (hsub o (List.mem_of_getElem? hoi))
          obtain ⟨b', q, x1, x2, x3⟩ := hro.el (i := i) (by omega) q1
          have x3 : h'.read b' q 5 = some o.cells := by
            rw [x3, Int.toNat_natCast]
            exact congrArg some (flat_drop OpI.cells 5 (fun _ => rfl) ops' i o hoi)
          simp only [go_sem, reduceIte, Nat.reduceAdd, Nat.reduceSub, Nat.reduceMul, Nat.reducePow, Nat.reduceLT, Nat.reduceLeDiff, Nat.reduceEqDiff, Int.reduceAdd, Int.reduceSub, Int.reduceMul, Int.reduceNeg, Int.reducePow, Int.reduceLT, Int.reduceLE, Int.reduceEq, Int.reduceNe, Int.reduceToNat, Int.toNat_natCast, Nat.zero_add, Nat.add_zero, Nat.mul_one, Nat.one_mul, Bool.not_true, Bool.not_false, ne_eq, not_true_eq_false, not_false_eq_true, Bool.false_eq_true, q1, x1, x3]
          refine ⟨rfl, fun d hd => ?_⟩
          have hw : (h'.set d (.live [.int .i64 0, .int .i64 0, .int .i64 0, .int .u64 0, .bool false] 72 true)).write d 0 o.cells = some (h'.set d (.live o.cells 72 true)) := write_new rfl rfl
          have ec : (AV.agg o.cells).cells = o.cells := rfl
          have el : o.cells.length = 5 := rfl
          have f4 : Fr [] h' (h'.set d (.live o.cells 72 true)) := (Fr.refl _ _).set' hd
          have t4 := t.keep0 f4
          have hro4 := hro.fr f4
          have gd : (h'.set d (.live o.cells 72 true)).get d = some (.live o.cells 72 true) := H.get_same ..
          have rd : (h'.set d (.live o.cells 72 true)).read d 0 5 = some o.cells := H.read_eq gd (by rw [el]; omega) rfl
          have c0 : (h'.set d (.live o.cells 72 true)).cell d 0 = some (.int .i64 o.k) := cell_of gd 0
          have en : IntKind.i64.wrap ((i : Int) + 1) = ((i + 1 : Nat) : Int) := by rw [i64_id (by omega) (by omega)]; rfl
          generalize h'.set d (.live o.cells 72 true) = h4 at *
          have t5 := t4
          obtain ⟨bw5, bd5, B5, s5, os5, BL5, t5, e5, e5'⟩ := t5
          obtain ⟨lv5, Lv5, cx, _, ov⟩ := t5.R.cells
          have step : (l.length < 150 ∨ o.k ≠ 1) → ∀ K : AV → H → Prop, (∀ h5 l5, Two h h5 b bx W.toNat L l5 → l5.length ≤ 150 → l5.length ≤ i + 1 → Row h5 v' ops'.length 5 (opsC ops') → K (.bool true) h5) → C 74 [.ptr b 0, .ptr bx 0, .agg o.cells] h4 K := by
            intro hk N hN
            refine does_c t4 (by omega) hoo fun h5 l5 t5 g1 g2 => ?_
            have hro5 : Row h5 v' ops'.length 5 (opsC ops') := by
              obtain ⟨_, _, _, _, _, _, T5, _⟩ := t5
              exact hr0.fr T5.R.fr
            refine hN h5 l5 t5 ?_ (by omega) hro5
            rcases hk with hk | hk
            · omega
            · rw [g2 hk]; exact l1
          by_cases k1 : o.k = 1
          · by_cases k2 : (l.length : Int) < 150
            · simp only [go_sem, reduceIte, Nat.reduceAdd, Nat.reduceSub, Nat.reduceMul, Nat.reducePow, Nat.reduceLT, Nat.reduceLeDiff, Nat.reduceEqDiff, Int.reduceAdd, Int.reduceSub, Int.reduceMul, Int.reduceNeg, Int.reducePow, Int.reduceLT, Int.reduceLE, Int.reduceEq, Int.reduceNe, Int.reduceToNat, Int.toNat_natCast, Nat.zero_add, Nat.add_zero, Nat.mul_one, Nat.one_mul, Bool.not_true, Bool.not_false, ne_eq, not_true_eq_false, not_false_eq_true, Bool.false_eq_true, stA_p, ec, el, hw, c0, k1, cx, ov.row.len, k2, rd]
              exact step (.inl (by omega)) _ fun h5 l5 t5 g1 g2 g3 => ⟨ops'.length + 1 - (i + 1), by omega, l5, i + 1, by rw [en], by omega, t5, g1, g2, g3, rfl⟩
            · simp only [go_sem, reduceIte, Nat.reduceAdd, Nat.reduceSub, Nat.reduceMul, Nat.reducePow, Nat.reduceLT, Nat.reduceLeDiff, Nat.reduceEqDiff, Int.reduceAdd, Int.reduceSub, Int.reduceMul, Int.reduceNeg, Int.reducePow, Int.reduceLT, Int.reduceLE, Int.reduceEq, Int.reduceNe, Int.reduceToNat, Int.toNat_natCast, Nat.zero_add, Nat.add_zero, Nat.mul_one, Nat.one_mul, Bool.not_true, Bool.not_false, ne_eq, not_true_eq_false, not_false_eq_true, Bool.false_eq_true, stA_p, ec, el, hw, c0, k1, cx, ov.row.len, k2, en]
              exact ⟨_, by omega, l, i + 1, rfl, by omega, t4, l1, by omega, hro4, rfl⟩
          · simp only [go_sem, reduceIte, Nat.reduceAdd, Nat.reduceSub, Nat.reduceMul, Nat.reducePow, Nat.reduceLT, Nat.reduceLeDiff, Nat.reduceEqDiff, Int.reduceAdd, Int.reduceSub, Int.reduceMul, Int.reduceNeg, Int.reducePow, Int.reduceLT, Int.reduceLE, Int.reduceEq, Int.reduceNe, Int.reduceToNat, Int.toNat_natCast, Nat.zero_add, Nat.add_zero, Nat.mul_one, Nat.one_mul, Bool.not_true, Bool.not_false, ne_eq, not_true_eq_false, not_false_eq_true, Bool.false_eq_true, stA_p, ec, el, hw, c0, k1, rd]
            exact step (.inr k1) _ fun h5 l5 t5 g1 g2 g3 => ⟨ops'.length + 1 - (i + 1), by omega, l5, i + 1, by rw [en], by omega, t5, g1, g2, g3, rfl⟩
        · simp only [go_sem, reduceIte, Nat.reduceAdd, Nat.reduceSub, Nat.reduceMul, Nat.reducePow, Nat.reduceLT, Nat.reduceLeDiff, Nat.reduceEqDiff, Int.reduceAdd, Int.reduceSub, Int.reduceMul, Int.reduceNeg, Int.reducePow, Int.reduceLT, Int.reduceLE, Int.reduceEq, Int.reduceNe, Int.reduceToNat, Int.toNat_natCast, Nat.zero_add, Nat.add_zero, Nat.mul_one, Nat.one_mul, Bool.not_true, Bool.not_false, ne_eq, not_true_eq_false, not_false_eq_true, Bool.false_eq_true, q1]
          exact hJ h' l t l1 (by omega)
  · by_cases h1 : 600 < (lays.length : Int)
    · obtain ⟨v', w1, w2⟩ := sl_none hl (j := 600) (by omega) (by omega)
      have w1 : sliceOp (.row 2) lv none (some (.int .i64 600)) none = some v' := w1
      simp only [go_sem, reduceIte, Nat.reduceAdd, Nat.reduceSub, Nat.reduceMul, Nat.reducePow, Nat.reduceLT, Nat.reduceLeDiff, Nat.reduceEqDiff, Int.reduceAdd, Int.reduceSub, Int.reduceMul, Int.reduceNeg, Int.reducePow, Int.reduceLT, Int.reduceLE, Int.reduceEq, Int.reduceNe, Int.reduceToNat, Int.toNat_natCast, Nat.zero_add, Nat.add_zero, Nat.mul_one, Nat.one_mul, Bool.not_true, Bool.not_false, ne_eq, not_true_eq_false, not_false_eq_true, Bool.false_eq_true, hl.len, h1, w1]
      unfold lc at w2
      rw [flat_take _ 2 (fun _ => rfl)] at w2
      refine hJ v' (lays.take 600) ?_ (by simp; omega)
      have : (lays.take 600).length = 600 := by simp; omega
      rw [this]; exact w2
    · simp only [go_sem, reduceIte, Nat.reduceAdd, Nat.reduceSub, Nat.reduceMul, Nat.reducePow, Nat.reduceLT, Nat.reduceLeDiff, Nat.reduceEqDiff, Int.reduceAdd, Int.reduceSub, Int.reduceMul, Int.reduceNeg, Int.reducePow, Int.reduceLT, Int.reduceLE, Int.reduceEq, Int.reduceNe, Int.reduceToNat, Int.toNat_natCast, Nat.zero_add, Nat.add_zero, Nat.mul_one, Nat.one_mul, Bool.not_true, Bool.not_false, ne_eq, not_true_eq_false, not_false_eq_true, Bool.false_eq_true, hl.len, h1]
      exact hJ lv lays hl hm
end
end Go.Proofs.Ytljkkfcokpimkaa.X
set_option linter.unusedVariables false
set_option linter.unusedSimpArgs false
set_option maxRecDepth 20000
namespace Go.Proofs.Ytljkkfcokpimkaa.X
open Go Go.RowKit
section
variable {h : H}
theorem get_b {b bw bd : Nat} {B : List Nat} {s : Hs} {os : List Ob} (hh : HeapAt h b bw bd B s) (A : Abs s os) {a i : Int} (K : AV → H → Prop) : C 64 [.ptr b 0, .int .i64 a, .int .i64 i] h K =
    K (if hasO s.lays os a i false then .tup [.int .u64 (s.wd (a + 1 + i)), .int .i64 0] else .tup [.int .u64 0, .int .i64 1]) h := by
  cases hq : hasO s.lays os a i false with
  | true =>
    obtain ⟨o, hf, k1, k2, k3⟩ := hasO_some hq
    have hlt := findO_lt os a o hf
    have htp := A.top; have htp2 := A.good.top; have g1 := A.good.wlen
    rw [get_a hh A (by omega), hq]
  | false =>
    refine callA_eq (run64 ?_) K
    simp only [sh64, go_sem, reduceIte, Nat.reduceAdd, Nat.reduceSub, Nat.reduceMul, Nat.reducePow, Nat.reduceLT, Nat.reduceLeDiff, Nat.reduceEqDiff, Int.reduceAdd, Int.reduceSub, Int.reduceMul, Int.reduceNeg, Int.reducePow, Int.reduceLT, Int.reduceLE, Int.reduceEq, Int.reduceNe, Int.reduceToNat, Int.toNat_natCast, Nat.zero_add, Nat.add_zero, Nat.mul_one, Nat.one_mul, Bool.not_true, Bool.not_false, ne_eq, not_true_eq_false, not_false_eq_true, Bool.false_eq_true, has_a hh A, hq]
end
end Go.Proofs.Ytljkkfcokpimkaa.X
set_option linter.unusedVariables false
set_option linter.unusedSimpArgs false
set_option maxRecDepth 20000
namespace Go.Proofs.Ytljkkfcokpimkaa.X
open Go Go.RowKit
theorem mks_zero8 {h : H} {n : Nat} (hn : n ≤ 65536) {K : AV → H → Prop} (hK : ∀ m, h.get m = none → K (.sl m 0 n (.exact n)) (h.set m (.live (bc (List.replicate n 0)) 5 true))) : mksA h 5 [.int .u8 0] 1 (.int .i64 n) (.int .i64 n) K := by
  have n1 : natOf (.int .i64 (n : Int)) = some n := by simp [natOf]
  unfold mksA
  rw [n1]
  simp only
  refine ⟨⟨Nat.le_refl _, by unfold most; omega, by omega⟩, by rw [repCells_int]; exact leaves_replicate .., fun m hm => ?_⟩
  have := hK m hm
  rw [repCells_int]
  simpa [bc] using this
/-- The bytes from a place on. -/
def Hs.bytes (s : Hs) (a : Int) (n : Nat) : List Nat := (List.range n).map fun i => (byteW (s.wd (a + 1 + ((i / 8 : Nat) : Int))) (i % 8)).toNat
section
variable {h : H} {b bw bd : Nat} {B : List Nat} {s : Hs} {os : List Ob}
theorem text_a (hh : HeapAt h b bw bd B s) (A : Abs s os) (a : Int) {K : AV → H → Prop}
    (hno : (∀ o, findO os a = some o → kindAt s.lays o.sh ≠ 3) → K (.tup [.str [], .int .i64 1]) h)
    (hyes : ∀ o, findO os a = some o → kindAt s.lays o.sh = 3 → ∀ h', Fr [] h h' → K (.tup [.str ((s.bytes a o.n.toNat).map UInt8.ofNat), .int .i64 0]) h') : C 71 [.ptr b 0, .int .i64 a] h K := by
  refine run71 ?_
  obtain ⟨lv, cc, r, _⟩ := hh.cells
  cases hf : findO os a with
  | none =>
    simp only [sh71, go_sem, reduceIte, Nat.reduceAdd, Nat.reduceSub, Nat.reduceMul, Nat.reducePow, Nat.reduceLT, Nat.reduceLeDiff, Nat.reduceEqDiff, Int.reduceAdd, Int.reduceSub, Int.reduceMul, Int.reduceNeg, Int.reducePow, Int.reduceLT, Int.reduceLE, Int.reduceEq, Int.reduceNe, Int.reduceToNat, Int.toNat_natCast, Nat.zero_add, Nat.add_zero, Nat.mul_one, Nat.one_mul, Bool.not_true, Bool.not_false, ne_eq, not_true_eq_false, not_false_eq_true, Bool.false_eq_true, is_a hh A, hf, Option.isSome_none]
    exact hno (by rw [hf]; simp)
  | some o =>
    obtain ⟨t1, t2, t3, t4, t5, t6, t7, t8, t9, t10, t11⟩ := A.at hf
    have g3 := A.good.top
    have hp := row_pos o
    have i1 : a < (s.words.length : Nat) := by omega
    have wr := A.good.wdr a
    obtain ⟨bl, q, q1, q2, q3, q4⟩ := r.lay (lay_get (L := s.lays) t4 t5)
    have hi : ((o.sh.toNat : Nat) : Int) = o.sh := by omega
    rw [hi] at q1
    have sc : ∀ (h : H) K, C 33 [.int .u64 (s.wd a)] h K = K (.int .i64 o.sh) h := fun h K => by rw [shape_c wr.1 wr.2]; unfold shapeOf at t2; rw [t2]
    have lc' : ∀ (h : H) K, C 35 [.int .u64 (s.wd a)] h K = K (.int .i64 o.n) h := fun h K => by rw [len_c wr.1 wr.2]; unfold lenOf at t3; rw [t3]
    by_cases k1 : kindAt s.lays o.sh = 3
    · simp only [sh71, go_sem, reduceIte, Nat.reduceAdd, Nat.reduceSub, Nat.reduceMul, Nat.reducePow, Nat.reduceLT, Nat.reduceLeDiff, Nat.reduceEqDiff, Int.reduceAdd, Int.reduceSub, Int.reduceMul, Int.reduceNeg, Int.reducePow, Int.reduceLT, Int.reduceLE, Int.reduceEq, Int.reduceNe, Int.reduceToNat, Int.toNat_natCast, Nat.zero_add, Nat.add_zero, Nat.mul_one, Nat.one_mul, Bool.not_true, Bool.not_false, ne_eq, not_true_eq_false, not_false_eq_true, Bool.false_eq_true, is_a hh A, hf, Option.isSome_some, cc, t8, i1, hh.word t8 i1, sc, q1, q2, k1, lc']
      obtain ⟨n, hn⟩ := Int.eq_ofNat_of_zero_le t6
      rw [hn]
      have hyes := hyes o hf k1
      rw [hn] at hyes t7 t10
      rw [Int.toNat_natCast] at hyes
      rw [if_pos k1] at t10
      have g1 := A.good.wlen
      have hbl : (s.bytes a n).length = n := by simp [Hs.bytes]
      refine mks_zero8 (n := n) (by omega) fun m hm => ?_
      refine join_r (fun (J : H → Prop) => ∀ h', Fr [] h h' → h'.get m = some (.live (bc (s.bytes a n)) 5 true) → J h') ?_ fun J hJ => ?_
      · intro h' f gm
        have rw1 : Row h' (.sl m 0 n (.exact n)) (s.bytes a n).length 1 (bc (s.bytes a n)) := ⟨by rw [bc_length]; omega, .inr ⟨m, 0, _, by rw [hbl], by simp [Cap.fits], H.read_eq gm (by rw [bc_length]; omega) (by rw [List.drop_zero, List.take_of_length_le (by rw [bc_length]; omega)])⟩⟩
        simp only [go_sem, reduceIte, Nat.reduceAdd, Nat.reduceSub, Nat.reduceMul, Nat.reducePow, Nat.reduceLT, Nat.reduceLeDiff, Nat.reduceEqDiff, Int.reduceAdd, Int.reduceSub, Int.reduceMul, Int.reduceNeg, Int.reducePow, Int.reduceLT, Int.reduceLE, Int.reduceEq, Int.reduceNe, Int.reduceToNat, Int.toNat_natCast, Nat.zero_add, Nat.add_zero, Nat.mul_one, Nat.one_mul, Bool.not_true, Bool.not_false, ne_eq, not_true_eq_false, not_false_eq_true, Bool.false_eq_true, rw1.b2s]
        exact hyes h' f
      · simp only [go_sem, reduceIte, Nat.reduceAdd, Nat.reduceSub, Nat.reduceMul, Nat.reducePow, Nat.reduceLT, Nat.reduceLeDiff, Nat.reduceEqDiff, Int.reduceAdd, Int.reduceSub, Int.reduceMul, Int.reduceNeg, Int.reducePow, Int.reduceLT, Int.reduceLE, Int.reduceEq, Int.reduceNe, Int.reduceToNat, Int.toNat_natCast, Nat.zero_add, Nat.add_zero, Nat.mul_one, Nat.one_mul, Bool.not_true, Bool.not_false, ne_eq, not_true_eq_false, not_false_eq_true, Bool.false_eq_true, lenA_s]
        refine loop_r (n + 1) (fun c ls h2 => ∃ (i : Nat) (M : List Nat), ls = [.int .i64 i] ∧ i ≤ n ∧ h2.get m = some (.live (bc M) 5 true) ∧ M.length = n ∧ (∀ k, k < i → M[k]? = (s.bytes a n)[k]?) ∧ Fr [] h h2 ∧ c = n + 1 - i)
          ⟨0, _, rfl, by omega, H.get_same .., by simp, by simp, (Fr.refl _ _).set' hm, rfl⟩ ?_
        rintro c ls h2 ⟨i, M, rfl, hin, gm, hM, hMk, f, rfl⟩
        by_cases q1 : (i : Int) < n
        · have hh2 := hh.fr0 f
          obtain ⟨lv2, cc2, r2, _⟩ := hh2.cells
          have i0 : (0 : Int) ≤ i := by omega
          have d1 : (i : Int).tdiv 8 = ((i / 8 : Nat) : Int) := by rw [Int.tdiv_eq_ediv_of_nonneg i0]; omega
          have d2 : (i : Int).tmod 8 = ((i % 8 : Nat) : Int) := by rw [Int.tmod_eq_emod_of_nonneg i0]; omega
          have e0 : IntKind.i64.wrap ((i / 8 : Nat) : Int) = ((i / 8 : Nat) : Int) := i64_id (by omega) (by omega)
          have e1 : IntKind.i64.wrap (IntKind.i64.wrap (a + 1) + ((i / 8 : Nat) : Int)) = a + 1 + ((i / 8 : Nat) : Int) := by rw [i64_id (n := a + 1) (by omega) (by omega), i64_id (by omega) (by omega)]
          have e2 : IntKind.i64.wrap (((i % 8 : Nat) : Int) * 8) = ((i % 8 : Nat) : Int) * 8 := i64_id (by omega) (by omega)
          have e3 : (((i % 8 : Nat) : Int) * 8).toNat = 8 * (i % 8) := by omega
          have b0 : 0 ≤ ((i % 8 : Nat) : Int) * 8 := by omega
          have b1 : ((i % 8 : Nat) : Int) * 8 ≤ 64 := by omega
          have j0 : 0 ≤ a + 1 + ((i / 8 : Nat) : Int) := by omega
          have j1 : a + 1 + ((i / 8 : Nat) : Int) < (s.words.length : Nat) := by omega
          have en : IntKind.i64.wrap ((i : Int) + 1) = ((i + 1 : Nat) : Int) := by rw [i64_id (by omega) (by omega)]; rfl
          have br := byteW_range (s.wd (a + 1 + ((i / 8 : Nat) : Int))) (i % 8)
          obtain ⟨c, hc⟩ := Int.eq_ofNat_of_zero_le br.1
          have st := st_one (k := .u8) (n := (c : Int)) gm (off := i) (by rw [bc_length]; omega)
          rw [bc_set] at st
          simp only [go_sem, reduceIte, Nat.reduceAdd, Nat.reduceSub, Nat.reduceMul, Nat.reducePow, Nat.reduceLT, Nat.reduceLeDiff, Nat.reduceEqDiff, Int.reduceAdd, Int.reduceSub, Int.reduceMul, Int.reduceNeg, Int.reducePow, Int.reduceLT, Int.reduceLE, Int.reduceEq, Int.reduceNe, Int.reduceToNat, Int.toNat_natCast, Nat.zero_add, Nat.add_zero, Nat.mul_one, Nat.one_mul, Bool.not_true, Bool.not_false, ne_eq, not_true_eq_false, not_false_eq_true, Bool.false_eq_true, q1, i0, cc2, d1, d2, e0, e1, e2, e3, b0, b1, j0, j1, hh2.word j0 j1, u8_byte, hc, st, en, Int.toNat_natCast]
          refine ⟨n + 1 - (i + 1), by omega, i + 1, _, rfl, by omega, H.get_same .., by simpa using hM, fun k hk => ?_, f.set' hm, rfl⟩
          rw [List.getElem?_set]
          by_cases e : i = k
          · subst e
            rw [if_pos rfl, if_pos (by omega)]
            simp only [Hs.bytes, List.getElem?_map, List.getElem?_range (show i < n by omega), Option.map_some, hc]
            rfl
          · rw [if_neg e]; exact hMk k (by omega)
        · have : M = s.bytes a n := by
            apply List.ext_getElem?
            intro k
            by_cases hk : k < n
            · exact hMk k (by omega)
            · rw [List.getElem?_eq_none (by omega), List.getElem?_eq_none (by omega)]
          subst this
          simp only [go_sem, reduceIte, Nat.reduceAdd, Nat.reduceSub, Nat.reduceMul, Nat.reducePow, Nat.reduceLT, Nat.reduceLeDiff, Nat.reduceEqDiff, Int.reduceAdd, Int.reduceSub, Int.reduceMul, Int.reduceNeg, Int.reducePow, Int.reduceLT, Int.reduceLE, Int.reduceEq, Int.reduceNe, Int.reduceToNat, Int.toNat_natCast, Nat.zero_add, Nat.add_zero, Nat.mul_one, Nat.one_mul, Bool.not_true, Bool.not_false, ne_eq, not_true_eq_false, not_false_eq_true, Bool.false_eq_true, q1]
          exact hJ h2 f gm
    · simp only [sh71, go_sem, reduceIte, Nat.reduceAdd, Nat.reduceSub, Nat.reduceMul, Nat.reducePow, Nat.reduceLT, Nat.reduceLeDiff, Nat.reduceEqDiff, Int.reduceAdd, Int.reduceSub, Int.reduceMul, Int.reduceNeg, Int.reducePow, Int.reduceLT, Int.reduceLE, Int.reduceEq, Int.reduceNe, Int.reduceToNat, Int.toNat_natCast, Nat.zero_add, Nat.add_zero, Nat.mul_one, Nat.one_mul, Bool.not_true, Bool.not_false, ne_eq, not_true_eq_false, not_false_eq_true, Bool.false_eq_true, is_a hh A, hf, Option.isSome_some, cc, t8, i1, hh.word t8 i1, sc, q1, q2, k1, lc']
      exact hno (by rw [hf]; intro o' e; injection e with e; subst e; exact k1)
end
end Go.Proofs.Ytljkkfcokpimkaa.X
set_option linter.unusedVariables false
set_option linter.unusedSimpArgs false
set_option maxRecDepth 20000
namespace Go.Proofs.Ytljkkfcokpimkaa.X
open Go Go.RowKit
section
variable {s : Hs} {os : List Ob} {l : List RV}
theorem Rel.getF (r : Rel s.lays 0 os l) (A : Abs s os) {a i : Int} (h : hasF l a i = true) : getF l a i = s.wd (a + 1 + i) := by
  have e := r.has a i
  have h' := h
  rw [← e.1] at h'
  obtain ⟨o, hf, k1, k2, k3⟩ := hasO_some h'
  have k1 : kindAt s.lays o.sh ≠ 3 := by simpa using k1
  have hi : ((i.toNat : Nat) : Int) = i := by omega
  rcases r.find0 a with ⟨h1, h2⟩ | ⟨o', x, h1, h2, ⟨_, _, h3⟩, h4⟩
  · rw [hf] at h1; cases h1
  · rw [hf] at h1
    injection h1 with h1
    subst h1
    rw [if_neg k1] at h3
    have hw := A.word hf i.toNat (by rw [← h3.1]; omega)
    rw [hi] at hw
    unfold Go.Proofs.Ytljkkfcokpimkaa.X.getF
    rw [h2, hw]
    show x.r.fs.getD i.toNat 0 = _
    rw [h3.1]
theorem Packs.wd (A : Abs s os) {a : Int} {o : Ob} (hf : findO os a = some o) {bs : List Nat} (p : Packs bs o.body) : s.bytes a bs.length = bs := by
  apply List.ext_getElem?
  intro k
  by_cases hk : k < bs.length
  · have hb : k / 8 < o.body.length := by rw [p.1]; omega
    have hw := A.word hf (k / 8) hb
    have h2 := p.2 k (by rw [p.1]; omega)
    simp only [Hs.bytes, List.getElem?_map, List.getElem?_range hk, Option.map_some]
    rw [hw, h2, Int.toNat_natCast, List.getD_eq_getElem?_getD, List.getElem?_eq_getElem hk]
    rfl
  · have : (s.bytes a bs.length).length = bs.length := by simp [Hs.bytes]
    rw [List.getElem?_eq_none (by omega), List.getElem?_eq_none (by omega)]
theorem Packs.byte (A : Abs s os) {a i : Int} {o : Ob} (hf : findO os a = some o) {bs : List Nat} (p : Packs bs o.body) (h0 : 0 ≤ i) (h1 : i < bs.length) : byteW (s.wd (a + 1 + i / 8)) (i % 8).toNat = ((bs.getD i.toNat 0 : Nat) : Int) := by
  have hb : i.toNat / 8 < o.body.length := by rw [p.1]; omega
  have hw := A.word hf (i.toNat / 8) hb
  have h2 := p.2 i.toNat (by rw [p.1]; omega)
  have e1 : ((i.toNat / 8 : Nat) : Int) = i / 8 := by omega
  have e2 : i.toNat % 8 = (i % 8).toNat := by omega
  rw [e1] at hw
  rw [e2] at h2
  rw [hw, h2]
end
end Go.Proofs.Ytljkkfcokpimkaa.X
set_option linter.unusedVariables false
set_option linter.unusedSimpArgs false
set_option maxRecDepth 20000
namespace Go.Proofs.Ytljkkfcokpimkaa.X
open Go Go.RowKit
section
theorem law14 (h : H) (ls : List (List AV)) (hl : LiesA h [.sl (.st [.int .i64, .int .i64]), .sl (.st [.int .i64, .int .i64, .int .i64, .int .u64, .bool]), .st [.int .i64, .int .i64, .int .i64, .int .u64, .bool]] ls) : C 14 (argsOf [.sl (.st [.int .i64, .int .i64]), .sl (.st [.int .i64, .int .i64, .int .i64, .int .u64, .bool]), .st [.int .i64, .int .i64, .int .i64, .int .u64, .bool]] ls) h yes := by
  obtain ⟨l0, ls, rfl, g0, hl⟩ := liesA_cons hl
  obtain ⟨l1, ls, rfl, g1, hl⟩ := liesA_cons hl
  obtain ⟨l2, ls, rfl, g2, hl⟩ := liesA_cons hl
  obtain rfl := liesA_nil hl
  obtain ⟨v, L, rfl, hr, hL, hm⟩ := lies_lays g0
  obtain ⟨vo, ops, rfl, hro, hops, hmo⟩ := lies_ops g1
  obtain ⟨o, rfl, ho⟩ := lies_op g2
  show C 14 [v, vo, .agg o.cells] h yes
  refine run14 ?_
  have ec : (AV.agg o.cells).cells = o.cells := rfl
  have w0 := ho.w0; have w1 := ho.w1
  simp only [sh14, go_sem, reduceIte, Nat.reduceAdd, Nat.reduceSub, Nat.reduceMul, Nat.reducePow, Nat.reduceLT, Nat.reduceLeDiff, Nat.reduceEqDiff, Int.reduceAdd, Int.reduceSub, Int.reduceMul, Int.reduceNeg, Int.reducePow, Int.reduceLT, Int.reduceLE, Int.reduceEq, Int.reduceNe, Int.reduceToNat, Int.toNat_natCast, Nat.zero_add, Nat.add_zero, Nat.mul_one, Nat.one_mul, Bool.not_true, Bool.not_false, ne_eq, not_true_eq_false, not_false_eq_true, Bool.false_eq_true, ec]
  refine ⟨rfl, fun d hd => ?_⟩
  have gd : (h.set d (.live o.cells 72 true)).get d = some (.live o.cells 72 true) := H.get_same ..
  have f1 : Fr [] h (h.set d (.live o.cells 72 true)) := (Fr.refl _ _).set' hd
  generalize h.set d (.live o.cells 72 true) = h1 at *
  refine made_c (hr.fr f1) hm (hro.fr f1) hmo hops 1000 (fun h' f => ?_) fun h' b bx n lays l t n1 n2 l1 l2 => ?_
  · simp only [go_sem, reduceIte, Nat.reduceAdd, Nat.reduceSub, Nat.reduceMul, Nat.reducePow, Nat.reduceLT, Nat.reduceLeDiff, Nat.reduceEqDiff, Int.reduceAdd, Int.reduceSub, Int.reduceMul, Int.reduceNeg, Int.reducePow, Int.reduceLT, Int.reduceLE, Int.reduceEq, Int.reduceNe, Int.reduceToNat, Int.toNat_natCast, Nat.zero_add, Nat.add_zero, Nat.mul_one, Nat.one_mul, Bool.not_true, Bool.not_false, ne_eq, not_true_eq_false, not_false_eq_true, Bool.false_eq_true]
    exact exLives_c fun h' _ => rfl
  · obtain ⟨bw, bd, B, s, os, BL, t, e1, e2⟩ := t
    have gd' := t.R.fr d _ (by simp) gd
    have cd : ∀ off, h'.cell d off = [AV.int .i64 o.k, .int .i64 o.a, .int .i64 o.b, .int .u64 o.w, .bool o.near][off]? := fun off => cell_of gd' off
    obtain ⟨lv, Lv, cx, _, ov⟩ := t.R.cells
    simp only [go_sem, reduceIte, Nat.reduceAdd, Nat.reduceSub, Nat.reduceMul, Nat.reducePow, Nat.reduceLT, Nat.reduceLeDiff, Nat.reduceEqDiff, Int.reduceAdd, Int.reduceSub, Int.reduceMul, Int.reduceNeg, Int.reducePow, Int.reduceLT, Int.reduceLE, Int.reduceEq, Int.reduceNe, Int.reduceToNat, Int.toNat_natCast, Nat.zero_add, Nat.add_zero, Nat.mul_one, Nat.one_mul, Bool.not_true, Bool.not_false, ne_eq, not_true_eq_false, not_false_eq_true, Bool.false_eq_true, b_pn, cx, cd]
    refine place_c ov t.range (by omega) ho.a0 ho.a1 fun p p0 p1 => ?_
    refine rfind_c t.R (by omega) p fun h2 f2 => ?_
    have t2 := t.keep0 f2
    have gd2 := f2 d _ (by simp) gd'
    have cd2 : ∀ off, h2.cell d off = [AV.int .i64 o.k, .int .i64 o.a, .int .i64 o.b, .int .u64 o.w, .bool o.near][off]? := fun off => cell_of gd2 off
    have hh2 := t2.hh; have A := t2.A
    clear t cx ov cd gd'
    have e10 : ∀ k : Nat, ¬ ((k : Int) < 0) := fun k => by omega
    have efit := t2.r.fits o.w
    rcases t2.r.find0 p with ⟨q1, q2⟩ | ⟨ob, x, q1, q2, q3, q4⟩
    · have q5 : findR l p 0 = -1 := by
        rcases findR_spec l p 0 with ⟨z, _⟩ | ⟨i, y, _, _, _, z⟩
        · exact z
        · unfold atR at q2; rw [z] at q2; cases q2
      have hF : hasF l p o.b = false := by unfold hasF; rw [q2]
      have hO : ∀ c, hasO s.lays os p o.b c = false := fun c => by unfold hasO; rw [q1]
      have en1 : ¬ ((0 : Int) ≤ -1) := by decide
      have en2 : (-1 : Int) < 0 := by decide
      simp only [go_sem, reduceIte, Nat.reduceAdd, Nat.reduceSub, Nat.reduceMul, Nat.reducePow, Nat.reduceLT, Nat.reduceLeDiff, Nat.reduceEqDiff, Int.reduceAdd, Int.reduceSub, Int.reduceMul, Int.reduceNeg, Int.reducePow, Int.reduceLT, Int.reduceLE, Int.reduceEq, Int.reduceNe, Int.reduceToNat, Int.toNat_natCast, Nat.zero_add, Nat.add_zero, Nat.mul_one, Nat.one_mul, Bool.not_true, Bool.not_false, ne_eq, not_true_eq_false, not_false_eq_true, Bool.false_eq_true, q5, is_a hh2 A, q1, Option.isSome_none, en1, en2, cd2, fits_a hh2 A w0 w1, efit]
      refine rfits_c t2.R (by omega) w0 w1 fun h3 f3 => ?_
      have t3 := t2.keep0 f3
      have gd3 := f3 d _ (by simp) gd2
      have cd3 : ∀ off, h3.cell d off = [AV.int .i64 o.k, .int .i64 o.a, .int .i64 o.b, .int .u64 o.w, .bool o.near][off]? := fun off => cell_of gd3 off
      simp only [go_sem, reduceIte, Nat.reduceAdd, Nat.reduceSub, Nat.reduceMul, Nat.reducePow, Nat.reduceLT, Nat.reduceLeDiff, Nat.reduceEqDiff, Int.reduceAdd, Int.reduceSub, Int.reduceMul, Int.reduceNeg, Int.reducePow, Int.reduceLT, Int.reduceLE, Int.reduceEq, Int.reduceNe, Int.reduceToNat, Int.toNat_natCast, Nat.zero_add, Nat.add_zero, Nat.mul_one, Nat.one_mul, Bool.not_true, Bool.not_false, ne_eq, not_true_eq_false, not_false_eq_true, Bool.false_eq_true, cd3, get_b t3.hh A, hO]
      refine rhget_c t3.R (by omega) p o.b fun h4 f4 => ?_
      have t4 := t3.keep0 f4
      have gd4 := f4 d _ (by simp) gd3
      have cd4 : ∀ off, h4.cell d off = [AV.int .i64 o.k, .int .i64 o.a, .int .i64 o.b, .int .u64 o.w, .bool o.near][off]? := fun off => cell_of gd4 off
      simp only [go_sem, reduceIte, Nat.reduceAdd, Nat.reduceSub, Nat.reduceMul, Nat.reducePow, Nat.reduceLT, Nat.reduceLeDiff, Nat.reduceEqDiff, Int.reduceAdd, Int.reduceSub, Int.reduceMul, Int.reduceNeg, Int.reducePow, Int.reduceLT, Int.reduceLE, Int.reduceEq, Int.reduceNe, Int.reduceToNat, Int.toNat_natCast, Nat.zero_add, Nat.add_zero, Nat.mul_one, Nat.one_mul, Bool.not_true, Bool.not_false, ne_eq, not_true_eq_false, not_false_eq_true, Bool.false_eq_true, cd4, hF, byte_a t4.hh A, hO]
      refine text_a t4.hh A p (fun _ => ?_) (fun o' e => by rw [q1] at e; cases e)
      simp only [go_sem, reduceIte, Nat.reduceAdd, Nat.reduceSub, Nat.reduceMul, Nat.reducePow, Nat.reduceLT, Nat.reduceLeDiff, Nat.reduceEqDiff, Int.reduceAdd, Int.reduceSub, Int.reduceMul, Int.reduceNeg, Int.reducePow, Int.reduceLT, Int.reduceLE, Int.reduceEq, Int.reduceNe, Int.reduceToNat, Int.toNat_natCast, Nat.zero_add, Nat.add_zero, Nat.mul_one, Nat.one_mul, Bool.not_true, Bool.not_false, ne_eq, not_true_eq_false, not_false_eq_true, Bool.false_eq_true, len_a t4.hh A, q1, en1, en2]
      exact exLives_c fun h' _ => rfl
    · obtain ⟨i, q5, q6⟩ : ∃ i : Nat, findR l p 0 = (i : Int) ∧ l[i]? = some x := by
        rcases findR_spec l p 0 with ⟨_, z⟩ | ⟨i, y, z1, z2, _, z⟩
        · rw [atR, find_none z] at q2; cases q2
        · unfold atR at q2; rw [z] at q2; injection q2 with q2; subst q2
          exact ⟨i, by simpa using z1, z2⟩
      have en1 : (0 : Int) ≤ i := by omega
      have en2 : ¬ (i : Int) < 0 := by omega
      have eF := t2.r.has p o.b
      simp only [go_sem, reduceIte, Nat.reduceAdd, Nat.reduceSub, Nat.reduceMul, Nat.reducePow, Nat.reduceLT, Nat.reduceLeDiff, Nat.reduceEqDiff, Int.reduceAdd, Int.reduceSub, Int.reduceMul, Int.reduceNeg, Int.reducePow, Int.reduceLT, Int.reduceLE, Int.reduceEq, Int.reduceNe, Int.reduceToNat, Int.toNat_natCast, Nat.zero_add, Nat.add_zero, Nat.mul_one, Nat.one_mul, Bool.not_true, Bool.not_false, ne_eq, not_true_eq_false, not_false_eq_true, Bool.false_eq_true, q5, is_a hh2 A, q1, Option.isSome_some, en1, en2, cd2, fits_a hh2 A w0 w1, efit]
      refine rfits_c t2.R (by omega) w0 w1 fun h3 f3 => ?_
      have t3 := t2.keep0 f3
      have gd3 := f3 d _ (by simp) gd2
      have cd3 : ∀ off, h3.cell d off = [AV.int .i64 o.k, .int .i64 o.a, .int .i64 o.b, .int .u64 o.w, .bool o.near][off]? := fun off => cell_of gd3 off
      obtain ⟨gv, gf, hg, hg'⟩ : ∃ gv gf : Int, (if hasO s.lays os p o.b false then AV.tup [.int .u64 (s.wd (p + 1 + o.b)), .int .i64 0] else .tup [.int .u64 0, .int .i64 1]) = .tup [.int .u64 gv, .int .i64 gf] ∧ (if hasF l p o.b then AV.tup [.int .u64 (getF l p o.b), .int .i64 0] else .tup [.int .u64 0, .int .i64 1]) = .tup [.int .u64 gv, .int .i64 gf] := by
        rw [eF.1]
        cases hq : hasF l p o.b with
        | true => exact ⟨_, _, rfl, by rw [t2.r.getF A hq]; rfl⟩
        | false => exact ⟨_, _, rfl, rfl⟩
      have hgb := fun K => get_b (i := o.b) t3.hh A (a := p) K
      rw [hg] at hgb
      simp only [go_sem, reduceIte, Nat.reduceAdd, Nat.reduceSub, Nat.reduceMul, Nat.reducePow, Nat.reduceLT, Nat.reduceLeDiff, Nat.reduceEqDiff, Int.reduceAdd, Int.reduceSub, Int.reduceMul, Int.reduceNeg, Int.reducePow, Int.reduceLT, Int.reduceLE, Int.reduceEq, Int.reduceNe, Int.reduceToNat, Int.toNat_natCast, Nat.zero_add, Nat.add_zero, Nat.mul_one, Nat.one_mul, Bool.not_true, Bool.not_false, ne_eq, not_true_eq_false, not_false_eq_true, Bool.false_eq_true, cd3, hgb]
      refine rhget_c t3.R (by omega) p o.b fun h4 f4 => ?_
      rw [hg']
      have t4 := t3.keep0 f4
      have gd4 := f4 d _ (by simp) gd3
      have cd4 : ∀ off, h4.cell d off = [AV.int .i64 o.k, .int .i64 o.a, .int .i64 o.b, .int .u64 o.w, .bool o.near][off]? := fun off => cell_of gd4 off
      obtain ⟨lv4, Lv4, cx4, rl4, ov4⟩ := t4.R.cells
      obtain ⟨b', q', y1, y2, y3⟩ := ov4.obj q6
      have y21 : h4.cell b' (q' + 1) = some (.int .i64 ob.sh) := by rw [y2 1 (by decide)]; simp [RV.cells, q3.1]
      obtain ⟨u1, u2, u3, u4, u5, u6, u7, u8, u9, u10, u11⟩ := A.at q1
      obtain ⟨bl, ql, z1, z2, z3, z4⟩ := rl4.lay (lay_get (L := s.lays) u4 u5)
      have hi : ((ob.sh.toNat : Nat) : Int) = ob.sh := by omega
      rw [hi] at z1
      by_cases k3 : kindAt s.lays ob.sh = 3
      · obtain ⟨qs, qn, q3⟩ := q3
        rw [if_pos k3] at q3
        obtain ⟨r1, r2, r3⟩ := q3
        have hbs : s.bytes p ob.n.toNat = x.r.bs := by rw [← r2, Int.toNat_natCast]; exact r3.wd A q1
        have hO2 : hasO s.lays os p o.b true = (decide (0 ≤ o.b) && decide (o.b < x.r.bs.length)) := by unfold hasO; rw [q1]; simp [k3, r2]
        obtain ⟨cv, ce, hbv, hb0, hb1⟩ : ∃ cv ce : Int, (if hasO s.lays os p o.b true then AV.tup [.int .u8 (byteW (s.wd (p + 1 + o.b / 8)) (o.b % 8).toNat), .int .i64 0] else .tup [.int .u8 0, .int .i64 1]) = .tup [.int .u8 cv, .int .i64 ce] ∧
            ((o.b < 0 ∨ (x.r.bs.length : Int) ≤ o.b) → cv = 0 ∧ ce = 1) ∧ (0 ≤ o.b → o.b < x.r.bs.length → cv = ((x.r.bs.getD o.b.toNat 0 : Nat) : Int) ∧ ce = 0) := by
          rw [hO2]
          by_cases b0 : 0 ≤ o.b
          · by_cases b1 : o.b < x.r.bs.length
            · refine ⟨_, _, by simp only [b0, b1, decide_true, Bool.and_self, if_true], fun q => by omega, fun _ _ => ⟨r3.byte A q1 b0 b1, rfl⟩⟩
            · exact ⟨0, 1, by simp [b1], fun _ => ⟨rfl, rfl⟩, fun _ q => absurd q b1⟩
          · exact ⟨0, 1, by simp [b0], fun _ => ⟨rfl, rfl⟩, fun q => absurd q b0⟩
        have hby := fun K => byte_a (i := o.b) t4.hh A (a := p) K
        rw [hbv] at hby
        simp only [go_sem, reduceIte, Nat.reduceAdd, Nat.reduceSub, Nat.reduceMul, Nat.reducePow, Nat.reduceLT, Nat.reduceLeDiff, Nat.reduceEqDiff, Int.reduceAdd, Int.reduceSub, Int.reduceMul, Int.reduceNeg, Int.reducePow, Int.reduceLT, Int.reduceLE, Int.reduceEq, Int.reduceNe, Int.reduceToNat, Int.toNat_natCast, Nat.zero_add, Nat.add_zero, Nat.mul_one, Nat.one_mul, Bool.not_true, Bool.not_false, ne_eq, not_true_eq_false, not_false_eq_true, Bool.false_eq_true, cd4, hby]
        refine text_a t4.hh A p (fun hno => absurd k3 (hno ob q1)) (fun o' e k h5 f5 => ?_)
        obtain rfl : ob = o' := by rw [q1] at e; injection e
        have t5 := t4.keep0 f5
        have gd5 := f5 d _ (by simp) gd4
        obtain ⟨lv5, Lv5, cx5, rl5, ov5⟩ := t5.R.cells
        obtain ⟨b5, p5, v1, v2, v3⟩ := ov5.obj q6
        have v21 : h5.cell b5 (p5 + 1) = some (.int .i64 ob.sh) := by rw [v2 1 (by decide)]; simp [RV.cells, qs]
        obtain ⟨bm, qm, w1', w2', w3', w4'⟩ := rl5.lay (lay_get (L := s.lays) u4 u5)
        rw [hi] at w1'
        have cd5 : ∀ off, h5.cell d off = [AV.int .i64 o.k, .int .i64 o.a, .int .i64 o.b, .int .u64 o.w, .bool o.near][off]? := fun off => cell_of gd5 off
        simp only [go_sem, reduceIte, Nat.reduceAdd, Nat.reduceSub, Nat.reduceMul, Nat.reducePow, Nat.reduceLT, Nat.reduceLeDiff, Nat.reduceEqDiff, Int.reduceAdd, Int.reduceSub, Int.reduceMul, Int.reduceNeg, Int.reducePow, Int.reduceLT, Int.reduceLE, Int.reduceEq, Int.reduceNe, Int.reduceToNat, Int.toNat_natCast, Nat.zero_add, Nat.add_zero, Nat.mul_one, Nat.one_mul, Bool.not_true, Bool.not_false, ne_eq, not_true_eq_false, not_false_eq_true, Bool.false_eq_true, len_a t5.hh A, q1, en1, en2, cx5, v1, v21, v3, w1', w2', k3]
        refine ⟨rfl, fun e he => ?_⟩
        have f6 : Fr [] h5 (h5.set e (.live x.cells 89 true)) := (Fr.refl _ _).set' he
        have hok := t5.R.el x (List.mem_of_getElem? q6)
        have hw := RV.leaves hok
        have ec : (AV.agg x.cells).cells = x.cells := rfl
        have el : x.cells.length = 5 := rfl
        have ce5 : ∀ off, (h5.set e (.live x.cells 89 true)).cell e off = [AV.int .i64 x.r.a, .int .i64 x.r.sh, .int .i64 x.r.n, x.fv, x.bv][off]? := fun off => cell_set
        have gd6 := f6 d _ (by simp) gd5
        have cd6 : ∀ off, (h5.set e (.live x.cells 89 true)).cell d off = [AV.int .i64 o.k, .int .i64 o.a, .int .i64 o.b, .int .u64 o.w, .bool o.near][off]? := fun off => cell_of gd6 off
        have rb := (hok.2.fr f6 (by simp)).row
        have b2 := rb.b2s
        by_cases b0 : o.b < 0
        · obtain ⟨rfl, rfl⟩ := hb0 (.inl b0)
          simp only [go_sem, reduceIte, Nat.reduceAdd, Nat.reduceSub, Nat.reduceMul, Nat.reducePow, Nat.reduceLT, Nat.reduceLeDiff, Nat.reduceEqDiff, Int.reduceAdd, Int.reduceSub, Int.reduceMul, Int.reduceNeg, Int.reducePow, Int.reduceLT, Int.reduceLE, Int.reduceEq, Int.reduceNe, Int.reduceToNat, Int.toNat_natCast, Nat.zero_add, Nat.add_zero, Nat.mul_one, Nat.one_mul, Bool.not_true, Bool.not_false, ne_eq, not_true_eq_false, not_false_eq_true, Bool.false_eq_true, stA_p, ec, el, agg5_write hw, ce5, b2, hbs, qn, cd6, b0]
          exact exLives_c fun h' _ => rfl
        · by_cases b1 : (x.r.bs.length : Int) ≤ o.b
          · obtain ⟨rfl, rfl⟩ := hb0 (.inr b1)
            simp only [go_sem, reduceIte, Nat.reduceAdd, Nat.reduceSub, Nat.reduceMul, Nat.reducePow, Nat.reduceLT, Nat.reduceLeDiff, Nat.reduceEqDiff, Int.reduceAdd, Int.reduceSub, Int.reduceMul, Int.reduceNeg, Int.reducePow, Int.reduceLT, Int.reduceLE, Int.reduceEq, Int.reduceNe, Int.reduceToNat, Int.toNat_natCast, Nat.zero_add, Nat.add_zero, Nat.mul_one, Nat.one_mul, Bool.not_true, Bool.not_false, ne_eq, not_true_eq_false, not_false_eq_true, Bool.false_eq_true, stA_p, ec, el, agg5_write hw, ce5, b2, hbs, qn, cd6, b0, rb.len, b1]
            exact exLives_c fun h' _ => rfl
          · obtain ⟨rfl, rfl⟩ := hb1 (by omega) (by omega)
            have hg : (bc x.r.bs)[o.b.toNat]? = some (.int .u8 ((x.r.bs.getD o.b.toNat 0 : Nat) : Int)) := by
              unfold bc
              rw [List.getElem?_map, List.getD_eq_getElem?_getD, List.getElem?_eq_getElem (by omega)]
              rfl
            obtain ⟨bb, qb, m1, m2⟩ := rb.at (i := o.b) (by omega) (by omega) hg
            simp only [go_sem, reduceIte, Nat.reduceAdd, Nat.reduceSub, Nat.reduceMul, Nat.reducePow, Nat.reduceLT, Nat.reduceLeDiff, Nat.reduceEqDiff, Int.reduceAdd, Int.reduceSub, Int.reduceMul, Int.reduceNeg, Int.reducePow, Int.reduceLT, Int.reduceLE, Int.reduceEq, Int.reduceNe, Int.reduceToNat, Int.toNat_natCast, Nat.zero_add, Nat.add_zero, Nat.mul_one, Nat.one_mul, Bool.not_true, Bool.not_false, ne_eq, not_true_eq_false, not_false_eq_true, Bool.false_eq_true, stA_p, ec, el, agg5_write hw, ce5, b2, hbs, qn, cd6, b0, rb.len, b1, m1, m2]
            exact exLives_c fun h' _ => rfl
      · have hO2 : hasO s.lays os p o.b true = false := by unfold hasO; rw [q1]; simp [k3]
        simp only [go_sem, reduceIte, Nat.reduceAdd, Nat.reduceSub, Nat.reduceMul, Nat.reducePow, Nat.reduceLT, Nat.reduceLeDiff, Nat.reduceEqDiff, Int.reduceAdd, Int.reduceSub, Int.reduceMul, Int.reduceNeg, Int.reducePow, Int.reduceLT, Int.reduceLE, Int.reduceEq, Int.reduceNe, Int.reduceToNat, Int.toNat_natCast, Nat.zero_add, Nat.add_zero, Nat.mul_one, Nat.one_mul, Bool.not_true, Bool.not_false, ne_eq, not_true_eq_false, not_false_eq_true, Bool.false_eq_true, cd4, byte_a t4.hh A, hO2]
        refine text_a t4.hh A p (fun _ => ?_) (fun o' e k => by rw [q1] at e; injection e with e; subst e; exact absurd k k3)
        simp only [go_sem, reduceIte, Nat.reduceAdd, Nat.reduceSub, Nat.reduceMul, Nat.reducePow, Nat.reduceLT, Nat.reduceLeDiff, Nat.reduceEqDiff, Int.reduceAdd, Int.reduceSub, Int.reduceMul, Int.reduceNeg, Int.reducePow, Int.reduceLT, Int.reduceLE, Int.reduceEq, Int.reduceNe, Int.reduceToNat, Int.toNat_natCast, Nat.zero_add, Nat.add_zero, Nat.mul_one, Nat.one_mul, Bool.not_true, Bool.not_false, ne_eq, not_true_eq_false, not_false_eq_true, Bool.false_eq_true, len_a t4.hh A, q1, en1, en2, cx4, y1, y21, z1, z2, k3]
        exact exLives_c fun h' _ => rfl
end
end Go.Proofs.Ytljkkfcokpimkaa.X
