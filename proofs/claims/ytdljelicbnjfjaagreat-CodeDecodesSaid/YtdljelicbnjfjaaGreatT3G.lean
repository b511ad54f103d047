/- What the law law3 needs: texts of one's own, put together; functions' contracts and plain facts. -/
import Derived.Test.YtdljelicbnjfjaaGreatT3F
set_option linter.unusedVariables false
set_option linter.unusedSimpArgs false
set_option maxRecDepth 20000
namespace Go.Proofs.YtdljelicbnjfjaaGreat.X
open Go Go.RowKit
theorem decode_short {B : List Nat} (h : (B.length : Int) < 4) : decodeN B = (imgZ, 20) := by
  unfold decodeN noHead
  rw [decide_eq_true h]; rfl
section
variable {h : H}
set_option maxHeartbeats 1000000 in
theorem rdecode_c {v : AV} {B : List Nat} (r : Row h v B.length 1 (bc B)) (lt : ∀ d ∈ B, d < 256) (len : B.length ≤ 4294967296) {K : AV → H → Prop}
    (hK : ∀ h' c, Fr [] h h' → imgR h' (decodeN B).1 c → (decodeN B).1.ok → K (.tup [.agg c, .int .i64 (decodeN B).2]) h') : C 13 [v] h K := by
  refine run13 ?_
  unfold sh13
  refine box_r rfl fun t ht => ?_
  have f1 : Fr [] h (h.set t (.live [.nilsl, .nilsl, .nilsl, .nilsl, .nilsl, .int .i64 0, .int .i64 0] 28 true)) := (Fr.refl _ _).set' ht
  have gt : (h.set t (.live [.nilsl, .nilsl, .nilsl, .nilsl, .nilsl, .int .i64 0, .int .i64 0] 28 true)).get t = some (.live [.nilsl, .nilsl, .nilsl, .nilsl, .nilsl, .int .i64 0, .int .i64 0] 28 true) := H.get_same ..
  have r1 := r.fr f1
  generalize h.set t (.live [.nilsl, .nilsl, .nilsl, .nilsl, .nilsl, .int .i64 0, .int .i64 0] 28 true) = h1 at *
  have out : ∀ {h2 : H} {c : List AV} {n : Int} {m : Img}, h2.get t = some (.live [.nilsl, .nilsl, .nilsl, .nilsl, .nilsl, .int .i64 0, .int .i64 0] 28 true) → Fr [] h h2 → (imgR (H.only h2 fun k => k ≠ t) m c) → decodeN B = (m, n) → m.ok →
      memA (stA h2 7 (.ptr t 0) (.agg c)) .undef fun _ h => valA (ldA h (some 7) (.ptr t 0)) h fun res _ => K (.tup [res, .int .i64 n]) h := by
    intro h2 c n m gt2 f2 ri hd ok
    have hcl : c.length = 7 := by obtain ⟨_, _, _, _, _, rfl, _⟩ := ri; rfl
    rw [show stA h2 7 (.ptr t 0) (.agg c) = _ from agg_st (n := 7) gt2 rfl hcl ri.leaves, memA_some, ldA_read (H.read_eq (H.get_same ..) (by omega) (by rw [List.drop_zero, List.take_of_length_le (by omega)])), valA_some]
    have := hK (h2.set t (.live c 28 true)) c (f2.set' ht)
    rw [hd] at this
    refine this (ri.fr fun k o _ x => ?_) ok
    simp only [H.only] at x
    split at x
    · rename_i q; rw [H.get_other _ _ q]; exact x
    · cases x
  have zero : buildA (fillV [AV.nilsl, AV.nilsl, AV.nilsl, AV.nilsl, AV.nilsl, AV.int .i64 0, AV.int .i64 0] []) = some (.agg [AV.nilsl, AV.nilsl, AV.nilsl, AV.nilsl, AV.nilsl, AV.int .i64 0, AV.int .i64 0]) := rfl
  rw [r1.len, valA_some, b_lss, valA_some]
  by_cases c4 : (B.length : Int) < 4
  · rw [decide_eq_true c4, condA_t, zero, valA_some]
    exact out gt f1 (imgZ_r _) (decode_short c4) imgZ_ok
  rw [decide_eq_false c4, condA_f]
  have hB : 4 ≤ B.length := by omega
  rw [show fillV [AV.nilsl, .int .i64 0, .bool false] [(0, 1, v), (1, 1, .int .i64 4)] = some [v, .int .i64 4, .bool false] by simp [fillV, r.one.2, leaves, r.one.1, overlay, show (AV.int .i64 4).cells = [.int .i64 4] from rfl, show (AV.int .i64 4).leaf = true from rfl], buildA_s, valA_some]
  refine box_r (cs := [v, .int .i64 4, .bool false]) (by simp only [leaves, r.one.1]; rfl) fun rb hrb => ?_
  have f2 : Fr [] h1 (h1.set rb (.live [v, .int .i64 4, .bool false] 79 true)) := (Fr.refl _ _).set' hrb
  have rd : Td (h1.set rb (.live [v, .int .i64 4, .bool false] 79 true)) rb v B ⟨4, false⟩ := by
    refine ⟨H.get_same .., r1.fr fun k o _ x => ?_, hB, lt, len, by omega⟩
    have hk : k ≠ rb := fun e => by rw [e, hrb] at x; cases x
    rw [H.get_wo, if_neg hk, H.get_other _ _ hk]; exact x
  have gt2 := f2 t _ (by simp) gt
  have htr : t ≠ rb := fun e => by rw [e, hrb] at gt; cases gt
  rw [zero, valA_some]
  change boxA (h1.set rb (.live [v, .int .i64 4, .bool false] 79 true)) _ _ _
  generalize h1.set rb (.live [v, .int .i64 4, .bool false] 79 true) = h2 at *
  refine box_r rfl fun d hd => ?_
  have hdr := rd.ne hd
  have q1 := rd.box hd (cs := [.nilsl, .nilsl, .nilsl, .nilsl, .nilsl, .int .i64 0, .int .i64 0]) (e := 28)
  generalize h2.set d (.live [.nilsl, .nilsl, .nilsl, .nilsl, .nilsl, .int .i64 0, .int .i64 0] 28 true) = h3 at *
  rw [show stA h3 7 (.ptr d 0) (.agg [AV.nilsl, AV.nilsl, AV.nilsl, AV.nilsl, AV.nilsl, AV.int .i64 0, AV.int .i64 0]) = _ from agg_st (n := 7) q1.gd rfl rfl rfl, memA_some]
  have q2 := q1.put rd (cs'' := [AV.nilsl, AV.nilsl, AV.nilsl, AV.nilsl, AV.nilsl, AV.int .i64 0, AV.int .i64 0]) rfl
  generalize h3.set d _ = h4 at *
  have big : 4294967296 ≤ reachBytes := by decide
  have ei : imageT B = imageT B := rfl
  conv at ei => rhs; unfold imageT someT
  simp only at ei
  have wA := countT_facts B _ q2.r.pos
  refine tcount_c q2.r fun h5 f5 r5 => ?_
  have q3 := q2.call hdr f5 r5
  generalize countT B ⟨4, false⟩ = cA at *
  obtain ⟨nA, tA⟩ := cA
  simp only at q3 wA ei
  have lA := whileT_len (dec := kindT B) nA tA []
  refine join_r (fun (J : H → Prop) => ∀ v1 h', TdD h2 h3 h' rb d v B (whileT (kindT B) nA tA []).2 [v1, .nilsl, .nilsl, .nilsl, .nilsl, .int .i64 0, .int .i64 0] 28 → RowOf (H.new h3 h') 2 (relTy (H.new h3 h')) v1 (whileT (kindT B) nA tA []).1 → J h') ?_ fun J hJ => tys_f (off := 0) (by omega) rd q3 rfl (by simp) fun v1 h' f' q' u1 => hJ v1 h' q' u1
  intro v1 h6 q4 u1
  generalize whileT (kindT B) nA tA [] = A at *
  have wB := countT_facts B _ q4.r.pos
  refine tcount_c q4.r fun h7 f7 r7 => ?_
  have q5 := q4.call hdr f7 r7
  generalize countT B A.2 = cB at *
  obtain ⟨nB, tB⟩ := cB
  simp only at q5 wB ei
  have lB := whileT_len (dec := shapeT B) nB tB []
  refine join_r (fun (J : H → Prop) => ∀ v2 h', Fr [rb, d] h6 h' → TdD h2 h3 h' rb d v B (whileT (shapeT B) nB tB []).2 [v1, v2, .nilsl, .nilsl, .nilsl, .int .i64 0, .int .i64 0] 28 → RowOf (H.new h3 h') 3 (relSh (H.new h3 h')) v2 (whileT (shapeT B) nB tB []).1 → J h') ?_ fun J hJ => shps_f (off := 1) (by omega) rd q5 rfl (by simp) fun v2 h' f' q' u2 => hJ v2 h' (f7.rd.trans f') q' u2
  intro v2 h8 f68 q6 u2
  generalize whileT (shapeT B) nB tB [] = Bs at *
  have wC := countT_facts B _ q6.r.pos
  refine tcount_c q6.r fun h9 f9 r9 => ?_
  have q7 := q6.call hdr f9 r9
  generalize countT B Bs.2 = cC at *
  obtain ⟨nC, tC⟩ := cC
  simp only at q7 wC ei
  have lC := whileT_len (dec := textT B) nC tC []
  refine join_r (fun (J : H → Prop) => ∀ v3 h', Fr [rb, d] h8 h' → TdD h2 h3 h' rb d v B (whileT (textT B) nC tC []).2 [v1, v2, v3, .nilsl, .nilsl, .int .i64 0, .int .i64 0] 28 → RowOf (H.new h3 h') 1 (relS (H.new h3 h')) v3 (whileT (textT B) nC tC []).1 → J h') ?_ fun J hJ => strs_f (off := 2) (by omega) rd q7 rfl (by simp) fun v3 h' f' q' u3 => hJ v3 h' (f9.rd.trans f') q' u3
  intro v3 h10 f810 q8 u3
  generalize whileT (textT B) nC tC [] = Cs at *
  have wD := countT_facts B _ q8.r.pos
  refine tcount_c q8.r fun h11 f11 r11 => ?_
  have q9 := q8.call hdr f11 r11
  generalize countT B Cs.2 = cD at *
  obtain ⟨nD, tD⟩ := cD
  simp only at q9 wD ei
  have lD := whileT_len (dec := textT B) nD tD []
  refine join_r (fun (J : H → Prop) => ∀ v4 h', Fr [rb, d] h10 h' → TdD h2 h3 h' rb d v B (whileT (textT B) nD tD []).2 [v1, v2, v3, v4, .nilsl, .int .i64 0, .int .i64 0] 28 → RowOf (H.new h3 h') 1 (relS (H.new h3 h')) v4 (whileT (textT B) nD tD []).1 → J h') ?_ fun J hJ => strs_f (off := 3) (by omega) rd q9 rfl (by simp) fun v4 h' f' q' u4 => hJ v4 h' (f11.rd.trans f') q' u4
  intro v4 h12 f1012 q10 u4
  generalize whileT (textT B) nD tD [] = Ds at *
  have wE := countT_facts B _ q10.r.pos
  refine tcount_c q10.r fun h13 f13 r13 => ?_
  have q11 := q10.call hdr f13 r13
  generalize countT B Ds.2 = cE at *
  obtain ⟨nE, tE⟩ := cE
  simp only at q11 wE ei
  have lE := whileT_len (dec := functionT B) nE tE []
  refine join_r (fun (J : H → Prop) => ∀ v5 h', Fr [rb, d] h12 h' → TdD h2 h3 h' rb d v B (whileT (functionT B) nE tE []).2 [v1, v2, v3, v4, v5, .int .i64 0, .int .i64 0] 28 → RowOf (H.new h3 h') 4 (relFn (H.new h3 h')) v5 (whileT (functionT B) nE tE []).1 → J h') ?_ fun J hJ => fns_f (off := 4) (by omega) rd q11 rfl (by simp) fun v5 h' f' q' u5 => hJ v5 h' (f13.rd.trans f') q' u5
  intro v5 h14 f1214 q12 u5
  generalize whileT (functionT B) nE tE [] = Es at *
  have x6 := longT_facts B _ q12.r.pos
  refine tnum_c q12.r fun ha6 fa6 ra6 => ?_
  refine (q12.call hdr fa6 ra6).st rd (cs' := [v1, v2, v3, v4, v5, .int .i64 (longT B Es.2).1, .int .i64 0]) rfl (by simp) rfl rfl fun hb6 gb6 q13 => ?_
  generalize longT B Es.2 = Fs at *
  have x7 := longT_facts B _ q13.r.pos
  refine tnum_c q13.r fun ha7 fa7 ra7 => ?_
  refine (q13.call hdr fa7 ra7).st rd (cs' := [v1, v2, v3, v4, v5, .int .i64 Fs.1, .int .i64 (longT B Fs.2).1]) rfl (by simp) rfl rfl fun hb7 gb7 qa => ?_
  generalize longT B Fs.2 = Gs at *
  have g5 : Fr [rb, d] h14 hb7 := ((fa6.rd.trans gb6).trans fa7.rd).trans gb7
  have g4 := f1214.trans g5
  have g3 := f1012.trans g4
  have g2 := f810.trans g3
  have g1 := f68.trans g2
  have u1 := (RowOf.up (R := relTy) relTy_mono u1 (q4.val0 g1)).both
  have u2 := (RowOf.up (R := relSh) relSh_mono u2 (q6.val0 g2)).both
  have u3 := (RowOf.up (R := relS) relS_mono u3 (q8.val0 g3)).both
  have u4 := (RowOf.up (R := relS) relS_mono u4 (q10.val0 g4)).both
  have u5 := (RowOf.up (R := relFn) relFn_mono u5 (q12.val0 g5)).both
  have im : imgR (H.new h3 hb7) (imageT B).1 [v1, v2, v3, v4, v5, .int .i64 Fs.1, .int .i64 Gs.1] := by
    rw [ei]; exact ⟨v1, v2, v3, v4, v5, rfl, u1.1, u2.1, u3.1, u4.1, u5.1⟩
  have z : ∀ n : Nat, n ≤ B.length → n ≤ reachBytes := fun n hn => by omega
  simp only [List.length_nil, Nat.zero_add] at lA lB lC lD lE
  have ok : (imageT B).1.ok := by
    rw [ei]
    exact ⟨⟨z _ (by show A.1.length ≤ _; omega), u1.2⟩, ⟨z _ (by show Bs.1.length ≤ _; omega), u2.2⟩, ⟨z _ (by show Cs.1.length ≤ _; omega), u3.2⟩, ⟨z _ (by show Ds.1.length ≤ _; omega), u4.2⟩, ⟨z _ (by show Es.1.length ≤ _; omega), u5.2⟩, x6.1, x7.1⟩
  have same := decode_same lt ok
  have hle := image_le lt hB
  have esb : (imageT B).2.bad = Gs.2.bad := by rw [ei]
  have edT : decodeT B = if badT B (imageT B) then (imgZ, 20) else ((imageT B).1, 0) := by unfold decodeT; rw [if_neg (by omega)]
  have ebT : badT B (imageT B) = ((Gs.2.bad || decide (checkN (imageT B).1 ≠ 0)) || decide (bytesI (imageT B).1 ≠ B)) := by unfold badT; rw [esb]
  rw [esb] at hle
  rw [same] at edT
  clear ei
  generalize (imageT B).1 = m at *
  have im7 := im.fr (only_le hb7 _)
  have gt7 := qa.f t _ (by simpa using htr) gt2
  have f12 := f1.trans f2
  have hrh : h.get rb = none := f1.free hrb
  have fall : Fr [] h hb7 := fun k o _ x => by
    refine qa.f k o (fun q => ?_) (f12 k o (by simp) x)
    simp at q; rw [q, hrh] at x; cases x
  rw [nilcA_p, valA_some]
  refine fld_r (qa.r.cell 2) ?_
  have bad : ∀ {h2 : H}, h2.get t = some (.live [.nilsl, .nilsl, .nilsl, .nilsl, .nilsl, .int .i64 0, .int .i64 0] 28 true) → Fr [] h h2 → badT B (imageT B) = true → memA (stA h2 7 (.ptr t 0) (.agg [AV.nilsl, AV.nilsl, AV.nilsl, AV.nilsl, AV.nilsl, AV.int .i64 0, AV.int .i64 0])) .undef fun _ h => valA (ldA h (some 7) (.ptr t 0)) h fun res _ => K (.tup [res, .int .i64 20]) h := fun gt f hb =>
    out gt f (imgZ_r _) (by rw [edT, hb]; rfl) imgZ_ok
  cases hbd : Gs.2.bad with
  | true =>
    rw [hbd, Bool.true_or, Bool.true_or] at ebT
    simp only [zero, go_sem, reduceIte, Nat.reduceAdd, Nat.reduceSub, Nat.reduceMul, Nat.reducePow, Nat.reduceLT, Nat.reduceLeDiff, Nat.reduceEqDiff, Int.reduceAdd, Int.reduceSub, Int.reduceMul, Int.reduceNeg, Int.reducePow, Int.reduceLT, Int.reduceLE, Int.reduceEq, Int.reduceNe, Int.reduceToNat, Int.toNat_natCast, Nat.zero_add, Nat.add_zero, Nat.mul_one, Nat.one_mul, Bool.not_true, Bool.not_false, ne_eq, not_true_eq_false, not_false_eq_true, Bool.false_eq_true]
    exact bad gt7 fall ebT
  | false =>
    rw [hbd, Bool.false_or] at ebT
    simp only [go_sem, reduceIte, Nat.reduceAdd, Nat.reduceSub, Nat.reduceMul, Nat.reducePow, Nat.reduceLT, Nat.reduceLeDiff, Nat.reduceEqDiff, Int.reduceAdd, Int.reduceSub, Int.reduceMul, Int.reduceNeg, Int.reducePow, Int.reduceLT, Int.reduceLE, Int.reduceEq, Int.reduceNe, Int.reduceToNat, Int.toNat_natCast, Nat.zero_add, Nat.add_zero, Nat.mul_one, Nat.one_mul, Bool.not_true, Bool.not_false, ne_eq, not_true_eq_false, not_false_eq_true, Bool.false_eq_true, qa.read (n := 7) rfl]
    refine rcheck_c im7 ok fun hc fc => ?_
    have gt8 := fc t _ (by simp) gt7
    have fall8 := fall.trans fc
    have qr : ∀ {h'}, Fr [] hb7 h' → h'.read d 0 7 = some [v1, v2, v3, v4, v5, .int .i64 Fs.1, .int .i64 Gs.1] := fun f => H.read_eq (f d _ (by simp) qa.gd) (by simp) rfl
    by_cases ck : checkN m = 0
    · rw [ck] at ebT ⊢
      rw [decide_eq_false (by simp), Bool.false_or] at ebT
      have rB := r.fr fall8
      simp only [go_sem, reduceIte, Nat.reduceAdd, Nat.reduceSub, Nat.reduceMul, Nat.reducePow, Nat.reduceLT, Nat.reduceLeDiff, Nat.reduceEqDiff, Int.reduceAdd, Int.reduceSub, Int.reduceMul, Int.reduceNeg, Int.reducePow, Int.reduceLT, Int.reduceLE, Int.reduceEq, Int.reduceNe, Int.reduceToNat, Int.toNat_natCast, Nat.zero_add, Nat.add_zero, Nat.mul_one, Nat.one_mul, Bool.not_true, Bool.not_false, ne_eq, not_true_eq_false, not_false_eq_true, Bool.false_eq_true, qr fc, rB.b2s]
      have hm : (bytesI m).length ≤ most := by have := hle hbd; unfold most; omega
      refine bytes_w (im7.fr fc) ok hm fun v' hd ws => ?_
      have fd := ws.fr
      have gt9 := fd t _ (by simp) gt8
      have fall9 := fall8.trans fd
      simp only [go_sem, reduceIte, Nat.reduceAdd, Nat.reduceSub, Nat.reduceMul, Nat.reducePow, Nat.reduceLT, Nat.reduceLeDiff, Nat.reduceEqDiff, Int.reduceAdd, Int.reduceSub, Int.reduceMul, Int.reduceNeg, Int.reducePow, Int.reduceLT, Int.reduceLE, Int.reduceEq, Int.reduceNe, Int.reduceToNat, Int.toNat_natCast, Nat.zero_add, Nat.add_zero, Nat.mul_one, Nat.one_mul, Bool.not_true, Bool.not_false, ne_eq, not_true_eq_false, not_false_eq_true, Bool.false_eq_true, (rB.fr fd).b2s, ws.ws.row.b2s]
      by_cases eb : bytesI m = B
      · rw [decide_eq_false (fun z => z eb)] at ebT
        have e2 : (bytesI m).map UInt8.ofNat = B.map UInt8.ofNat := by rw [eb]
        simp only [e2, go_sem, reduceIte, Nat.reduceAdd, Nat.reduceSub, Nat.reduceMul, Nat.reducePow, Nat.reduceLT, Nat.reduceLeDiff, Nat.reduceEqDiff, Int.reduceAdd, Int.reduceSub, Int.reduceMul, Int.reduceNeg, Int.reducePow, Int.reduceLT, Int.reduceLE, Int.reduceEq, Int.reduceNe, Int.reduceToNat, Int.toNat_natCast, Nat.zero_add, Nat.add_zero, Nat.mul_one, Nat.one_mul, Bool.not_true, Bool.not_false, ne_eq, not_true_eq_false, not_false_eq_true, Bool.false_eq_true, qr (fc.trans fd)]
        refine out gt9 fall9 (im.fr (only_fr fun k o q x => ⟨fun e => ?_, (fc.trans fd) k o (by simp) x⟩)) (by rw [edT, ebT]; rfl) ok
        rw [e] at q
        exact q1.a0 t (by rw [gt2]; simp) q
      · rw [decide_eq_true eb] at ebT
        have e2 : ¬ (bytesI m).map UInt8.ofNat = B.map UInt8.ofNat := fun z => eb (ofNat_inj (bytes_lt m) lt z)
        simp only [e2, go_sem, reduceIte, Nat.reduceAdd, Nat.reduceSub, Nat.reduceMul, Nat.reducePow, Nat.reduceLT, Nat.reduceLeDiff, Nat.reduceEqDiff, Int.reduceAdd, Int.reduceSub, Int.reduceMul, Int.reduceNeg, Int.reducePow, Int.reduceLT, Int.reduceLE, Int.reduceEq, Int.reduceNe, Int.reduceToNat, Int.toNat_natCast, Nat.zero_add, Nat.add_zero, Nat.mul_one, Nat.one_mul, Bool.not_true, Bool.not_false, ne_eq, not_true_eq_false, not_false_eq_true, Bool.false_eq_true, zero]
        exact bad gt9 fall9 ebT
    · rw [decide_eq_true ck, Bool.true_or] at ebT
      simp only [go_sem, reduceIte, Nat.reduceAdd, Nat.reduceSub, Nat.reduceMul, Nat.reducePow, Nat.reduceLT, Nat.reduceLeDiff, Nat.reduceEqDiff, Int.reduceAdd, Int.reduceSub, Int.reduceMul, Int.reduceNeg, Int.reducePow, Int.reduceLT, Int.reduceLE, Int.reduceEq, Int.reduceNe, Int.reduceToNat, Int.toNat_natCast, Nat.zero_add, Nat.add_zero, Nat.mul_one, Nat.one_mul, Bool.not_true, Bool.not_false, ne_eq, not_true_eq_false, not_false_eq_true, Bool.false_eq_true, ck, zero]
      exact bad gt8 fall8 ebT
theorem law3 (h : H) (ls : List (List AV)) (hl : LiesA h [.sl (.int .u8)] ls) : C 3 (argsOf [.sl (.int .u8)] ls) h yes := by
  obtain ⟨l0, ls, rfl, h0, hl⟩ := liesA_cons hl
  obtain rfl := liesA_nil hl
  obtain ⟨bv, B, rfl, rB, ltB, lenB⟩ := lies_bytes h0
  show C 3 [bv] h yes
  refine run3 ?_
  unfold sh3
  refine join_r (fun (J : AV → H → Prop) => ∀ w D, Row h w D.length 1 (bc D) → (∀ d ∈ D, d < 256) → D.length ≤ 40000 → J w h) ?_ fun J hJ => ?_
  · intro w D rD ltD lenD
    refine decode_c rD ltD (by omega) fun h1 c1 f1 i1 o1 => ?_
    rw [ext2]
    refine imgbox_r i1 rfl rfl rfl fun p h2 f2 hp gp rp => ?_
    have f12 := f1.trans f2
    refine rdecode_c (rD.fr f12) ltD (by omega) fun h3 c3 f3 i3 o3 => ?_
    rw [ext2]
    refine imgbox_r i3 rfl rfl rfl fun q h4 f4 hq gq rq => ?_
    have f24 := f3.trans f4
    have i1 := (i1.fr f2).fr f24
    have i3 := i3.fr f4
    have hlen : (bytesI (decodeN D).1).length ≤ most := by
      rcases decode_or D with e | e
      · rw [(decode_bk ltD e).1]; unfold most; omega
      · rw [e]
        have : (bytesI imgZ).length = 11 := by rw [bytesZ]; rfl
        show (bytesI imgZ).length ≤ most
        rw [this]; unfold most; omega
    have l1 := i1.shape.1
    have l3 := i3.shape.1
    have rp : ∀ {h'}, Fr [] h4 h' → h'.read p 0 7 = some c1 := fun f => H.read_eq (f p _ (by simp) (f24 p _ (by simp) gp)) (by omega) (by rw [List.drop_zero, List.take_of_length_le (by omega)])
    have rq : ∀ {h'}, Fr [] h4 h' → h'.read q 0 7 = some c3 := fun f => H.read_eq (f q _ (by simp) gq) (by omega) (by rw [List.drop_zero, List.take_of_length_le (by omega)])
    simp only [go_sem, reduceIte, Nat.reduceAdd, Nat.reduceSub, Nat.reduceMul, Nat.reducePow, Nat.reduceLT, Nat.reduceLeDiff, Nat.reduceEqDiff, Int.reduceAdd, Int.reduceSub, Int.reduceMul, Int.reduceNeg, Int.reducePow, Int.reduceLT, Int.reduceLE, Int.reduceEq, Int.reduceNe, Int.reduceToNat, Int.toNat_natCast, Nat.zero_add, Nat.add_zero, Nat.mul_one, Nat.one_mul, Bool.not_true, Bool.not_false, ne_eq, not_true_eq_false, not_false_eq_true, Bool.false_eq_true, rp (Fr.refl _ _), rq (Fr.refl _ _)]
    refine rsame_c i1 i3 o1 o3 hlen hlen fun h5 f5 => ?_
    rw [eqB_self]
    simp only [go_sem, reduceIte, Nat.reduceAdd, Nat.reduceSub, Nat.reduceMul, Nat.reducePow, Nat.reduceLT, Nat.reduceLeDiff, Nat.reduceEqDiff, Int.reduceAdd, Int.reduceSub, Int.reduceMul, Int.reduceNeg, Int.reducePow, Int.reduceLT, Int.reduceLE, Int.reduceEq, Int.reduceNe, Int.reduceToNat, Int.toNat_natCast, Nat.zero_add, Nat.add_zero, Nat.mul_one, Nat.one_mul, Bool.not_true, Bool.not_false, ne_eq, not_true_eq_false, not_false_eq_true, Bool.false_eq_true, rp f5, rq f5]
    refine same_c (i1.fr f5) (i3.fr f5) o1 o3 fun h6 f6 => ?_
    rw [eqB_self]
    simp only [go_sem, reduceIte, Nat.reduceAdd, Nat.reduceSub, Nat.reduceMul, Nat.reducePow, Nat.reduceLT, Nat.reduceLeDiff, Nat.reduceEqDiff, Int.reduceAdd, Int.reduceSub, Int.reduceMul, Int.reduceNeg, Int.reducePow, Int.reduceLT, Int.reduceLE, Int.reduceEq, Int.reduceNe, Int.reduceToNat, Int.toNat_natCast, Nat.zero_add, Nat.add_zero, Nat.mul_one, Nat.one_mul, Bool.not_true, Bool.not_false, ne_eq, not_true_eq_false, not_false_eq_true, Bool.false_eq_true]
    exact lives_c fun _ _ => rfl
  · by_cases c : 40000 < (B.length : Int)
    · have hs : sliceOp (.row 1) bv none (some (.int .i64 40000)) none = sliceOp (.row 1) bv (some (.int .i64 0)) (some (.int .i64 40000)) none := by cases bv <;> rfl
      obtain ⟨v', w1, w2⟩ := rB.slice (k := .i64) (k' := .i64) (i := 0) (j := 40000) (by omega) (by omega) (by omega) (by omega)
      have e : (List.drop ((0 : Int).toNat * 1) (bc B)).take (((40000 : Int).toNat - (0 : Int).toNat) * 1) = bc (B.take 40000) := by simp [bc, List.map_take]
      rw [e] at w2
      have hl : (B.take 40000).length = 40000 := by rw [List.length_take]; omega
      have w2 : Row h v' (B.take 40000).length 1 (bc (B.take 40000)) := by rw [hl]; exact w2
      simp only [go_sem, reduceIte, Nat.reduceAdd, Nat.reduceSub, Nat.reduceMul, Nat.reducePow, Nat.reduceLT, Nat.reduceLeDiff, Nat.reduceEqDiff, Int.reduceAdd, Int.reduceSub, Int.reduceMul, Int.reduceNeg, Int.reducePow, Int.reduceLT, Int.reduceLE, Int.reduceEq, Int.reduceNe, Int.reduceToNat, Int.toNat_natCast, Nat.zero_add, Nat.add_zero, Nat.mul_one, Nat.one_mul, Bool.not_true, Bool.not_false, ne_eq, not_true_eq_false, not_false_eq_true, Bool.false_eq_true, rB.len, c, hs, w1]
      exact hJ v' (B.take 40000) w2 (fun d hd => ltB d (List.mem_of_mem_take hd)) (by omega)
    · simp only [go_sem, reduceIte, Nat.reduceAdd, Nat.reduceSub, Nat.reduceMul, Nat.reducePow, Nat.reduceLT, Nat.reduceLeDiff, Nat.reduceEqDiff, Int.reduceAdd, Int.reduceSub, Int.reduceMul, Int.reduceNeg, Int.reducePow, Int.reduceLT, Int.reduceLE, Int.reduceEq, Int.reduceNe, Int.reduceToNat, Int.toNat_natCast, Nat.zero_add, Nat.add_zero, Nat.mul_one, Nat.one_mul, Bool.not_true, Bool.not_false, ne_eq, not_true_eq_false, not_false_eq_true, Bool.false_eq_true, rB.len, c]
      exact hJ bv B rB ltB (by omega)
end
end Go.Proofs.YtdljelicbnjfjaaGreat.X
