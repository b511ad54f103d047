/- What the law law5 needs: texts of one's own, put together; functions' contracts and plain facts. -/
import Derived.Test.YtgcnliikibbcnaaT5D
set_option linter.unusedVariables false
set_option linter.unusedSimpArgs false
set_option maxRecDepth 20000
namespace Go.Proofs.Ytgcnliikibbcnaa.X
open Go Go.RowKit
def sumN {α : Type} (w : α → Nat) (l : List α) : Nat := (l.map w).sum
def wTy (t : Ty) : Nat := t.sh.length
def wShp (s : Shp) : Nat := s.fs.length + s.name.length
def wStr (s : List UInt8) : Nat := s.length
def wIns (x : Ins) : Nat := x.l.length + x.m.length + x.live.length
def wBlk (b : Blk) : Nat := b.inn.length + b.code.length + sumN wIns b.code
def wFn (f : Fn) : Nat := f.params.length + f.blocks.length + sumN wBlk f.blocks
def wImg (m : Img) : Nat := m.types.length + m.shapes.length + m.strs.length + m.names.length + m.fns.length + sumN wTy m.types + sumN wShp m.shapes + sumN wStr (m.strs ++ m.names) + sumN wFn m.fns
theorem sum_succ {α : Type} (w : α → Nat) {l : List α} {i : Nat} {x : α} (h : l[i]? = some x) : sumN w (l.take (i + 1)) = sumN w (l.take i) + w x := by
  unfold sumN
  rw [List.take_add_one, h, List.map_append, List.sum_append]; simp
section
variable {h : H}
theorem app_new {m0 n : Nat} {y : AV} {cs : List AV} (g : h.get m0 = some (.live [] 9 true)) (hs : srcA h 1 y = some (n, cs)) (hc : cs.length = n) (hl : leaves cs = true) (hb : n * 16 ≤ most) {K : AV → H → Prop}
    (h0 : n = 0 → K (.sl m0 0 0 (.exact 0)) h) (hK : ∀ v h', Own h h' 9 1 v n cs → Fr [] h h' → K v h') : appendA h 9 1 16 (.sl m0 0 0 (.exact 0)) y K := by
  unfold appendA
  rw [hs]
  simp only
  by_cases q : n = 0
  · rw [if_pos q]; exact h0 q
  · rw [if_neg q, if_neg (by omega)]
    refine ⟨by omega, ?_⟩
    rw [Nat.zero_mul, show h.read m0 0 0 = some [] from H.read_eq g (by simp) rfl]
    simp only [List.nil_append, Nat.zero_add]
    exact ⟨hl, fun b hb => hK _ _ ⟨by omega, .inr ⟨b, rfl, hb, H.get_same ..⟩⟩ ((Fr.refl _ _).set' hb)⟩
theorem two_rows {vx vn : AV} {l1 l2 : List (List UInt8)} (r1 : Row h vx l1.length 1 (l1.map AV.str)) (r2 : Row h vn l2.length 1 (l2.map AV.str)) (b1 : l1.length ≤ lim) (b2 : l2.length ≤ lim) {P : H → Prop} {K : AV → H → Prop}
    (hP : ∀ h', Fr [] h h' → P h') (hK : ∀ v h', Fr [] h h' → Row h' v (l1 ++ l2).length 1 ((l1 ++ l2).map AV.str) → K v h') :
    mkslA h 9 0 (fillV [] []) fun t70 h => appendA h 9 1 16 t70 vx fun t73 h => againK (P h) <| appendA h 9 1 16 t73 vn fun t76 h => K t76 h := by
  have hs : ∀ l : List (List UInt8), leaves (l.map AV.str) = true := fun l => leaves_map _ (fun _ => rfl) l
  unfold lim at b1 b2
  have hmost : most = 140737488355328 := rfl
  refine ⟨rfl, fun m0 hm0 => ?_⟩
  have f1 : Fr [] h (h.set m0 (.live [] 9 true)) := (Fr.refl _ _).set' hm0
  have g0 : (h.set m0 (.live [] 9 true)).get m0 = some (.live [] 9 true) := H.get_same ..
  change appendA (h.set m0 (.live [] 9 true)) 9 1 16 (.sl m0 0 0 (.exact 0)) vx _
  generalize h.set m0 (.live [] 9 true) = h1 at *
  have r1' := r1.fr f1
  have r2' := r2.fr f1
  refine app_new g0 r1'.src (by simp) (hs _) (by omega) (fun q => ?_) fun v2 h2 o2 f2 => ?_
  · have e1 : l1 = [] := List.eq_nil_of_length_eq_zero q
    subst e1
    rw [show P h1 = True from eq_true (hP h1 f1), againK_t]
    refine app_new g0 r2'.src (by simp) (hs _) (by omega) (fun q => ?_) fun v3 h3 o3 f3 => ?_
    · have e2 : l2 = [] := List.eq_nil_of_length_eq_zero q
      subst e2
      exact hK _ _ f1 ⟨rfl, .inr ⟨m0, 0, _, rfl, rfl, H.read_eq g0 (by simp) rfl⟩⟩
    · exact hK _ _ (f1.trans f3) (by simpa using o3.row)
  · have r2'' := r2'.fr f2
    rw [show P h2 = True from eq_true (hP h2 (f1.trans f2)), againK_t]
    refine append_own o2 r2''.src (by simp) (by decide) (hs _) (hs _) f2 (by omega) fun v3 h3 o3 f3 _ => ?_
    refine hK _ _ (f1.trans f3) ?_
    rw [List.length_append, List.map_append]; exact o3.row
/-- Counted down, so far. -/
def Cnt {α : Type} (h0 : H) (n0 : Int) (w : α → Nat) (l : List α) (i : Nat) (a : AV) (h : H) : Prop := ∃ n : Int, a = .int .i64 n ∧ n = n0 - (sumN w (l.take i) : Nat) ∧ -4503599627370496 ≤ n ∧ n0 ≤ 40000 ∧ Fr [] h0 h
theorem Cnt.zero {α : Type} {h0 : H} {n0 : Int} {w : α → Nat} {l : List α} (h1 : -4503599627370496 ≤ n0) (h2 : n0 ≤ 40000) (f : Fr [] h0 h) : Cnt h0 n0 w l 0 (.int .i64 n0) h := ⟨n0, rfl, by simp [sumN], h1, h2, f⟩
theorem Cnt.fin {α : Type} {h0 : H} {n0 : Int} {w : α → Nat} {l : List α} {a : AV} (c : Cnt h0 n0 w l l.length a h) : ∃ n : Int, a = .int .i64 n ∧ n = n0 - (sumN w l : Nat) ∧ -4503599627370496 ≤ n ∧ n ≤ 40000 ∧ Fr [] h0 h := by
  obtain ⟨n, h1, h2, h3, h4, h5⟩ := c
  rw [List.take_length] at h2
  exact ⟨n, h1, h2, h3, by omega, h5⟩
/-- One step down, or out. -/
theorem down_r {n d : Int} (h1 : -4503599627370496 ≤ n) (h2 : n ≤ 40000) (hd : 0 ≤ d) (hb : d ≤ 4503599627370496) {Y : AV → H → Prop} {out : H → Prop}
    (hX : out h) (hY : 0 ≤ n - d → Y (.int .i64 (n - d)) h) :
    valA (binOp .sub .num (.int .i64 n) (.int .i64 d)) h fun t47 h => valA (binOp .lss .num t47 (.int .i64 0)) h fun t49 h => condA t49 (out h) (Y t47 h) := by
  have e : IntKind.i64.wrap (n - d) = n - d := i64_id (by omega) (by omega)
  rw [b_sub, e, valA_some, b_lss, valA_some]
  by_cases q : n - d < 0
  · rw [decide_eq_true q, condA_t]; exact hX
  · rw [decide_eq_false q, condA_f]
    exact hY (by omega)
theorem Cnt.succ {α : Type} {h0 : H} {n0 : Int} {w : α → Nat} {l : List α} {i : Nat} {x : α} (hx : l[i]? = some x) {n : Int} (hn : n = n0 - (sumN w (l.take i) : Nat)) {n' : Int} (hn' : n' = n - (w x : Nat)) (h1 : -4503599627370496 ≤ n') (h2 : n0 ≤ 40000) (f : Fr [] h0 h) : Cnt h0 n0 w l (i + 1) (.int .i64 n') h :=
  ⟨n', rfl, by rw [sum_succ w hx]; omega, h1, h2, f⟩
theorem Cnt.keep {α : Type} {h0 h' : H} {n0 : Int} {w : α → Nat} {l : List α} {i : Nat} {a : AV} (c : Cnt h0 n0 w l i a h) (f : Fr [] h h') : Cnt h0 n0 w l i a h' := by
  obtain ⟨n, h1, h2, h3, h4, h5⟩ := c
  exact ⟨n, h1, h2, h3, h4, h5.trans f⟩
theorem Cnt.fr {α : Type} {h0 : H} {n0 : Int} {w : α → Nat} {l : List α} {i : Nat} {a : AV} (c : Cnt h0 n0 w l i a h) : Fr [] h0 h := by
  obtain ⟨n, h1, h2, h3, h4, h5⟩ := c; exact h5
theorem reach_47 : reachBytes = 140737488351232 := rfl
set_option maxHeartbeats 1000000 in
theorem light_c {m : Img} {c : List AV} (r : imgR h m c) (ok : m.ok) (b3 : m.strs.length ≤ lim) (b4 : m.names.length ≤ lim) {K : AV → H → Prop} (hK : ∀ h' b, Fr [] h h' → (b = true → wImg m ≤ 40000) → K (.bool b) h') : C 15 [.agg c] h K := by
  refine run15 ?_
  have hl := r.leaves
  have ec : (AV.agg c).cells = c := rfl
  obtain ⟨vt, vs, vx, vn, vf, rfl, r1, r2, r3, r4, r5⟩ := r
  obtain ⟨⟨k1, k1'⟩, ⟨k2, k2'⟩, ⟨k3, k3'⟩, ⟨k4, k4'⟩, ⟨k5, k5'⟩, k6, k7⟩ := ok
  rw [reach_47] at k1 k2 k3 k4 k5
  have reach : ∀ {n : Nat}, n ≤ 140737488351232 → n ≤ reachBytes := fun h => by rw [reach_47]; exact h
  have out : ∀ {h'}, Fr [] h h' → K (.bool false) h' := fun f => hK _ false f (by simp)
  unfold sh15
  rw [ec]
  refine box_r hl fun b hb => ?_
  have f0 : Fr [] h (h.set b (.live [vt, vs, vx, vn, vf, .int .i64 m.main, .int .i64 m.exn] 34 true)) := (Fr.refl _ _).set' hb
  have gb : (h.set b (.live [vt, vs, vx, vn, vf, .int .i64 m.main, .int .i64 m.exn] 34 true)).get b = some (.live [vt, vs, vx, vn, vf, .int .i64 m.main, .int .i64 m.exn] 34 true) := H.get_same ..
  have r1 := r1.mono f0 fun _ _ _ => tyR.fr f0
  have r2 := r2.mono f0 fun _ _ _ => shR.fr f0
  have r3 := r3.mono f0 fun _ _ _ x => x
  have r4 := r4.mono f0 fun _ _ _ x => x
  have r5 := r5.mono f0 fun _ _ _ => fnR.fr f0
  generalize h.set b (.live [vt, vs, vx, vn, vf, .int .i64 m.main, .int .i64 m.exn] 34 true) = h1 at *
  have cb : ∀ {h5 : H}, Fr [] h1 h5 → ∀ o v, ([vt, vs, vx, vn, vf, AV.int .i64 m.main, .int .i64 m.exn] : List AV)[o]? = some v → h5.cell b o = some v := fun f o v e => by rw [cell_of (f b _ (by simp) gb)]; exact e
  have w1 : IntKind.i64.wrap (40000 - (m.types.length : Int)) = 40000 - m.types.length := i64_id (by omega) (by omega)
  have w2 : IntKind.i64.wrap (40000 - (m.types.length : Int) - m.shapes.length) = 40000 - m.types.length - m.shapes.length := i64_id (by omega) (by omega)
  have w3 : IntKind.i64.wrap (40000 - (m.types.length : Int) - m.shapes.length - m.strs.length) = 40000 - m.types.length - m.shapes.length - m.strs.length := i64_id (by omega) (by omega)
  have w4 : IntKind.i64.wrap (40000 - (m.types.length : Int) - m.shapes.length - m.strs.length - m.names.length) = 40000 - m.types.length - m.shapes.length - m.strs.length - m.names.length := i64_id (by omega) (by omega)
  have w5 : IntKind.i64.wrap (40000 - (m.types.length : Int) - m.shapes.length - m.strs.length - m.names.length - m.fns.length) = 40000 - m.types.length - m.shapes.length - m.strs.length - m.names.length - m.fns.length := i64_id (by omega) (by omega)
  have fR := Fr.refl [] h1
  refine fld_r (cb fR 0 _ rfl) ?_
  rw [r1.len, valA_some, b_sub, w1, valA_some]
  refine fld_r (cb fR 1 _ rfl) ?_
  rw [r2.len, valA_some, b_sub, w2, valA_some]
  refine fld_r (cb fR 2 _ rfl) ?_
  rw [r3.len, valA_some, b_sub, w3, valA_some]
  refine fld_r (cb fR 3 _ rfl) ?_
  rw [r4.len, valA_some, b_sub, w4, valA_some]
  refine fld_r (cb fR 4 _ rfl) ?_
  rw [r5.len, valA_some, b_sub, w5, valA_some]
  obtain ⟨n0, hn0⟩ : ∃ n0 : Int, 40000 - (m.types.length : Int) - m.shapes.length - m.strs.length - m.names.length - m.fns.length = n0 := ⟨_, rfl⟩
  rw [hn0]
  refine join_r (fun (J : AV → H → Prop) => ∀ n h', Fr [] h1 h' → n = n0 - (sumN wTy m.types : Nat) → -4503599627370496 ≤ n → n ≤ 40000 → J (.int .i64 n) h') ?_ fun J hJ => ?_
  · intro n h2 f2 e2 e2' e2''
    refine join_r (fun (J : AV → H → Prop) => ∀ n' h', Fr [] h1 h' → n' = n - (sumN wShp m.shapes : Nat) → -4503599627370496 ≤ n' → n' ≤ 40000 → J (.int .i64 n') h') ?_ fun J hJ => ?_
    · intro n3 h3 f3 e3 e3' e3''
      refine join_r (fun (J : AV → H → Prop) => ∀ n' h', Fr [] h1 h' → n' = n3 - (sumN wStr (m.strs ++ m.names) : Nat) → -4503599627370496 ≤ n' → n' ≤ 40000 → J (.int .i64 n') h') ?_ fun J hJ => ?_
      · intro n4 h4 f4 e4 e4' e4''
        refine join_r (fun (J : AV → H → Prop) => ∀ n' h', Fr [] h1 h' → n' = n4 - (sumN wFn m.fns : Nat) → J (.int .i64 n') h') ?_ fun J hJ => ?_
        · intro n5 h5 f5 e5
          rw [b_geq, valA_some]
          refine hK h5 _ (f0.trans f5) fun q => ?_
          have q := of_decide_eq_true q
          unfold wImg; omega
        · refine fld_r (cb f4 4 _ rfl) ?_
          rw [r5.len, valA_some]
          refine accj_r (h0 := h1) (esz := 4) (ty := 51) (zs := [.nilsl, .int .i64 0, .int .i64 0, .nilsl]) (Rel := fnR) (fun r => fnR.leaves r) rfl rfl r5 (reach k5) (Inv := Cnt h1 n4 wFn m.fns) (Cnt.zero e4' e4'' f4) (fun i a h i1 => i1.fr) (fun i a h h' i1 f => i1.keep f) (fun a h2 i1 => ?_) ?_
          · obtain ⟨n, rfl, e, _, _, f⟩ := i1.fin; exact hJ n h2 f e
          · rintro N i x a hx en h5 d c ⟨n, rfl, en1, en2, en3, f5⟩ gd re hc hN
            obtain ⟨vp, vb, rfl, q1, q2⟩ := re
            obtain ⟨o1, o2, o3, o4, o5⟩ := k5' x (List.mem_of_getElem? hx)
            have o1 := o1.1
            rw [reach_47] at o1 o4
            have cd : ∀ {h6 : H}, Fr [] h5 h6 → ∀ o w, ([vp, AV.int .i64 x.result, .int .i64 x.slots, vb] : List AV)[o]? = some w → h6.cell d o = some w := fun f o w e => by rw [cell_of (f d _ (by simp) gd)]; exact e
            have ea : IntKind.i64.wrap ((x.params.length : Int) + x.blocks.length) = x.params.length + x.blocks.length := i64_id (by omega) (by omega)
            refine fld_r (cd (Fr.refl _ _) 0 _ rfl) ?_
            rw [q1.len, valA_some]
            refine fld_r (cd (Fr.refl _ _) 3 _ rfl) ?_
            rw [q2.len, valA_some, b_add, ea, valA_some]
            refine down_r (d := (x.params.length : Int) + x.blocks.length) en2 (by omega) (by omega) (by omega) ?_ fun hge => ?_
            · exact out (f0.trans f5)
            refine fld_r (cd (Fr.refl _ _) 3 _ rfl) ?_
            rw [q2.len, valA_some]
            refine accj_r (h0 := h1) (esz := 2) (ty := 58) (zs := [.nilsl, .nilsl]) (Rel := blkR) (fun r => blkR.leaves r) rfl rfl q2 (reach o4) (Inv := Cnt h1 (n - ((x.params.length : Int) + x.blocks.length)) wBlk x.blocks) (Cnt.zero (by omega) (by omega) f5) (fun i a h i1 => i1.fr) (fun i a h h' i1 f => i1.keep f) (fun a h2 i1 => ?_) ?_
            · obtain ⟨n', rfl, e, e', _, f⟩ := i1.fin
              exact hN _ h2 (Cnt.succ hx en1 (by unfold wFn; omega) e' en3 f)
            · rintro N i y a hy en h6 d c ⟨n, rfl, en1, en2, en3, f6⟩ gd re hc hN
              obtain ⟨vi, vc, rfl, p1, p2⟩ := re
              obtain ⟨u1, u2, u3⟩ := o5 y (List.mem_of_getElem? hy)
              have u1 := u1.1
              rw [reach_47] at u1 u2
              have cd : ∀ {h7 : H}, Fr [] h6 h7 → ∀ o w, ([vi, vc] : List AV)[o]? = some w → h7.cell d o = some w := fun f o w e => by rw [cell_of (f d _ (by simp) gd)]; exact e
              have ea : IntKind.i64.wrap ((y.inn.length : Int) + y.code.length) = y.inn.length + y.code.length := i64_id (by omega) (by omega)
              refine fld_r (cd (Fr.refl _ _) 0 _ rfl) ?_
              rw [p1.len, valA_some]
              refine fld_r (cd (Fr.refl _ _) 1 _ rfl) ?_
              rw [p2.len, valA_some, b_add, ea, valA_some]
              refine down_r (d := (y.inn.length : Int) + y.code.length) en2 (by omega) (by omega) (by omega) ?_ fun hge => ?_
              · exact out (f0.trans f6)
              refine fld_r (cd (Fr.refl _ _) 1 _ rfl) ?_
              rw [p2.len, valA_some]
              refine acc_r (h0 := h1) (esz := 9) (ty := 24) (zs := [.int .i64 0, .int .i64 0, .int .i64 0, .int .i64 0, .int .i64 0, .int .i64 0, .nilsl, .nilsl, .nilsl]) (Rel := insR) (fun r => insR.leaves r) rfl rfl p2 (reach u2) (Inv := Cnt h1 (n - ((y.inn.length : Int) + y.code.length)) wIns y.code) (Cnt.zero (by omega) (by omega) f6) (fun i a h i1 => i1.fr) (fun i a h h' i1 f => i1.keep f) (fun a h2 i1 => ?_) ?_
              · obtain ⟨n', rfl, e, e', _, f⟩ := i1.fin
                exact hN _ h2 (Cnt.succ hy en1 (by unfold wBlk; omega) e' en3 f)
              · rintro N i z a hz en h7 d c ⟨n, rfl, en1, en2, en3, f7⟩ gd re hc hN
                obtain ⟨vl, vm, vv, rfl, z1, z2, z3⟩ := re
                obtain ⟨_, t1, t2, t3⟩ := u3 z (List.mem_of_getElem? hz)
                have t1 := t1.1
                have t2 := t2.1
                have t3 := t3.1
                rw [reach_47] at t1 t2 t3
                have cd : ∀ o w, ([AV.int .i64 z.op, .int .i64 z.d, .int .i64 z.a, .int .i64 z.b, .int .i64 z.c, .int .i64 z.n, vl, vm, vv] : List AV)[o]? = some w → h7.cell d o = some w := fun o w e => by rw [cell_of gd]; exact e
                have ea : IntKind.i64.wrap ((z.l.length : Int) + z.m.length) = z.l.length + z.m.length := i64_id (by omega) (by omega)
                have eb : IntKind.i64.wrap ((z.l.length : Int) + z.m.length + z.live.length) = z.l.length + z.m.length + z.live.length := i64_id (by omega) (by omega)
                refine fld_r (cd 6 _ rfl) ?_
                rw [z1.len, valA_some]
                refine fld_r (cd 7 _ rfl) ?_
                rw [z2.len, valA_some, b_add, ea, valA_some]
                refine fld_r (cd 8 _ rfl) ?_
                rw [z3.len, valA_some, b_add, eb, valA_some]
                refine down_r (d := (z.l.length : Int) + z.m.length + z.live.length) en2 (by omega) (by omega) (by omega) ?_ fun hge => ?_
                · exact out (f0.trans f7)
                rw [b_add, en, valA_some]
                exact hN _ h7 (Cnt.succ hz en1 (by unfold wIns; omega) (by omega) en3 f7)
      · refine fld_r (cb f3 2 _ rfl) ?_
        refine fld_r (cb f3 3 _ rfl) ?_
        refine two_rows ((strs_row r3).fr f3) ((strs_row r4).fr f3) b3 b4 (fun h' f' => ?_) fun v h4 f4 rv => ?_
        · rw [ldA_n, Nat.zero_add, cb (f3.trans f') 3 _ rfl]; rfl
        · rw [rv.len, valA_some]
          have f14 := f3.trans f4
          refine acc1_r (h0 := h4) rv (by rw [reach_47]; unfold lim at b3 b4; simp only [List.length_append]; omega) (Inv := Cnt h4 n3 wStr (m.strs ++ m.names)) (Cnt.zero e3' e3'' (Fr.refl _ _)) (fun i a h i1 => i1.fr) (fun a h2 i1 => ?_) ?_
          · obtain ⟨n, rfl, e, e', e'', f⟩ := i1.fin; exact hJ n h2 (f14.trans f) e e' e''
          · rintro N i x a hx en h5 ⟨n, rfl, en1, en2, en3, f5⟩ hN
            have hx' : x.length ≤ 140737488351232 := by
              rw [← reach_47]
              rcases List.mem_append.1 (List.mem_of_getElem? hx) with q | q
              · exact k3' x q
              · exact k4' x q
            rw [show lenA true (.str x) = some (.int .i64 x.length) from rfl, valA_some]
            refine down_r (d := (x.length : Int)) en2 (by omega) (by omega) (by omega) ?_ fun hge => ?_
            · exact out ((f0.trans f14).trans f5)
            rw [b_add, en, valA_some]
            exact hN _ h5 (Cnt.succ hx en1 rfl (by omega) en3 f5)
    · refine fld_r (cb f2 1 _ rfl) ?_
      rw [r2.len, valA_some]
      refine acc_r (h0 := h1) (esz := 3) (ty := 55) (zs := [.int .i64 0, .nilsl, .str []]) (Rel := shR) (fun r => shR.leaves r) rfl rfl r2 (reach k2) (Inv := Cnt h1 n wShp m.shapes) (Cnt.zero e2' e2'' f2) (fun i a h i1 => i1.fr) (fun i a h h' i1 f => i1.keep f) (fun a h2 i1 => ?_) ?_
      · obtain ⟨n, rfl, e, e', e'', f⟩ := i1.fin; exact hJ n h2 f e e' e''
      · rintro N i x a hx en h5 d c ⟨n, rfl, en1, en2, en3, f5⟩ gd re hc hN
        obtain ⟨v, rfl, rr⟩ := re
        obtain ⟨o1, o2, o3⟩ := k2' x (List.mem_of_getElem? hx)
        have o2 := o2.1
        rw [reach_47] at o2 o3
        have cd : ∀ o w, ([AV.int .i64 x.kind, v, .str x.name] : List AV)[o]? = some w → h5.cell d o = some w := fun o w e => by rw [cell_of gd]; exact e
        have ea : IntKind.i64.wrap ((x.fs.length : Int) + x.name.length) = x.fs.length + x.name.length := i64_id (by omega) (by omega)
        refine fld_r (cd 1 _ rfl) ?_
        rw [rr.len, valA_some]
        refine fld_r (cd 2 _ rfl) ?_
        rw [show lenA true (.str x.name) = some (.int .i64 x.name.length) from rfl, valA_some, b_add, ea, valA_some]
        refine down_r (d := (x.fs.length : Int) + x.name.length) en2 (by omega) (by omega) (by omega) ?_ fun hge => ?_
        · exact out (f0.trans f5)
        rw [b_add, en, valA_some]
        exact hN _ h5 (Cnt.succ hx en1 (by unfold wShp; omega) (by omega) en3 f5)
  · refine fld_r (cb fR 0 _ rfl) ?_
    rw [r1.len, valA_some]
    refine acc_r (h0 := h1) (esz := 2) (ty := 53) (zs := [.bool false, .nilsl]) (Rel := tyR) (fun r => tyR.leaves r) rfl rfl r1 (reach k1) (Inv := Cnt h1 n0 wTy m.types) (Cnt.zero (by omega) (by omega) fR) (fun i a h i1 => i1.fr) (fun i a h h' i1 f => i1.keep f) (fun a h2 i1 => ?_) ?_
    · obtain ⟨n, rfl, e, e', e'', f⟩ := i1.fin; exact hJ n h2 f e e' e''
    · rintro N i x a hx en h5 d c ⟨n, rfl, en1, en2, en3, f5⟩ gd re hc hN
      obtain ⟨v, rfl, rr⟩ := re
      have o2 := (k1' x (List.mem_of_getElem? hx)).1
      rw [reach_47] at o2
      have cd : ∀ o w, ([AV.bool x.imm, v] : List AV)[o]? = some w → h5.cell d o = some w := fun o w e => by rw [cell_of gd]; exact e
      refine fld_r (cd 1 _ rfl) ?_
      rw [rr.len, valA_some]
      refine down_r (d := (x.sh.length : Int)) en2 (by omega) (by omega) (by omega) ?_ fun hge => ?_
      · exact out (f0.trans f5)
      rw [b_add, en, valA_some]
      exact hN _ h5 (Cnt.succ hx en1 (by unfold wTy; omega) (by omega) en3 f5)
end
end Go.Proofs.Ytgcnliikibbcnaa.X
set_option linter.unusedVariables false
set_option linter.unusedSimpArgs false
set_option maxRecDepth 20000
namespace Go.Proofs.Ytgcnliikibbcnaa.X
open Go Go.RowKit
/-! ### How many bytes -/
theorem num_le {n : Int} (h : rg n) : (numB n).length ≤ 10 := putL_len64 (zig_lt h.1 h.2)
theorem many_le {α : Type} {e : α → List Nat} {w : α → Nat} {l : List α} {C D : Nat} (hl : l.length ≤ reachBytes) (h : ∀ x ∈ l, (e x).length ≤ C + D * w x) : (manyB e l).length ≤ 10 + C * l.length + D * sumN w l := by
  unfold manyB
  have h1 := num_le (rg_nat hl)
  have h2 : (l.flatMap e).length ≤ C * l.length + D * sumN w l := by
    clear hl h1
    induction l with
    | nil => simp [sumN]
    | cons x l ih =>
      have i1 := h x (by simp)
      have i2 := ih fun y hy => h y (by simp [hy])
      have e1 : sumN w (x :: l) = w x + sumN w l := by simp [sumN]
      rw [List.flatMap_cons, List.length_append, List.length_cons, e1, Nat.mul_add, Nat.mul_add]; omega
  rw [List.length_append]; omega
theorem nums_le {l : List Int} (h : rgs l) : (numsB l).length ≤ 10 + 10 * l.length := by
  have := many_le (e := numB) (w := fun _ => 0) (C := 10) (D := 0) h.1 fun x hx => by have := num_le (h.2 x hx); omega
  unfold numsB; omega
theorem text_le {s : List UInt8} (h : s.length ≤ reachBytes) : (textB s).length ≤ 10 + 1 * wStr s := by
  have := num_le (rg_nat h)
  unfold textB wStr; simp only [List.length_append, List.length_map]; omega
theorem ty_le {t : Ty} (h : t.ok) : (tyB t).length ≤ 20 + 10 * wTy t := by
  have := nums_le h
  have := num_le (n := if t.imm then 1 else 0) (by unfold rg; split <;> omega)
  unfold tyB wTy; simp only [List.length_append]; omega
theorem shp_le {s : Shp} (h : s.ok) : (shB s).length ≤ 30 + 10 * wShp s := by
  have := num_le h.1
  have := nums_le h.2.1
  have := text_le h.2.2
  unfold shB wShp; unfold wStr at this; simp only [List.length_append]; omega
theorem fld_le {x : Ins} (h : x.ok) (c : UInt8) : (fldB x c).length ≤ 10 + 10 * wIns x := by
  obtain ⟨⟨o1, o2, o3, o4, o5, o6⟩, o7, o8, o9⟩ := h
  have := num_le o2; have := num_le o3; have := num_le o4; have := num_le o5; have := num_le o6
  have := nums_le o7; have := nums_le o8; have := nums_le o9
  unfold fldB wIns
  repeat' split
  all_goals omega
theorem uses_six (op : Int) : (usesN op).length ≤ 6 := by
  rcases op_cases op with q | q
  · rcases q with rfl | rfl | rfl | rfl | rfl | rfl | rfl | rfl | rfl | rfl | rfl | rfl | rfl | rfl | rfl | rfl | rfl | rfl | rfl | rfl | rfl | rfl | rfl | rfl <;> decide
  · rw [usesN_out q]; decide
theorem flds_le {x : Ins} (h : x.ok) : ∀ u : List UInt8, (u.flatMap (fldB x)).length ≤ u.length * (10 + 10 * wIns x)
  | [] => by simp
  | c :: u => by
    have := flds_le h u
    have := fld_le h c
    rw [List.flatMap_cons, List.length_append, List.length_cons, Nat.add_mul]; omega
theorem ins_le {x : Ins} (h : x.ok) : (insB x).length ≤ 70 + 60 * wIns x := by
  have := num_le h.1.1
  have h2 := flds_le h (usesN x.op)
  have h3 : (usesN x.op).length * (10 + 10 * wIns x) ≤ 6 * (10 + 10 * wIns x) := Nat.mul_le_mul_right _ (uses_six x.op)
  unfold insB; rw [List.length_append]; omega
theorem blk_le {b : Blk} (h : b.ok) : (blkB b).length ≤ 20 + 70 * wBlk b := by
  have := nums_le h.1
  have := many_le (e := insB) (w := wIns) h.2.1 fun x hx => ins_le (h.2.2 x hx)
  unfold blkB wBlk; rw [List.length_append]; omega
theorem fn_le {f : Fn} (h : f.ok) : (fnB f).length ≤ 40 + 70 * wFn f := by
  obtain ⟨o1, o2, o3, o4, o5⟩ := h
  have := nums_le o1
  have := num_le o2
  have := num_le o3
  have := many_le (e := blkB) (w := wBlk) o4 fun x hx => blk_le (o5 x hx)
  unfold fnB wFn; simp only [List.length_append]; omega
theorem sum_app {α : Type} (w : α → Nat) (a b : List α) : sumN w (a ++ b) = sumN w a + sumN w b := by unfold sumN; rw [List.map_append, List.sum_append]
theorem img_le {m : Img} (h : m.ok) : (bytesI m).length ≤ 74 + 70 * wImg m := by
  obtain ⟨⟨k1, k1'⟩, ⟨k2, k2'⟩, ⟨k3, k3'⟩, ⟨k4, k4'⟩, ⟨k5, k5'⟩, k6, k7⟩ := h
  have := many_le (e := tyB) (w := wTy) k1 fun x hx => ty_le (k1' x hx)
  have := many_le (e := shB) (w := wShp) k2 fun x hx => shp_le (k2' x hx)
  have := many_le (e := textB) (w := wStr) k3 fun x hx => text_le (k3' x hx)
  have := many_le (e := textB) (w := wStr) k4 fun x hx => text_le (k4' x hx)
  have := many_le (e := fnB) (w := wFn) k5 fun x hx => fn_le (k5' x hx)
  have := num_le k6
  have := num_le k7
  have e : headB.length = 4 := rfl
  unfold bytesI wImg; rw [sum_app]; simp only [List.length_append, e]; omega
theorem most_47 : most = 140737488355328 := rfl
theorem light_le {m : Img} (h : m.ok) (hl : wImg m ≤ 40000) : (bytesI m).length ≤ most ∧ (bytesI m).length ≤ 2800074 := by
  have := img_le h; rw [most_47]; omega
section
variable {h : H}
theorem short_img {ls : List (List AV)} {l : List AV} {m : Img} (hs : Short lim ls) (hl : l ∈ ls) (r : imgR h m l) : m.strs.length ≤ lim ∧ m.names.length ≤ lim := by
  obtain ⟨vt, vs, vx, vn, vf, rfl, _, _, r3, r4, _⟩ := r
  have one : ∀ {v : AV} {l : List (List UInt8)}, RowOf h 1 stR v l → (v ∈ ([vt, vs, vx, vn, vf, .int .i64 m.main, .int .i64 m.exn] : List AV)) → l.length ≤ lim := by
    intro v l r hv
    obtain ⟨_, _, _, _, r⟩ := r
    rcases r.2 with ⟨q, _⟩ | ⟨b, off, cap, rfl, _, _⟩
    · omega
    · exact hs _ hl b off _ cap hv
  exact ⟨one r3 (by simp), one r4 (by simp)⟩
/-- An image, handed over, in its box. -/
theorem img_box {l : List AV} {m : Img} (r : imgR h m l) {K : AV → H → Prop} (hK : ∀ b h1, Fr [] h h1 → h.get b = none → h1.get b = some (.live l 34 true) → imgR h1 m l → (∀ h2, Fr [] h1 h2 → h2.read b 0 7 = some l) → K (.ptr b 0) h1) : boxA h (AV.cells (.agg l)) 34 K := by
  have hl := r.shape.1
  show boxA h l 34 K
  refine box_r r.leaves fun b hb => ?_
  have f : Fr [] h (h.set b (.live l 34 true)) := (Fr.refl _ _).set' hb
  exact hK b _ f hb (H.get_same ..) (r.fr f) fun h2 f2 => H.read_eq (f2 b _ (by simp) (H.get_same ..)) (by omega) (by rw [List.drop_zero, List.take_of_length_le (by omega)])
end
end Go.Proofs.Ytgcnliikibbcnaa.X
set_option linter.unusedVariables false
set_option linter.unusedSimpArgs false
set_option maxRecDepth 20000
namespace Go.Proofs.Ytgcnliikibbcnaa.X
open Go Go.RowKit
theorem cut_law {m : Img} (ok : m.ok) (hc : checkN m = 0) {k : Nat} (hk : k ≤ (bytesI m).length) (oky : (decodeN ((bytesI m).take k)).1.ok) : (decodeN ((bytesI m).take k)).2 = 0 ↔ k = (bytesI m).length := by
  constructor
  · intro h
    obtain ⟨h1, h2⟩ := decode_bk (fun d hd => bytes_lt m d (List.mem_of_mem_take hd)) h
    have e1 := image_fw (B := bytesI m) ok hc (post := []) (by rw [List.append_nil])
    have e2 := image_fw (B := bytesI m) oky h2 (post := (bytesI m).drop k) (by rw [h1, List.take_append_drop])
    rw [e1] at e2
    have e2 := congrArg (fun p : Img × RS => p.2.pos) e2
    simp only at e2
    rw [h1, List.length_take] at e2; omega
  · intro h
    rw [h, List.take_length, decode_fw ok hc]
theorem more_law {m : Img} (ok : m.ok) (hc : checkN m = 0) {B : List Nat} (lt : ∀ d ∈ B, d < 256) (oky : (decodeN (bytesI m ++ B)).1.ok) : (decodeN (bytesI m ++ B)).2 = 0 ↔ B.length = 0 := by
  constructor
  · intro h
    obtain ⟨h1, h2⟩ := decode_bk (B := bytesI m ++ B) (app_lt (a := bytesI m) (b := B) (bytes_lt m) lt) h
    have e1 := image_fw (B := bytesI m ++ B) ok hc (post := B) rfl
    have e2 := image_fw (B := bytesI m ++ B) oky h2 (post := []) (by rw [h1, List.append_nil])
    rw [e1] at e2
    have e2 := congrArg (fun p : Img × RS => p.2.pos) e2
    simp only at e2
    rw [h1, List.length_append] at e2; omega
  · intro h
    rw [List.eq_nil_of_length_eq_zero h, List.append_nil, decode_fw ok hc]
section
variable {h : H}
theorem bytes_pos (m : Img) : 0 < (bytesI m).length := by
  have e : headB.length = 4 := rfl
  unfold bytesI; simp only [List.length_append, e]; omega
/-- Bytes that are put behind one another, anew. -/
theorem two_bytes {y z : AV} {D E : List Nat} (r1 : Row h y D.length 1 (bc D)) (r2 : Row h z E.length 1 (bc E)) (hm : (D ++ E).length ≤ most) {K : AV → H → Prop} (hK : ∀ v h', V h h' v (D ++ E) → K v h') :
    mkslA h 5 0 (fillV [] []) fun t46 h => appendA h 5 1 1 t46 y fun t48 h => appendA h 5 1 1 t48 z K := by
  refine ⟨rfl, fun p hp => ?_⟩
  have f1 : Fr [] h (h.set p (.live [] 5 true)) := (Fr.refl _ _).set' hp
  have w1 : V h (h.set p (.live [] 5 true)) (.sl p 0 0 (.exact 0)) [] := ⟨.inr ⟨p, rfl, hp, H.get_same ..⟩, f1⟩
  change appendA (h.set p (.live [] 5 true)) 5 1 1 (.sl p 0 0 (.exact 0)) y _
  refine app_w w1 (r1.fr f1).src (by simp only [List.length_append, List.length_nil] at hm ⊢; omega) fun v2 h2 w2 _ => ?_
  exact app_w w2 (r2.fr w2.fr).src (by simpa using hm) fun v3 h3 w3 _ => hK v3 h3 (by simpa using w3)
theorem law5 (h : H) (ls : List (List AV)) (hl : LiesA h [shM, .int .u64, .sl (.int .u8)] ls) (hs : Short lim ls) : C 5 (argsOf [shM, .int .u64, .sl (.int .u8)] ls) h yes := by
  obtain ⟨l0, ls, rfl, h0, hl⟩ := liesA_cons hl
  obtain ⟨l1, ls, rfl, h1, hl⟩ := liesA_cons hl
  obtain ⟨l2, ls, rfl, h2, hl⟩ := liesA_cons hl
  obtain rfl := liesA_nil hl
  obtain ⟨m, r, ok⟩ := lies_img h0
  obtain ⟨at_, rfl, a0, a1⟩ := lies_u64 h1
  obtain ⟨mv, M, rfl, rm, ltM, lenM⟩ := lies_bytes h2
  obtain ⟨b3, b4⟩ := short_img hs (by simp) r
  show C 5 [.agg l0, .int .u64 at_, mv] h yes
  refine run5 ?_
  unfold sh5
  refine img_box r fun b h1 f1 hb gb r1 rd => ?_
  rw [ldA_read (rd h1 (Fr.refl _ _)), valA_some]
  refine light_c r1 ok b3 b4 fun h2 lt f2 hlt => ?_
  have rm2 := (rm.fr f1).fr f2
  rw [u_not, valA_some]
  have chunk : ∀ {K : AV → H → Prop}, (whenA (.bool !lt) false (fun K => K mv h2) h2 fun t18 h => whenA (.bool !lt) false (fun K => valA (lenA false t18) h K) h fun t19 h => whenA (.bool !lt) false (fun K => valA (binOp .gtr .num t19 (.int .i64 1000)) h K) h fun t20 h =>
      valA (pickA (.bool !lt) (.bool true) t20) h K) = K (.bool (!lt || decide (1000 < (M.length : Int)))) h2 := by
    intro K
    cases lt <;> simp only [go_sem, reduceIte, Nat.reduceAdd, Nat.reduceSub, Nat.reduceMul, Nat.reducePow, Nat.reduceLT, Nat.reduceLeDiff, Nat.reduceEqDiff, Int.reduceAdd, Int.reduceSub, Int.reduceMul, Int.reduceNeg, Int.reducePow, Int.reduceLT, Int.reduceLE, Int.reduceEq, Int.reduceNe, Int.reduceToNat, Int.toNat_natCast, Nat.zero_add, Nat.add_zero, Nat.mul_one, Nat.one_mul, Bool.not_true, Bool.not_false, ne_eq, not_true_eq_false, not_false_eq_true, Bool.false_eq_true, Bool.not_true, Bool.not_false, Bool.true_or, Bool.false_or, rm2.len]
  rw [chunk]
  by_cases q : (!lt || decide (1000 < (M.length : Int))) = true
  · rw [q, condA_t]; exact lives_c fun _ _ => rfl
  rw [Bool.eq_false_iff.2 q, condA_f]
  have q : lt = true ∧ ¬ 1000 < (M.length : Int) := by simpa using q
  obtain ⟨rfl, hM⟩ := q
  have hw := light_le ok (hlt rfl)
  rw [ldA_read (rd h2 f2), valA_some]
  by_cases hc : checkN m = 0
  · refine encode_c (r1.fr f2) ok hw.1 (fun q => absurd hc q) fun _ v h3 f3 ws => ?_
    rw [ext2]
    have w3 := ws.row
    have rm3 := rm2.fr f3
    have hp := bytes_pos m
    have e1 : IntKind.i64.wrap (((bytesI m).length : Int) + 1) = (bytesI m).length + 1 := i64_id (by omega) (by omega)
    have e2 : IntKind.u64.wrap (((bytesI m).length : Int) + 1) = (bytesI m).length + 1 := u64_id (by omega) (by omega)
    obtain ⟨k, hk, hk1⟩ : ∃ k : Nat, IntKind.i64.wrap (at_.tmod (((bytesI m).length : Int) + 1)) = k ∧ k ≤ (bytesI m).length := by
      have h1 : at_.tmod (((bytesI m).length : Int) + 1) = at_ % (((bytesI m).length : Int) + 1) := Int.tmod_eq_emod_of_nonneg (by omega)
      have h2 := Int.emod_nonneg at_ (b := ((bytesI m).length : Int) + 1) (by omega)
      have h3 := Int.emod_lt_of_pos at_ (b := ((bytesI m).length : Int) + 1) (by omega)
      refine ⟨(at_ % (((bytesI m).length : Int) + 1)).toNat, ?_, by omega⟩
      rw [h1, i64_id (by omega) (by omega)]; omega
    have hs : sliceOp (.row 1) v none (some (.int .i64 k)) none = sliceOp (.row 1) v (some (.int .i64 0)) (some (.int .i64 k)) none := by cases v <;> rfl
    obtain ⟨v', s1, s2⟩ := w3.slice (k := .i64) (k' := .i64) (i := 0) (j := k) (by omega) (by omega) (by omega) hp
    have et : (List.drop ((0 : Int).toNat * 1) (bc (bytesI m))).take (((k : Int).toNat - (0 : Int).toNat) * 1) = bc ((bytesI m).take k) := by simp [bc, List.map_take]
    rw [et] at s2
    have s2 : Row h3 v' ((bytesI m).take k).length 1 (bc ((bytesI m).take k)) := by
      have : ((bytesI m).take k).length = (k : Int).toNat - (0 : Int).toNat := by rw [List.length_take]; omega
      rw [this]; exact s2
    have nz : ¬ ((bytesI m).length : Int) + 1 = 0 := by omega
    simp only [go_sem, reduceIte, Nat.reduceAdd, Nat.reduceSub, Nat.reduceMul, Nat.reducePow, Nat.reduceLT, Nat.reduceLeDiff, Nat.reduceEqDiff, Int.reduceAdd, Int.reduceSub, Int.reduceMul, Int.reduceNeg, Int.reducePow, Int.reduceLT, Int.reduceLE, Int.reduceEq, Int.reduceNe, Int.reduceToNat, Int.toNat_natCast, Nat.zero_add, Nat.add_zero, Nat.mul_one, Nat.one_mul, Bool.not_true, Bool.not_false, ne_eq, not_true_eq_false, not_false_eq_true, Bool.false_eq_true, w3.len, e1, e2, nz, hk, hs, s1]
    refine decode_c s2 (fun d hd => bytes_lt m d (List.mem_of_mem_take hd)) (by rw [List.length_take]; omega) fun h4 c4 f4 i4 o4 => ?_
    have z1 := cut_law ok hc hk1 o4
    have w4 := w3.fr f4
    have rm4 := rm3.fr f4
    generalize hD : decodeN ((bytesI m).take k) = D at *
    obtain ⟨y1, n1⟩ := D
    simp only at i4 z1
    rw [ext2]
    refine imgbox_r i4 rfl rfl rfl fun d h5 f5 _ _ _ => ?_
    have w5 := w4.fr f5
    have rm5 := rm4.fr f5
    have lt2 : ∀ d ∈ bytesI m ++ M, d < 256 := app_lt (a := bytesI m) (b := M) (bytes_lt m) ltM
    have hlen : (bytesI m ++ M).length ≤ 2801074 := by rw [List.length_append]; omega
    refine two_bytes w5 rm5 (by rw [most_47]; omega) fun v6 h6 w6 => ?_
    refine decode_c w6.ws.row lt2 (by omega) fun h7 c7 f7 i7 o7 => ?_
    have z2 := more_law ok hc ltM o7
    generalize decodeN (bytesI m ++ M) = D2 at *
    obtain ⟨y2, n2⟩ := D2
    simp only at i7 z2
    rw [ext2]
    refine imgbox_r i7 rfl rfl rfl fun d h8 f8 _ _ _ => ?_
    have g1 : decide (n1 = 0) = decide ((k : Int) = (bytesI m).length) := by
      rw [decide_eq_decide, z1]; omega
    have g2 : decide (n2 = 0) = decide ((M.length : Int) = 0) := by
      rw [decide_eq_decide, z2]; omega
    simp only [go_sem, reduceIte, Nat.reduceAdd, Nat.reduceSub, Nat.reduceMul, Nat.reducePow, Nat.reduceLT, Nat.reduceLeDiff, Nat.reduceEqDiff, Int.reduceAdd, Int.reduceSub, Int.reduceMul, Int.reduceNeg, Int.reducePow, Int.reduceLT, Int.reduceLE, Int.reduceEq, Int.reduceNe, Int.reduceToNat, Int.toNat_natCast, Nat.zero_add, Nat.add_zero, Nat.mul_one, Nat.one_mul, Bool.not_true, Bool.not_false, ne_eq, not_true_eq_false, not_false_eq_true, Bool.false_eq_true, w3.len, g1, rm3.len, g2]
    exact lives_c fun _ _ => rfl
  · refine encode_c (r1.fr f2) ok hw.1 (fun _ h3 f3 => ?_) (fun q => absurd q hc)
    rw [ext2, b_neq, decide_eq_true (by simpa using hc), valA_some, condA_t]
    exact lives_c fun _ _ => rfl
end
end Go.Proofs.Ytgcnliikibbcnaa.X
