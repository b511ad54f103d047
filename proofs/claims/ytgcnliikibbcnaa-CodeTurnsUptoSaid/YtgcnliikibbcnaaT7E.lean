/- What the law law7 needs: texts of one's own, put together; functions' contracts and plain facts. -/
import Derived.Test.YtgcnliikibbcnaaT7D
set_option linter.unusedVariables false
set_option linter.unusedSimpArgs false
set_option maxRecDepth 20000
namespace Go.Proofs.Ytgcnliikibbcnaa.X
open Go Go.RowKit
def sumN {α : Type} (w : α → Nat) (l : List α) : Nat := (l.map w).sum
def wTy (t : Ty) : Nat := t.sh.length
def wShp (s : Shp) : Nat := s.fs.length + s.name.length
def wStr (s : List UInt8) : Nat := s.length
def wIns (x : Ins) : Nat := x.l.length + x.m.length + x.live.length
def wBlk (b : Blk) : Nat := b.inn.length + b.code.length + sumN wIns b.code
def wFn (f : Fn) : Nat := f.params.length + f.blocks.length + sumN wBlk f.blocks
def wImg (m : Img) : Nat := m.types.length + m.shapes.length + m.strs.length + m.names.length + m.fns.length + sumN wTy m.types + sumN wShp m.shapes + sumN wStr (m.strs ++ m.names) + sumN wFn m.fns
theorem sum_succ {α : Type} (w : α → Nat) {l : List α} {i : Nat} {x : α} (h : l[i]? = some x) : sumN w (l.take (i + 1)) = sumN w (l.take i) + w x := by
  unfold sumN
  rw [List.take_add_one, h, List.map_append, List.sum_append]; simp
section
variable {h : H}
theorem app_new {m0 n : Nat} {y : AV} {cs : List AV} (g : h.get m0 = some (.live [] 9 true)) (hs : srcA h 1 y = some (n, cs)) (hc : cs.length = n) (hl : leaves cs = true) (hb : n * 16 ≤ most) {K : AV → H → Prop}
    (h0 : n = 0 → K (.sl m0 0 0 (.exact 0)) h) (hK : ∀ v h', Own h h' 9 1 v n cs → Fr [] h h' → K v h') : appendA h 9 1 16 (.sl m0 0 0 (.exact 0)) y K := by
  unfold appendA
  rw [hs]
  simp only
  by_cases q : n = 0
  · rw [if_pos q]; exact h0 q
  · rw [if_neg q, if_neg (by omega)]
    refine ⟨by omega, ?_⟩
    rw [Nat.zero_mul, show h.read m0 0 0 = some [] from H.read_eq g (by simp) rfl]
    simp only [List.nil_append, Nat.zero_add]
    exact ⟨hl, fun b hb => hK _ _ ⟨by omega, .inr ⟨b, rfl, hb, H.get_same ..⟩⟩ ((Fr.refl _ _).set' hb)⟩
theorem two_rows {vx vn : AV} {l1 l2 : List (List UInt8)} (r1 : Row h vx l1.length 1 (l1.map AV.str)) (r2 : Row h vn l2.length 1 (l2.map AV.str)) (b1 : l1.length ≤ lim) (b2 : l2.length ≤ lim) {P : H → Prop} {K : AV → H → Prop}
    (hP : ∀ h', Fr [] h h' → P h') (hK : ∀ v h', Fr [] h h' → Row h' v (l1 ++ l2).length 1 ((l1 ++ l2).map AV.str) → K v h') :
    mkslA h 9 0 (fillV [] []) fun t70 h => appendA h 9 1 16 t70 vx fun t73 h => againK (P h) <| appendA h 9 1 16 t73 vn fun t76 h => K t76 h := by
  have hs : ∀ l : List (List UInt8), leaves (l.map AV.str) = true := fun l => leaves_map _ (fun _ => rfl) l
  unfold lim at b1 b2
  have hmost : most = 140737488355328 := rfl
  refine ⟨rfl, fun m0 hm0 => ?_⟩
  have f1 : Fr [] h (h.set m0 (.live [] 9 true)) := (Fr.refl _ _).set' hm0
  have g0 : (h.set m0 (.live [] 9 true)).get m0 = some (.live [] 9 true) := H.get_same ..
  change appendA (h.set m0 (.live [] 9 true)) 9 1 16 (.sl m0 0 0 (.exact 0)) vx _
  generalize h.set m0 (.live [] 9 true) = h1 at *
  have r1' := r1.fr f1
  have r2' := r2.fr f1
  refine app_new g0 r1'.src (by simp) (hs _) (by omega) (fun q => ?_) fun v2 h2 o2 f2 => ?_
  · have e1 : l1 = [] := List.eq_nil_of_length_eq_zero q
    subst e1
    rw [show P h1 = True from eq_true (hP h1 f1), againK_t]
    refine app_new g0 r2'.src (by simp) (hs _) (by omega) (fun q => ?_) fun v3 h3 o3 f3 => ?_
    · have e2 : l2 = [] := List.eq_nil_of_length_eq_zero q
      subst e2
      exact hK _ _ f1 ⟨rfl, .inr ⟨m0, 0, _, rfl, rfl, H.read_eq g0 (by simp) rfl⟩⟩
    · exact hK _ _ (f1.trans f3) (by simpa using o3.row)
  · have r2'' := r2'.fr f2
    rw [show P h2 = True from eq_true (hP h2 (f1.trans f2)), againK_t]
    refine append_own o2 r2''.src (by simp) (by decide) (hs _) (hs _) f2 (by omega) fun v3 h3 o3 f3 _ => ?_
    refine hK _ _ (f1.trans f3) ?_
    rw [List.length_append, List.map_append]; exact o3.row
/-- Counted down, so far. -/
def Cnt {α : Type} (h0 : H) (n0 : Int) (w : α → Nat) (l : List α) (i : Nat) (a : AV) (h : H) : Prop := ∃ n : Int, a = .int .i64 n ∧ n = n0 - (sumN w (l.take i) : Nat) ∧ -4503599627370496 ≤ n ∧ n0 ≤ 40000 ∧ Fr [] h0 h
theorem Cnt.zero {α : Type} {h0 : H} {n0 : Int} {w : α → Nat} {l : List α} (h1 : -4503599627370496 ≤ n0) (h2 : n0 ≤ 40000) (f : Fr [] h0 h) : Cnt h0 n0 w l 0 (.int .i64 n0) h := ⟨n0, rfl, by simp [sumN], h1, h2, f⟩
theorem Cnt.fin {α : Type} {h0 : H} {n0 : Int} {w : α → Nat} {l : List α} {a : AV} (c : Cnt h0 n0 w l l.length a h) : ∃ n : Int, a = .int .i64 n ∧ n = n0 - (sumN w l : Nat) ∧ -4503599627370496 ≤ n ∧ n ≤ 40000 ∧ Fr [] h0 h := by
  obtain ⟨n, h1, h2, h3, h4, h5⟩ := c
  rw [List.take_length] at h2
  exact ⟨n, h1, h2, h3, by omega, h5⟩
/-- One step down, or out. -/
theorem down_r {n d : Int} (h1 : -4503599627370496 ≤ n) (h2 : n ≤ 40000) (hd : 0 ≤ d) (hb : d ≤ 4503599627370496) {Y : AV → H → Prop} {out : H → Prop}
    (hX : out h) (hY : 0 ≤ n - d → Y (.int .i64 (n - d)) h) :
    valA (binOp .sub .num (.int .i64 n) (.int .i64 d)) h fun t47 h => valA (binOp .lss .num t47 (.int .i64 0)) h fun t49 h => condA t49 (out h) (Y t47 h) := by
  have e : IntKind.i64.wrap (n - d) = n - d := i64_id (by omega) (by omega)
  rw [b_sub, e, valA_some, b_lss, valA_some]
  by_cases q : n - d < 0
  · rw [decide_eq_true q, condA_t]; exact hX
  · rw [decide_eq_false q, condA_f]
    exact hY (by omega)
theorem Cnt.succ {α : Type} {h0 : H} {n0 : Int} {w : α → Nat} {l : List α} {i : Nat} {x : α} (hx : l[i]? = some x) {n : Int} (hn : n = n0 - (sumN w (l.take i) : Nat)) {n' : Int} (hn' : n' = n - (w x : Nat)) (h1 : -4503599627370496 ≤ n') (h2 : n0 ≤ 40000) (f : Fr [] h0 h) : Cnt h0 n0 w l (i + 1) (.int .i64 n') h :=
  ⟨n', rfl, by rw [sum_succ w hx]; omega, h1, h2, f⟩
theorem Cnt.keep {α : Type} {h0 h' : H} {n0 : Int} {w : α → Nat} {l : List α} {i : Nat} {a : AV} (c : Cnt h0 n0 w l i a h) (f : Fr [] h h') : Cnt h0 n0 w l i a h' := by
  obtain ⟨n, h1, h2, h3, h4, h5⟩ := c
  exact ⟨n, h1, h2, h3, h4, h5.trans f⟩
theorem Cnt.fr {α : Type} {h0 : H} {n0 : Int} {w : α → Nat} {l : List α} {i : Nat} {a : AV} (c : Cnt h0 n0 w l i a h) : Fr [] h0 h := by
  obtain ⟨n, h1, h2, h3, h4, h5⟩ := c; exact h5
theorem reach_47 : reachBytes = 140737488351232 := rfl
set_option maxHeartbeats 1000000 in
theorem light_c {m : Img} {c : List AV} (r : imgR h m c) (ok : m.ok) (b3 : m.strs.length ≤ lim) (b4 : m.names.length ≤ lim) {K : AV → H → Prop} (hK : ∀ h' b, Fr [] h h' → (b = true → wImg m ≤ 40000) → K (.bool b) h') : C 15 [.agg c] h K := by
  refine run15 ?_
  have hl := r.leaves
  have ec : (AV.agg c).cells = c := rfl
  obtain ⟨vt, vs, vx, vn, vf, rfl, r1, r2, r3, r4, r5⟩ := r
  obtain ⟨⟨k1, k1'⟩, ⟨k2, k2'⟩, ⟨k3, k3'⟩, ⟨k4, k4'⟩, ⟨k5, k5'⟩, k6, k7⟩ := ok
  rw [reach_47] at k1 k2 k3 k4 k5
  have reach : ∀ {n : Nat}, n ≤ 140737488351232 → n ≤ reachBytes := fun h => by rw [reach_47]; exact h
  have out : ∀ {h'}, Fr [] h h' → K (.bool false) h' := fun f => hK _ false f (by simp)
  unfold sh15
  rw [ec]
  refine box_r hl fun b hb => ?_
  have f0 : Fr [] h (h.set b (.live [vt, vs, vx, vn, vf, .int .i64 m.main, .int .i64 m.exn] 34 true)) := (Fr.refl _ _).set' hb
  have gb : (h.set b (.live [vt, vs, vx, vn, vf, .int .i64 m.main, .int .i64 m.exn] 34 true)).get b = some (.live [vt, vs, vx, vn, vf, .int .i64 m.main, .int .i64 m.exn] 34 true) := H.get_same ..
  have r1 := r1.mono f0 fun _ _ _ => tyR.fr f0
  have r2 := r2.mono f0 fun _ _ _ => shR.fr f0
  have r3 := r3.mono f0 fun _ _ _ x => x
  have r4 := r4.mono f0 fun _ _ _ x => x
  have r5 := r5.mono f0 fun _ _ _ => fnR.fr f0
  generalize h.set b (.live [vt, vs, vx, vn, vf, .int .i64 m.main, .int .i64 m.exn] 34 true) = h1 at *
  have cb : ∀ {h5 : H}, Fr [] h1 h5 → ∀ o v, ([vt, vs, vx, vn, vf, AV.int .i64 m.main, .int .i64 m.exn] : List AV)[o]? = some v → h5.cell b o = some v := fun f o v e => by rw [cell_of (f b _ (by simp) gb)]; exact e
  have w1 : IntKind.i64.wrap (40000 - (m.types.length : Int)) = 40000 - m.types.length := i64_id (by omega) (by omega)
  have w2 : IntKind.i64.wrap (40000 - (m.types.length : Int) - m.shapes.length) = 40000 - m.types.length - m.shapes.length := i64_id (by omega) (by omega)
  have w3 : IntKind.i64.wrap (40000 - (m.types.length : Int) - m.shapes.length - m.strs.length) = 40000 - m.types.length - m.shapes.length - m.strs.length := i64_id (by omega) (by omega)
  have w4 : IntKind.i64.wrap (40000 - (m.types.length : Int) - m.shapes.length - m.strs.length - m.names.length) = 40000 - m.types.length - m.shapes.length - m.strs.length - m.names.length := i64_id (by omega) (by omega)
  have w5 : IntKind.i64.wrap (40000 - (m.types.length : Int) - m.shapes.length - m.strs.length - m.names.length - m.fns.length) = 40000 - m.types.length - m.shapes.length - m.strs.length - m.names.length - m.fns.length := i64_id (by omega) (by omega)
  have fR := Fr.refl [] h1
  refine fld_r (cb fR 0 _ rfl) ?_
  rw [r1.len, valA_some, b_sub, w1, valA_some]
  refine fld_r (cb fR 1 _ rfl) ?_
  rw [r2.len, valA_some, b_sub, w2, valA_some]
  refine fld_r (cb fR 2 _ rfl) ?_
  rw [r3.len, valA_some, b_sub, w3, valA_some]
  refine fld_r (cb fR 3 _ rfl) ?_
  rw [r4.len, valA_some, b_sub, w4, valA_some]
  refine fld_r (cb fR 4 _ rfl) ?_
  rw [r5.len, valA_some, b_sub, w5, valA_some]
  obtain ⟨n0, hn0⟩ : ∃ n0 : Int, 40000 - (m.types.length : Int) - m.shapes.length - m.strs.length - m.names.length - m.fns.length = n0 := ⟨_, rfl⟩
  rw [hn0]
  refine join_r (fun (J : AV → H → Prop) => ∀ n h', Fr [] h1 h' → n = n0 - (sumN wTy m.types : Nat) → -4503599627370496 ≤ n → n ≤ 40000 → J (.int .i64 n) h') ?_ fun J hJ => ?_
  · intro n h2 f2 e2 e2' e2''
    refine join_r (fun (J : AV → H → Prop) => ∀ n' h', Fr [] h1 h' → n' = n - (sumN wShp m.shapes : Nat) → -4503599627370496 ≤ n' → n' ≤ 40000 → J (.int .i64 n') h') ?_ fun J hJ => ?_
    · intro n3 h3 f3 e3 e3' e3''
      refine join_r (fun (J : AV → H → Prop) => ∀ n' h', Fr [] h1 h' → n' = n3 - (sumN wStr (m.strs ++ m.names) : Nat) → -4503599627370496 ≤ n' → n' ≤ 40000 → J (.int .i64 n') h') ?_ fun J hJ => ?_
      · intro n4 h4 f4 e4 e4' e4''
        refine join_r (fun (J : AV → H → Prop) => ∀ n' h', Fr [] h1 h' → n' = n4 - (sumN wFn m.fns : Nat) → J (.int .i64 n') h') ?_ fun J hJ => ?_
        · intro n5 h5 f5 e5
          rw [b_geq, valA_some]
          refine hK h5 _ (f0.trans f5) fun q => ?_
          have q := of_decide_eq_true q
          unfold wImg; omega
        · refine fld_r (cb f4 4 _ rfl) ?_
          rw [r5.len, valA_some]
          refine accj_r (h0 := h1) (esz := 4) (ty := 51) (zs := [.nilsl, .int .i64 0, .int .i64 0, .nilsl]) (Rel := fnR) (fun r => fnR.leaves r) rfl rfl r5 (reach k5) (Inv := Cnt h1 n4 wFn m.fns) (Cnt.zero e4' e4'' f4) (fun i a h i1 => i1.fr) (fun i a h h' i1 f => i1.keep f) (fun a h2 i1 => ?_) ?_
          · obtain ⟨n, rfl, e, _, _, f⟩ := i1.fin; exact hJ n h2 f e
          · rintro N i x a hx en h5 d c ⟨n, rfl, en1, en2, en3, f5⟩ gd re hc hN
            obtain ⟨vp, vb, rfl, q1, q2⟩ := re
            obtain ⟨o1, o2, o3, o4, o5⟩ := k5' x (List.mem_of_getElem? hx)
            have o1 := o1.1
            rw [reach_47] at o1 o4
            have cd : ∀ {h6 : H}, Fr [] h5 h6 → ∀ o w, ([vp, AV.int .i64 x.result, .int .i64 x.slots, vb] : List AV)[o]? = some w → h6.cell d o = some w := fun f o w e => by rw [cell_of (f d _ (by simp) gd)]; exact e
            have ea : IntKind.i64.wrap ((x.params.length : Int) + x.blocks.length) = x.params.length + x.blocks.length := i64_id (by omega) (by omega)
            refine fld_r (cd (Fr.refl _ _) 0 _ rfl) ?_
            rw [q1.len, valA_some]
            refine fld_r (cd (Fr.refl _ _) 3 _ rfl) ?_
            rw [q2.len, valA_some, b_add, ea, valA_some]
            refine down_r (d := (x.params.length : Int) + x.blocks.length) en2 (by omega) (by omega) (by omega) ?_ fun hge => ?_
            · exact out (f0.trans f5)
            refine fld_r (cd (Fr.refl _ _) 3 _ rfl) ?_
            rw [q2.len, valA_some]
            refine accj_r (h0 := h1) (esz := 2) (ty := 58) (zs := [.nilsl, .nilsl]) (Rel := blkR) (fun r => blkR.leaves r) rfl rfl q2 (reach o4) (Inv := Cnt h1 (n - ((x.params.length : Int) + x.blocks.length)) wBlk x.blocks) (Cnt.zero (by omega) (by omega) f5) (fun i a h i1 => i1.fr) (fun i a h h' i1 f => i1.keep f) (fun a h2 i1 => ?_) ?_
            · obtain ⟨n', rfl, e, e', _, f⟩ := i1.fin
              exact hN _ h2 (Cnt.succ hx en1 (by unfold wFn; omega) e' en3 f)
            · rintro N i y a hy en h6 d c ⟨n, rfl, en1, en2, en3, f6⟩ gd re hc hN
              obtain ⟨vi, vc, rfl, p1, p2⟩ := re
              obtain ⟨u1, u2, u3⟩ := o5 y (List.mem_of_getElem? hy)
              have u1 := u1.1
              rw [reach_47] at u1 u2
              have cd : ∀ {h7 : H}, Fr [] h6 h7 → ∀ o w, ([vi, vc] : List AV)[o]? = some w → h7.cell d o = some w := fun f o w e => by rw [cell_of (f d _ (by simp) gd)]; exact e
              have ea : IntKind.i64.wrap ((y.inn.length : Int) + y.code.length) = y.inn.length + y.code.length := i64_id (by omega) (by omega)
              refine fld_r (cd (Fr.refl _ _) 0 _ rfl) ?_
              rw [p1.len, valA_some]
              refine fld_r (cd (Fr.refl _ _) 1 _ rfl) ?_
              rw [p2.len, valA_some, b_add, ea, valA_some]
              refine down_r (d := (y.inn.length : Int) + y.code.length) en2 (by omega) (by omega) (by omega) ?_ fun hge => ?_
              · exact out (f0.trans f6)
              refine fld_r (cd (Fr.refl _ _) 1 _ rfl) ?_
              rw [p2.len, valA_some]
              refine acc_r (h0 := h1) (esz := 9) (ty := 24) (zs := [.int .i64 0, .int .i64 0, .int .i64 0, .int .i64 0, .int .i64 0, .int .i64 0, .nilsl, .nilsl, .nilsl]) (Rel := insR) (fun r => insR.leaves r) rfl rfl p2 (reach u2) (Inv := Cnt h1 (n - ((y.inn.length : Int) + y.code.length)) wIns y.code) (Cnt.zero (by omega) (by omega) f6) (fun i a h i1 => i1.fr) (fun i a h h' i1 f => i1.keep f) (fun a h2 i1 => ?_) ?_
              · obtain ⟨n', rfl, e, e', _, f⟩ := i1.fin
                exact hN _ h2 (Cnt.succ hy en1 (by unfold wBlk; omega) e' en3 f)
              · rintro N i z a hz en h7 d c ⟨n, rfl, en1, en2, en3, f7⟩ gd re hc hN
                obtain ⟨vl, vm, vv, rfl, z1, z2, z3⟩ := re
                obtain ⟨_, t1, t2, t3⟩ := u3 z (List.mem_of_getElem? hz)
                have t1 := t1.1
                have t2 := t2.1
                have t3 := t3.1
                rw [reach_47] at t1 t2 t3
                have cd : ∀ o w, ([AV.int .i64 z.op, .int .i64 z.d, .int .i64 z.a, .int .i64 z.b, .int .i64 z.c, .int .i64 z.n, vl, vm, vv] : List AV)[o]? = some w → h7.cell d o = some w := fun o w e => by rw [cell_of gd]; exact e
                have ea : IntKind.i64.wrap ((z.l.length : Int) + z.m.length) = z.l.length + z.m.length := i64_id (by omega) (by omega)
                have eb : IntKind.i64.wrap ((z.l.length : Int) + z.m.length + z.live.length) = z.l.length + z.m.length + z.live.length := i64_id (by omega) (by omega)
                refine fld_r (cd 6 _ rfl) ?_
                rw [z1.len, valA_some]
                refine fld_r (cd 7 _ rfl) ?_
                rw [z2.len, valA_some, b_add, ea, valA_some]
                refine fld_r (cd 8 _ rfl) ?_
                rw [z3.len, valA_some, b_add, eb, valA_some]
                refine down_r (d := (z.l.length : Int) + z.m.length + z.live.length) en2 (by omega) (by omega) (by omega) ?_ fun hge => ?_
                · exact out (f0.trans f7)
                rw [b_add, en, valA_some]
                exact hN _ h7 (Cnt.succ hz en1 (by unfold wIns; omega) (by omega) en3 f7)
      · refine fld_r (cb f3 2 _ rfl) ?_
        refine fld_r (cb f3 3 _ rfl) ?_
        refine two_rows ((strs_row r3).fr f3) ((strs_row r4).fr f3) b3 b4 (fun h' f' => ?_) fun v h4 f4 rv => ?_
        · rw [ldA_n, Nat.zero_add, cb (f3.trans f') 3 _ rfl]; rfl
        · rw [rv.len, valA_some]
          have f14 := f3.trans f4
          refine acc1_r (h0 := h4) rv (by rw [reach_47]; unfold lim at b3 b4; simp only [List.length_append]; omega) (Inv := Cnt h4 n3 wStr (m.strs ++ m.names)) (Cnt.zero e3' e3'' (Fr.refl _ _)) (fun i a h i1 => i1.fr) (fun a h2 i1 => ?_) ?_
          · obtain ⟨n, rfl, e, e', e'', f⟩ := i1.fin; exact hJ n h2 (f14.trans f) e e' e''
          · rintro N i x a hx en h5 ⟨n, rfl, en1, en2, en3, f5⟩ hN
            have hx' : x.length ≤ 140737488351232 := by
              rw [← reach_47]
              rcases List.mem_append.1 (List.mem_of_getElem? hx) with q | q
              · exact k3' x q
              · exact k4' x q
            rw [show lenA true (.str x) = some (.int .i64 x.length) from rfl, valA_some]
            refine down_r (d := (x.length : Int)) en2 (by omega) (by omega) (by omega) ?_ fun hge => ?_
            · exact out ((f0.trans f14).trans f5)
            rw [b_add, en, valA_some]
            exact hN _ h5 (Cnt.succ hx en1 rfl (by omega) en3 f5)
    · refine fld_r (cb f2 1 _ rfl) ?_
      rw [r2.len, valA_some]
      refine acc_r (h0 := h1) (esz := 3) (ty := 55) (zs := [.int .i64 0, .nilsl, .str []]) (Rel := shR) (fun r => shR.leaves r) rfl rfl r2 (reach k2) (Inv := Cnt h1 n wShp m.shapes) (Cnt.zero e2' e2'' f2) (fun i a h i1 => i1.fr) (fun i a h h' i1 f => i1.keep f) (fun a h2 i1 => ?_) ?_
      · obtain ⟨n, rfl, e, e', e'', f⟩ := i1.fin; exact hJ n h2 f e e' e''
      · rintro N i x a hx en h5 d c ⟨n, rfl, en1, en2, en3, f5⟩ gd re hc hN
        obtain ⟨v, rfl, rr⟩ := re
        obtain ⟨o1, o2, o3⟩ := k2' x (List.mem_of_getElem? hx)
        have o2 := o2.1
        rw [reach_47] at o2 o3
        have cd : ∀ o w, ([AV.int .i64 x.kind, v, .str x.name] : List AV)[o]? = some w → h5.cell d o = some w := fun o w e => by rw [cell_of gd]; exact e
        have ea : IntKind.i64.wrap ((x.fs.length : Int) + x.name.length) = x.fs.length + x.name.length := i64_id (by omega) (by omega)
        refine fld_r (cd 1 _ rfl) ?_
        rw [rr.len, valA_some]
        refine fld_r (cd 2 _ rfl) ?_
        rw [show lenA true (.str x.name) = some (.int .i64 x.name.length) from rfl, valA_some, b_add, ea, valA_some]
        refine down_r (d := (x.fs.length : Int) + x.name.length) en2 (by omega) (by omega) (by omega) ?_ fun hge => ?_
        · exact out (f0.trans f5)
        rw [b_add, en, valA_some]
        exact hN _ h5 (Cnt.succ hx en1 (by unfold wShp; omega) (by omega) en3 f5)
  · refine fld_r (cb fR 0 _ rfl) ?_
    rw [r1.len, valA_some]
    refine acc_r (h0 := h1) (esz := 2) (ty := 53) (zs := [.bool false, .nilsl]) (Rel := tyR) (fun r => tyR.leaves r) rfl rfl r1 (reach k1) (Inv := Cnt h1 n0 wTy m.types) (Cnt.zero (by omega) (by omega) fR) (fun i a h i1 => i1.fr) (fun i a h h' i1 f => i1.keep f) (fun a h2 i1 => ?_) ?_
    · obtain ⟨n, rfl, e, e', e'', f⟩ := i1.fin; exact hJ n h2 f e e' e''
    · rintro N i x a hx en h5 d c ⟨n, rfl, en1, en2, en3, f5⟩ gd re hc hN
      obtain ⟨v, rfl, rr⟩ := re
      have o2 := (k1' x (List.mem_of_getElem? hx)).1
      rw [reach_47] at o2
      have cd : ∀ o w, ([AV.bool x.imm, v] : List AV)[o]? = some w → h5.cell d o = some w := fun o w e => by rw [cell_of gd]; exact e
      refine fld_r (cd 1 _ rfl) ?_
      rw [rr.len, valA_some]
      refine down_r (d := (x.sh.length : Int)) en2 (by omega) (by omega) (by omega) ?_ fun hge => ?_
      · exact out (f0.trans f5)
      rw [b_add, en, valA_some]
      exact hN _ h5 (Cnt.succ hx en1 (by unfold wTy; omega) (by omega) en3 f5)
end
end Go.Proofs.Ytgcnliikibbcnaa.X
set_option linter.unusedVariables false
set_option linter.unusedSimpArgs false
set_option maxRecDepth 20000
namespace Go.Proofs.Ytgcnliikibbcnaa.X
open Go Go.RowKit
/-! ### How many bytes -/
theorem num_le {n : Int} (h : rg n) : (numB n).length ≤ 10 := putL_len64 (zig_lt h.1 h.2)
theorem many_le {α : Type} {e : α → List Nat} {w : α → Nat} {l : List α} {C D : Nat} (hl : l.length ≤ reachBytes) (h : ∀ x ∈ l, (e x).length ≤ C + D * w x) : (manyB e l).length ≤ 10 + C * l.length + D * sumN w l := by
  unfold manyB
  have h1 := num_le (rg_nat hl)
  have h2 : (l.flatMap e).length ≤ C * l.length + D * sumN w l := by
    clear hl h1
    induction l with
    | nil => simp [sumN]
    | cons x l ih =>
      have i1 := h x (by simp)
      have i2 := ih fun y hy => h y (by simp [hy])
      have e1 : sumN w (x :: l) = w x + sumN w l := by simp [sumN]
      rw [List.flatMap_cons, List.length_append, List.length_cons, e1, Nat.mul_add, Nat.mul_add]; omega
  rw [List.length_append]; omega
theorem nums_le {l : List Int} (h : rgs l) : (numsB l).length ≤ 10 + 10 * l.length := by
  have := many_le (e := numB) (w := fun _ => 0) (C := 10) (D := 0) h.1 fun x hx => by have := num_le (h.2 x hx); omega
  unfold numsB; omega
theorem text_le {s : List UInt8} (h : s.length ≤ reachBytes) : (textB s).length ≤ 10 + 1 * wStr s := by
  have := num_le (rg_nat h)
  unfold textB wStr; simp only [List.length_append, List.length_map]; omega
theorem ty_le {t : Ty} (h : t.ok) : (tyB t).length ≤ 20 + 10 * wTy t := by
  have := nums_le h
  have := num_le (n := if t.imm then 1 else 0) (by unfold rg; split <;> omega)
  unfold tyB wTy; simp only [List.length_append]; omega
theorem shp_le {s : Shp} (h : s.ok) : (shB s).length ≤ 30 + 10 * wShp s := by
  have := num_le h.1
  have := nums_le h.2.1
  have := text_le h.2.2
  unfold shB wShp; unfold wStr at this; simp only [List.length_append]; omega
theorem fld_le {x : Ins} (h : x.ok) (c : UInt8) : (fldB x c).length ≤ 10 + 10 * wIns x := by
  obtain ⟨⟨o1, o2, o3, o4, o5, o6⟩, o7, o8, o9⟩ := h
  have := num_le o2; have := num_le o3; have := num_le o4; have := num_le o5; have := num_le o6
  have := nums_le o7; have := nums_le o8; have := nums_le o9
  unfold fldB wIns
  repeat' split
  all_goals omega
theorem uses_six (op : Int) : (usesN op).length ≤ 6 := by
  rcases op_cases op with q | q
  · rcases q with rfl | rfl | rfl | rfl | rfl | rfl | rfl | rfl | rfl | rfl | rfl | rfl | rfl | rfl | rfl | rfl | rfl | rfl | rfl | rfl | rfl | rfl | rfl | rfl <;> decide
  · rw [usesN_out q]; decide
theorem flds_le {x : Ins} (h : x.ok) : ∀ u : List UInt8, (u.flatMap (fldB x)).length ≤ u.length * (10 + 10 * wIns x)
  | [] => by simp
  | c :: u => by
    have := flds_le h u
    have := fld_le h c
    rw [List.flatMap_cons, List.length_append, List.length_cons, Nat.add_mul]; omega
theorem ins_le {x : Ins} (h : x.ok) : (insB x).length ≤ 70 + 60 * wIns x := by
  have := num_le h.1.1
  have h2 := flds_le h (usesN x.op)
  have h3 : (usesN x.op).length * (10 + 10 * wIns x) ≤ 6 * (10 + 10 * wIns x) := Nat.mul_le_mul_right _ (uses_six x.op)
  unfold insB; rw [List.length_append]; omega
theorem blk_le {b : Blk} (h : b.ok) : (blkB b).length ≤ 20 + 70 * wBlk b := by
  have := nums_le h.1
  have := many_le (e := insB) (w := wIns) h.2.1 fun x hx => ins_le (h.2.2 x hx)
  unfold blkB wBlk; rw [List.length_append]; omega
theorem fn_le {f : Fn} (h : f.ok) : (fnB f).length ≤ 40 + 70 * wFn f := by
  obtain ⟨o1, o2, o3, o4, o5⟩ := h
  have := nums_le o1
  have := num_le o2
  have := num_le o3
  have := many_le (e := blkB) (w := wBlk) o4 fun x hx => blk_le (o5 x hx)
  unfold fnB wFn; simp only [List.length_append]; omega
theorem sum_app {α : Type} (w : α → Nat) (a b : List α) : sumN w (a ++ b) = sumN w a + sumN w b := by unfold sumN; rw [List.map_append, List.sum_append]
theorem img_le {m : Img} (h : m.ok) : (bytesI m).length ≤ 74 + 70 * wImg m := by
  obtain ⟨⟨k1, k1'⟩, ⟨k2, k2'⟩, ⟨k3, k3'⟩, ⟨k4, k4'⟩, ⟨k5, k5'⟩, k6, k7⟩ := h
  have := many_le (e := tyB) (w := wTy) k1 fun x hx => ty_le (k1' x hx)
  have := many_le (e := shB) (w := wShp) k2 fun x hx => shp_le (k2' x hx)
  have := many_le (e := textB) (w := wStr) k3 fun x hx => text_le (k3' x hx)
  have := many_le (e := textB) (w := wStr) k4 fun x hx => text_le (k4' x hx)
  have := many_le (e := fnB) (w := wFn) k5 fun x hx => fn_le (k5' x hx)
  have := num_le k6
  have := num_le k7
  have e : headB.length = 4 := rfl
  unfold bytesI wImg; rw [sum_app]; simp only [List.length_append, e]; omega
theorem most_47 : most = 140737488355328 := rfl
theorem light_le {m : Img} (h : m.ok) (hl : wImg m ≤ 40000) : (bytesI m).length ≤ most ∧ (bytesI m).length ≤ 2800074 := by
  have := img_le h; rw [most_47]; omega
section
variable {h : H}
theorem short_img {ls : List (List AV)} {l : List AV} {m : Img} (hs : Short lim ls) (hl : l ∈ ls) (r : imgR h m l) : m.strs.length ≤ lim ∧ m.names.length ≤ lim := by
  obtain ⟨vt, vs, vx, vn, vf, rfl, _, _, r3, r4, _⟩ := r
  have one : ∀ {v : AV} {l : List (List UInt8)}, RowOf h 1 stR v l → (v ∈ ([vt, vs, vx, vn, vf, .int .i64 m.main, .int .i64 m.exn] : List AV)) → l.length ≤ lim := by
    intro v l r hv
    obtain ⟨_, _, _, _, r⟩ := r
    rcases r.2 with ⟨q, _⟩ | ⟨b, off, cap, rfl, _, _⟩
    · omega
    · exact hs _ hl b off _ cap hv
  exact ⟨one r3 (by simp), one r4 (by simp)⟩
/-- An image, handed over, in its box. -/
theorem img_box {l : List AV} {m : Img} (r : imgR h m l) {K : AV → H → Prop} (hK : ∀ b h1, Fr [] h h1 → h.get b = none → h1.get b = some (.live l 34 true) → imgR h1 m l → (∀ h2, Fr [] h1 h2 → h2.read b 0 7 = some l) → K (.ptr b 0) h1) : boxA h (AV.cells (.agg l)) 34 K := by
  have hl := r.shape.1
  show boxA h l 34 K
  refine box_r r.leaves fun b hb => ?_
  have f : Fr [] h (h.set b (.live l 34 true)) := (Fr.refl _ _).set' hb
  exact hK b _ f hb (H.get_same ..) (r.fr f) fun h2 f2 => H.read_eq (f2 b _ (by simp) (H.get_same ..)) (by omega) (by rw [List.drop_zero, List.take_of_length_le (by omega)])
end
end Go.Proofs.Ytgcnliikibbcnaa.X
set_option linter.unusedVariables false
set_option linter.unusedSimpArgs false
set_option maxRecDepth 20000
namespace Go.Proofs.Ytgcnliikibbcnaa.X
open Go Go.RowKit
section
variable {h : H}
theorem bytes_pos (m : Img) : 0 < (bytesI m).length := by
  have e : headB.length = 4 := rfl
  unfold bytesI; simp only [List.length_append, e]; omega
end
end Go.Proofs.Ytgcnliikibbcnaa.X
set_option linter.unusedVariables false
set_option linter.unusedSimpArgs false
set_option maxRecDepth 20000
namespace Go.Proofs.Ytgcnliikibbcnaa.X
open Go Go.RowKit
/-- Is it the same? -/
noncomputable def eqB {α : Type} (a b : α) : Bool := open Classical in decide (a = b)
theorem eqB_t {α : Type} {a b : α} (h : a = b) : eqB a b = true := by unfold eqB; simp [h]
theorem eqB_f {α : Type} {a b : α} (h : a ≠ b) : eqB a b = false := by unfold eqB; simp [h]
theorem eqB_iff {α : Type} {a b : α} : eqB a b = true ↔ a = b := by unfold eqB; simp
theorem eqB_self {α : Type} (a : α) : eqB a a = true := eqB_t rfl
theorem eqB_dec {α : Type} [DecidableEq α] (a b : α) : decide (a = b) = eqB a b := by
  by_cases h : a = b
  · rw [eqB_t h, decide_eq_true h]
  · rw [eqB_f h, decide_eq_false h]
theorem eqB_of {α : Type} {a b : α} {p : Bool} (h : p = true ↔ a = b) : p = eqB a b := by
  by_cases q : a = b
  · rw [eqB_t q]; exact h.2 q
  · rw [eqB_f q]; exact Bool.eq_false_iff.2 fun e => q (h.1 e)
theorem take_diff {α : Type} {l1 l2 : List α} {i : Nat} {x y : α} (h1 : l1[i]? = some x) (h2 : l2[i]? = some y) (h : x ≠ y) : l1 ≠ l2 := by
  rintro rfl
  rw [h1] at h2; injection h2 with h2; exact h h2
theorem take_same {α : Type} {l1 l2 : List α} {i : Nat} {x : α} (h1 : l1[i]? = some x) (h2 : l2[i]? = some x) (h : l1.take i = l2.take i) : l1.take (i + 1) = l2.take (i + 1) := by
  rw [List.take_add_one, List.take_add_one, h1, h2, h]
theorem take_full {α : Type} {l1 l2 : List α} {i : Nat} (hi : ¬ i < l1.length) (hl : l1.length = l2.length) (h : l1.take i = l2.take i) : l1 = l2 := by
  rwa [List.take_of_length_le (by omega), List.take_of_length_le (by omega)] at h
section
variable {h : H}
/-- Two elements are compared by a function E. -/
def EqC {α : Type} (h : H) (E : Nat) (Rel : H → α → List AV → Prop) : Prop := ∀ (h' : H) (x y : α) (c d : List AV), Fr [] h h' → Rel h' x c → Rel h' y d → ∀ K : AV → H → Prop, (∀ h'', Fr [] h' h'' → K (.bool (eqB x y)) h'') → C E [.agg c, .agg d] h' K
theorem eqf_r {α : Type} {esz ty E : Nat} {zs : List AV} {v1 v2 : AV} {l1 l2 : List α} {Rel : H → α → List AV → Prop} (hmono : ∀ {h h' : H} {x c}, Fr [] h h' → Rel h x c → Rel h' x c) (hleaf : ∀ {h : H} {x c}, Rel h x c → leaves c = true) (hz : zs.length = esz) (lz : leaves zs = true)
    (r1 : RowOf h esz (Rel h) v1 l1) (r2 : RowOf h esz (Rel h) v2 l2) (hl : l1.length ≤ reachBytes) (hE : EqC h E Rel) {K : AV → H → Prop} (hK : ∀ h', Fr [] h h' → K (.bool (eqB l1 l2)) h') :
    valA (lenA false v1) h fun t11 h =>
    valA (lenA false v2) h fun t13 h =>
    valA (binOp .neq .num t11 t13) h fun t14 h =>
    condA t14 (K (.bool false) h)
     (joinA (fun (h : H) => K (.bool true) h) fun J =>
     valA (lenA false v1) h fun t16 h =>
     loopA (fun N l h => argA l 0 fun t17 => valA (binOp .lss .num t17 t16) h fun t18 h => condA t18
      (valA (iaA esz v1 t17) h fun t20 h =>
      valA (ldA h (some esz) t20) h fun t21 h =>
      boxA h zs ty fun v18 h =>
      memA (stA h esz v18 t21) .undef fun _ h =>
      valA (iaA esz v2 t17) h fun t24 h =>
      valA (ldA h (some esz) t24) h fun t25 h =>
      boxA h zs ty fun v29 h =>
      memA (stA h esz v29 t25) .undef fun _ h =>
      valA (ldA h (some esz) v18) h fun t27 h =>
      valA (ldA h (some esz) v29) h fun t28 h =>
      callvA C (.fn E [] []) [t27, t28] h fun t29 h =>
      valA (unOp .not t29) h fun t30 h =>
      condA t30 (K (.bool false) h)
       (valA (binOp .add .num t17 (.int .i64 1)) h fun t31 h => N [t31] h)) (J h)) [.int .i64 0] h) := by
  have hr : reachBytes ≤ 4611686018427387903 := by decide
  rw [r1.len, valA_some, r2.len, valA_some, b_neq, valA_some]
  by_cases hll : (l1.length : Int) = l2.length
  · rw [decide_eq_false (by simpa using hll), condA_f]
    have hll' : l1.length = l2.length := by omega
    refine join_r (fun (J : H → Prop) => ∀ h', Fr [] h h' → l1 = l2 → J h') (fun h' f e => by have := hK h' f; rwa [eqB_t e] at this) fun J hJ => ?_
    rw [valA_some]
    refine loop_r (l1.length + 1) (fun k ls h2 => ∃ i : Nat, ls = [.int .i64 i] ∧ i ≤ l1.length ∧ l1.take i = l2.take i ∧ Fr [] h h2 ∧ k = l1.length + 1 - i) ⟨0, rfl, by omega, rfl, Fr.refl _ _, rfl⟩ ?_
    rintro k ls h2 ⟨i, rfl, hi, ha, f, rfl⟩
    by_cases q : (i : Int) < l1.length
    · have hi' : i < l1.length := by omega
      have hi2 : i < l2.length := by omega
      obtain ⟨x, hx⟩ : ∃ x, l1[i]? = some x := ⟨l1[i], by simp [hi']⟩
      obtain ⟨y, hy⟩ : ∃ y, l2[i]? = some y := ⟨l2[i], by simp [hi2]⟩
      obtain ⟨b, o, c, e1, e2, e3, e4, e5⟩ := (r1.mono f fun _ _ _ z => hmono f z).el hx
      have en : IntKind.i64.wrap ((i : Int) + 1) = ((i + 1 : Nat) : Int) := by rw [i64_id (by omega) (by omega)]; rfl
      rw [argA_0, b_lss, valA_some, decide_eq_true q, condA_t, e1, valA_some, ldA_read e4, valA_some]
      refine box_r lz fun d hd => ?_
      rw [copy_st e3 hz (hleaf e2), memA_some]
      have fd : Fr [] h2 (h2.set d (.live c ty true)) := (Fr.refl _ _).set' hd
      have gd : (h2.set d (.live c ty true)).get d = some (.live c ty true) := H.get_same ..
      have e2 := hmono fd e2
      generalize h2.set d (.live c ty true) = h3 at *
      obtain ⟨b', o', c', u1, u2, u3, u4, u5⟩ := (r2.mono (f.trans fd) fun _ _ _ z => hmono (f.trans fd) z).el hy
      rw [u1, valA_some, ldA_read u4, valA_some]
      refine box_r lz fun d' hd' => ?_
      rw [copy_st u3 hz (hleaf u2), memA_some]
      have fd' : Fr [] h3 (h3.set d' (.live c' ty true)) := (Fr.refl _ _).set' hd'
      have gd' : (h3.set d' (.live c' ty true)).get d' = some (.live c' ty true) := H.get_same ..
      have e2 := hmono fd' e2
      have u2 := hmono fd' u2
      have gd := fd' d _ (by simp) gd
      generalize h3.set d' (.live c' ty true) = h4 at *
      rw [ldA_read (H.read_eq gd (by omega) (by rw [List.drop_zero, List.take_of_length_le (by omega)])), valA_some, ldA_read (H.read_eq gd' (by omega) (by rw [List.drop_zero, List.take_of_length_le (by omega)])), valA_some, callvA_f]
      have f4 := (f.trans fd).trans fd'
      refine hE h4 x y c c' f4 e2 u2 _ fun h5 f5 => ?_
      rw [u_not, valA_some]
      by_cases hxy : x = y
      · subst hxy
        rw [eqB_self, show (!true) = false from rfl, condA_f, b_add, en, valA_some]
        exact ⟨l1.length + 1 - (i + 1), by omega, i + 1, rfl, by omega, take_same hx hy ha, f4.trans f5, rfl⟩
      · rw [eqB_f hxy, show (!false) = true from rfl, condA_t]
        have := hK h5 (f4.trans f5)
        rwa [eqB_f (take_diff hx hy hxy)] at this
    · rw [argA_0, b_lss, valA_some, decide_eq_false q, condA_f]
      exact hJ h2 f (take_full (by omega) hll' ha)
  · rw [decide_eq_true (by simpa using hll), condA_t]
    have := hK h (Fr.refl _ _)
    rwa [eqB_f (fun e => hll (by rw [e]))] at this
theorem eq1_r {α : Type} {v1 v2 : AV} {l1 l2 : List α} {val : α → AV} (r1 : Row h v1 l1.length 1 (l1.map val)) (r2 : Row h v2 l2.length 1 (l2.map val)) (hl : l1.length ≤ reachBytes) (hv : ∀ x y, binOp .neq .num (val x) (val y) = some (.bool (!eqB x y))) {K : AV → H → Prop} (hK : K (.bool (eqB l1 l2)) h) :
    valA (lenA false v1) h fun t7 h =>
    valA (lenA false v2) h fun t9 h =>
    valA (binOp .neq .num t7 t9) h fun t10 h =>
    condA t10 (K (.bool false) h)
     (joinA (fun (h : H) => K (.bool true) h) fun J =>
     valA (lenA false v1) h fun t12 h =>
     loopA (fun N l h => argA l 0 fun t13 => valA (binOp .lss .num t13 t12) h fun t14 h => condA t14
      (valA (iaA 1 v1 t13) h fun t18 h =>
      valA (ldA h none t18) h fun t19 h =>
      valA (iaA 1 v2 t13) h fun t22 h =>
      valA (ldA h none t22) h fun t23 h =>
      valA (binOp .neq .num t19 t23) h fun t24 h =>
      condA t24 (K (.bool false) h)
       (valA (binOp .add .num t13 (.int .i64 1)) h fun t25 h => N [t25] h)) (J h)) [.int .i64 0] h) := by
  have hr : reachBytes ≤ 4611686018427387903 := by decide
  rw [r1.len, valA_some, r2.len, valA_some, b_neq, valA_some]
  by_cases hll : (l1.length : Int) = l2.length
  · rw [decide_eq_false (by simpa using hll), condA_f]
    have hll' : l1.length = l2.length := by omega
    refine join_r (fun (J : H → Prop) => l1 = l2 → J h) (fun e => by rwa [eqB_t e] at hK) fun J hJ => ?_
    rw [valA_some]
    refine loop_r (l1.length + 1) (fun k ls h2 => ∃ i : Nat, ls = [.int .i64 i] ∧ i ≤ l1.length ∧ l1.take i = l2.take i ∧ h2 = h ∧ k = l1.length + 1 - i) ⟨0, rfl, by omega, rfl, rfl, rfl⟩ ?_
    rintro k ls h2 ⟨i, rfl, hi, ha, eh, rfl⟩
    rw [eh]
    by_cases q : (i : Int) < l1.length
    · have hi' : i < l1.length := by omega
      have hi2 : i < l2.length := by omega
      obtain ⟨x, hx⟩ : ∃ x, l1[i]? = some x := ⟨l1[i], by simp [hi']⟩
      obtain ⟨y, hy⟩ : ∃ y, l2[i]? = some y := ⟨l2[i], by simp [hi2]⟩
      obtain ⟨b, o, e1, e2⟩ := r1.at (i := i) (x := val x) (by omega) q (by rw [Int.toNat_natCast, List.getElem?_map, hx]; rfl)
      obtain ⟨b', o', u1, u2⟩ := r2.at (i := i) (x := val y) (by omega) (by omega) (by rw [Int.toNat_natCast, List.getElem?_map, hy]; rfl)
      have en : IntKind.i64.wrap ((i : Int) + 1) = ((i + 1 : Nat) : Int) := by rw [i64_id (by omega) (by omega)]; rfl
      rw [argA_0, b_lss, valA_some, decide_eq_true q, condA_t, e1, valA_some, ldA_n, e2, valA_some, u1, valA_some, ldA_n, u2, valA_some, hv, valA_some]
      by_cases hxy : x = y
      · subst hxy
        rw [eqB_self, show (!true) = false from rfl, condA_f, b_add, en, valA_some]
        exact ⟨l1.length + 1 - (i + 1), by omega, i + 1, rfl, by omega, take_same hx hy ha, rfl, rfl⟩
      · rw [eqB_f hxy, show (!false) = true from rfl, condA_t]
        rwa [eqB_f (take_diff hx hy hxy)] at hK
    · rw [argA_0, b_lss, valA_some, decide_eq_false q, condA_f]
      exact hJ (take_full (by omega) hll' ha)
  · rw [decide_eq_true (by simpa using hll), condA_t]
    rwa [eqB_f (fun e => hll (by rw [e]))] at hK
theorem ints_eq {v1 v2 : AV} {l1 l2 : List Int} (r1 : Row h v1 l1.length 1 (ic l1)) (r2 : Row h v2 l2.length 1 (ic l2)) (hl : l1.length ≤ reachBytes) {K : AV → H → Prop} (hK : K (.bool (eqB l1 l2)) h) : C 54 [v1, v2] h K := by
  refine run54 ?_
  unfold sh54
  refine eq1_r (val := fun n => .int .i64 n) r1 r2 hl (fun x y => ?_) hK
  rw [b_neq, ← eqB_dec]; simp
theorem strs_eq {v1 v2 : AV} {l1 l2 : List (List UInt8)} (r1 : Row h v1 l1.length 1 (l1.map AV.str)) (r2 : Row h v2 l2.length 1 (l2.map AV.str)) (hl : l1.length ≤ reachBytes) {K : AV → H → Prop} (hK : K (.bool (eqB l1 l2)) h) : C 57 [v1, v2] h K := by
  refine run57 ?_
  unfold sh57
  refine eq1_r (val := AV.str) r1 r2 hl (fun x y => ?_) hK
  rw [← eqB_dec]; simp only [go_sem, reduceIte, Nat.reduceAdd, Nat.reduceSub, Nat.reduceMul, Nat.reducePow, Nat.reduceLT, Nat.reduceLeDiff, Nat.reduceEqDiff, Int.reduceAdd, Int.reduceSub, Int.reduceMul, Int.reduceNeg, Int.reducePow, Int.reduceLT, Int.reduceLE, Int.reduceEq, Int.reduceNe, Int.reduceToNat, Int.toNat_natCast, Nat.zero_add, Nat.add_zero, Nat.mul_one, Nat.one_mul, Bool.not_true, Bool.not_false, ne_eq, not_true_eq_false, not_false_eq_true, Bool.false_eq_true]; simp
/-- One more field that must be the same. -/
theorem chunkV {p q : Bool} {b d i j : Nat} {v w : AV} (hc : h.cell b i = some v) (hd : h.cell d j = some w) (he : binOp .eql .num v w = some (.bool q)) {K : AV → H → Prop} (hK : K (.bool (p && q)) h) :
    whenA (.bool p) true (fun K => valA (faA i (.ptr b 0)) h K) h fun t11 h =>
    whenA (.bool p) true (fun K => valA (ldA h none t11) h K) h fun t12 h =>
    whenA (.bool p) true (fun K => valA (faA j (.ptr d 0)) h K) h fun t13 h =>
    whenA (.bool p) true (fun K => valA (ldA h none t13) h K) h fun t14 h =>
    whenA (.bool p) true (fun K => valA (binOp .eql .num t12 t14) h K) h fun t15 h =>
    valA (pickA (.bool p) t15 (.bool false)) h K := by
  cases p with
  | true => simp only [whenA_tt, faA_p, valA_some, ldA_n, Nat.zero_add, hc, hd, he, pickA_b, if_true]; exact hK
  | false => simp only [whenA_ft, pickA_b, valA_some]; exact hK
theorem chunkF {p q : Bool} {b d i j F : Nat} {v w : AV} {ar : List AV} (hc : h.cell b i = some v) (hd : h.cell d j = some w) {K : AV → H → Prop} (hX : ∀ K' : AV → H → Prop, (∀ h', Fr [] h h' → K' (.bool q) h') → C F (v :: w :: ar) h K') (hK : ∀ h', Fr [] h h' → K (.bool (p && q)) h') :
    whenA (.bool p) true (fun K => valA (faA i (.ptr b 0)) h K) h fun t11 h =>
    whenA (.bool p) true (fun K => valA (ldA h none t11) h K) h fun t12 h =>
    whenA (.bool p) true (fun K => valA (faA j (.ptr d 0)) h K) h fun t13 h =>
    whenA (.bool p) true (fun K => valA (ldA h none t13) h K) h fun t14 h =>
    whenA (.bool p) true (fun K => C F (t12 :: t14 :: ar) h K) h fun t15 h =>
    valA (pickA (.bool p) t15 (.bool false)) h K := by
  cases p with
  | true =>
    simp only [whenA_tt, faA_p, valA_some, ldA_n, Nat.zero_add, hc, hd]
    refine hX _ fun h' f => ?_
    rw [pickA_b, if_pos rfl, valA_some]; exact hK h' f
  | false => simp only [whenA_ft, pickA_b, valA_some]; exact hK h (Fr.refl _ _)
theorem eqI (x y : Int) : binOp .eql .num (.int .i64 x) (.int .i64 y) = some (.bool (eqB x y)) := by rw [b_eql, eqB_dec]
theorem eqS (x y : List UInt8) : binOp .eql .num (.str x) (.str y) = some (.bool (eqB x y)) := by rw [b_seql, eqB_dec]
/-- Two boxes. -/
theorem two_box {c d : List AV} {ty : Nat} (lc : leaves c = true) (ld : leaves d = true) {K : AV → AV → H → Prop} (hK : ∀ b e h', Fr [] h h' → (∀ h2, Fr [] h' h2 → ∀ o, h2.cell b o = c[o]?) → (∀ h2, Fr [] h' h2 → ∀ o, h2.cell e o = d[o]?) → (∀ h2, Fr [] h' h2 → h2.get b = some (.live c ty true) ∧ h2.get e = some (.live d ty true)) → K (.ptr b 0) (.ptr e 0) h') :
    boxA h (AV.cells (.agg c)) ty fun x h => boxA h (AV.cells (.agg d)) ty fun y h => K x y h := by
  show boxA h c ty fun x h => boxA h d ty fun y h => K x y h
  refine box_r lc fun b hb => ?_
  have f1 : Fr [] h (h.set b (.live c ty true)) := (Fr.refl _ _).set' hb
  have g1 : (h.set b (.live c ty true)).get b = some (.live c ty true) := H.get_same ..
  generalize h.set b (.live c ty true) = h1 at *
  refine box_r ld fun e he => ?_
  have f2 : Fr [] h1 (h1.set e (.live d ty true)) := (Fr.refl _ _).set' he
  have g2 : (h1.set e (.live d ty true)).get e = some (.live d ty true) := H.get_same ..
  have g1 := f2 b _ (by simp) g1
  generalize h1.set e (.live d ty true) = h2 at *
  exact hK b e h2 (f1.trans f2) (fun h3 f3 o => cell_of (f3 b _ (by simp) g1) o) (fun h3 f3 o => cell_of (f3 e _ (by simp) g2) o) fun h3 f3 => ⟨f3 b _ (by simp) g1, f3 e _ (by simp) g2⟩
theorem ty_eq {x y : Ty} {c d : List AV} (r : tyR h x c) (s : tyR h y d) (ok : x.ok) {K : AV → H → Prop} (hK : ∀ h', Fr [] h h' → K (.bool (eqB x y)) h') : C 53 [.agg c, .agg d] h K := by
  refine run53 ?_
  unfold sh53
  refine two_box r.leaves s.leaves fun b e h1 f cb ce _ => ?_
  obtain ⟨v, rfl, r1⟩ := r.fr f
  obtain ⟨w, rfl, s1⟩ := s.fr f
  refine fld_r (v := .bool x.imm) (by rw [cb h1 (Fr.refl _ _)]; rfl) ?_
  refine fld_r (v := .bool y.imm) (by rw [ce h1 (Fr.refl _ _)]; rfl) ?_
  rw [b_beql, valA_some, eqB_dec]
  refine chunkF (q := eqB x.sh y.sh) (by rw [cb h1 (Fr.refl _ _)]; rfl) (by rw [ce h1 (Fr.refl _ _)]; rfl) (fun K' hK' => ints_eq r1 s1 ok.1 (hK' h1 (Fr.refl _ _))) fun h2 f2 => ?_
  have := hK h2 (f.trans f2)
  rwa [← eqB_of (p := eqB x.imm y.imm && eqB x.sh y.sh) (by rw [Bool.and_eq_true, eqB_iff, eqB_iff]; cases x; cases y; simp)] at this
theorem shp_eq {x y : Shp} {c d : List AV} (r : shR h x c) (s : shR h y d) (ok : x.ok) {K : AV → H → Prop} (hK : ∀ h', Fr [] h h' → K (.bool (eqB x y)) h') : C 56 [.agg c, .agg d] h K := by
  refine run56 ?_
  unfold sh56
  refine two_box r.leaves s.leaves fun b e h1 f cb ce _ => ?_
  obtain ⟨v, rfl, r1⟩ := r.fr f
  obtain ⟨w, rfl, s1⟩ := s.fr f
  have cb := cb h1 (Fr.refl _ _)
  have ce := ce h1 (Fr.refl _ _)
  refine fld_r (v := .int .i64 x.kind) (by rw [cb]; rfl) ?_
  refine fld_r (v := .int .i64 y.kind) (by rw [ce]; rfl) ?_
  rw [eqI, valA_some]
  refine chunkV (q := eqB x.name y.name) (v := .str x.name) (w := .str y.name) (by rw [cb]; rfl) (by rw [ce]; rfl) (eqS _ _) ?_
  refine chunkF (q := eqB x.fs y.fs) (by rw [cb]; rfl) (by rw [ce]; rfl) (fun K' hK' => ints_eq r1 s1 ok.2.1.1 (hK' h1 (Fr.refl _ _))) fun h2 f2 => ?_
  have := hK h2 (f.trans f2)
  rwa [← eqB_of (p := (eqB x.kind y.kind && eqB x.name y.name) && eqB x.fs y.fs) (by simp only [Bool.and_eq_true, eqB_iff]; cases x; cases y; simp; grind)] at this
theorem ins_eq {x y : Ins} {c d : List AV} (r : insR h x c) (s : insR h y d) (ok : x.ok) {K : AV → H → Prop} (hK : ∀ h', Fr [] h h' → K (.bool (eqB x y)) h') : C 81 [.agg c, .agg d] h K := by
  refine run81 ?_
  unfold sh81
  refine two_box r.leaves s.leaves fun b e h1 f cb ce _ => ?_
  obtain ⟨v1, v2, v3, rfl, r1, r2, r3⟩ := r.fr f
  obtain ⟨w1, w2, w3, rfl, s1, s2, s3⟩ := s.fr f
  obtain ⟨_, o7, o8, o9⟩ := ok
  refine fld_r (v := .int .i64 x.op) (by rw [cb h1 (Fr.refl _ _)]; rfl) ?_
  refine fld_r (v := .int .i64 y.op) (by rw [ce h1 (Fr.refl _ _)]; rfl) ?_
  rw [eqI, valA_some]
  refine chunkV (q := eqB x.d y.d) (v := .int .i64 x.d) (w := .int .i64 y.d) (by rw [cb h1 (Fr.refl _ _)]; rfl) (by rw [ce h1 (Fr.refl _ _)]; rfl) (eqI _ _) ?_
  refine chunkV (q := eqB x.a y.a) (v := .int .i64 x.a) (w := .int .i64 y.a) (by rw [cb h1 (Fr.refl _ _)]; rfl) (by rw [ce h1 (Fr.refl _ _)]; rfl) (eqI _ _) ?_
  refine chunkV (q := eqB x.b y.b) (v := .int .i64 x.b) (w := .int .i64 y.b) (by rw [cb h1 (Fr.refl _ _)]; rfl) (by rw [ce h1 (Fr.refl _ _)]; rfl) (eqI _ _) ?_
  refine chunkV (q := eqB x.c y.c) (v := .int .i64 x.c) (w := .int .i64 y.c) (by rw [cb h1 (Fr.refl _ _)]; rfl) (by rw [ce h1 (Fr.refl _ _)]; rfl) (eqI _ _) ?_
  refine chunkV (q := eqB x.n y.n) (v := .int .i64 x.n) (w := .int .i64 y.n) (by rw [cb h1 (Fr.refl _ _)]; rfl) (by rw [ce h1 (Fr.refl _ _)]; rfl) (eqI _ _) ?_
  refine chunkF (q := eqB x.l y.l) (v := v1) (w := w1) (by rw [cb h1 (Fr.refl _ _)]; rfl) (by rw [ce h1 (Fr.refl _ _)]; rfl) (fun K' hK' => ints_eq r1 s1 o7.1 (hK' h1 (Fr.refl _ _))) fun h2 f2 => ?_
  refine chunkF (q := eqB x.m y.m) (v := v2) (w := w2) (by rw [cb h2 f2]; rfl) (by rw [ce h2 f2]; rfl) (fun K' hK' => ints_eq (r2.fr f2) (s2.fr f2) o8.1 (hK' h2 (Fr.refl _ _))) fun h3 f3 => ?_
  have f3 := f2.trans f3
  refine chunkF (q := eqB x.live y.live) (v := v3) (w := w3) (by rw [cb h3 f3]; rfl) (by rw [ce h3 f3]; rfl) (fun K' hK' => ints_eq (r3.fr f3) (s3.fr f3) o9.1 (hK' h3 (Fr.refl _ _))) fun h4 f4 => ?_
  have := hK h4 ((f.trans f3).trans f4)
  rwa [← eqB_of (p := ((((((((eqB x.op y.op && eqB x.d y.d) && eqB x.a y.a) && eqB x.b y.b) && eqB x.c y.c) && eqB x.n y.n) && eqB x.l y.l) && eqB x.m y.m) && eqB x.live y.live)) (by simp only [Bool.and_eq_true, eqB_iff]; cases x; cases y; simp; grind)] at this
theorem RowOf.with {α : Type} {esz : Nat} {R : α → List AV → Prop} {P : α → Prop} {v : AV} {l : List α} (r : RowOf h esz R v l) (hp : ∀ x ∈ l, P x) : RowOf h esz (fun x c => R x c ∧ P x) v l := r.mono (Fr.refl _ _) fun x hx c q => ⟨q, hp x hx⟩
theorem codes_eq {v1 v2 : AV} {l1 l2 : List Ins} (r1 : RowOf h 9 (insR h) v1 l1) (r2 : RowOf h 9 (insR h) v2 l2) (hl : l1.length ≤ reachBytes) (k1 : ∀ x ∈ l1, x.ok) (k2 : ∀ x ∈ l2, x.ok) {K : AV → H → Prop} (hK : ∀ h', Fr [] h h' → K (.bool (eqB l1 l2)) h') : C 80 [v1, v2, .fn 81 [] []] h K := by
  refine run80 ?_
  unfold sh80
  exact eqf_r (esz := 9) (ty := 24) (E := 81) (zs := [.int .i64 0, .int .i64 0, .int .i64 0, .int .i64 0, .int .i64 0, .int .i64 0, .nilsl, .nilsl, .nilsl]) (Rel := relIn) relIn_mono (fun r => r.1.leaves) rfl rfl (r1.with k1) (r2.with k2) hl (fun h' x y c d _ rx ry K hK => ins_eq rx.1 ry.1 rx.2 hK) hK
theorem blk_eq {x y : Blk} {c d : List AV} (r : blkR h x c) (s : blkR h y d) (ok : x.ok) (ok' : y.ok) {K : AV → H → Prop} (hK : ∀ h', Fr [] h h' → K (.bool (eqB x y)) h') : C 79 [.agg c, .agg d] h K := by
  refine run79 ?_
  unfold sh79
  refine two_box r.leaves s.leaves fun b e h1 f cb ce _ => ?_
  obtain ⟨v1, v2, rfl, r1, r2⟩ := r.fr f
  obtain ⟨w1, w2, rfl, s1, s2⟩ := s.fr f
  refine fld_r (v := v1) (by rw [cb h1 (Fr.refl _ _)]; rfl) ?_
  refine fld_r (v := w1) (by rw [ce h1 (Fr.refl _ _)]; rfl) ?_
  refine ints_eq r1 s1 ok.1.1 ?_
  refine chunkF (q := eqB x.code y.code) (v := v2) (w := w2) (by rw [cb h1 (Fr.refl _ _)]; rfl) (by rw [ce h1 (Fr.refl _ _)]; rfl) (fun K' hK' => codes_eq r2 s2 ok.2.1 ok.2.2 ok'.2.2 hK') fun h2 f2 => ?_
  have := hK h2 (f.trans f2)
  rwa [← eqB_of (p := eqB x.inn y.inn && eqB x.code y.code) (by rw [Bool.and_eq_true, eqB_iff, eqB_iff]; cases x; cases y; simp)] at this
theorem blks_eq {v1 v2 : AV} {l1 l2 : List Blk} (r1 : RowOf h 2 (blkR h) v1 l1) (r2 : RowOf h 2 (blkR h) v2 l2) (hl : l1.length ≤ reachBytes) (k1 : ∀ x ∈ l1, x.ok) (k2 : ∀ x ∈ l2, x.ok) {K : AV → H → Prop} (hK : ∀ h', Fr [] h h' → K (.bool (eqB l1 l2)) h') : C 78 [v1, v2, .fn 79 [] []] h K := by
  refine run78 ?_
  unfold sh78
  exact eqf_r (esz := 2) (ty := 58) (E := 79) (zs := [.nilsl, .nilsl]) (Rel := relBl) relBl_mono (fun r => r.1.leaves) rfl rfl (r1.with k1) (r2.with k2) hl (fun h' x y c d _ rx ry K hK => blk_eq rx.1 ry.1 rx.2 ry.2 hK) hK
theorem fn_eq {x y : Fn} {c d : List AV} (r : fnR h x c) (s : fnR h y d) (ok : x.ok) (ok' : y.ok) {K : AV → H → Prop} (hK : ∀ h', Fr [] h h' → K (.bool (eqB x y)) h') : C 59 [.agg c, .agg d] h K := by
  refine run59 ?_
  unfold sh59
  refine two_box r.leaves s.leaves fun b e h1 f cb ce _ => ?_
  obtain ⟨v1, v2, rfl, r1, r2⟩ := r.fr f
  obtain ⟨w1, w2, rfl, s1, s2⟩ := s.fr f
  obtain ⟨o1, o2, o3, o4, o5⟩ := ok
  obtain ⟨_, _, _, _, o5'⟩ := ok'
  refine fld_r (v := v1) (by rw [cb h1 (Fr.refl _ _)]; rfl) ?_
  refine fld_r (v := w1) (by rw [ce h1 (Fr.refl _ _)]; rfl) ?_
  refine ints_eq r1 s1 o1.1 ?_
  refine chunkV (q := eqB x.result y.result) (v := .int .i64 x.result) (w := .int .i64 y.result) (by rw [cb h1 (Fr.refl _ _)]; rfl) (by rw [ce h1 (Fr.refl _ _)]; rfl) (eqI _ _) ?_
  refine chunkV (q := eqB x.slots y.slots) (v := .int .i64 x.slots) (w := .int .i64 y.slots) (by rw [cb h1 (Fr.refl _ _)]; rfl) (by rw [ce h1 (Fr.refl _ _)]; rfl) (eqI _ _) ?_
  refine chunkF (q := eqB x.blocks y.blocks) (v := v2) (w := w2) (by rw [cb h1 (Fr.refl _ _)]; rfl) (by rw [ce h1 (Fr.refl _ _)]; rfl) (fun K' hK' => blks_eq r2 s2 o4 o5 o5' hK') fun h2 f2 => ?_
  have := hK h2 (f.trans f2)
  rwa [← eqB_of (p := ((eqB x.params y.params && eqB x.result y.result) && eqB x.slots y.slots) && eqB x.blocks y.blocks) (by simp only [Bool.and_eq_true, eqB_iff]; cases x; cases y; simp; grind)] at this
theorem fns_eq {v1 v2 : AV} {l1 l2 : List Fn} (r1 : RowOf h 4 (fnR h) v1 l1) (r2 : RowOf h 4 (fnR h) v2 l2) (hl : l1.length ≤ reachBytes) (k1 : ∀ x ∈ l1, x.ok) (k2 : ∀ x ∈ l2, x.ok) {K : AV → H → Prop} (hK : ∀ h', Fr [] h h' → K (.bool (eqB l1 l2)) h') : C 58 [v1, v2, .fn 59 [] []] h K := by
  refine run58 ?_
  unfold sh58
  exact eqf_r (esz := 4) (ty := 51) (E := 59) (zs := [.nilsl, .int .i64 0, .int .i64 0, .nilsl]) (Rel := relFn) relFn_mono (fun r => r.1.leaves) rfl rfl (r1.with k1) (r2.with k2) hl (fun h' x y c d _ rx ry K hK => fn_eq rx.1 ry.1 rx.2 ry.2 hK) hK
theorem shps_eq {v1 v2 : AV} {l1 l2 : List Shp} (r1 : RowOf h 3 (shR h) v1 l1) (r2 : RowOf h 3 (shR h) v2 l2) (hl : l1.length ≤ reachBytes) (k1 : ∀ x ∈ l1, x.ok) (k2 : ∀ x ∈ l2, x.ok) {K : AV → H → Prop} (hK : ∀ h', Fr [] h h' → K (.bool (eqB l1 l2)) h') : C 55 [v1, v2, .fn 56 [] []] h K := by
  refine run55 ?_
  unfold sh55
  exact eqf_r (esz := 3) (ty := 55) (E := 56) (zs := [.int .i64 0, .nilsl, .str []]) (Rel := relSh) relSh_mono (fun r => r.1.leaves) rfl rfl (r1.with k1) (r2.with k2) hl (fun h' x y c d _ rx ry K hK => shp_eq rx.1 ry.1 rx.2 hK) hK
theorem tys_eq {v1 v2 : AV} {l1 l2 : List Ty} (r1 : RowOf h 2 (tyR h) v1 l1) (r2 : RowOf h 2 (tyR h) v2 l2) (hl : l1.length ≤ reachBytes) (k1 : ∀ x ∈ l1, x.ok) (k2 : ∀ x ∈ l2, x.ok) {K : AV → H → Prop} (hK : ∀ h', Fr [] h h' → K (.bool (eqB l1 l2)) h') : C 52 [v1, v2, .fn 53 [] []] h K := by
  refine run52 ?_
  unfold sh52
  exact eqf_r (esz := 2) (ty := 53) (E := 53) (zs := [.bool false, .nilsl]) (Rel := relTy) relTy_mono (fun r => r.1.leaves) rfl rfl (r1.with k1) (r2.with k2) hl (fun h' x y c d _ rx ry K hK => ty_eq rx.1 ry.1 rx.2 hK) hK
theorem same_c {x y : Img} {c d : List AV} (r : imgR h x c) (s : imgR h y d) (ok : x.ok) (ok' : y.ok) {K : AV → H → Prop} (hK : ∀ h', Fr [] h h' → K (.bool (eqB x y)) h') : C 21 [.agg c, .agg d] h K := by
  refine run21 ?_
  unfold sh21
  refine two_box r.leaves s.leaves fun b e h1 f cb ce _ => ?_
  obtain ⟨v1, v2, v3, v4, v5, rfl, r1, r2, r3, r4, r5⟩ := r.fr f
  obtain ⟨w1, w2, w3, w4, w5, rfl, s1, s2, s3, s4, s5⟩ := s.fr f
  obtain ⟨⟨k1, k1'⟩, ⟨k2, k2'⟩, ⟨k3, k3'⟩, ⟨k4, k4'⟩, ⟨k5, k5'⟩, k6, k7⟩ := ok
  obtain ⟨⟨_, j1'⟩, ⟨_, j2'⟩, _, _, ⟨_, j5'⟩, _, _⟩ := ok'
  refine fld_r (v := v1) (by rw [cb h1 (Fr.refl _ _)]; rfl) ?_
  refine fld_r (v := w1) (by rw [ce h1 (Fr.refl _ _)]; rfl) ?_
  refine tys_eq r1 s1 k1 k1' j1' fun h2 f2 => ?_
  refine chunkF (q := eqB x.shapes y.shapes) (v := v2) (w := w2) (by rw [cb h2 f2]; rfl) (by rw [ce h2 f2]; rfl) (fun K' hK' => shps_eq (r2.mono f2 fun _ _ _ => shR.fr f2) (s2.mono f2 fun _ _ _ => shR.fr f2) k2 k2' j2' hK') fun h3 f3 => ?_
  have f3 := f2.trans f3
  refine chunkF (q := eqB x.strs y.strs) (v := v3) (w := w3) (by rw [cb h3 f3]; rfl) (by rw [ce h3 f3]; rfl) (fun K' hK' => strs_eq ((strs_row r3).fr f3) ((strs_row s3).fr f3) k3 (hK' h3 (Fr.refl _ _))) fun h4 f4 => ?_
  have f4 := f3.trans f4
  refine chunkF (q := eqB x.names y.names) (v := v4) (w := w4) (by rw [cb h4 f4]; rfl) (by rw [ce h4 f4]; rfl) (fun K' hK' => strs_eq ((strs_row r4).fr f4) ((strs_row s4).fr f4) k4 (hK' h4 (Fr.refl _ _))) fun h5 f5 => ?_
  have f5 := f4.trans f5
  refine chunkF (q := eqB x.fns y.fns) (v := v5) (w := w5) (by rw [cb h5 f5]; rfl) (by rw [ce h5 f5]; rfl) (fun K' hK' => fns_eq (r5.mono f5 fun _ _ _ => fnR.fr f5) (s5.mono f5 fun _ _ _ => fnR.fr f5) k5 k5' j5' hK') fun h6 f6 => ?_
  have f6 := f5.trans f6
  refine chunkV (q := eqB x.main y.main) (v := .int .i64 x.main) (w := .int .i64 y.main) (by rw [cb h6 f6]; rfl) (by rw [ce h6 f6]; rfl) (eqI _ _) ?_
  refine chunkV (q := eqB x.exn y.exn) (v := .int .i64 x.exn) (w := .int .i64 y.exn) (by rw [cb h6 f6]; rfl) (by rw [ce h6 f6]; rfl) (eqI _ _) ?_
  have := hK h6 (f.trans f6)
  rwa [← eqB_of (p := (((((eqB x.types y.types && eqB x.shapes y.shapes) && eqB x.strs y.strs) && eqB x.names y.names) && eqB x.fns y.fns) && eqB x.main y.main) && eqB x.exn y.exn) (by simp only [Bool.and_eq_true, eqB_iff]; cases x; cases y; simp; grind)] at this
end
end Go.Proofs.Ytgcnliikibbcnaa.X
set_option linter.unusedVariables false
set_option linter.unusedSimpArgs false
set_option maxRecDepth 20000
namespace Go.Proofs.Ytgcnliikibbcnaa.X
open Go Go.RowKit
theorem xor_u8 {x y : Int} (hx : 0 ≤ x ∧ x ≤ 255) (hy : 0 ≤ y ∧ y ≤ 255) (h0 : y ≠ 0) : ∃ r : Nat, bits .xor .u8 x y = r ∧ r < 256 ∧ (r : Int) ≠ x := by
  refine ⟨(BitVec.ofInt 8 x ^^^ BitVec.ofInt 8 y).toNat, ?_, (BitVec.ofInt 8 x ^^^ BitVec.ofInt 8 y).isLt, fun e => ?_⟩
  · show IntKind.u8.wrap ((BitVec.ofInt 8 x ^^^ BitVec.ofInt 8 y).toNat : Int) = _
    have := (BitVec.ofInt 8 x ^^^ BitVec.ofInt 8 y).isLt
    rw [u8_wrap]; omega
  · have e1 : (BitVec.ofInt 8 x ^^^ BitVec.ofInt 8 y) = BitVec.ofInt 8 x := by
      apply BitVec.eq_of_toNat_eq
      rw [BitVec.toNat_ofInt]; omega
    have e2 : BitVec.ofInt 8 y = 0#8 := by
      have := congrArg (BitVec.ofInt 8 x ^^^ ·) e1
      simp only [← BitVec.xor_assoc, BitVec.xor_self, BitVec.zero_xor] at this
      exact this
    have e3 := congrArg BitVec.toNat e2
    rw [BitVec.toNat_ofInt] at e3
    simp at e3
    omega
theorem lies_u8 {h : H} {l : List AV} (hl : Lies h (.int .u8) l) : ∃ n, l = [.int .u8 n] ∧ 0 ≤ n ∧ n ≤ 255 := by
  simp only [Lies] at hl
  obtain ⟨n, rfl, hw⟩ := hl
  have hn : 0 ≤ n ∧ n ≤ 255 := by simpa [Lit.wf, IntKind.min, IntKind.max, IntKind.signed, IntKind.bits] using hw
  exact ⟨n, rfl, hn⟩
section
variable {h : H}
/-- A byte is set. -/
theorem WS.put {h0 : H} {v : AV} {L : List Nat} (s : WS h0 h v L) {i : Nat} {x : Nat} (hi : i < L.length) : ∃ b, (∀ k, iaA 1 v (.int k (i : Int)) = some (.ptr b i)) ∧ h.cell b i = some (.int .u8 (L[i] : Nat)) ∧ stA h 1 (.ptr b i) (.int .u8 (x : Nat)) = some (h.set b (.live (bc (L.set i x)) 5 true)) ∧ h0.get b = none ∧ Row (h.set b (.live (bc (L.set i x)) 5 true)) v L.length 1 (bc (L.set i x)) := by
  have key : ∀ b p, v = .sl b 0 L.length p → p.fits 1 = true → h0.get b = none → h.get b = some (.live (bc L) 5 true) → ∃ b, (∀ k, iaA 1 v (.int k (i : Int)) = some (.ptr b i)) ∧ h.cell b i = some (.int .u8 (L[i] : Nat)) ∧ stA h 1 (.ptr b i) (.int .u8 (x : Nat)) = some (h.set b (.live (bc (L.set i x)) 5 true)) ∧ h0.get b = none ∧ Row (h.set b (.live (bc (L.set i x)) 5 true)) v L.length 1 (bc (L.set i x)) := by
    rintro b p rfl hp h0' hg
    have r : Row h (.sl b 0 L.length p) L.length 1 (bc L) := ⟨by simp [bc], .inr ⟨b, 0, p, rfl, hp, H.read_eq hg (by simp [bc]) (by rw [List.drop_zero, List.take_of_length_le (by simp [bc])])⟩⟩
    refine ⟨b, fun k => ?_, ?_, ?_, h0', by simp [bc], .inr ⟨b, 0, p, rfl, hp, H.read_eq (H.get_same ..) (by simp [bc]) (by rw [List.drop_zero, List.take_of_length_le (by simp [bc])])⟩⟩
    · have : (0 : Int) ≤ i := by omega
      have h2 : (i : Int) < L.length := by omega
      simp only [iaA_s, this, h2, and_self, if_true, Int.toNat_natCast, Nat.mul_one, Nat.zero_add]
      try simp [hp]
    · rw [cell_of hg]; simp [bc, hi]
    · rw [st_val hg (by simp [bc]; exact hi) rfl rfl]
      simp [bc, List.map_set]
  rcases s with s | ⟨m, q1, q2, q3⟩
  · rcases s.2 with ⟨z, _⟩ | ⟨b, z1, z2, z3⟩
    · omega
    · exact key b _ z1 (by simp [Cap.fits]) z2 z3
  · exact key m _ q1 rfl q2 q3
theorem chunkW0 {lt : Bool} {w : Int} {K : AV → H → Prop} : (whenA (.bool !lt) false (fun K => K (.int .u8 w) h) h fun t15 h => whenA (.bool !lt) false (fun K => valA (binOp .eql .num t15 (.int .u8 0)) h K) h fun t16 h =>
      valA (pickA (.bool !lt) (.bool true) t16) h K) = K (.bool (!lt || decide (w = 0))) h := by
  cases lt <;> simp only [go_sem, reduceIte, Nat.reduceAdd, Nat.reduceSub, Nat.reduceMul, Nat.reducePow, Nat.reduceLT, Nat.reduceLeDiff, Nat.reduceEqDiff, Int.reduceAdd, Int.reduceSub, Int.reduceMul, Int.reduceNeg, Int.reducePow, Int.reduceLT, Int.reduceLE, Int.reduceEq, Int.reduceNe, Int.reduceToNat, Int.toNat_natCast, Nat.zero_add, Nat.add_zero, Nat.mul_one, Nat.one_mul, Bool.not_true, Bool.not_false, ne_eq, not_true_eq_false, not_false_eq_true, Bool.false_eq_true, Bool.not_true, Bool.not_false, Bool.true_or, Bool.false_or]
theorem law7 (h : H) (ls : List (List AV)) (hl : LiesA h [shM, .int .u64, .int .u8] ls) (hs : Short lim ls) : C 7 (argsOf [shM, .int .u64, .int .u8] ls) h yes := by
  obtain ⟨l0, ls, rfl, h0, hl⟩ := liesA_cons hl
  obtain ⟨l1, ls, rfl, h1, hl⟩ := liesA_cons hl
  obtain ⟨l2, ls, rfl, h2, hl⟩ := liesA_cons hl
  obtain rfl := liesA_nil hl
  obtain ⟨m, r, ok⟩ := lies_img h0
  obtain ⟨at_, rfl, a0, a1⟩ := lies_u64 h1
  obtain ⟨wi, rfl, wi0, wi1⟩ := lies_u8 h2
  obtain ⟨b3, b4⟩ := short_img hs (by simp) r
  show C 7 [.agg l0, .int .u64 at_, .int .u8 wi] h yes
  refine run7 ?_
  unfold sh7
  refine img_box r fun b h1 f1 hb gb r1 rd => ?_
  rw [ldA_read (rd h1 (Fr.refl _ _)), valA_some]
  refine light_c r1 ok b3 b4 fun h2 lt f2 hlt => ?_
  rw [u_not, valA_some, chunkW0]
  by_cases q : (!lt || decide (wi = 0)) = true
  · rw [q, condA_t]; exact lives_c fun _ _ => rfl
  rw [Bool.eq_false_iff.2 q, condA_f]
  have q : lt = true ∧ ¬ wi = 0 := by simpa using q
  obtain ⟨rfl, hwi⟩ := q
  have hw := light_le ok (hlt rfl)
  rw [ldA_read (rd h2 f2), valA_some]
  by_cases hc : checkN m = 0
  · refine encode_c (r1.fr f2) ok hw.1 (fun q => absurd hc q) fun _ v h3 f3 ws => ?_
    rw [ext2]
    have w3 := ws.row
    have hp := bytes_pos m
    have hpz : ¬ ((bytesI m).length : Int) = 0 := by omega
    have e2 : IntKind.u64.wrap ((bytesI m).length : Int) = (bytesI m).length := u64_id (by omega) (by omega)
    obtain ⟨k, hk, hk1⟩ : ∃ k : Nat, IntKind.i64.wrap (at_.tmod ((bytesI m).length : Int)) = k ∧ k < (bytesI m).length := by
      have h1 : at_.tmod ((bytesI m).length : Int) = at_ % ((bytesI m).length : Int) := Int.tmod_eq_emod_of_nonneg (by omega)
      have h2 := Int.emod_nonneg at_ (b := ((bytesI m).length : Int)) (by omega)
      have h3 := Int.emod_lt_of_pos at_ (b := ((bytesI m).length : Int)) (by omega)
      refine ⟨(at_ % ((bytesI m).length : Int)).toNat, ?_, by omega⟩
      rw [h1, i64_id (by omega) (by omega)]; omega
    have hlt' := bytes_lt m (bytesI m)[k] (List.getElem_mem hk1)
    obtain ⟨x, hx1, hx2, hx3⟩ := xor_u8 (x := ((bytesI m)[k] : Nat)) (y := wi) ⟨by omega, by omega⟩ ⟨wi0, wi1⟩ hwi
    obtain ⟨bb, p1, p2, p3, p4, p5⟩ := ws.put (x := x) hk1
    simp only [go_sem, reduceIte, Nat.reduceAdd, Nat.reduceSub, Nat.reduceMul, Nat.reducePow, Nat.reduceLT, Nat.reduceLeDiff, Nat.reduceEqDiff, Int.reduceAdd, Int.reduceSub, Int.reduceMul, Int.reduceNeg, Int.reducePow, Int.reduceLT, Int.reduceLE, Int.reduceEq, Int.reduceNe, Int.reduceToNat, Int.toNat_natCast, Nat.zero_add, Nat.add_zero, Nat.mul_one, Nat.one_mul, Bool.not_true, Bool.not_false, ne_eq, not_true_eq_false, not_false_eq_true, Bool.false_eq_true, w3.len, hpz, e2, hk, p1, p2, hx1, p3]
    have f4 : Fr [] h2 (h3.set bb (.live (bc ((bytesI m).set k x)) 5 true)) := f3.set' p4
    have hne : (bytesI m).set k x ≠ bytesI m := fun e => by
      have := congrArg (fun l => l[k]?) e
      simp only [List.getElem?_set_self hk1, List.getElem?_eq_getElem hk1, Option.some.injEq] at this
      omega
    have lt4 : ∀ d ∈ (bytesI m).set k x, d < 256 := fun d hd => by
      rcases List.mem_or_eq_of_mem_set hd with q | q
      · exact bytes_lt m d q
      · omega
    have p5 : Row (h3.set bb (.live (bc ((bytesI m).set k x)) 5 true)) v ((bytesI m).set k x).length 1 (bc ((bytesI m).set k x)) := by rw [List.length_set]; exact p5
    have hB : ((bytesI m).set k x).length ≤ 4294967296 := by rw [List.length_set]; omega
    generalize h3.set bb (.live (bc ((bytesI m).set k x)) 5 true) = h4 at *
    generalize (bytesI m).set k x = B at *
    refine decode_c p5 lt4 hB fun h5 c5 f5 i5 o5 => ?_
    have hor := decode_or B
    have hbk := decode_bk (B := B) lt4
    generalize decodeN B = D at *
    obtain ⟨y, n⟩ := D
    simp only at i5 o5 hor hbk
    rw [ext2]
    refine imgbox_r i5 rfl rfl rfl fun d h6 f6 hd gd rd6 => ?_
    have f16 := ((f2.trans f4).trans f5).trans f6
    have rm6 := rd h6 f16
    by_cases hn : n = 0
    · have hyne : y ≠ m := fun e => hne (by rw [← (hbk hn).1, e])
      simp only [go_sem, reduceIte, Nat.reduceAdd, Nat.reduceSub, Nat.reduceMul, Nat.reducePow, Nat.reduceLT, Nat.reduceLeDiff, Nat.reduceEqDiff, Int.reduceAdd, Int.reduceSub, Int.reduceMul, Int.reduceNeg, Int.reducePow, Int.reduceLT, Int.reduceLE, Int.reduceEq, Int.reduceNe, Int.reduceToNat, Int.toNat_natCast, Nat.zero_add, Nat.add_zero, Nat.mul_one, Nat.one_mul, Bool.not_true, Bool.not_false, ne_eq, not_true_eq_false, not_false_eq_true, Bool.false_eq_true, hn, rd6, rm6]
      refine same_c (i5.fr f6) (r1.fr f16) o5 ok fun h7 f7 => ?_
      rw [eqB_f hyne]
      simp only [go_sem, reduceIte, Nat.reduceAdd, Nat.reduceSub, Nat.reduceMul, Nat.reducePow, Nat.reduceLT, Nat.reduceLeDiff, Nat.reduceEqDiff, Int.reduceAdd, Int.reduceSub, Int.reduceMul, Int.reduceNeg, Int.reducePow, Int.reduceLT, Int.reduceLE, Int.reduceEq, Int.reduceNe, Int.reduceToNat, Int.toNat_natCast, Nat.zero_add, Nat.add_zero, Nat.mul_one, Nat.one_mul, Bool.not_true, Bool.not_false, ne_eq, not_true_eq_false, not_false_eq_true, Bool.false_eq_true]
      exact lives_c fun _ _ => rfl
    · rcases hor with q | q
      · exact absurd q hn
      · injection q with q1 q2
        subst q1 q2
        simp only [go_sem, reduceIte, Nat.reduceAdd, Nat.reduceSub, Nat.reduceMul, Nat.reducePow, Nat.reduceLT, Nat.reduceLeDiff, Nat.reduceEqDiff, Int.reduceAdd, Int.reduceSub, Int.reduceMul, Int.reduceNeg, Int.reducePow, Int.reduceLT, Int.reduceLE, Int.reduceEq, Int.reduceNe, Int.reduceToNat, Int.toNat_natCast, Nat.zero_add, Nat.add_zero, Nat.mul_one, Nat.one_mul, Bool.not_true, Bool.not_false, ne_eq, not_true_eq_false, not_false_eq_true, Bool.false_eq_true, rd6]
        refine same_c (i5.fr f6) (imgZ_r h6) o5 imgZ_ok fun h7 f7 => ?_
        rw [eqB_self]
        simp only [go_sem, reduceIte, Nat.reduceAdd, Nat.reduceSub, Nat.reduceMul, Nat.reducePow, Nat.reduceLT, Nat.reduceLeDiff, Nat.reduceEqDiff, Int.reduceAdd, Int.reduceSub, Int.reduceMul, Int.reduceNeg, Int.reducePow, Int.reduceLT, Int.reduceLE, Int.reduceEq, Int.reduceNe, Int.reduceToNat, Int.toNat_natCast, Nat.zero_add, Nat.add_zero, Nat.mul_one, Nat.one_mul, Bool.not_true, Bool.not_false, ne_eq, not_true_eq_false, not_false_eq_true, Bool.false_eq_true]
        exact lives_c fun _ _ => rfl
  · refine encode_c (r1.fr f2) ok hw.1 (fun _ h3 f3 => ?_) (fun q => absurd q hc)
    rw [ext2]
    simp only [go_sem, reduceIte, Nat.reduceAdd, Nat.reduceSub, Nat.reduceMul, Nat.reducePow, Nat.reduceLT, Nat.reduceLeDiff, Nat.reduceEqDiff, Int.reduceAdd, Int.reduceSub, Int.reduceMul, Int.reduceNeg, Int.reducePow, Int.reduceLT, Int.reduceLE, Int.reduceEq, Int.reduceNe, Int.reduceToNat, Int.toNat_natCast, Nat.zero_add, Nat.add_zero, Nat.mul_one, Nat.one_mul, Bool.not_true, Bool.not_false, ne_eq, not_true_eq_false, not_false_eq_true, Bool.false_eq_true, hc]
    exact lives_c fun _ _ => rfl
end
end Go.Proofs.Ytgcnliikibbcnaa.X
