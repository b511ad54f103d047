/- What the law law21 needs: texts of one's own, put together; functions' contracts and plain facts. -/
import Derived.Test.YtljkkfcokpimkaaT21E
set_option linter.unusedVariables false
set_option linter.unusedSimpArgs false
set_option maxRecDepth 20000
namespace Go.Proofs.Ytljkkfcokpimkaa.X
open Go Go.RowKit
def shCase : Sh := .st [.sl (.st [.int .i64, .int .i64]), .sl (.st [.int .i64, .int .i64, .int .i64, .int .u64, .bool]), .sl (.st [.int .u64, .bool])]
structure Case (h1 h2 h' : H) (b bw bd : Nat) (B : List Nat) (s : Hs) (os : List Ob) (bx : Nat) (BL : List Nat) (l : List RV) (v : AV) (rts : List Int) : Prop where
  both : Both h1 h2 b bw bd B s os bx BL l
  wl : s.words.length = 1500
  ll : l.length ≤ 150
  fr : Fr [] h2 h'
  own : Own h2 h' 25 1 v rts.length (wc rts)
  rl : rts.length ≤ 30
  rr : ∀ w ∈ rts, 0 ≤ w ∧ w < 18446744073709551616
section
variable {h h1 h2 h' : H} {b bw bd bx : Nat} {B BL : List Nat} {s : Hs} {os : List Ob} {l : List RV} {v : AV} {rts : List Int}
theorem Case.keep (c : Case h1 h2 h' b bw bd B s os bx BL l v rts) {h3 : H} (f : Fr [] h' h3) : Case h1 h2 h3 b bw bd B s os bx BL l v rts :=
  ⟨c.both, c.wl, c.ll, c.fr.trans f, c.own.keep fun k n p _ ob hg => f k ob (by simp) hg, c.rl, c.rr⟩
theorem Case.now (c : Case h1 h2 h' b bw bd B s os bx BL l v rts) : Both h1 h' b bw bd B s os bx BL l := c.both.keep0 c.fr
theorem Case.hs (c : Case h1 h2 h' b bw bd B s os bx BL l v rts) : HS h' b bw bd B s.lays 1500 os := ⟨s, c.now.hh, c.both.A, rfl, c.wl⟩
theorem Case.fit (c : Case h1 h2 h' b bw bd B s os bx BL l v rts) : fitAll s.lays os := c.both.fit
theorem Case.wh (c : Case h1 h2 h' b bw bd B s os bx BL l v rts) : wholeO s.lays os = true := c.both.whole
theorem Case.row (c : Case h1 h2 h' b bw bd B s os bx BL l v rts) {h3 : H} {S : List Nat} (f : Fr S h' h3) (hS : ∀ k ∈ S, k ∈ b :: bw :: bd :: B ∨ h'.get k = none) : Row h3 v rts.length 1 (wc rts) := by
  refine c.own.row.mono fun k off cap ob e hg => ?_
  refine f k ob (fun q => ?_) hg
  rcases hS k q with q | q
  · rcases c.own.2 with ⟨_, e2⟩ | ⟨k2, e2, e3, _⟩
    · rw [e2] at e; cases e
    · rw [e2] at e; injection e with e
      rw [e] at e3
      exact c.both.hh.alive k q e3
  · rw [q] at hg; cases hg
end
theorem gcYes {h : H} : C 86 [] h fun t h => yes t h := gcLives_c fun _ _ => rfl
end Go.Proofs.Ytljkkfcokpimkaa.X
set_option linter.unusedVariables false
set_option linter.unusedSimpArgs false
set_option maxRecDepth 20000
namespace Go.Proofs.Ytljkkfcokpimkaa.X
open Go Go.RowKit
theorem order_zip {lays : List (Int × Int)} {R : Nat → Bool} {f : Nat → Nat} : ∀ (os : List Ob) (p to : Nat), to ≤ p → (markedL R os p).length = (newOs lays R f os p).length ∧ ∀ (i a : Nat), (markedL R os p)[i]? = some a → ∃ o a', findO os ((a : Int) - p) = some o ∧ (newOs lays R f os p)[i]? = some (newB lays f o) ∧ (atsO (newOs lays R f os p) to)[i]? = some a' ∧ a' ≤ a
  | [], p, to, _ => ⟨rfl, fun i a h => by simp [markedL] at h⟩
  | x :: os, p, to, ht => by
    have hx := row_pos x
    have up : ∀ (a : Nat) o, p + x.row.length ≤ a → findO os ((a : Int) - ((p + x.row.length : Nat) : Int)) = some o → findO (x :: os) ((a : Int) - p) = some o := fun a o ha h => by
      rw [findO, if_neg (by omega)]
      rw [show ((a : Int) - p - x.row.length) = (a : Int) - ((p + x.row.length : Nat) : Int) by omega]
      exact h
    cases hp : R p with
    | true =>
      obtain ⟨e, ih⟩ := order_zip (lays := lays) (R := R) (f := f) os (p + x.row.length) (to + x.row.length) (by omega)
      rw [markedL, newOs, hp]
      simp only [if_true, List.singleton_append, List.length_cons]
      refine ⟨by rw [e], fun i a h => ?_⟩
      cases i with
      | zero =>
        simp at h
        subst h
        exact ⟨x, to, by simp [findO], by simp, by simp [atsO], ht⟩
      | succ i =>
        rw [List.getElem?_cons_succ] at h
        obtain ⟨o, a', q1, q2, q3, q4⟩ := ih i a h
        have hpa := (findO_lt _ _ _ q1).1
        exact ⟨o, a', up a o (by omega) q1, by rw [List.getElem?_cons_succ]; exact q2, by rw [atsO, List.getElem?_cons_succ, newB_len]; exact q3, q4⟩
    | false =>
      obtain ⟨e, ih⟩ := order_zip (lays := lays) (R := R) (f := f) os (p + x.row.length) to (by omega)
      rw [markedL, newOs, hp]
      simp only [Bool.false_eq_true, if_false, List.nil_append]
      refine ⟨e, fun i a h => ?_⟩
      obtain ⟨o, a', q1, q2, q3, q4⟩ := ih i a h
      have hpa := (findO_lt _ _ _ q1).1
      exact ⟨o, a', up a o (by omega) q1, q2, q3, q4⟩
def ic' (L : List Int) : List AV := L.map fun n => AV.int .i64 n
end Go.Proofs.Ytljkkfcokpimkaa.X
set_option linter.unusedVariables false
set_option linter.unusedSimpArgs false
set_option maxRecDepth 20000
namespace Go.Proofs.Ytljkkfcokpimkaa.X
open Go Go.RowKit
section
variable {h : H}
theorem start2_c {lv Lo vr : AV} {lays : List (Int × Int)} {ops : List OpI} {rs : List (Int × Bool)} (hl : Row h lv lays.length 2 (lc lays)) (hm : lays.length ≤ reachBytes) (ho : Row h Lo ops.length 5 (opsC ops)) (hm2 : ops.length ≤ reachBytes) (hok : ∀ o ∈ ops, o.ok)
    (hr : Row h vr rs.length 2 (rc rs)) (hrr : ∀ x ∈ rs, 0 ≤ x.1 ∧ x.1 < 18446744073709551616) (hm3 : rs.length ≤ reachBytes) {X : H → Prop} {Y : AV → AV → AV → AV → H → Prop} (hX : ∀ h', X h')
    (hY : ∀ h1 h2 h' d b bw bd B s os bx BL l v rts, Case h1 h2 h' b bw bd B s os bx BL l v rts → Y (.ptr d 0) (.ptr b 0) (.ptr bx 0) v h') :
    boxA h (AV.cells (.agg [lv, Lo, vr])) 114 fun c1 h => valA (ldA h (some 3) c1) h fun t16 h => C 89 [t16] h fun t17 h => valA (extA t17 0) h fun t18 h => valA (extA t17 1) h fun t19 h => valA (extA t17 2) h fun t20 h => valA (binOp .eql .ptr t18 .nilp) h fun t22 h =>
      condA t22 (X h) (Y c1 t18 t19 t20 h) := by
  have elv : leaves [lv, Lo, vr] = true := by simp only [leaves, hl.one.1, ho.one.1, hr.one.1]; rfl
  have t0 : ∀ a c d : AV, extA (.tup [a, c, d]) 0 = some a := fun _ _ _ => rfl
  have t1 : ∀ a c d : AV, extA (.tup [a, c, d]) 1 = some c := fun _ _ _ => rfl
  have t2 : ∀ a c d : AV, extA (.tup [a, c, d]) 2 = some d := fun _ _ _ => rfl
  show boxA h [lv, Lo, vr] 114 _
  refine boxR elv fun d hd => ?_
  have f1 : Fr [] h (h.set d (.live [lv, Lo, vr] 114 true)) := (Fr.refl _ _).set' hd
  have gd : (h.set d (.live [lv, Lo, vr] 114 true)).get d = some (.live [lv, Lo, vr] 114 true) := H.get_same ..
  have hl1 := hl.fr f1; have ho1 := ho.fr f1; have hr1 := hr.fr f1
  generalize h.set d (.live [lv, Lo, vr] 114 true) = h0 at *
  have ld : ldA h0 (some 3) (.ptr d 0) = some (.agg [lv, Lo, vr]) := by
    rw [ldA_s, H.read_eq (n := 3) gd (by simp) rfl]; rfl
  rw [ld, valA_some]
  refine case_c hl1 hm ho1 hm2 hok hr1 hrr hm3 (fun h2 f2 => ?_) fun h1 h2 h3 b bx l v rts f2 t ll f3 ov rl rr => ?_
  · rw [t0, valA_some, t1, valA_some, t2, valA_some, b_nn, valA_some, condA_t]
    exact hX h2
  · obtain ⟨bw, bd, B, s, os, BL, tb, e1, e2⟩ := t
    rw [t0, valA_some, t1, valA_some, t2, valA_some, b_pn, valA_some, condA_f]
    exact hY h1 h2 h3 d b bw bd B s os bx BL l v rts ⟨tb, e1, ll, f3, ov, rl, rr⟩
end
end Go.Proofs.Ytljkkfcokpimkaa.X
set_option linter.unusedVariables false
set_option linter.unusedSimpArgs false
set_option maxRecDepth 20000
namespace Go.Proofs.Ytljkkfcokpimkaa.X
open Go Go.RowKit
def gb : List (Int × Int) := [(3, 0)]
end Go.Proofs.Ytljkkfcokpimkaa.X
set_option linter.unusedVariables false
set_option linter.unusedSimpArgs false
set_option maxRecDepth 20000
namespace Go.Proofs.Ytljkkfcokpimkaa.X
open Go Go.RowKit
section
variable {h : H} {b bw bd : Nat} {B : List Nat} {lays : List (Int × Int)} {n : Nat} {os : List Ob}
theorem HS.frN {h' : H} (t : HS h b bw bd B lays n os) (f : FrN h h') : HS h' b bw bd B lays n os := by
  obtain ⟨s, hh, q⟩ := t
  exact ⟨s, hh.frN f, q⟩
theorem HS.own {h0 h' : H} {S : List Nat} {v : AV} {k : Nat} {cs : List AV} (t : HS h b bw bd B lays n os) (o : Own h0 h 3 1 v k cs) (f : Fr S h h') (hS : ∀ c ∈ S, c ∈ [b, bw, bd]) : Own h0 h' 3 1 v k cs := by
  refine o.keep fun c n' p e ob hg => f c ob (fun q => ?_) hg
  obtain ⟨s, hh, _⟩ := t
  obtain ⟨lv, g1, _⟩ := hh.st
  have hq := hS c q
  rcases o.2 with ⟨_, e2⟩ | ⟨b', e2, _, g⟩
  · rw [e2] at e; cases e
  · rw [e2] at e; injection e with e; subst e
    simp only [List.mem_cons, List.not_mem_nil, or_false] at hq
    rcases hq with rfl | rfl | rfl
    · rw [g1] at g; injection g with g; injection g with _ g _; cases g
    · have g2 := hh.wd; rw [g2] at g; injection g with g; injection g with _ g _; cases g
    · have g2 := hh.hd; rw [g2] at g; injection g with g; injection g with _ g _; cases g
end
end Go.Proofs.Ytljkkfcokpimkaa.X
set_option linter.unusedVariables false
set_option linter.unusedSimpArgs false
set_option maxRecDepth 20000
namespace Go.Proofs.Ytljkkfcokpimkaa.X
open Go Go.RowKit
def Qu (h0 h : H) (v : AV) (L : List Int) : Prop := ∃ b c pre, v = .sl b pre.length L.length c ∧ h0.get b = none ∧ h.get b = some (.live (pre ++ wc L) 25 true) ∧ (c = .more 1 ∨ (L = [] ∧ c = .exact 0)) ∧ leaves pre = true
theorem Qu.push {h0 h : H} {v y : AV} {L M : List Int} (q : Qu h0 h v L) (hs : srcA h 1 y = some (M.length, wc M)) (ha : ∀ c, h0.get c ≠ none → h.get c ≠ none) (hb : L.length + M.length ≤ 10000000) {K : AV → H → Prop}
    (hK : ∀ v' h', Qu h0 h' v' (L ++ M) → (∀ c o, h.get c = some o → h0.get c ≠ none → h'.get c = some o) → K v' h') : appendA h 25 1 8 v y K := by
  obtain ⟨b, c, pre, rfl, hb0, hbl, hc, hlp⟩ := q
  unfold appendA
  rw [hs]
  simp only
  have hfree : ∀ b', h.get b' = none → h0.get b' = none := fun b' hb' => by
    cases hg : h0.get b' with
    | none => rfl
    | some o => exact absurd hb' (ha b' (by rw [hg]; simp))
  by_cases hM : M.length = 0
  · have : M = [] := List.eq_nil_of_length_eq_zero hM
    subst this
    rw [if_pos (by rfl)]
    rw [List.append_nil] at hK
    exact hK _ h ⟨b, c, pre, rfl, hb0, hbl, hc, hlp⟩ fun _ _ x _ => x
  · rw [if_neg hM]
    rcases hc with rfl | ⟨rfl, rfl⟩
    · rw [hbl]
      simp only [Nat.mul_one]
      have e1 : (pre ++ wc L).length = pre.length + L.length := by rw [List.length_append, wc_length]
      rw [e1]
      refine ⟨⟨trivial, trivial, by unfold most; omega, by omega⟩, ?_⟩
      rw [if_neg (by omega)]
      have e2 : ((pre ++ wc L).drop pre.length).take L.length = wc L := by
        rw [List.drop_left, List.take_of_length_le (by rw [wc_length]; omega)]
      rw [e2]
      refine ⟨by rw [leaves_append, wc_leaves, wc_leaves]; rfl, fun b' hb' => ?_⟩
      have hbb : b' ≠ b := fun e => by subst e; rw [H.get_same] at hb'; cases hb'
      have hb2 : h.get b' = none := by rw [H.get_other _ _ hbb] at hb'; exact hb'
      refine hK _ _ ⟨b', .more 1, [], by simp, hfree b' hb2, by rw [H.get_same]; simp [wc], .inl rfl, rfl⟩ fun k o hg hk => ?_
      have kb : k ≠ b := fun e => hk (by rw [e]; exact hb0)
      have kb' : k ≠ b' := fun e => by rw [e, hb2] at hg; cases hg
      rw [H.get_other _ _ kb', H.get_other _ _ kb]; exact hg
    · simp only [List.length_nil, Nat.zero_add, Nat.zero_mul]
      rw [if_neg (by omega)]
      have e1 : h.read b pre.length 0 = some [] := H.read_eq hbl (by simp) (by simp)
      rw [e1]
      refine ⟨by unfold most; omega, by simp [wc_leaves], fun b' hb' => ?_⟩
      refine hK _ _ ⟨b', .more 1, [], by simp, hfree b' hb', by rw [H.get_same]; simp, .inl rfl, rfl⟩ fun k o hg hk => ?_
      have kb' : k ≠ b' := fun e => by rw [e, hb'] at hg; cases hg
      rw [H.get_other _ _ kb']; exact hg
theorem Qu.len {h0 h : H} {v : AV} {L : List Int} (q : Qu h0 h v L) : lenA false v = some (.int .i64 L.length) := by
  obtain ⟨b, c, pre, rfl, _⟩ := q; rfl
theorem Qu.pop {h0 h : H} {v : AV} {w : Int} {L : List Int} (q : Qu h0 h v (w :: L)) : ∃ b o v', iaA 1 v (.int .i64 0) = some (.ptr b o) ∧ h.cell b o = some (.int .u64 w) ∧ sliceOp (.row 1) v (some (.int .i64 1)) none none = some v' ∧ Qu h0 h v' L := by
  obtain ⟨b, c, pre, rfl, hb0, hbl, hc, hlp⟩ := q
  rcases hc with rfl | ⟨e, _⟩
  · refine ⟨b, pre.length, .sl b (pre.length + 1) L.length (.more 1), ?_, ?_, ?_, b, .more 1, pre ++ [.int .u64 w], ?_, hb0, ?_, .inl rfl, ?_⟩
    · have hp : (0 : Int) < ((w :: L).length : Nat) := by rw [List.length_cons]; omega
      simp [iaA]
    · rw [cell_of hbl, List.getElem?_append_right (Nat.le_refl _), Nat.sub_self]; rfl
    · have n1 : natOf (.int .i64 1) = some 1 := by rfl
      simp only [sliceOp, Cap.fits, decide_true, if_true, slBounds, loB, hiB, n1, within, Cap.less, Nat.le_refl, Bool.true_or, and_true]
      rw [if_pos (by simp)]
      simp
    · simp
    · rw [hbl]; simp [wc]
    · rw [leaves_append, hlp]; rfl
  · cases e
theorem Qu.mono {h0 h h' : H} {v : AV} {L : List Int} (q : Qu h0 h v L) (f : ∀ c o, h0.get c = none → h.get c = some o → h'.get c = some o) : Qu h0 h' v L := by
  obtain ⟨b, c, pre, e, hb0, hbl, r⟩ := q
  exact ⟨b, c, pre, e, hb0, f b _ hb0 hbl, r⟩
def restF : List RV → List Bool → Nat
  | x :: l, m :: ms => (if m then 0 else x.r.fs.length) + restF l ms
  | _, _ => 0
theorem restF_set : ∀ (l : List RV) (ms : List Bool) (i : Nat) (x : RV), l[i]? = some x → ms[i]? = some false → restF l (ms.set i true) + x.r.fs.length = restF l ms
  | [], _, i, x, h, _ => by simp at h
  | _ :: _, [], i, x, _, h => by simp at h
  | y :: l, m :: ms, 0, x, h, h' => by simp at h h'; subst h; subst h'; simp [restF]; omega
  | y :: l, m :: ms, i + 1, x, h, h' => by
    have := restF_set l ms i x (by simpa using h) (by simpa using h')
    simp [restF]; omega
theorem restF_none : ∀ (l : List RV), restF l (List.replicate l.length false) = (l.map fun x => x.r.fs.length).sum
  | [] => rfl
  | x :: l => by
    have := restF_none l
    simp [List.replicate_succ, restF, this]
def bo (l : List Bool) : List AV := l.map AV.bool
theorem bo_leaves (l : List Bool) : leaves (bo l) = true := leaves_map _ (fun _ => rfl) l
theorem mks_bool {h : H} {n : Nat} (hn : n ≤ 65536) {K : AV → H → Prop} (hK : ∀ m, h.get m = none → K (.sl m 0 n (.exact n)) (h.set m (.live (bo (List.replicate n false)) 4 true))) : mksA h 4 [.bool false] 1 (.int .i64 n) (.int .i64 n) K := by
  have n1 : natOf (.int .i64 (n : Int)) = some n := by simp [natOf]
  have e : ∀ n, repCells [AV.bool false] n = bo (List.replicate n false) := fun n => by
    induction n with
    | zero => rfl
    | succ n ih => rw [repCells, ih]; rfl
  unfold mksA
  rw [n1]
  simp only
  refine ⟨⟨Nat.le_refl _, by unfold most; omega, by omega⟩, by rw [e]; exact bo_leaves _, fun m hm => ?_⟩
  have := hK m hm
  rw [e]
  exact this
theorem Rel.uniq {lays : List (Int × Int)} : ∀ {p : Nat} {os : List Ob} {l : List RV}, Rel lays p os l → ∀ x ∈ l, ∀ y ∈ l, x.r.a = y.r.a → x = y
  | _, [], [], _, x, hx, _, _, _ => by cases hx
  | _, [], _ :: _, h, _, _, _, _, _ => h.elim
  | _, _ :: _, [], h, _, _, _, _, _ => h.elim
  | p, o :: os, z :: l, h, x, hx, y, hy, e => by
    have hz := h.1
    have hp := h.2.2.pos
    have := row_pos o
    rcases List.mem_cons.1 hx with e1 | h1
    · rcases List.mem_cons.1 hy with e2 | h2
      · rw [e1, e2]
      · have := hp y h2; rw [e1] at e; omega
    · rcases List.mem_cons.1 hy with e2 | h2
      · have := hp x h1; rw [e2] at e; omega
      · exact h.2.2.uniq x h1 y h2 e
theorem Rel.place {lays : List (Int × Int)} : ∀ {p : Nat} {os : List Ob} {l : List RV}, Rel lays p os l → ∀ {i j : Nat} {x : RV}, l[i]? = some x → l[j]? = some x → i = j
  | _, [], [], _, i, j, x, hx, _ => by simp at hx
  | _, [], _ :: _, h, _, _, _, _, _ => h.elim
  | _, _ :: _, [], h, _, _, _, _, _ => h.elim
  | p, o :: os, z :: l, h, i, j, x, hx, hy => by
    have hz := h.1
    have hp := h.2.2.pos
    have := row_pos o
    cases i with
    | zero =>
      cases j with
      | zero => rfl
      | succ j => simp at hx hy; subst hx; have := hp _ (List.mem_of_getElem? hy); omega
    | succ i =>
      cases j with
      | zero => simp at hx hy; subst hy; have := hp _ (List.mem_of_getElem? hx); omega
      | succ j => simp at hx hy; rw [h.2.2.place hx hy]
structure RMk (lays : List (Int × Int)) (os : List Ob) (rts : List Int) (l : List RV) (ms : List Bool) (T : List Int) : Prop where
  ml : ms.length = l.length
  s : ∀ (i : Nat) (x : RV), l[i]? = some x → ms[i]? = some true → Rch lays os rts x.r.a.toNat
  t : ∀ w ∈ T, (0 ≤ w ∧ w < 18446744073709551616) ∧ (w % 2 ≠ 1 → Rch lays os rts (w / 2).toNat)
  r : ∀ w ∈ rts, w % 2 ≠ 1 → w ∈ T ∨ ∃ (i : Nat) (x : RV), l[i]? = some x ∧ ms[i]? = some true ∧ x.r.a = w / 2
  c : ∀ (i : Nat) (x : RV), l[i]? = some x → ms[i]? = some true → ∀ w ∈ x.r.fs, w % 2 ≠ 1 → w ∈ T ∨ ∃ (i : Nat) (x : RV), l[i]? = some x ∧ ms[i]? = some true ∧ x.r.a = w / 2
section
variable {lays : List (Int × Int)} {os : List Ob} {rts : List Int} {l : List RV} {ms : List Bool} {T : List Int} {w : Int}
theorem RMk.skip (M : RMk lays os rts l ms (w :: T)) (hw : w % 2 ≠ 1 → ∃ (i : Nat) (x : RV), l[i]? = some x ∧ ms[i]? = some true ∧ x.r.a = w / 2) : RMk lays os rts l ms T := by
  have one : ∀ u, u % 2 ≠ 1 → (u ∈ w :: T ∨ ∃ (i : Nat) (x : RV), l[i]? = some x ∧ ms[i]? = some true ∧ x.r.a = u / 2) → (u ∈ T ∨ ∃ (i : Nat) (x : RV), l[i]? = some x ∧ ms[i]? = some true ∧ x.r.a = u / 2) := fun u hu q => by
    rcases q with q | q
    · rcases List.mem_cons.1 q with rfl | q
      · exact .inr (hw hu)
      · exact .inl q
    · exact .inr q
  exact ⟨M.ml, M.s, fun u hu => M.t u (by simp [hu]), fun u hu q => one u q (M.r u hu q), fun i x hx hm u hu q => one u q (M.c i x hx hm u hu q)⟩
theorem RMk.put (A : ∀ o ∈ os, ∀ w ∈ o.body, 0 ≤ w ∧ w < 18446744073709551616) (rel : Rel lays 0 os l) (M : RMk lays os rts l ms (w :: T)) (hw : w % 2 ≠ 1) {i : Nat} {x : RV} (hx : l[i]? = some x) (hxa : x.r.a = w / 2) (hat : atR l (w / 2) = some x) (hi : ms[i]? = some false) : RMk lays os rts l (ms.set i true) (T ++ x.r.fs) := by
  have hlt : i < ms.length := (List.getElem?_eq_some_iff.1 hi).1
  have w0 := (M.t w (by simp)).1
  have hr : Rch lays os rts x.r.a.toNat := by rw [hxa]; exact (M.t w (by simp)).2 hw
  have keep : ∀ {j : Nat}, ms[j]? = some true → (ms.set i true)[j]? = some true := fun {j} h => by
    rw [List.getElem?_set]; split
    · first | rfl | rw [if_pos hlt]
    · exact h
  have here : (ms.set i true)[i]? = some true := by rw [List.getElem?_set, if_pos rfl, if_pos hlt]
  have one : ∀ u, u % 2 ≠ 1 → (u ∈ w :: T ∨ ∃ (i : Nat) (x : RV), l[i]? = some x ∧ ms[i]? = some true ∧ x.r.a = u / 2) → (u ∈ T ++ x.r.fs ∨ ∃ (j : Nat) (x : RV), l[j]? = some x ∧ (ms.set i true)[j]? = some true ∧ x.r.a = u / 2) := fun u hu q => by
    rcases q with q | ⟨j, y, h1, h2, h3⟩
    · rcases List.mem_cons.1 q with rfl | q
      · exact .inr ⟨i, x, hx, here, hxa⟩
      · exact .inl (by simp [q])
    · exact .inr ⟨j, y, h1, keep h2, h3⟩
  -- the object itself
  have hob : ∃ o, findO os (w / 2) = some o ∧ RelO lays o x.r := by
    rcases rel.find0 (w / 2) with ⟨_, e⟩ | ⟨o, y, e1, e2, e3, _⟩
    · rw [hat] at e; cases e
    · rw [hat] at e2; injection e2 with e2; subst e2; exact ⟨o, e1, e3⟩
  obtain ⟨o, ho, hro⟩ := hob
  have hfs : ∀ u ∈ x.r.fs, kindAt lays o.sh ≠ 3 ∧ u ∈ o.body := fun u hu => by
    have h3 := hro.2.2
    split at h3
    · rw [h3.1] at hu; cases hu
    · rename_i k; exact ⟨k, by rw [← h3.1]; exact hu⟩
  refine ⟨by rw [List.length_set]; exact M.ml, fun j y hy hm => ?_, fun u hu => ?_, fun u hu q => one u q (M.r u hu q), fun j y hy hm u hu q => ?_⟩
  · by_cases e : i = j
    · subst e; rw [hx] at hy; injection hy with hy; subst hy; exact hr
    · rw [List.getElem?_set_ne e] at hm; exact M.s j y hy hm
  · rcases List.mem_append.1 hu with hu | hu
    · exact M.t u (by simp [hu])
    · obtain ⟨k3, hb⟩ := hfs u hu
      refine ⟨A o (by obtain ⟨p, q, rfl, _⟩ := findO_split os _ o ho; simp) u hb, fun q => ?_⟩
      refine Rch.fld hr (o := o) ?_ k3 hb q
      rw [hxa, show (((w / 2).toNat : Nat) : Int) = w / 2 by omega]; exact ho
  · by_cases e : i = j
    · subst e; rw [hx] at hy; injection hy with hy; subst hy
      exact .inl (by simp [hu])
    · rw [List.getElem?_set_ne e] at hm; exact one u q (M.c j y hy hm u hu q)
theorem RMk.done (A : ∀ o ∈ os, ∀ w ∈ o.body, 0 ≤ w ∧ w < 18446744073709551616) (rr : ∀ w ∈ rts, 0 ≤ w ∧ w < 18446744073709551616) (rel : Rel lays 0 os l) (M : RMk lays os rts l ms []) {a : Nat} (h : Rch lays os rts a) : ∃ (i : Nat) (x : RV), l[i]? = some x ∧ ms[i]? = some true ∧ x.r.a = a := by
  induction h with
  | @root w h1 h2 =>
    rcases M.r _ h1 h2 with q | ⟨i, x, e1, e2, e3⟩
    · cases q
    · have := rr _ h1
      exact ⟨i, x, e1, e2, by rw [e3]; omega⟩
  | @fld a o w h1 h2 h3 h4 h5 ih =>
    obtain ⟨i, x, e1, e2, e3⟩ := ih
    have hob : RelO lays o x.r := by
      rcases rel.find0 (a : Int) with ⟨e, _⟩ | ⟨o', y, q1, q2, q3, q4⟩
      · rw [h2] at e; cases e
      · rw [h2] at q1; injection q1 with q1; subst q1
        have hxm := List.mem_of_getElem? e1
        have hym : y ∈ l := List.mem_of_find?_eq_some q2
        have : x = y := rel.uniq x hxm y hym (by rw [e3, q4])
        rw [this]; exact q3
    have hf : w ∈ x.r.fs := by
      have q := hob.2.2
      rw [if_neg h3] at q
      rw [q.1]; exact h4
    have hw0 := A o (by obtain ⟨p, q, rfl, _⟩ := findO_split os _ o h2; simp) w h4
    rcases M.c i x e1 e2 w hf h5 with q | ⟨j, y, q1, q2, q3⟩
    · cases q
    · exact ⟨j, y, q1, q2, by rw [q3]; omega⟩
end
section
variable {h0 h : H} {bx : Nat} {words : Int} {lays : List (Int × Int)} {BL : List Nat} {l : List RV} {os : List Ob} {rts : List Int}
theorem reached_c (R : RefAt h0 h bx words lays BL l) (hl : l.length ≤ 1000) (A : ∀ o ∈ os, ∀ w ∈ o.body, 0 ≤ w ∧ w < 18446744073709551616) (rel : Rel lays 0 os l) (fit : fitAll lays os) {v : AV} (hr : Row h v rts.length 1 (wc rts)) (rr : ∀ w ∈ rts, 0 ≤ w ∧ w < 18446744073709551616) (hf : ∀ w ∈ rts, fitsO os w = true)
    (hb : rts.length + (l.map fun x => x.r.fs.length).sum ≤ 5000000) {K : AV → H → Prop}
    (hK : ∀ h' m ms, Fr [] h h' → h.get m = none → h'.get m = some (.live (bo ms) 4 true) → ms.length = l.length → (∀ (i : Nat) (x : RV), l[i]? = some x → (ms[i]? = some true ↔ Rch lays os rts x.r.a.toNat)) → K (.sl m 0 l.length (.exact l.length)) h') : C 93 [.ptr bx 0, v] h K := by
  refine run93 ?_
  unfold sh93
  obtain ⟨lv, Lv, c, r, o⟩ := R.cells
  have c2 : h.cell bx 2 = some Lv := by rw [c]; rfl
  rw [nilcA_p, valA_some]
  simp only [faA_p, valA_some, Nat.zero_add, ldA_n, c2, o.row.len]
  refine mks_bool (by omega) fun m hm => ?_
  have f1 : Fr [] h (h.set m (.live (bo (List.replicate l.length false)) 4 true)) := Fr.new hm
  have g1 : (h.set m (.live (bo (List.replicate l.length false)) 4 true)).get m = some (.live (bo (List.replicate l.length false)) 4 true) := H.get_same ..
  generalize h.set m (.live (bo (List.replicate l.length false)) 4 true) = h1 at *
  rw [show fillV [] [] = some [] from rfl]
  refine ⟨rfl, fun b0 hb0 => ?_⟩
  have f2 : Fr [] h1 (h1.set b0 (.live [] 25 true)) := Fr.new hb0
  have q0 : Qu h1 (h1.set b0 (.live [] 25 true)) (.sl b0 0 0 (.exact 0)) [] := ⟨b0, .exact 0, [], rfl, hb0, by rw [H.get_same]; rfl, .inr ⟨rfl, rfl⟩, rfl⟩
  generalize h1.set b0 (.live [] 25 true) = h2 at *
  have hal : ∀ c, h1.get c ≠ none → h2.get c ≠ none := fun c hc => by
    obtain ⟨o, ho⟩ := Option.ne_none_iff_exists'.1 hc
    rw [f2 c o (by simp) ho]; simp
  refine q0.push ((hr.fr (f1.trans f2)).src) hal (by simp; omega) fun v3 h3 q3 f3 => ?_
  rw [List.nil_append] at q3
  refine join_r (fun (J : H → Prop) => ∀ h' ms, Fr [] h h' → h'.get m = some (.live (bo ms) 4 true) → RMk lays os rts l ms [] → J h') (fun h' ms f' g' M => ?_) fun J hJ => ?_
  · refine hK h' m ms f' hm g' M.ml fun i x hx => ⟨fun e => M.s i x hx e, fun e => ?_⟩
    obtain ⟨j, y, e1, e2, e3⟩ := M.done A rr rel e
    have hat := rch_at fit hf e
    have : x = y := by
      refine rel.uniq x (List.mem_of_getElem? hx) y (List.mem_of_getElem? e1) ?_
      have := rel.pos x (List.mem_of_getElem? hx)
      omega
    subst this
    have : i = j := rel.place hx e1
    rw [this]; exact e2
  · have cov : ∀ w, w % 2 ≠ 1 → fitsO os w = true → ∃ x, atR l (w / 2) = some x := fun w hw hfw => by
      rw [rel.fits w] at hfw
      unfold fitsR at hfw
      simp only [hw, decide_false, Bool.false_or] at hfw
      exact Option.isSome_iff_exists.1 hfw
    refine loop_r (rts.length + (l.map fun x => x.r.fs.length).sum) (fun k ls h' => ∃ (vt : AV) (T : List Int) (ms : List Bool), ls = [vt] ∧ Qu h1 h' vt T ∧ (∀ c, h1.get c ≠ none → h'.get c ≠ none) ∧ Fr [] h h' ∧ h'.get m = some (.live (bo ms) 4 true) ∧ RMk lays os rts l ms T ∧ T.length + restF l ms ≤ rts.length + (l.map fun x => x.r.fs.length).sum ∧ k = T.length + restF l ms)
      ⟨v3, rts, List.replicate l.length false, rfl, q3, ?_, ?_, ?_, ?_, by rw [restF_none]; omega, by rw [restF_none]⟩ ?_
    · exact fun c hc => by
        obtain ⟨o, ho⟩ := Option.ne_none_iff_exists'.1 hc
        rw [f3 c o (f2 c o (by simp) ho) hc]; simp
    · exact fun c o _ ho => f3 c o (f2 c o (by simp) (f1 c o (by simp) ho)) (by rw [f1 c o (by simp) ho]; simp)
    · exact f3 m _ (f2 m _ (by simp) g1) (by rw [g1]; simp)
    · have no : ∀ (i : Nat), (List.replicate l.length false)[i]? ≠ some true := fun i h => by
        rw [List.getElem?_replicate] at h; split at h <;> cases h
      exact ⟨by simp, fun i x _ h => absurd h (no i), fun w hw => ⟨rr w hw, fun q => .root hw q⟩, fun w hw _ => .inl hw, fun i x _ h => absurd h (no i)⟩
    rintro k ls h4 ⟨vt, T, ms, rfl, q4, hal4, f4, g4, M, tot, rfl⟩
    rw [argA_0, q4.len, valA_some, b_gtr, valA_some]
    cases T with
    | nil =>
      have hn : ¬ ((0 : Int) < (([] : List Int).length : Nat)) := by simp
      simp only [hn, decide_false, condA_f]
      exact hJ h4 ms f4 g4 M
    | cons w T =>
      have hp : (0 : Int) < ((w :: T).length : Nat) := by rw [List.length_cons]; omega
      simp only [hp, decide_true, condA_t]
      obtain ⟨b5, o5, v5, i1, i2, i3, q5⟩ := q4.pop
      have w0 := (M.t w (by simp)).1
      have e1 : w.tmod 2 = w % 2 := Int.tmod_eq_emod_of_nonneg w0.1
      have e2 : IntKind.u64.wrap (w.tdiv 2) = w / 2 := by rw [Int.tdiv_eq_ediv_of_nonneg w0.1, u64_id (by omega) (by omega)]
      have e3 : IntKind.i64.wrap (w / 2) = w / 2 := i64_id (by omega) (by omega)
      have next : (w % 2 ≠ 1 → ∃ (i : Nat) (x : RV), l[i]? = some x ∧ ms[i]? = some true ∧ x.r.a = w / 2) → ∀ h', Fr [] h4 h' → ∃ n', n' < (w :: T).length + restF l ms ∧ ∃ (vt : AV) (T' : List Int) (ms' : List Bool), [v5] = [vt] ∧ Qu h1 h' vt T' ∧ (∀ c, h1.get c ≠ none → h'.get c ≠ none) ∧ Fr [] h h' ∧ h'.get m = some (.live (bo ms') 4 true) ∧ RMk lays os rts l ms' T' ∧ T'.length + restF l ms' ≤ rts.length + (l.map fun x => x.r.fs.length).sum ∧ n' = T'.length + restF l ms' := fun hw h' f' => by
        refine ⟨T.length + restF l ms, by rw [List.length_cons]; omega, v5, T, ms, rfl, q5.mono fun c o _ hg => f' c o (by simp) hg, fun c hc => ?_, f4.trans f', f' m _ (by simp) g4, M.skip hw, by rw [List.length_cons] at tot; omega, rfl⟩
        obtain ⟨o, ho⟩ := Option.ne_none_iff_exists'.1 (hal4 c hc)
        rw [f' c o (by simp) ho]; simp
      simp only [i1, valA_some, ldA_n, i2, i3, b_rem (show (2 : Int) ≠ 0 by decide), e1, b_eql]
      by_cases hw : w % 2 = 1
      · have hw' : IntKind.u64.wrap (w % 2) = 1 := by rw [hw]; rfl
        simp only [hw, hw', decide_true, condA_t]
        exact next (fun q => absurd hw q) h4 (Fr.refl _ _)
      · have hw' : ¬ IntKind.u64.wrap (w % 2) = 1 := by rw [u64_id (by omega) (by omega)]; exact hw
        simp only [hw, hw', decide_false, condA_f, b_quo (show (2 : Int) ≠ 0 by decide), valA_some, e2, cvA_i, e3]
        have R4 := R.keep0 f4
        refine rfind_c R4 hl _ fun h6 f6 => ?_
        have R6 := R4.keep0 f6
        have g6 := f6 m _ (by simp) g4
        have hat0 := rch_at fit hf ((M.t w (by simp)).2 hw)
        have hat : ∃ y, atR l (w / 2) = some y := by
          unfold AtO at hat0
          rw [show (((w / 2).toNat : Nat) : Int) = w / 2 by omega] at hat0
          rcases rel.find0 (w / 2) with ⟨e, _⟩ | ⟨o', y, _, q2, _⟩
          · rw [e] at hat0; cases hat0
          · exact ⟨y, q2⟩
        rcases findR_spec l (w / 2) 0 with ⟨_, s2⟩ | ⟨i, x, s1, s2, s3, s4⟩
        · obtain ⟨y, hy⟩ := hat
          unfold atR at hy
          rw [find_none s2] at hy; cases hy
        · rw [s1, Nat.zero_add]
          have hil : i < l.length := (List.getElem?_eq_some_iff.1 s2).1
          obtain ⟨bit, hbit⟩ : ∃ bit, ms[i]? = some bit := ⟨ms[i]'(by rw [M.ml]; exact hil), by simp [M.ml, hil]⟩
          have n0 : ¬ ((i : Nat) : Int) < 0 := by omega
          have iaM : ∀ k, iaA 1 (.sl m 0 l.length (.exact l.length)) (.int k ((i : Nat) : Int)) = some (.ptr m i) := fun k => by
            have : (0 : Int) ≤ (i : Nat) ∧ ((i : Nat) : Int) < l.length := by omega
            simp [iaA, this]
          have cm : h6.cell m i = some (.bool bit) := by rw [cell_of g6]; simp [bo, hbit]
          simp only [b_lss, valA_some, n0, decide_false, whenA_ff, iaM, ldA_n, cm, pickA_b, Bool.false_eq_true, if_false]
          cases bit with
          | true =>
            simp only [condA_t]
            exact next (fun _ => ⟨i, x, s2, hbit, s3⟩) h6 f6
          | false =>
            simp only [condA_f]
            have sm : stA h6 1 (.ptr m i) (.bool true) = some (h6.set m (.live (bo (ms.set i true)) 4 true)) := by
              rw [st_val g6 (by simp [bo, M.ml, hil]) rfl rfl]
              simp [bo, List.map_set]
            rw [sm, memA_some]
            have f04 : Fr [] h h6 := f4.trans f6
            have f7 : Fr [] h (h6.set m (.live (bo (ms.set i true)) 4 true)) := f04.set' hm
            have fm : ∀ c o, c ≠ m → h6.get c = some o → (h6.set m (.live (bo (ms.set i true)) 4 true)).get c = some o := fun c o hc hg => by rw [H.get_other _ _ hc]; exact hg
            have g7 : (h6.set m (.live (bo (ms.set i true)) 4 true)).get m = some (.live (bo (ms.set i true)) 4 true) := H.get_same ..
            generalize h6.set m (.live (bo (ms.set i true)) 4 true) = h7 at *
            have R7 := R.keep0 f7
            obtain ⟨lv7, Lv7, c7, r7, o7⟩ := R7.cells
            have c72 : h7.cell bx 2 = some Lv7 := by rw [c7]; rfl
            obtain ⟨bq, q, p1, p2, p3⟩ := o7.obj s2
            have cf := (cells3 p2).1
            have hok := R7.el x (List.mem_of_getElem? s2)
            simp only [nilcA_p, valA_some, faA_p, Nat.zero_add, ldA_n, c72, p1, cf]
            have hal7 : ∀ c, h1.get c ≠ none → h7.get c ≠ none := fun c hc => by
              by_cases e : c = m
              · rw [e, g7]; simp
              · obtain ⟨o, ho⟩ := Option.ne_none_iff_exists'.1 (hal4 c hc)
                rw [fm c o e (f6 c o (by simp) ho)]; simp
            have q7 : Qu h1 h7 v5 T := q5.mono fun c o hc hg => fm c o (fun e => by rw [e, g1] at hc; cases hc) (f6 c o (by simp) hg)
            have rs := restF_set l ms i x s2 hbit
            rw [List.length_cons] at tot
            refine q7.push hok.1.row.src hal7 (by omega) fun v8 h8 q8 f8 => ?_
            refine ⟨(T ++ x.r.fs).length + restF l (ms.set i true), by rw [List.length_cons, List.length_append]; omega, v8, T ++ x.r.fs, ms.set i true, rfl, q8, fun c hc => ?_, fun c o _ ho => ?_, f8 m _ g7 (by rw [g1]; simp), M.put A rel hw s2 s3 s4 hbit, by rw [List.length_append]; omega, rfl⟩
            · obtain ⟨o, ho⟩ := Option.ne_none_iff_exists'.1 (hal7 c hc)
              rw [f8 c o ho hc]; simp
            · exact f8 c o (f7 c o (by simp) ho) (by rw [f1 c o (by simp) ho]; simp)
end
end Go.Proofs.Ytljkkfcokpimkaa.X
set_option linter.unusedVariables false
set_option linter.unusedSimpArgs false
set_option maxRecDepth 20000
namespace Go.Proofs.Ytljkkfcokpimkaa.X
open Go Go.RowKit
theorem Rel.sumF {lays : List (Int × Int)} : ∀ {p : Nat} {os : List Ob} {l : List RV}, Rel lays p os l → (l.map fun x => x.r.fs.length).sum ≤ (rowOf os).length
  | _, [], [], _ => by simp [rowOf]
  | _, [], _ :: _, h => h.elim
  | _, _ :: _, [], h => h.elim
  | p, o :: os, x :: l, h => by
    have ih := h.2.2.sumF
    have hr : o.row.length = o.body.length + 1 := by simp [Ob.row]
    have hf : x.r.fs.length ≤ o.body.length := by
      have := h.2.1.2.2
      split at this
      · rw [this.1]; simp
      · rw [this.1]; exact Nat.le_refl _
    rw [rowOf_cons, List.length_append, List.map_cons, List.sum_cons]
    omega
theorem Case.bothOf {h1 h2 h' hx : H} {b bw bd bx : Nat} {B BL : List Nat} {s : Hs} {os : List Ob} {l : List RV} {v : AV} {rts : List Int} (c : Case h1 h2 h' b bw bd B s os bx BL l v rts) (T : HS hx b bw bd B s.lays 1500 os) (R' : RefAt h1 hx bx s.words.length s.lays BL l) : ∃ s', Both h1 hx b bw bd B s' os bx BL l := by
  obtain ⟨s', hh', A', e1, e2⟩ := T
  exact ⟨s', hh', A', by rw [e2, e1]; rw [c.wl] at R'; exact R', by rw [e1]; exact c.both.r, c.both.ap, c.both.new, by rw [e1]; exact c.both.fit⟩
end Go.Proofs.Ytljkkfcokpimkaa.X
set_option linter.unusedVariables false
set_option linter.unusedSimpArgs false
set_option maxRecDepth 20000
namespace Go.Proofs.Ytljkkfcokpimkaa.X
open Go Go.RowKit
def H.cutB (h : H) (S : List Nat) : H := ⟨fun k => if k ∈ S then none else h.get k, by
  obtain ⟨n, hn⟩ := h.fin
  exact ⟨n, fun k hk => by split; rfl; exact hn k hk⟩⟩
theorem cutB_out {h : H} {S : List Nat} {c : Nat} (hc : c ∉ S) : (h.cutB S).get c = h.get c := if_neg hc
theorem cutB_in {h : H} {S : List Nat} {c : Nat} (hc : c ∈ S) : (h.cutB S).get c = none := if_pos hc
section
variable {h0 h : H} {bx : Nat} {words : Int} {lays : List (Int × Int)} {BL : List Nat} {l : List RV}
theorem RefAt.below (R : RefAt h0 h bx words lays BL l) : Fr [] h0 (h.cutB (blocksR bx BL l)) ∧ RefAt (h.cutB (blocksR bx BL l)) h bx words lays BL l := by
  have f : Fr [] h0 (h.cutB (blocksR bx BL l)) := fun c o _ ho => by
    have hc : c ∉ blocksR bx BL l := fun q => by rw [R.new c q] at ho; cases ho
    rw [cutB_out hc]; exact R.fr c o (by simp) ho
  obtain ⟨lv, Lv, s1, s2, s3⟩ := R.st
  refine ⟨f, fun c o _ ho => ?_, ⟨lv, Lv, s1, s2.fr f, s3⟩, R.el, R.nd, fun c hc => cutB_in hc⟩
  by_cases hc : c ∈ blocksR bx BL l
  · rw [cutB_in hc] at ho; cases ho
  · rw [cutB_out hc] at ho; exact ho
theorem RefAt.ty (R : RefAt h0 h bx words lays BL l) {c : Nat} (hc : c ∈ blocksR bx BL l) {cs : List AV} {e : Nat} {w : Bool} (hg : h.get c = some (.live cs e w)) : e ≠ 3 := by
  obtain ⟨lv, Lv, s1, s2, s3⟩ := R.st
  have sl : ∀ {ty esz v B n cs'}, SlW h ty esz v B n cs' → c ∈ B → e = ty := fun o hB => by
    rcases o.2 with ⟨_, _, q⟩ | ⟨b, _, _, _, q, g⟩
    · rw [q] at hB; cases hB
    · rw [q] at hB; simp at hB; subst hB; rw [hg] at g; injection g with g; injection g
  simp only [blocksR, List.mem_cons, List.mem_append, List.mem_flatMap] at hc
  rcases hc with rfl | hc | ⟨x, hx, hc⟩
  · rw [s1] at hg; injection hg with hg; injection hg with _ hg _; omega
  · have := sl s3.w hc; omega
  · have hok := R.el x hx
    rcases List.mem_append.1 hc with q | q
    · have := sl hok.1 q; omega
    · have := sl hok.2 q; omega
theorem push2_c {h1 h' : H} (R1 : RefAt h0 h1 bx words lays BL l) (hl : l.length ≤ 65536) (f' : Fr [] h1 h') {fv bv : AV} {r : RO} (of : OwnW h1 h' 25 1 fv r.fs.length (wc r.fs)) (ob : OwnW h1 h' 5 1 bv r.bs.length (bc r.bs)) {Lv2 : AV} (hc2 : h'.cell bx 2 = some Lv2) {K : AV → H → Prop}
    (hK : ∀ v h3 h4 BL' x, stA h3 1 (.ptr bx 2) v = some h4 → RefAt h0 h4 bx words lays BL' (l ++ [x]) → x.r = r → h4.cell bx 1 = h'.cell bx 1 → (∀ c o, c ∉ blocksR bx BL l → h1.get c = some o → h4.get c = some o) → K v h3) :
    mkslA h' 89 1 (some [AV.int .i64 r.a, .int .i64 r.sh, .int .i64 r.n, fv, bv]) (fun t h => appendA h 89 5 72 Lv2 t K) := by
  obtain ⟨fb, Rb⟩ := R1.below
  obtain ⟨lv, Lv, s1, s2, s3⟩ := (R1.keep0 f').st
  refine push_c Rb hl f' of ob hc2 fun v h3 h4 BL' x st Rg xr c1 => ?_
  refine hK v h3 h4 BL' x st (Rg.rebase (lv := lv) (by rw [c1, cell_of s1]; rfl) fb s2) xr c1 fun c o hc ho => Rg.fr c o (by simp) (by rw [cutB_out hc]; exact ho)
end
theorem copy_c {h1 h : H} (f : Fr [] h1 h) {ty bytes : Nat} {y : AV} {cs : List AV} {n : Nat} (hr : Row h y n 1 cs) (hlv : leaves cs = true) (hb : n * bytes ≤ most) {K : AV → H → Prop} (hK : ∀ v h', Fr [] h h' → OwnW h1 h' ty 1 v n cs → K v h') : mkslA h ty 0 (fillV [] []) (fun t h => appendA h ty 1 bytes t y K) := by
  rw [show fillV [] [] = some [] from rfl]
  refine ⟨rfl, fun b0 hb0 => ?_⟩
  have f2 : Fr [] h (h.set b0 (.live [] ty true)) := Fr.new hb0
  have g2 : (h.set b0 (.live [] ty true)).get b0 = some (.live [] ty true) := H.get_same ..
  have hr2 := hr.fr f2
  generalize h.set b0 (.live [] ty true) = h2 at *
  have hl := hr.1
  show appendA h2 ty 1 bytes (.sl b0 0 0 (.exact 0)) y K
  unfold appendA
  rw [hr2.src]
  simp only
  by_cases hn : n = 0
  · subst hn
    have : cs = [] := List.eq_nil_of_length_eq_zero (by omega)
    subst this
    rw [if_pos rfl]
    exact hK _ h2 f2 ⟨[b0], ⟨by simp, .inr ⟨b0, .exact 0, rfl, rfl, rfl, g2⟩⟩, fun c hc => by simp at hc; subst hc; exact ⟨f.free hb0, g2⟩, by simp⟩
  · rw [if_neg hn, if_neg (by omega)]
    have e1 : h2.read b0 0 (0 * 1) = some [] := H.read_eq g2 (by simp) (by simp)
    rw [e1]
    refine ⟨by simpa using hb, by simpa using hlv, fun b' hb' => ?_⟩
    have hb1 : h1.get b' = none := f.free (f2.free hb')
    have g3 : (h2.set b' (.live ([] ++ cs) ty true)).get b' = some (.live cs ty true) := by rw [H.get_same]; simp
    exact hK _ _ (f2.trans (Fr.new hb')) ⟨[b'], ⟨by omega, .inr ⟨b', .more 1, by simp, rfl, rfl, g3⟩⟩, fun c hc => by simp at hc; subst hc; exact ⟨hb1, g3⟩, by simp⟩
theorem OwnW.keep {h1 h' h'' : H} {ty esz : Nat} {v : AV} {n : Nat} {cs : List AV} (o : OwnW h1 h' ty esz v n cs) (f : Fr [] h' h'') : OwnW h1 h'' ty esz v n cs := by
  obtain ⟨B, q1, q2, q3⟩ := o
  exact ⟨B, q1.fr f (by simp), fun c hc => ⟨(q2 c hc).1, f c _ (by simp) (q2 c hc).2⟩, q3⟩
theorem OwnW.one {h1 h' : H} {ty esz : Nat} {v : AV} {n : Nat} {cs : List AV} (o : OwnW h1 h' ty esz v n cs) : v.leaf = true ∧ v.cells = [v] := by
  obtain ⟨B, q1, q2, q3⟩ := o
  exact q1.one
theorem fill_ref {w : Int} {lv : AV} (h : lv.leaf = true ∧ lv.cells = [lv]) : fillV [.int .i64 0, .nilsl, .nilsl] [(0, 1, .int .i64 w), (1, 1, lv)] = some [.int .i64 w, lv, .nilsl] := by
  have ic : ∀ k n, (AV.int k n).cells = [AV.int k n] := fun _ _ => rfl
  have il : ∀ k n, (AV.int k n).leaf = true := fun _ _ => rfl
  simp [fillV_1, fillV_0, h.1, h.2, leaves, ic, il, overlay]
theorem fill_obj {a b c : Int} {fv bv : AV} (h : fv.leaf = true ∧ fv.cells = [fv]) (h' : bv.leaf = true ∧ bv.cells = [bv]) : fillV [.int .i64 0, .int .i64 0, .int .i64 0, .nilsl, .nilsl] [(0, 1, .int .i64 a), (1, 1, .int .i64 b), (2, 1, .int .i64 c), (3, 1, fv), (4, 1, bv)] = some [.int .i64 a, .int .i64 b, .int .i64 c, fv, bv] := by
  have ic : ∀ k n, (AV.int k n).cells = [AV.int k n] := fun _ _ => rfl
  have il : ∀ k n, (AV.int k n).leaf = true := fun _ _ => rfl
  simp [fillV_1, fillV_0, h.1, h.2, h'.1, h'.2, leaves, ic, il, overlay]
theorem fill_obj5 {a b c : Int} {fv bv : AV} (h : fv.leaf = true ∧ fv.cells = [fv]) (h' : bv.leaf = true ∧ bv.cells = [bv]) : fillV [.int .i64 0, .int .i64 0, .int .i64 0, .nilsl, .nilsl] [(0, 5, .agg [.int .i64 a, .int .i64 b, .int .i64 c, fv, bv])] = some [.int .i64 a, .int .i64 b, .int .i64 c, fv, bv] := by
  have e : leaves [AV.int .i64 a, .int .i64 b, .int .i64 c, fv, bv] = true := by simp only [leaves, h.1, h'.1]; rfl
  simp only [fillV, AV.cells, e]; rfl
theorem mks_int {h : H} {n : Nat} (hn : n ≤ 65536) {K : AV → H → Prop} (hK : ∀ m, h.get m = none → K (.sl m 0 n (.exact n)) (h.set m (.live (ic' (List.replicate n 0)) 3 true))) : mksA h 3 [.int .i64 0] 8 (.int .i64 n) (.int .i64 n) K := by
  have n1 : natOf (.int .i64 (n : Int)) = some n := by simp [natOf]
  unfold mksA
  rw [n1]
  simp only
  refine ⟨⟨Nat.le_refl _, by unfold most; omega, by omega⟩, by rw [repCells_int]; exact leaves_replicate .., fun m hm => ?_⟩
  have := hK m hm
  rw [repCells_int]
  simpa [ic'] using this
/-! ### Plain -/
def keepRow (lays : List (Int × Int)) (os : List Ob) : Prop := ∀ o ∈ os, needN lays o.sh o.n = ((o.row.length : Int), 0)
theorem Rel.topE {lays : List (Int × Int)} : ∀ {p : Nat} {os : List Ob} {l : List RV}, Rel lays p os l → keepRow lays os → topR lays l = (rowOf os).length
  | _, [], [], _, _ => rfl
  | _, [], _ :: _, h, _ => h.elim
  | _, _ :: _, [], h, _ => h.elim
  | p, o :: os, x :: l, h, e => by
    have ih := h.2.2.topE fun o ho => e o (by simp [ho])
    have e1 := e o (by simp)
    rw [← h.2.1.1, ← h.2.1.2.1] at e1
    unfold topR at ih ⊢
    rw [List.map_cons, List.sum_cons, ih, e1, rowOf_cons, List.length_append]
    push_cast; rfl
def RV.mv (F : Int → Int) (x : RV) : RV := { x with r := { x.r with fs := x.r.fs.map F } }
def RV.wF (x : RV) (fs : List Int) : RV := { x with r := { x.r with fs := fs } }
def mvR (F : Int → Int) : List RV → Nat → List RV
  | [], _ => []
  | x :: l, 0 => x :: l
  | x :: l, i + 1 => x.mv F :: mvR F l i
theorem mvR_zero (F : Int → Int) : ∀ l, mvR F l 0 = l
  | [] => rfl
  | _ :: _ => rfl
theorem mvR_len (F : Int → Int) : ∀ l i, (mvR F l i).length = l.length
  | [], _ => rfl
  | _ :: _, 0 => rfl
  | x :: l, i + 1 => by rw [mvR, List.length_cons, mvR_len F l i, List.length_cons]
theorem mvR_get (F : Int → Int) : ∀ (l : List RV) (i : Nat) (x : RV), l[i]? = some x → (mvR F l i)[i]? = some x ∧ (mvR F l i).set i (x.mv F) = mvR F l (i + 1) ∧ (mvR F l i).set i (x.wF x.r.fs) = mvR F l i
  | [], i, x, h => by simp at h
  | y :: l, 0, x, h => by
    simp at h; subst h
    exact ⟨rfl, by simp [mvR, mvR_zero], by simp [mvR, RV.wF]⟩
  | y :: l, i + 1, x, h => by
    obtain ⟨a, b, c⟩ := mvR_get F l i x (by simpa using h)
    refine ⟨by simpa [mvR] using a, ?_, ?_⟩
    · simp only [mvR, List.set_cons_succ]; rw [b]
    · simp only [mvR, List.set_cons_succ]; rw [c]
theorem mvR_all (F : Int → Int) : ∀ l, mvR F l l.length = l.map (RV.mv F)
  | [] => rfl
  | x :: l => by rw [List.length_cons, mvR, mvR_all F l]; rfl
theorem Rel.mv {lays : List (Int × Int)} (f : Nat → Nat) : ∀ {p : Nat} {os : List Ob} {l : List RV}, Rel lays p os l → Rel lays p (os.map (newB lays f)) (l.map (RV.mv (fwdW f)))
  | _, [], [], _ => trivial
  | _, [], _ :: _, h => h.elim
  | _, _ :: _, [], h => h.elim
  | p, o :: os, x :: l, h => by
    refine ⟨h.1, ⟨h.2.1.1, h.2.1.2.1, ?_⟩, ?_⟩
    · have := h.2.1.2.2
      show if kindAt lays o.sh = 3 then _ else _
      split
      · rename_i k
        rw [if_pos k] at this
        refine ⟨by show x.r.fs.map _ = []; rw [this.1]; rfl, this.2.1, ?_⟩
        show Packs x.r.bs (newB lays f o).body
        rw [newB]; simp only [k, if_true]; exact this.2.2
      · rename_i k
        rw [if_neg k] at this
        refine ⟨?_, this.2.1, by show ((x.r.fs.map _).length : Int) = _; rw [List.length_map]; exact this.2.2⟩
        show x.r.fs.map _ = (newB lays f o).body
        rw [newB]; simp only [k, if_false]; rw [this.1]
    · rw [newB_len]; exact Rel.mv f h.2.2
end Go.Proofs.Ytljkkfcokpimkaa.X
set_option linter.unusedVariables false
set_option linter.unusedSimpArgs false
set_option maxRecDepth 20000
namespace Go.Proofs.Ytljkkfcokpimkaa.X
open Go Go.RowKit
theorem cell_fr3 {h h' : H} (f : Fr [] h h') {b o : Nat} {v : AV} (hc : h.cell b o = some v) : h'.cell b o = some v := by
  unfold H.cell at hc ⊢
  cases hg : h.get b with
  | none => rw [hg] at hc; cases hc
  | some ob => rw [f b ob (by simp) hg]; rw [hg] at hc; exact hc
section
variable {h0 g0 h : H} {bx bx2 m2 : Nat} {words : Int} {lays : List (Int × Int)} {BL BL2 : List Nat} {l l2 : List RV} {os : List Ob} {rts T : List Int} {R : Nat → Bool}
theorem find_old (R0 : RefAt h0 h bx words lays BL l) (hl : l.length ≤ 1000) (rel : Rel lays 0 os l) {w : Int} (w0 : 0 ≤ w) (hw : w % 2 ≠ 1) (hfit : fitsO os w = true) (spec : ∀ (k : Nat) (y : RV), l[k]? = some y → R y.r.a.toNat = true → T[k]? = some ((fw R os y.r.a.toNat : Nat) : Int)) (hRw : R (w / 2).toNat = true) {K : AV → H → Prop}
    (hK : ∀ h' k, Fr [] h h' → k < l.length → T[k]? = some ((fw R os (w / 2).toNat : Nat) : Int) → K (.int .i64 (k : Nat)) h') : C 67 [.ptr bx 0, .int .i64 (w / 2)] h K := by
  refine rfind_c R0 hl _ fun h6 f6 => ?_
  have hat : ∃ y, atR l (w / 2) = some y := by
    rw [rel.fits w] at hfit
    unfold fitsR at hfit
    simp only [hw, decide_false, Bool.false_or] at hfit
    exact Option.isSome_iff_exists.1 hfit
  rcases findR_spec l (w / 2) 0 with ⟨_, s2⟩ | ⟨i, x, s1, s2, s3, s4⟩
  · obtain ⟨y, hy⟩ := hat
    unfold atR at hy
    rw [find_none s2] at hy; cases hy
  · rw [s1, Nat.zero_add]
    exact hK h6 i f6 (List.getElem?_eq_some_iff.1 s2).1 (by rw [← s3]; exact spec i x s2 (by rw [s3]; exact hRw))
theorem ia_row {m n k : Nat} (hk : k < n) {kd : IntKind} : iaA 1 (.sl m 0 n (.exact n)) (.int kd ((k : Nat) : Int)) = some (.ptr m k) := by
  have : (0 : Int) ≤ (k : Nat) ∧ ((k : Nat) : Int) < n := by omega
  simp [iaA, this]
theorem out_c (R0 : RefAt h0 h bx words lays BL l) (hl : l.length ≤ 1000) (rel : Rel lays 0 os l) {v : AV} (hr : Row h v rts.length 1 (wc rts)) (rl : rts.length ≤ 65536) (rr : ∀ w ∈ rts, (0 ≤ w ∧ w < 18446744073709551616) ∧ fitsO os w = true ∧ (w % 2 ≠ 1 → R (w / 2).toNat = true))
    (hm2 : h.get m2 = some (.live (ic' T) 3 true)) (spec : ∀ (k : Nat) (y : RV), l[k]? = some y → R y.r.a.toNat = true → T[k]? = some ((fw R os y.r.a.toNat : Nat) : Int)) (fwb : ∀ w, fitsO os w = true → w % 2 ≠ 1 → R (w / 2).toNat = true → fw R os (w / 2).toNat ≤ 65536) {v7 : AV} {Rr : AV → H → Prop}
    (hK : ∀ h' v2, Fr [] h h' → Own h h' 25 1 v2 rts.length (wc (rts.map (fwdW (fw R os)))) → Rr (.tup [v7, v2]) h') : sh91p2 C (.ptr bx 0) v v7 (.sl m2 0 l.length (.exact l.length)) h Rr := by
  unfold sh91p2
  rw [hr.len, valA_some]
  refine loop_r (rts.length + 1) (fun c ls h' => ∃ (i : Nat) (vo : AV), ls = [vo, .int .i64 i] ∧ i ≤ rts.length ∧ Fr [] h h' ∧ Own h h' 25 1 vo i (wc ((rts.take i).map (fwdW (fw R os)))) ∧ c = rts.length + 1 - i) ⟨0, .nilsl, rfl, by omega, Fr.refl _ _, Own.nil _ _ _ _, rfl⟩ ?_
  rintro c ls h5 ⟨i, vo, rfl, hi, f5, ov, rfl⟩
  rw [argA_0, argA_1, b_lss, valA_some]
  by_cases q : (i : Int) < rts.length
  · have hi' : i < rts.length := by omega
    obtain ⟨w, hw⟩ : ∃ w, rts[i]? = some w := ⟨rts[i], by simp [hi']⟩
    obtain ⟨w0, wf, wR⟩ := rr w (List.mem_of_getElem? hw)
    have en : IntKind.i64.wrap ((i : Int) + 1) = ((i + 1 : Nat) : Int) := by rw [i64_id (by omega) (by omega)]; rfl
    have e1 : w.tmod 2 = w % 2 := Int.tmod_eq_emod_of_nonneg w0.1
    have e2 : IntKind.u64.wrap (w.tdiv 2) = w / 2 := by rw [Int.tdiv_eq_ediv_of_nonneg w0.1, u64_id (by omega) (by omega)]
    have e3 : IntKind.i64.wrap (w / 2) = w / 2 := i64_id (by omega) (by omega)
    simp only [q, decide_true, condA_t]
    refine (hr.fr f5).get (x := .int .u64 w) (by omega) q (by rw [Int.toNat_natCast, wc_get, hw]; rfl) ?_
    refine join_r (fun (J : AV → H → Prop) => ∀ h', Fr [] h5 h' → J (.int .u64 (fwdW (fw R os) w)) h') (fun h6 f6 => ?_) fun J hJ => ?_
    · have ef : fillV [AV.int .u64 0] [(0, 1, .int .u64 (fwdW (fw R os) w))] = some [.int .u64 (fwdW (fw R os) w)] := rfl
      rw [ef]
      have ov6 : Own h h6 25 1 vo i (wc ((rts.take i).map (fwdW (fw R os)))) := ov.keep fun k n p _ ob hg => f6 k ob (by simp) hg
      refine append_one (h0 := h) ov6 rfl (by decide) (wc_leaves _) rfl (f5.trans f6) (by unfold most; omega) fun v8 h8 o8 f8 _ => ?_
      rw [b_add, en, valA_some]
      refine ⟨rts.length + 1 - (i + 1), by omega, i + 1, v8, rfl, by omega, f8, ?_, rfl⟩
      have e4 : wc ((rts.take (i + 1)).map (fwdW (fw R os))) = wc ((rts.take i).map (fwdW (fw R os))) ++ [.int .u64 (fwdW (fw R os) w)] := by
        rw [List.take_add_one, hw]; simp [wc]
      rw [e4]; exact o8
    · rw [b_rem (show (2 : Int) ≠ 0 by decide), valA_some, e1, b_eql, valA_some]
      by_cases hw1 : w % 2 = 1
      · have h00 : ¬ (w % 2 = 0) := by omega
        simp only [h00, decide_false, condA_f]
        have e : fwdW (fw R os) w = w := by unfold fwdW; rw [if_pos hw1]
        have := hJ h5 (Fr.refl _ _)
        rw [e] at this
        exact this
      · have h00 : w % 2 = 0 := by omega
        simp only [h00, decide_true, condA_t]
        rw [b_quo (show (2 : Int) ≠ 0 by decide), valA_some, e2, cvA_i, valA_some, e3]
        refine find_old (R0.keep0 f5) hl rel w0.1 hw1 wf spec (wR hw1) fun h6 k f6 hk hTk => ?_
        have bd := fwb w wf hw1 (wR hw1)
        have cm : h6.cell m2 k = some (.int .i64 ((fw R os (w / 2).toNat : Nat) : Int)) := by
          rw [cell_of (f6 m2 _ (by simp) (f5 m2 _ (by simp) hm2))]; simp [ic', hTk]
        have e : fwdW (fw R os) w = ((fw R os (w / 2).toNat : Nat) : Int) * 2 := by unfold fwdW; rw [if_neg hw1]
        rw [ia_row hk, valA_some, ldA_n, cm, valA_some, cvA_i, valA_some, u64_id (by omega) (by omega), b_mul, valA_some, u64_id (by omega) (by omega), ← e]
        exact hJ h6 f6
  · have : i = rts.length := by omega
    subst this
    simp only [q, decide_false, condA_f]
    unfold sh91p3
    rw [List.take_length] at ov
    exact hK h5 vo f5 ov
theorem part_set {F : Int → Int} {fs : List Int} {j : Nat} {w : Int} (h : fs[j]? = some w) : ((fs.take j).map F ++ fs.drop j).set j (F w) = (fs.take (j + 1)).map F ++ fs.drop (j + 1) ∧ ((fs.take j).map F ++ fs.drop j)[j]? = some w ∧ (F w = w → (fs.take j).map F ++ fs.drop j = (fs.take (j + 1)).map F ++ fs.drop (j + 1)) := by
  have hj : j < fs.length := (List.getElem?_eq_some_iff.1 h).1
  have hl : ((fs.take j).map F).length = j := by rw [List.length_map, List.length_take]; omega
  have hd : fs.drop j = w :: fs.drop (j + 1) := by
    rw [List.drop_eq_getElem_cons hj]; congr 1
    rw [List.getElem?_eq_getElem hj] at h; injection h
  have ht : (fs.take (j + 1)).map F = (fs.take j).map F ++ [F w] := by rw [List.take_add_one, h]; simp
  refine ⟨?_, ?_, fun e => ?_⟩
  · rw [hd, List.set_append_right _ _ (by omega), hl, Nat.sub_self, List.set_cons_zero, ht, List.append_assoc]; rfl
  · rw [hd, List.getElem?_append_right (by omega), hl, Nat.sub_self]; rfl
  · rw [hd, ht, e, List.append_assoc]; rfl
theorem move_c (R0 : RefAt h0 g0 bx words lays BL l) (hl : l.length ≤ 1000) (rel : Rel lays 0 os l) (R2 : RefAt g0 h bx2 words lays BL2 l2) (hl2 : l2.length ≤ 1000) (hm2 : h.get m2 = some (.live (ic' T) 3 true)) (spec : ∀ (k : Nat) (y : RV), l[k]? = some y → R y.r.a.toNat = true → T[k]? = some ((fw R os y.r.a.toNat : Nat) : Int))
    (good : ∀ y ∈ l2, y.r.fs.length ≤ 65536 ∧ ∀ w ∈ y.r.fs, (0 ≤ w ∧ w < 18446744073709551616) ∧ fitsO os w = true ∧ (w % 2 ≠ 1 → R (w / 2).toNat = true)) (fwb : ∀ w, fitsO os w = true → w % 2 ≠ 1 → R (w / 2).toNat = true → fw R os (w / 2).toNat ≤ 65536) {lv v1 : AV} (hc1 : h.cell bx2 1 = some lv) {Rr : AV → H → Prop}
    (hK : ∀ h', RefAt g0 h' bx2 words lays BL2 (l2.map (RV.mv (fwdW (fw R os)))) → h'.get m2 = some (.live (ic' T) 3 true) → h'.cell bx2 1 = some lv → sh91p2 C (.ptr bx 0) v1 (.ptr bx2 0) (.sl m2 0 l.length (.exact l.length)) h' Rr) : sh91p1 C (.ptr bx 0) v1 (.ptr bx2 0) (.sl m2 0 l.length (.exact l.length)) h Rr := by
  unfold sh91p1
  obtain ⟨lv0, Lv0, c0, r0, o0⟩ := R2.cells
  have c02 : h.cell bx2 2 = some Lv0 := by rw [c0]; rfl
  simp only [nilcA_p, valA_some, faA_p, Nat.zero_add, ldA_n, c02, o0.row.len]
  refine loop_r (l2.length + 1) (fun c ls h' => ∃ i : Nat, ls = [.int .i64 i] ∧ i ≤ l2.length ∧ RefAt g0 h' bx2 words lays BL2 (mvR (fwdW (fw R os)) l2 i) ∧ h'.get m2 = some (.live (ic' T) 3 true) ∧ h'.cell bx2 1 = some lv ∧ c = l2.length + 1 - i) ⟨0, rfl, by omega, by rw [mvR_zero]; exact R2, hm2, hc1, rfl⟩ ?_
  rintro c ls h5 ⟨i, rfl, hi, R5, gm5, hc5, rfl⟩
  rw [argA_0, b_lss, valA_some]
  by_cases q : (i : Int) < l2.length
  · have hi' : i < l2.length := by omega
    obtain ⟨x, hx⟩ : ∃ x, l2[i]? = some x := ⟨l2[i], by simp [hi']⟩
    obtain ⟨hfl, hgw⟩ := good x (List.mem_of_getElem? hx)
    obtain ⟨mg, ms1, ms2⟩ := mvR_get (fwdW (fw R os)) l2 i x hx
    have en : IntKind.i64.wrap ((i : Int) + 1) = ((i + 1 : Nat) : Int) := by rw [i64_id (by omega) (by omega)]; rfl
    simp only [q, decide_true, condA_t]
    refine join_r (fun (J : H → Prop) => ∀ h', RefAt g0 h' bx2 words lays BL2 (mvR (fwdW (fw R os)) l2 (i + 1)) → h'.get m2 = some (.live (ic' T) 3 true) → h'.cell bx2 1 = some lv → J h') (fun h6 R6 gm6 hc6 => ?_) fun J hJ => ?_
    · rw [b_add, en, valA_some]
      exact ⟨l2.length + 1 - (i + 1), by omega, i + 1, rfl, by omega, R6, gm6, hc6, rfl⟩
    · obtain ⟨lv5, Lv5, c5, r5, o5⟩ := R5.cells
      have c52 : h5.cell bx2 2 = some Lv5 := by rw [c5]; rfl
      obtain ⟨bq, p, p1, p2, p3⟩ := o5.obj mg
      have cf := (cells3 p2).1
      have hok := R5.el x (List.mem_of_getElem? mg)
      simp only [nilcA_p, valA_some, faA_p, Nat.zero_add, ldA_n, c52, p1, cf, hok.1.row.len]
      refine loop_r (x.r.fs.length + 1) (fun c ls h' => ∃ j : Nat, ls = [.int .i64 j] ∧ j ≤ x.r.fs.length ∧ RefAt g0 h' bx2 words lays BL2 ((mvR (fwdW (fw R os)) l2 i).set i (x.wF ((x.r.fs.take j).map (fwdW (fw R os)) ++ x.r.fs.drop j))) ∧ h'.get m2 = some (.live (ic' T) 3 true) ∧ h'.cell bx2 1 = some lv ∧ c = x.r.fs.length + 1 - j) ⟨0, rfl, by omega, by simp only [List.take_zero, List.map_nil, List.nil_append, List.drop_zero]; rw [ms2]; exact R5, gm5, hc5, rfl⟩ ?_
      rintro c ls h6 ⟨j, rfl, hj, R6, gm6, hc6, rfl⟩
      rw [argA_0, b_lss, valA_some]
      have hil : i < (mvR (fwdW (fw R os)) l2 i).length := by rw [mvR_len]; exact hi'
      by_cases q2 : (j : Int) < x.r.fs.length
      · have hj' : j < x.r.fs.length := by omega
        obtain ⟨w, hw⟩ : ∃ w, x.r.fs[j]? = some w := ⟨x.r.fs[j], by simp [hj']⟩
        obtain ⟨w0, wf, wR⟩ := hgw w (List.mem_of_getElem? hw)
        obtain ⟨ps1, ps2, ps3⟩ := part_set (F := fwdW (fw R os)) hw
        have en2 : IntKind.i64.wrap ((j : Int) + 1) = ((j + 1 : Nat) : Int) := by rw [i64_id (by omega) (by omega)]; rfl
        have e1 : w.tmod 2 = w % 2 := Int.tmod_eq_emod_of_nonneg w0.1
        have e2 : IntKind.u64.wrap (w.tdiv 2) = w / 2 := by rw [Int.tdiv_eq_ediv_of_nonneg w0.1, u64_id (by omega) (by omega)]
        have e3 : IntKind.i64.wrap (w / 2) = w / 2 := i64_id (by omega) (by omega)
        have hfl' : ((x.r.fs.take j).map (fwdW (fw R os)) ++ x.r.fs.drop j).length = x.r.fs.length := by rw [List.length_append, List.length_map, List.length_take, List.length_drop]; omega
        generalize hfs' : (x.r.fs.take j).map (fwdW (fw R os)) ++ x.r.fs.drop j = fs' at *
        have g6 : ((mvR (fwdW (fw R os)) l2 i).set i (x.wF fs'))[i]? = some (x.wF fs') := by rw [List.getElem?_set_self hil]
        have hok6 := R6.el _ (List.mem_of_getElem? g6)
        have hrow : SlW h6 25 1 x.fv x.Bf fs'.length (wc fs') := hok6.1
        simp only [q2, decide_true, condA_t]
        refine join_r (fun (J2 : H → Prop) => ∀ h', RefAt g0 h' bx2 words lays BL2 ((mvR (fwdW (fw R os)) l2 i).set i (x.wF ((x.r.fs.take (j + 1)).map (fwdW (fw R os)) ++ x.r.fs.drop (j + 1)))) → h'.get m2 = some (.live (ic' T) 3 true) → h'.cell bx2 1 = some lv → J2 h') (fun h7 R7 gm7 hc7 => ?_) fun J2 hJ2 => ?_
        · rw [b_add, en2, valA_some]
          exact ⟨x.r.fs.length + 1 - (j + 1), by omega, j + 1, rfl, by omega, R7, gm7, hc7, rfl⟩
        · refine hrow.row.get (x := .int .u64 w) (by omega) (by rw [hfl']; exact q2) (by rw [Int.toNat_natCast, wc_get, ps2]; rfl) ?_
          rw [b_rem (show (2 : Int) ≠ 0 by decide), valA_some, e1, b_eql, valA_some]
          by_cases hw1 : w % 2 = 1
          · have h00 : ¬ (w % 2 = 0) := by omega
            simp only [h00, decide_false, condA_f]
            refine hJ2 h6 ?_ gm6 hc6
            rw [← ps3 (by unfold fwdW; rw [if_pos hw1])]; exact R6
          · have h00 : w % 2 = 0 := by omega
            simp only [h00, decide_true, condA_t]
            obtain ⟨lv6, Lv6, c6, r6, o6⟩ := R6.cells
            have c62 : h6.cell bx2 2 = some Lv6 := by rw [c6]; rfl
            obtain ⟨bq6, p6, u1, u2, u3⟩ := o6.obj g6
            have cf6 : h6.cell bq6 (p6 + 3) = some x.fv := (cells3 u2).1
            simp only [nilcA_p, valA_some, faA_p, Nat.zero_add, ldA_n, c62, u1, cf6]
            rw [b_quo (show (2 : Int) ≠ 0 by decide), valA_some, e2, cvA_i, valA_some, e3]
            refine find_old (R0.keep0 R6.fr) hl rel w0.1 hw1 wf spec (wR hw1) fun h7 k f7 hk hTk => ?_
            have bd := fwb w wf hw1 (wR hw1)
            have gm7 := f7 m2 _ (by simp) gm6
            have cm : h7.cell m2 k = some (.int .i64 ((fw R os (w / 2).toNat : Nat) : Int)) := by
              rw [cell_of gm7]; simp [ic', hTk]
            have e : fwdW (fw R os) w = ((fw R os (w / 2).toNat : Nat) : Int) * 2 := by unfold fwdW; rw [if_neg hw1]
            simp only [cell_fr3 f7 c62, cell_fr3 f7 cf6, valA_some, againK_t]
            rw [ia_row hk, valA_some, ldA_n, cm, valA_some, cvA_i, valA_some, u64_id (by omega) (by omega), b_mul, valA_some, u64_id (by omega) (by omega), ← e]
            have R7 := R6.keep0 f7
            have hrow7 : SlW h7 25 1 x.fv x.Bf fs'.length (wc fs') := hrow.fr f7 (by simp)
            rcases hrow7.2 with ⟨z, _⟩ | ⟨bf, cf', z1, z0, z2, z3⟩
            · omega
            · have ia : iaA 1 x.fv (.int .i64 (j : Nat)) = some (.ptr bf j) := by
                have : (0 : Int) ≤ (j : Nat) ∧ ((j : Nat) : Int) < fs'.length := by omega
                rw [z1]; simp [iaA, this]
              have st := st_val z3 (off := j) (v := .int .u64 (fwdW (fw R os) w)) (by simp [wc]; omega) rfl rfl
              have ew : (wc fs').set j (.int .u64 (fwdW (fw R os) w)) = wc (fs'.set j (fwdW (fw R os) w)) := by simp [wc, List.map_set]
              rw [ia, valA_some, st, memA_some, ew]
              have P := R7.putF g6 (bf := bf) (i := j) (w := fwdW (fw R os) w) z2
              have hbm : m2 ≠ bf := fun e => by rw [e, z3] at gm7; injection gm7 with g; injection g with _ g _; cases g
              have hbx : bx2 ≠ bf := fun e => by
                obtain ⟨lv7, Lv7, s1, _⟩ := R7.st
                rw [e, z3] at s1; injection s1 with g; injection g with _ g _; cases g
              refine hJ2 _ ?_ (by rw [H.get_other _ _ hbm]; exact gm7) (by rw [cell_other hbx]; exact cell_fr3 f7 hc6)
              rw [List.set_set] at P
              have e5 : (x.wF fs').setF j (fwdW (fw R os) w) = x.wF (fs'.set j (fwdW (fw R os) w)) := rfl
              rw [e5, ps1] at P
              exact P
      · have : j = x.r.fs.length := by omega
        subst this
        simp only [q2, decide_false, condA_f]
        refine hJ h6 ?_ gm6 hc6
        rw [List.take_length, List.drop_length, List.append_nil] at R6
        have e5 : x.wF (x.r.fs.map (fwdW (fw R os))) = x.mv (fwdW (fw R os)) := rfl
        rw [e5, ms1] at R6
        exact R6
  · have : i = l2.length := by omega
    subst this
    simp only [q, decide_false, condA_f]
    rw [mvR_all] at R5
    exact hK h5 R5 gm5 hc5
end
end Go.Proofs.Ytljkkfcokpimkaa.X
set_option linter.unusedVariables false
set_option linter.unusedSimpArgs false
set_option maxRecDepth 20000
namespace Go.Proofs.Ytljkkfcokpimkaa.X
open Go Go.RowKit
theorem need_n {lays : List (Int × Int)} {i n r : Int} (h : needN lays i n = (r, 0)) : n ≤ 65536 := by
  unfold needN at h
  split at h
  · simp at h
  · split at h
    · simp at h
    · split at h
      · simp at h
      · omega
section
variable {h0 g0 h : H} {bx bx2 m2 : Nat} {words : Int} {lays : List (Int × Int)} {BL BL2 : List Nat} {l l2 : List RV} {os : List Ob} {rts T : List Int} {R : Nat → Bool}
theorem rcollect_c (R0 : RefAt h0 h bx words lays BL l) (hl : l.length ≤ 150) (A : ∀ o ∈ os, ∀ w ∈ o.body, 0 ≤ w ∧ w < 18446744073709551616) (E : keepRow lays os) (rel : Rel lays 0 os l) (fit : fitAll lays os) (hle : (rowOf os).length ≤ 65536) {v : AV} (hr : Row h v rts.length 1 (wc rts)) (hrl : rts.length ≤ 65536) (rr : ∀ w ∈ rts, 0 ≤ w ∧ w < 18446744073709551616) (hf : ∀ w ∈ rts, fitsO os w = true) (hR : ∀ a, R a = true ↔ Rch lays os rts a) {K : AV → H → Prop}
    (hK : ∀ h' b2 BL' l' v2, RefAt h h' b2 words lays BL' l' → h'.cell b2 1 = h.cell bx 1 → Rel lays 0 (newO lays R os) l' → Own h h' 25 1 v2 rts.length (wc (rts.map (fwdW (fw R os)))) → K (.tup [.ptr b2 0, v2]) h') : C 91 [.ptr bx 0, v] h K := by
  refine run91 ?_
  unfold sh91
  have sumF := rel.sumF
  refine reached_c R0 (by omega) A rel fit hr rr hf (by omega) fun g0 m ms f0 hm0 gm0 hml hms => ?_
  have R1 := R0.keep0 f0
  have hr1 := hr.fr f0
  obtain ⟨lv, Lv, c, r, o⟩ := R1.cells
  have c0 : g0.cell bx 0 = some (.int .i64 words) := by rw [c]; rfl
  have c1 : g0.cell bx 1 = some lv := by rw [c]; rfl
  have c2 : g0.cell bx 2 = some Lv := by rw [c]; rfl
  have c1h : h.cell bx 1 = some lv := by
    obtain ⟨lv', Lv', c', _⟩ := R0.cells
    have e : h.cell bx 1 = some lv' := by rw [c']; rfl
    have := cell_fr3 f0 e
    rw [c1] at this; rw [e, this]
  obtain ⟨lv', Lv', ch, rh, _⟩ := R0.cells
  obtain rfl : lv = lv' := by have e : h.cell bx 1 = some lv' := by rw [ch]; rfl
                              rw [c1h] at e; injection e
  have elv : leaves [AV.int .i64 words, lv, .nilsl] = true := by simp only [leaves, r.one.1]; rfl
  have eb : buildA (some [AV.int .i64 words, lv, .nilsl]) = some (.agg [AV.int .i64 words, lv, .nilsl]) := rfl
  have ec : (AV.agg [AV.int .i64 words, lv, .nilsl]).cells = [AV.int .i64 words, lv, .nilsl] := rfl
  simp only [nilcA_p, valA_some, faA_p, Nat.zero_add, ldA_n, c0, c1, fill_ref r.one, eb, ec]
  refine boxR elv fun bx2 hb2 => ?_
  have f1 : Fr [] g0 (g0.set bx2 (.live [AV.int .i64 words, lv, .nilsl] 56 true)) := Fr.new hb2
  have RN : RefAt g0 (g0.set bx2 (.live [AV.int .i64 words, lv, .nilsl] 56 true)) bx2 words lays [] [] :=
    ⟨f1, ⟨lv, .nilsl, H.get_same .., r, ⟨rfl, .inl ⟨rfl, rfl, rfl⟩⟩⟩, by simp, by simp [blocksR], fun c hc => by simp [blocksR] at hc; rw [hc]; exact hb2⟩
  have cN1 : (g0.set bx2 (.live [AV.int .i64 words, lv, .nilsl] 56 true)).cell bx2 1 = some lv := by rw [cell_set]; rfl
  generalize g0.set bx2 (.live [AV.int .i64 words, lv, .nilsl] 56 true) = h1 at *
  simp only [nilcA_p, valA_some, faA_p, Nat.zero_add, ldA_n, cell_fr3 f1 c2, o.row.len]
  refine mks_int (by omega) fun m2 hm2 => ?_
  have f2 : Fr [] h1 (h1.set m2 (.live (ic' (List.replicate l.length 0)) 3 true)) := Fr.new hm2
  have gm2 : (h1.set m2 (.live (ic' (List.replicate l.length 0)) 3 true)).get m2 = some (.live (ic' (List.replicate l.length 0)) 3 true) := H.get_same ..
  have hm20 : g0.get m2 = none := f1.free hm2
  have RN2 := RN.keep0 f2
  have cN2 := cell_fr3 f2 cN1
  generalize h1.set m2 (.live (ic' (List.replicate l.length 0)) 3 true) = h2 at *
  simp only [nilcA_p, valA_some, faA_p, Nat.zero_add, ldA_n, cell_fr3 f2 (cell_fr3 f1 c2), o.row.len]
  -- where things go
  have fwb : ∀ w, fitsO os w = true → w % 2 ≠ 1 → R (w / 2).toNat = true → fw R os (w / 2).toNat ≤ 65536 := fun w hw hw1 hRw => by
    have hat := rch_at fit hf ((hR _).1 hRw)
    obtain ⟨ob, hob⟩ := Option.isSome_iff_exists.1 hat
    have q := fw_find hR hob hRw
    have := findO_lt _ _ _ q
    have hNl : (rowOf (newO lays R os)).length ≤ (rowOf os).length := new_len (lays := lays) (R := R) (fwd := fw R os) os 0
    omega
  refine loop_r (l.length + 1) (fun k ls h' => ∃ (i : Nat) (BL2 : List Nat) (l2 : List RV) (acc : List Ob) (p : Nat) (os' : List Ob) (T : List Int), ls = [.int .i64 i] ∧ i ≤ l.length ∧ RefAt g0 h' bx2 words lays BL2 l2 ∧ h'.get m2 = some (.live (ic' T) 3 true) ∧ h'.cell bx2 1 = some lv ∧ T.length = l.length ∧
      (∀ (k : Nat) (y : RV), k < i → l[k]? = some y → R y.r.a.toNat = true → T[k]? = some ((fw R os y.r.a.toNat : Nat) : Int)) ∧ Rel lays p os' (l.drop i) ∧ (∀ o ∈ os', o ∈ os) ∧ (∀ (a : Nat) o, findO os' a = some o → findO os ((p + a : Nat) : Int) = some o) ∧ Rel lays 0 acc l2 ∧ keepRow lays acc ∧ l2.length ≤ i ∧
      (∀ y ∈ l2, y.r.fs.length ≤ 65536 ∧ ∀ w ∈ y.r.fs, (0 ≤ w ∧ w < 18446744073709551616) ∧ fitsO os w = true ∧ (w % 2 ≠ 1 → R (w / 2).toNat = true)) ∧
      newO lays R os = acc.map (newB lays (fw R os)) ++ newOs lays R (fw R os) os' p ∧ (∀ a, p ≤ a → fw R os a = fwdN R os' p (rowOf acc).length a) ∧ k = l.length + 1 - i)
    ⟨0, [], [], [], 0, os, List.replicate l.length 0, rfl, by omega, RN2, gm2, cN2, by simp, fun k y hk => absurd hk (by omega), by rw [List.drop_zero]; exact rel, fun o ho => ho, (fun a o h => by rw [Nat.zero_add]; exact h), trivial, (fun o ho => by cases ho), by simp, (fun y hy => by cases hy), rfl, fun a _ => rfl, rfl⟩ ?_
  rintro k ls h3 ⟨i, BL2, l2, acc, p, os', T, rfl, hi, R2, gm3, cN3, hTl, hT, rel3, hsub, hq, racc, hacc, hl2, good, eN, eF, rfl⟩
  rw [argA_0, b_lss, valA_some]
  by_cases hlt : (i : Int) < l.length
  · have hlt' : i < l.length := by omega
    obtain ⟨x, hx⟩ : ∃ x, l[i]? = some x := ⟨l[i], by simp [hlt']⟩
    have hdrop : l.drop i = x :: l.drop (i + 1) := by
      rw [List.drop_eq_getElem_cons hlt']; congr 1
      rw [List.getElem?_eq_getElem hlt'] at hx; injection hx
    rw [hdrop] at rel3
    obtain ⟨ob, os2, rfl⟩ : ∃ o os2, os' = o :: os2 := by
      cases os' with
      | nil => exact rel3.elim
      | cons o os2 => exact ⟨o, os2, rfl⟩
    obtain ⟨xa, xr, rel2⟩ := rel3
    have hpos := row_pos ob
    have RO3 := R1.keep0 R2.fr
    have hok := RO3.el x (List.mem_of_getElem? hx)
    obtain ⟨bq, q, q1, q2, q3⟩ := (o.fr R2.fr (by simp)).obj hx
    obtain ⟨bit, hbit⟩ : ∃ bit, ms[i]? = some bit := ⟨ms[i]'(by omega), by simp [hml, hlt']⟩
    have hb : bit = R p := by
      have e := hms i x hx
      rw [xa, Int.toNat_natCast, ← hR p, hbit] at e
      cases bit <;> cases hRp : R p <;> simp [hRp] at e ⊢
    have en : IntKind.i64.wrap ((i : Int) + 1) = ((i + 1 : Nat) : Int) := by rw [i64_id (by omega) (by omega)]; rfl
    have hpa : ∀ a, p + ob.row.length ≤ a → a ≠ p := fun a h => by omega
    have hq2 : ∀ (a : Nat) o, findO os2 a = some o → findO os ((p + ob.row.length + a : Nat) : Int) = some o := fun a o' h' => by
      rw [Nat.add_assoc]
      refine hq (ob.row.length + a) o' ?_
      rw [findO, if_neg (by omega), show (((ob.row.length + a : Nat) : Int) - ob.row.length) = a by omega]
      exact h'
    simp only [hlt, decide_true, condA_t]
    refine join_r (fun (J2 : H → Prop) => ∀ h' BL3 l3 acc3 T3, RefAt g0 h' bx2 words lays BL3 l3 → h'.get m2 = some (.live (ic' T3) 3 true) → h'.cell bx2 1 = some lv → T3.length = l.length → (∀ (k : Nat) (y : RV), k < i + 1 → l[k]? = some y → R y.r.a.toNat = true → T3[k]? = some ((fw R os y.r.a.toNat : Nat) : Int)) → Rel lays 0 acc3 l3 → keepRow lays acc3 → l3.length ≤ i + 1 →
        (∀ y ∈ l3, y.r.fs.length ≤ 65536 ∧ ∀ w ∈ y.r.fs, (0 ≤ w ∧ w < 18446744073709551616) ∧ fitsO os w = true ∧ (w % 2 ≠ 1 → R (w / 2).toNat = true)) → newO lays R os = acc3.map (newB lays (fw R os)) ++ newOs lays R (fw R os) os2 (p + ob.row.length) → (∀ a, p + ob.row.length ≤ a → fw R os a = fwdN R os2 (p + ob.row.length) (rowOf acc3).length a) → J2 h') (fun h' BL3 l3 acc3 T3 a1 a2 a3 a4 a5 a6 a7 a8 a9 a10 a11 => ?_) fun J2 hJ2 => ?_
    · rw [b_add, en, valA_some]
      exact ⟨l.length + 1 - (i + 1), by omega, i + 1, BL3, l3, acc3, p + ob.row.length, os2, T3, rfl, by omega, a1, a2, a3, a4, a5, rel2, fun o ho => hsub o (by simp [ho]), hq2, a6, a7, a8, a9, a10, a11, rfl⟩
    simp only [q1, valA_some, ldA_s, q3]
    refine boxR rfl fun dd hd => ?_
    have hw := RV.leaves hok
    have ecx : (AV.agg x.cells).cells = x.cells := rfl
    have el : x.cells.length = 5 := rfl
    have f4 : Fr [] h3 (h3.set dd (.live x.cells 89 true)) := Fr.new hd
    have gd4 : (h3.set dd (.live x.cells 89 true)).get dd = some (.live x.cells 89 true) := H.get_same ..
    have st4 : ∀ x1 x2 x3 x4 x5, stA (h3.set dd (.live [x1, x2, x3, x4, x5] 89 true)) 5 (.ptr dd 0) (.agg x.cells) = some (h3.set dd (.live x.cells 89 true)) := fun x1 x2 x3 x4 x5 => by
      rw [stA_p, if_pos (by rw [ecx, el]), ecx, agg5_write hw]
    rw [st4, memA_some]
    have hdd : dd ≠ m2 := fun e => by rw [e, gm3] at hd; cases hd
    generalize h3.set dd (.live x.cells 89 true) = h4 at *
    have R4 := R2.keep0 f4
    have gm4 := f4 m2 _ (by simp) gm3
    have cN4 := cell_fr3 f4 cN3
    have cm : h4.cell m i = some (.bool bit) := by rw [cell_of (f4 m _ (by simp) (R2.fr m _ (by simp) gm0))]; simp [bo, hbit]
    rw [ia_row hlt', valA_some, ldA_n, cm, valA_some]
    subst hb
    have eN' := eN
    rw [newOs] at eN'
    cases hRp : R p with
    | false =>
      rw [hRp] at eN'
      simp only [condA_f]
      refine hJ2 h4 BL2 l2 acc T R4 gm4 cN4 hTl (fun k y hk hy hRy => ?_) racc hacc (by omega) good (by simpa using eN') fun a ha => ?_
      · by_cases e : k = i
        · subst e
          rw [hx] at hy; injection hy with hy; subst hy
          rw [xa, Int.toNat_natCast, hRp] at hRy; cases hRy
        · exact hT k y (by omega) hy hRy
      · rw [eF a (by omega), fwdN, if_neg (hpa a ha), hRp]; rfl
    | true =>
      rw [hRp] at eN'
      simp only [condA_t]
      have hob : ob ∈ os := hsub ob (by simp)
      have htop : topR lays l2 = (rowOf acc).length := racc.topE hacc
      have hfw : fw R os p = (rowOf acc).length := by rw [eF p (Nat.le_refl _), fwdN, if_pos rfl]
      refine rtop_c R4 (by omega) fun h5 f5 => ?_
      have R5 := R4.keep0 f5
      have gm5 := f5 m2 _ (by simp) gm4
      have cN5 := cell_fr3 f5 cN4
      have gd5 := f5 dd _ (by simp) gd4
      rw [htop]
      have sm : stA h5 1 (.ptr m2 i) (.int .i64 ((rowOf acc).length : Nat)) = some (h5.set m2 (.live (ic' (T.set i (rowOf acc).length)) 3 true)) := by
        rw [st_val gm5 (by simp [ic', hTl, hlt']) rfl rfl]
        simp [ic', List.map_set]
      rw [ia_row hlt', valA_some, sm, memA_some]
      have hmb : ∀ c ∈ blocksR bx2 BL2 l2, c ∉ [m2] := fun c hc q => by
        simp at q; subst q
        exact R5.ty hc gm5 rfl
      have R6 := R5.keep (S := [m2]) (h' := h5.set m2 (.live (ic' (T.set i (rowOf acc).length)) 3 true)) (Fr.put (by simp)) hmb (R5.fr.set' hm20)
      have gm6 : (h5.set m2 (.live (ic' (T.set i (rowOf acc).length)) 3 true)).get m2 = some (.live (ic' (T.set i (rowOf acc).length)) 3 true) := H.get_same ..
      have hbx2 : bx2 ≠ m2 := fun e => hmb bx2 (by simp [blocksR]) (by simp [e])
      have cN6 : (h5.set m2 (.live (ic' (T.set i (rowOf acc).length)) 3 true)).cell bx2 1 = some lv := by rw [cell_other hbx2]; exact cN5
      have gd6 : (h5.set m2 (.live (ic' (T.set i (rowOf acc).length)) 3 true)).get dd = some (.live x.cells 89 true) := by rw [H.get_other _ _ hdd]; exact gd5
      have RO6 := R1.keep0 R6.fr
      have hTl6 : (T.set i ((rowOf acc).length : Int)).length = l.length := by rw [List.length_set]; exact hTl
      have hTi : (T.set i ((rowOf acc).length : Int))[i]? = some ((rowOf acc).length : Int) := by rw [List.getElem?_set_self (by omega)]
      have hTne : ∀ k, k ≠ i → (T.set i ((rowOf acc).length : Int))[k]? = T[k]? := fun k hk => List.getElem?_set_ne (fun e => hk e.symm)
      generalize T.set i ((rowOf acc).length : Int) = T6 at *
      generalize h5.set m2 (.live (ic' T6) 3 true) = h6 at *
      obtain ⟨lv6, Lv6, c6, r6, o6⟩ := R6.cells
      have c62 : h6.cell bx2 2 = some Lv6 := by rw [c6]; rfl
      have ct : h6.cell m2 i = some (.int .i64 (rowOf acc).length) := by rw [cell_of gm6]; simp [ic', hTi]
      have d1 : h6.cell dd 1 = some (.int .i64 x.r.sh) := by rw [cell_of gd6]; rfl
      have d2 : h6.cell dd 2 = some (.int .i64 x.r.n) := by rw [cell_of gd6]; rfl
      have d3 : h6.cell dd 3 = some x.fv := by rw [cell_of gd6]; rfl
      have d4 : h6.cell dd 4 = some x.bv := by rw [cell_of gd6]; rfl
      have hok6 := RO6.el x (List.mem_of_getElem? hx)
      simp only [nilcA_p, valA_some, faA_p, Nat.zero_add, ldA_n, c62, ia_row hlt', ct, d1, d2, d3, d4]
      have hbody : ob.body.length + 1 ≤ 65536 := by
        obtain ⟨a, ha⟩ := mem_find hob
        have := findO_lt _ _ _ ha
        have e : ob.row.length = ob.body.length + 1 := by simp [Ob.row]
        omega
      have hfs : ∀ w ∈ x.r.fs, kindAt lays ob.sh ≠ 3 ∧ w ∈ ob.body := fun w hw => by
        have h3 := xr.2.2
        split at h3
        · rw [h3.1] at hw; cases hw
        · rename_i k; exact ⟨k, by rw [← h3.1]; exact hw⟩
      have hfl : x.r.fs.length ≤ 65536 := by
        have h3 := xr.2.2
        split at h3
        · rw [h3.1]; simp
        · rw [h3.1]; omega
      have hbl : x.r.bs.length ≤ 65536 * 8 := by
        have h3 := xr.2.2
        split at h3
        · rename_i k3
          have := E ob hob
          have hb8 := need_n this
          have := h3.2.1
          omega
        · rw [h3.2.1]; simp
      refine copy_c (Fr.refl [] h6) hok6.1.row (wc_leaves _) (by unfold most; omega) fun v7 h7 f7 w7 => ?_
      simp only [cell_fr3 f7 c62, cell_fr3 f7 ct, cell_fr3 f7 d1, cell_fr3 f7 d2, cell_fr3 f7 d4, valA_some, againK_t]
      refine copy_c f7 (hok6.2.row.fr f7) (leaves_map _ (fun _ => rfl) _) (by unfold most; omega) fun v8 h8 f8 w8 => ?_
      have f78 := f7.trans f8
      have w78 := w7.keep f8
      simp only [cell_fr3 f78 c62, cell_fr3 f78 ct, cell_fr3 f78 d1, cell_fr3 f78 d2, valA_some, againK_t, fill_obj w7.one w8.one, buildA_s, fill_obj5 w7.one w8.one]
      refine push2_c R6 (by omega) f78 (r := ⟨(rowOf acc).length, x.r.sh, x.r.n, x.r.fs, x.r.bs⟩) w78 w8 (cell_fr3 f78 c62) fun v9 h9 h10 BL3 y st R10 hy hc10 fr10 => ?_
      have gm10 : h10.get m2 = some (.live (ic' T6) 3 true) := fr10 m2 _ (fun q => R6.ty q gm6 rfl) gm6
      rw [st, memA_some]
      refine hJ2 h10 BL3 (l2 ++ [y]) (acc ++ [ob]) T6 R10 gm10 (by rw [hc10]; exact cell_fr3 f78 cN6) hTl6 (fun k z hk hz hRz => ?_) ?_ ?_ ?_ ?_ ?_ ?_
      · by_cases e : k = i
        · subst e
          rw [hx] at hz; injection hz with hz; subst hz
          rw [hTi, xa, Int.toNat_natCast, hfw]
        · rw [hTne k e]; exact hT k z (by omega) hz hRz
      · refine racc.snoc ob y ?_ ?_
        · rw [hy]; simp
        · rw [hy]; exact xr
      · intro o' ho'
        rcases List.mem_append.1 ho' with ho' | ho'
        · exact hacc o' ho'
        · simp at ho'; subst ho'; exact E _ hob
      · rw [List.length_append]; simp; omega
      · intro z hz
        rcases List.mem_append.1 hz with hz | hz
        · exact good z hz
        · simp at hz; subst hz
          rw [hy]
          refine ⟨hfl, fun w hw => ?_⟩
          obtain ⟨k3, hb⟩ := hfs w hw
          refine ⟨A ob hob w hb, fit ob hob k3 w hb, fun hw1 => ?_⟩
          have hRp' := (hR p).1 hRp
          have hfp : findO os (p : Int) = some ob := by
            have := hq 0 ob (by simp [findO])
            rwa [Nat.add_zero] at this
          exact (hR _).2 (Rch.fld hRp' hfp k3 hb hw1)
      · rw [List.map_append, List.map_cons, List.map_nil, List.append_assoc, eN']; rfl
      · intro a ha
        rw [eF a (by omega), fwdN, if_neg (hpa a ha), hRp, rowOf_append, List.length_append]
        have : (rowOf [ob]).length = ob.row.length := by simp [rowOf]
        rw [this]; rfl
  · have : i = l.length := by omega
    subst this
    simp only [hlt, decide_false, condA_f]
    rw [List.drop_length] at rel3
    cases os' with
    | cons o os2 => exact rel3.elim
    | nil =>
      have hTT : ∀ (k : Nat) (y : RV), l[k]? = some y → R y.r.a.toNat = true → T[k]? = some ((fw R os y.r.a.toNat : Nat) : Int) := fun k y hy hRy => hT k y (List.getElem?_eq_some_iff.1 hy).1 hy hRy
      refine move_c R1 (by omega) rel R2 (by omega) gm3 hTT good fwb cN3 fun h4 R4 gm4 cN4 => ?_
      refine out_c (R1.keep0 R4.fr) (by omega) rel (hr1.fr R4.fr) hrl (fun w hw => ⟨rr w hw, hf w hw, fun hw1 => (hR _).2 (Rch.root hw hw1)⟩) gm4 hTT fwb fun h5 v5 f5 ov => ?_
      have rel5 := racc.mv (fw R os)
      have e : newO lays R os = acc.map (newB lays (fw R os)) := by rw [eN]; simp [newOs]
      rw [← e] at rel5
      have R5 := R4.keep0 f5
      refine hK h5 bx2 BL2 _ v5 (R5.rebase (cell_fr3 f5 cN4) f0 rh) (by rw [cell_fr3 f5 cN4, c1h]) rel5 ⟨ov.1, ?_⟩
      rcases ov.2 with q | ⟨b', q1, q2, q3⟩
      · exact .inl q
      · exact .inr ⟨b', q1, f0.free (R4.fr.free q2), q3⟩
end
end Go.Proofs.Ytljkkfcokpimkaa.X
set_option linter.unusedVariables false
set_option linter.unusedSimpArgs false
set_option maxRecDepth 20000
namespace Go.Proofs.Ytljkkfcokpimkaa.X
open Go Go.RowKit
theorem law21 (h : H) (ls : List (List AV)) (hl : LiesA h [shCase] ls) : C 21 (argsOf [shCase] ls) h yes := by
  obtain ⟨l0, ls, rfl, g0, hl⟩ := liesA_cons hl
  obtain rfl := liesA_nil hl
  obtain ⟨v, L, vo, ops, vr, rs, rfl, hr, hm, hro, hops, hmo, hrw, hW, hmw⟩ := lies_case g0
  show C 21 [.agg [v, vo, vr]] h yes
  refine run21 ?_
  unfold sh21
  refine start2_c hr hm hro hmo hops hrw hW hmw (fun h' => gcYes) fun h1 h2 h3 d b bw bd B s os bx BL l vv rts c => ?_
  clear g0 hr hm hro hops hmo hrw hW hmw
  have t0 : ∀ a c : AV, extA (.tup [a, c]) 0 = some a := fun _ _ => rfl
  have t1 : ∀ a c : AV, extA (.tup [a, c]) 1 = some c := fun _ _ => rfl
  have hll := c.ll
  have hrl := c.rl
  have T := c.hs
  have hle := T.le
  have hol := os_le os
  have hnum := c.both.r.len
  obtain ⟨R, hR⟩ := reach_bool s.lays os rts
  have hbl : ∀ k ∈ blocksR bx BL l, k ∉ [b, bw] := fun k hk q => c.both.ap k (by simp at q ⊢; rcases q with q | q <;> simp [q]) hk
  have hnew : ∀ k ∈ [b, bw], h1.get k = none := fun k q => c.both.new k (by simp at q ⊢; rcases q with q | q <;> simp [q])
  have keepR : ∀ h', Fr [b, bw] h3 h' → RefAt h1 h' bx s.words.length s.lays BL l := fun h' f => c.now.R.keep f hbl ((c.now.R.fr).cons hnew f)
  have keepW : ∀ h', Fr [b, bw] h3 h' → Row h' vv rts.length 1 (wc rts) := fun h' f => c.row f (fun k q => .inl (by simp at q ⊢; rcases q with q | q <;> simp [q]))
  refine collect_h T c.fit c.wh c.own.row c.rr (by omega) R hR (fun hall h4 f4 => ?_) fun hall h4 v4 m f4 hmm T4 o4 => ?_
  · -- some root does not fit
    have f4' : Fr [b, bw] h3 h4 := f4.more
    have T4 := T.fr0 f4
    rw [t0, valA_some, t1, valA_some]
    refine rfit_c (keepR h4 f4') (by omega) (keepW h4 f4') c.rr (by omega) fun h6 f6 => ?_
    have f36 := f4.trans f6
    rw [← c.both.r.fitsAll rts, hall]
    obtain ⟨s', B6⟩ := c.bothOf (T4.fr0 f6) (keepR h6 f36.more)
    simp only [u_not, Bool.not_false, valA_some, condA_t, b_eql, decide_true, whenA_tt, pickA_b, if_true, lenA_n]
    exact same_c B6 (by omega) fun h7 f7 => by
      simp only [pickA_b, if_true, valA_some, whenA_tt]
      exact gcLives_c fun _ _ => rfl
  · rw [t0, valA_some, t1, valA_some]
    refine rfit_c (keepR h4 f4) (by omega) (keepW h4 f4) c.rr (by omega) fun h6 f6 => ?_
    have f36 := f4.trans f6.more
    have T6 := T4.fr0 f6
    rw [← c.both.r.fitsAll rts, hall]
    simp only [u_not, Bool.not_true, valA_some, condA_f]
    have hff : ∀ w ∈ rts, fitsO os w = true := fun w hw => List.all_eq_true.1 hall w hw
    have R6 := keepR h6 f36
    refine rcollect_c R6 (by omega) c.both.A.nonneg c.both.A.each c.both.r c.fit (by omega) (keepW h6 f36) (by omega) c.rr hff hR fun h7 b2 BL2 l2 v7 R7 hc7 rel7 o7 => ?_
    have f7 := R7.fr
    have T7 := T6.fr0 f7
    have r4 : Row h7 v4 rts.length 1 (wc (rts.map (fwdW (fw R os)))) := by
      have := o4.keep fun k n p _ ob hg => f7 k ob (by simp) (f6 k ob (by simp) hg)
      exact this.row
    have al := fun K => alikeW_c (X := rts.map (fwdW (fw R os))) (Y := rts.map (fwdW (fw R os))) (by rw [List.length_map]; exact r4) (by rw [List.length_map]; exact o7.row) (by rw [List.length_map]; omega) K
    rw [t0, valA_some, t1, valA_some]
    simp only [b_eql, decide_true, valA_some, whenA_tt, al, pickA_b, if_true]
    -- both heaps, after
    obtain ⟨lv, Lv, cc, _, _⟩ := R6.cells
    obtain ⟨lv', Lv', s1, s2, s3⟩ := R6.st
    have e1 : h6.cell bx 1 = some lv' := by rw [cell_of s1]; rfl
    have R7' : RefAt h1 h7 b2 s.words.length s.lays BL2 l2 := R7.rebase (by rw [hc7]; exact e1) R6.fr s2
    have hap : ∀ k ∈ b :: bw :: m :: B, k ∉ blocksR b2 BL2 l2 := fun k hk q => T6.alive k hk (R7.new k q)
    have hnw : ∀ k ∈ b :: bw :: m :: B, h1.get k = none := fun k hk => by
      by_cases e : k = m
      · rw [e]; exact (c.now.R.fr).free hmm
      · exact c.both.new k (by simp at hk ⊢; rcases hk with q | q | q | q; exact .inl q; exact .inr (.inl q); exact absurd q e; exact .inr (.inr (.inr q)))
    have hl2 : l2.length ≤ 900 := by
      have := rel7.len
      have h5 := markedL_len R os 0
      have h6 := (order_zip (lays := s.lays) (R := R) (f := fw R os) os 0 0 (Nat.le_refl _)).1
      have h7 : (newO s.lays R os).length = (markedL R os 0).length := h6.symm
      omega
    obtain ⟨s', hh', A', q1, q2⟩ := T7
    have B7 : Both h1 h7 b bw m B s' (newO s.lays R os) b2 BL2 l2 := ⟨hh', A', by rw [q2, q1]; rw [c.wl] at R7'; exact R7', by rw [q1]; exact rel7, hap, hnw, by rw [q1]; exact new_fitAll c.fit hR⟩
    exact same_c B7 hl2 fun h8 f8 => by
      simp only [pickA_b, if_true, valA_some, whenA_tt]
      exact gcLives_c fun _ _ => rfl
end Go.Proofs.Ytljkkfcokpimkaa.X
