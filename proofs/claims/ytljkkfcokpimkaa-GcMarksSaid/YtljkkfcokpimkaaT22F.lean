/- What the law law22 needs: texts of one's own, put together; functions' contracts and plain facts. -/
import Derived.Test.YtljkkfcokpimkaaT22E
set_option linter.unusedVariables false
set_option linter.unusedSimpArgs false
set_option maxRecDepth 20000
namespace Go.Proofs.Ytljkkfcokpimkaa.X
open Go Go.RowKit
section
variable {h : H}
theorem start2_c {lv Lo vr : AV} {lays : List (Int × Int)} {ops : List OpI} {rs : List (Int × Bool)} (hl : Row h lv lays.length 2 (lc lays)) (hm : lays.length ≤ reachBytes) (ho : Row h Lo ops.length 5 (opsC ops)) (hm2 : ops.length ≤ reachBytes) (hok : ∀ o ∈ ops, o.ok)
    (hr : Row h vr rs.length 2 (rc rs)) (hrr : ∀ x ∈ rs, 0 ≤ x.1 ∧ x.1 < 18446744073709551616) (hm3 : rs.length ≤ reachBytes) {X : H → Prop} {Y : AV → AV → AV → AV → H → Prop} (hX : ∀ h', X h')
    (hY : ∀ h1 h2 h' d b bw bd B s os bx BL l v rts, Case h1 h2 h' b bw bd B s os bx BL l v rts → Y (.ptr d 0) (.ptr b 0) (.ptr bx 0) v h') :
    boxA h (AV.cells (.agg [lv, Lo, vr])) 114 fun c1 h => valA (ldA h (some 3) c1) h fun t16 h => C 89 [t16] h fun t17 h => valA (extA t17 0) h fun t18 h => valA (extA t17 1) h fun t19 h => valA (extA t17 2) h fun t20 h => valA (binOp .eql .ptr t18 .nilp) h fun t22 h =>
      condA t22 (X h) (Y c1 t18 t19 t20 h) := by
  have elv : leaves [lv, Lo, vr] = true := by simp only [leaves, hl.one.1, ho.one.1, hr.one.1]; rfl
  have t0 : ∀ a c d : AV, extA (.tup [a, c, d]) 0 = some a := fun _ _ _ => rfl
  have t1 : ∀ a c d : AV, extA (.tup [a, c, d]) 1 = some c := fun _ _ _ => rfl
  have t2 : ∀ a c d : AV, extA (.tup [a, c, d]) 2 = some d := fun _ _ _ => rfl
  show boxA h [lv, Lo, vr] 114 _
  refine boxR elv fun d hd => ?_
  have f1 : Fr [] h (h.set d (.live [lv, Lo, vr] 114 true)) := (Fr.refl _ _).set' hd
  have gd : (h.set d (.live [lv, Lo, vr] 114 true)).get d = some (.live [lv, Lo, vr] 114 true) := H.get_same ..
  have hl1 := hl.fr f1; have ho1 := ho.fr f1; have hr1 := hr.fr f1
  generalize h.set d (.live [lv, Lo, vr] 114 true) = h0 at *
  have ld : ldA h0 (some 3) (.ptr d 0) = some (.agg [lv, Lo, vr]) := by
    rw [ldA_s, H.read_eq (n := 3) gd (by simp) rfl]; rfl
  rw [ld, valA_some]
  refine case_c hl1 hm ho1 hm2 hok hr1 hrr hm3 (fun h2 f2 => ?_) fun h1 h2 h3 b bx l v rts f2 t ll f3 ov rl rr => ?_
  · rw [t0, valA_some, t1, valA_some, t2, valA_some, b_nn, valA_some, condA_t]
    exact hX h2
  · obtain ⟨bw, bd, B, s, os, BL, tb, e1, e2⟩ := t
    rw [t0, valA_some, t1, valA_some, t2, valA_some, b_pn, valA_some, condA_f]
    exact hY h1 h2 h3 d b bw bd B s os bx BL l v rts ⟨tb, e1, ll, f3, ov, rl, rr⟩
end
end Go.Proofs.Ytljkkfcokpimkaa.X
set_option linter.unusedVariables false
set_option linter.unusedSimpArgs false
set_option maxRecDepth 20000
namespace Go.Proofs.Ytljkkfcokpimkaa.X
open Go Go.RowKit
def gb : List (Int × Int) := [(3, 0)]
end Go.Proofs.Ytljkkfcokpimkaa.X
set_option linter.unusedVariables false
set_option linter.unusedSimpArgs false
set_option maxRecDepth 20000
namespace Go.Proofs.Ytljkkfcokpimkaa.X
open Go Go.RowKit
section
variable {h : H} {b bw bd : Nat} {B : List Nat} {lays : List (Int × Int)} {n : Nat} {os : List Ob}
theorem HS.frN {h' : H} (t : HS h b bw bd B lays n os) (f : FrN h h') : HS h' b bw bd B lays n os := by
  obtain ⟨s, hh, q⟩ := t
  exact ⟨s, hh.frN f, q⟩
theorem HS.own {h0 h' : H} {S : List Nat} {v : AV} {k : Nat} {cs : List AV} (t : HS h b bw bd B lays n os) (o : Own h0 h 3 1 v k cs) (f : Fr S h h') (hS : ∀ c ∈ S, c ∈ [b, bw, bd]) : Own h0 h' 3 1 v k cs := by
  refine o.keep fun c n' p e ob hg => f c ob (fun q => ?_) hg
  obtain ⟨s, hh, _⟩ := t
  obtain ⟨lv, g1, _⟩ := hh.st
  have hq := hS c q
  rcases o.2 with ⟨_, e2⟩ | ⟨b', e2, _, g⟩
  · rw [e2] at e; cases e
  · rw [e2] at e; injection e with e; subst e
    simp only [List.mem_cons, List.not_mem_nil, or_false] at hq
    rcases hq with rfl | rfl | rfl
    · rw [g1] at g; injection g with g; injection g with _ g _; cases g
    · have g2 := hh.wd; rw [g2] at g; injection g with g; injection g with _ g _; cases g
    · have g2 := hh.hd; rw [g2] at g; injection g with g; injection g with _ g _; cases g
end
end Go.Proofs.Ytljkkfcokpimkaa.X
set_option linter.unusedVariables false
set_option linter.unusedSimpArgs false
set_option maxRecDepth 20000
namespace Go.Proofs.Ytljkkfcokpimkaa.X
open Go Go.RowKit
def Qu (h0 h : H) (v : AV) (L : List Int) : Prop := ∃ b c pre, v = .sl b pre.length L.length c ∧ h0.get b = none ∧ h.get b = some (.live (pre ++ wc L) 25 true) ∧ (c = .more 1 ∨ (L = [] ∧ c = .exact 0)) ∧ leaves pre = true
theorem Qu.push {h0 h : H} {v y : AV} {L M : List Int} (q : Qu h0 h v L) (hs : srcA h 1 y = some (M.length, wc M)) (ha : ∀ c, h0.get c ≠ none → h.get c ≠ none) (hb : L.length + M.length ≤ 10000000) {K : AV → H → Prop}
    (hK : ∀ v' h', Qu h0 h' v' (L ++ M) → (∀ c o, h.get c = some o → h0.get c ≠ none → h'.get c = some o) → K v' h') : appendA h 25 1 8 v y K := by
  obtain ⟨b, c, pre, rfl, hb0, hbl, hc, hlp⟩ := q
  unfold appendA
  rw [hs]
  simp only
  have hfree : ∀ b', h.get b' = none → h0.get b' = none := fun b' hb' => by
    cases hg : h0.get b' with
    | none => rfl
    | some o => exact absurd hb' (ha b' (by rw [hg]; simp))
  by_cases hM : M.length = 0
  · have : M = [] := List.eq_nil_of_length_eq_zero hM
    subst this
    rw [if_pos (by rfl)]
    rw [List.append_nil] at hK
    exact hK _ h ⟨b, c, pre, rfl, hb0, hbl, hc, hlp⟩ fun _ _ x _ => x
  · rw [if_neg hM]
    rcases hc with rfl | ⟨rfl, rfl⟩
    · rw [hbl]
      simp only [Nat.mul_one]
      have e1 : (pre ++ wc L).length = pre.length + L.length := by rw [List.length_append, wc_length]
      rw [e1]
      refine ⟨⟨trivial, trivial, by unfold most; omega, by omega⟩, ?_⟩
      rw [if_neg (by omega)]
      have e2 : ((pre ++ wc L).drop pre.length).take L.length = wc L := by
        rw [List.drop_left, List.take_of_length_le (by rw [wc_length]; omega)]
      rw [e2]
      refine ⟨by rw [leaves_append, wc_leaves, wc_leaves]; rfl, fun b' hb' => ?_⟩
      have hbb : b' ≠ b := fun e => by subst e; rw [H.get_same] at hb'; cases hb'
      have hb2 : h.get b' = none := by rw [H.get_other _ _ hbb] at hb'; exact hb'
      refine hK _ _ ⟨b', .more 1, [], by simp, hfree b' hb2, by rw [H.get_same]; simp [wc], .inl rfl, rfl⟩ fun k o hg hk => ?_
      have kb : k ≠ b := fun e => hk (by rw [e]; exact hb0)
      have kb' : k ≠ b' := fun e => by rw [e, hb2] at hg; cases hg
      rw [H.get_other _ _ kb', H.get_other _ _ kb]; exact hg
    · simp only [List.length_nil, Nat.zero_add, Nat.zero_mul]
      rw [if_neg (by omega)]
      have e1 : h.read b pre.length 0 = some [] := H.read_eq hbl (by simp) (by simp)
      rw [e1]
      refine ⟨by unfold most; omega, by simp [wc_leaves], fun b' hb' => ?_⟩
      refine hK _ _ ⟨b', .more 1, [], by simp, hfree b' hb', by rw [H.get_same]; simp, .inl rfl, rfl⟩ fun k o hg hk => ?_
      have kb' : k ≠ b' := fun e => by rw [e, hb'] at hg; cases hg
      rw [H.get_other _ _ kb']; exact hg
theorem Qu.len {h0 h : H} {v : AV} {L : List Int} (q : Qu h0 h v L) : lenA false v = some (.int .i64 L.length) := by
  obtain ⟨b, c, pre, rfl, _⟩ := q; rfl
theorem Qu.pop {h0 h : H} {v : AV} {w : Int} {L : List Int} (q : Qu h0 h v (w :: L)) : ∃ b o v', iaA 1 v (.int .i64 0) = some (.ptr b o) ∧ h.cell b o = some (.int .u64 w) ∧ sliceOp (.row 1) v (some (.int .i64 1)) none none = some v' ∧ Qu h0 h v' L := by
  obtain ⟨b, c, pre, rfl, hb0, hbl, hc, hlp⟩ := q
  rcases hc with rfl | ⟨e, _⟩
  · refine ⟨b, pre.length, .sl b (pre.length + 1) L.length (.more 1), ?_, ?_, ?_, b, .more 1, pre ++ [.int .u64 w], ?_, hb0, ?_, .inl rfl, ?_⟩
    · have hp : (0 : Int) < ((w :: L).length : Nat) := by rw [List.length_cons]; omega
      simp [iaA]
    · rw [cell_of hbl, List.getElem?_append_right (Nat.le_refl _), Nat.sub_self]; rfl
    · have n1 : natOf (.int .i64 1) = some 1 := by rfl
      simp only [sliceOp, Cap.fits, decide_true, if_true, slBounds, loB, hiB, n1, within, Cap.less, Nat.le_refl, Bool.true_or, and_true]
      rw [if_pos (by simp)]
      simp
    · simp
    · rw [hbl]; simp [wc]
    · rw [leaves_append, hlp]; rfl
  · cases e
theorem Qu.mono {h0 h h' : H} {v : AV} {L : List Int} (q : Qu h0 h v L) (f : ∀ c o, h0.get c = none → h.get c = some o → h'.get c = some o) : Qu h0 h' v L := by
  obtain ⟨b, c, pre, e, hb0, hbl, r⟩ := q
  exact ⟨b, c, pre, e, hb0, f b _ hb0 hbl, r⟩
def restF : List RV → List Bool → Nat
  | x :: l, m :: ms => (if m then 0 else x.r.fs.length) + restF l ms
  | _, _ => 0
theorem restF_set : ∀ (l : List RV) (ms : List Bool) (i : Nat) (x : RV), l[i]? = some x → ms[i]? = some false → restF l (ms.set i true) + x.r.fs.length = restF l ms
  | [], _, i, x, h, _ => by simp at h
  | _ :: _, [], i, x, _, h => by simp at h
  | y :: l, m :: ms, 0, x, h, h' => by simp at h h'; subst h; subst h'; simp [restF]; omega
  | y :: l, m :: ms, i + 1, x, h, h' => by
    have := restF_set l ms i x (by simpa using h) (by simpa using h')
    simp [restF]; omega
theorem restF_none : ∀ (l : List RV), restF l (List.replicate l.length false) = (l.map fun x => x.r.fs.length).sum
  | [] => rfl
  | x :: l => by
    have := restF_none l
    simp [List.replicate_succ, restF, this]
def bo (l : List Bool) : List AV := l.map AV.bool
theorem bo_leaves (l : List Bool) : leaves (bo l) = true := leaves_map _ (fun _ => rfl) l
theorem mks_bool {h : H} {n : Nat} (hn : n ≤ 65536) {K : AV → H → Prop} (hK : ∀ m, h.get m = none → K (.sl m 0 n (.exact n)) (h.set m (.live (bo (List.replicate n false)) 4 true))) : mksA h 4 [.bool false] 1 (.int .i64 n) (.int .i64 n) K := by
  have n1 : natOf (.int .i64 (n : Int)) = some n := by simp [natOf]
  have e : ∀ n, repCells [AV.bool false] n = bo (List.replicate n false) := fun n => by
    induction n with
    | zero => rfl
    | succ n ih => rw [repCells, ih]; rfl
  unfold mksA
  rw [n1]
  simp only
  refine ⟨⟨Nat.le_refl _, by unfold most; omega, by omega⟩, by rw [e]; exact bo_leaves _, fun m hm => ?_⟩
  have := hK m hm
  rw [e]
  exact this
theorem Rel.uniq {lays : List (Int × Int)} : ∀ {p : Nat} {os : List Ob} {l : List RV}, Rel lays p os l → ∀ x ∈ l, ∀ y ∈ l, x.r.a = y.r.a → x = y
  | _, [], [], _, x, hx, _, _, _ => by cases hx
  | _, [], _ :: _, h, _, _, _, _, _ => h.elim
  | _, _ :: _, [], h, _, _, _, _, _ => h.elim
  | p, o :: os, z :: l, h, x, hx, y, hy, e => by
    have hz := h.1
    have hp := h.2.2.pos
    have := row_pos o
    rcases List.mem_cons.1 hx with e1 | h1
    · rcases List.mem_cons.1 hy with e2 | h2
      · rw [e1, e2]
      · have := hp y h2; rw [e1] at e; omega
    · rcases List.mem_cons.1 hy with e2 | h2
      · have := hp x h1; rw [e2] at e; omega
      · exact h.2.2.uniq x h1 y h2 e
theorem Rel.place {lays : List (Int × Int)} : ∀ {p : Nat} {os : List Ob} {l : List RV}, Rel lays p os l → ∀ {i j : Nat} {x : RV}, l[i]? = some x → l[j]? = some x → i = j
  | _, [], [], _, i, j, x, hx, _ => by simp at hx
  | _, [], _ :: _, h, _, _, _, _, _ => h.elim
  | _, _ :: _, [], h, _, _, _, _, _ => h.elim
  | p, o :: os, z :: l, h, i, j, x, hx, hy => by
    have hz := h.1
    have hp := h.2.2.pos
    have := row_pos o
    cases i with
    | zero =>
      cases j with
      | zero => rfl
      | succ j => simp at hx hy; subst hx; have := hp _ (List.mem_of_getElem? hy); omega
    | succ i =>
      cases j with
      | zero => simp at hx hy; subst hy; have := hp _ (List.mem_of_getElem? hx); omega
      | succ j => simp at hx hy; rw [h.2.2.place hx hy]
structure RMk (lays : List (Int × Int)) (os : List Ob) (rts : List Int) (l : List RV) (ms : List Bool) (T : List Int) : Prop where
  ml : ms.length = l.length
  s : ∀ (i : Nat) (x : RV), l[i]? = some x → ms[i]? = some true → Rch lays os rts x.r.a.toNat
  t : ∀ w ∈ T, (0 ≤ w ∧ w < 18446744073709551616) ∧ (w % 2 ≠ 1 → Rch lays os rts (w / 2).toNat)
  r : ∀ w ∈ rts, w % 2 ≠ 1 → w ∈ T ∨ ∃ (i : Nat) (x : RV), l[i]? = some x ∧ ms[i]? = some true ∧ x.r.a = w / 2
  c : ∀ (i : Nat) (x : RV), l[i]? = some x → ms[i]? = some true → ∀ w ∈ x.r.fs, w % 2 ≠ 1 → w ∈ T ∨ ∃ (i : Nat) (x : RV), l[i]? = some x ∧ ms[i]? = some true ∧ x.r.a = w / 2
section
variable {lays : List (Int × Int)} {os : List Ob} {rts : List Int} {l : List RV} {ms : List Bool} {T : List Int} {w : Int}
theorem RMk.skip (M : RMk lays os rts l ms (w :: T)) (hw : w % 2 ≠ 1 → ∃ (i : Nat) (x : RV), l[i]? = some x ∧ ms[i]? = some true ∧ x.r.a = w / 2) : RMk lays os rts l ms T := by
  have one : ∀ u, u % 2 ≠ 1 → (u ∈ w :: T ∨ ∃ (i : Nat) (x : RV), l[i]? = some x ∧ ms[i]? = some true ∧ x.r.a = u / 2) → (u ∈ T ∨ ∃ (i : Nat) (x : RV), l[i]? = some x ∧ ms[i]? = some true ∧ x.r.a = u / 2) := fun u hu q => by
    rcases q with q | q
    · rcases List.mem_cons.1 q with rfl | q
      · exact .inr (hw hu)
      · exact .inl q
    · exact .inr q
  exact ⟨M.ml, M.s, fun u hu => M.t u (by simp [hu]), fun u hu q => one u q (M.r u hu q), fun i x hx hm u hu q => one u q (M.c i x hx hm u hu q)⟩
theorem RMk.put (A : ∀ o ∈ os, ∀ w ∈ o.body, 0 ≤ w ∧ w < 18446744073709551616) (rel : Rel lays 0 os l) (M : RMk lays os rts l ms (w :: T)) (hw : w % 2 ≠ 1) {i : Nat} {x : RV} (hx : l[i]? = some x) (hxa : x.r.a = w / 2) (hat : atR l (w / 2) = some x) (hi : ms[i]? = some false) : RMk lays os rts l (ms.set i true) (T ++ x.r.fs) := by
  have hlt : i < ms.length := (List.getElem?_eq_some_iff.1 hi).1
  have w0 := (M.t w (by simp)).1
  have hr : Rch lays os rts x.r.a.toNat := by rw [hxa]; exact (M.t w (by simp)).2 hw
  have keep : ∀ {j : Nat}, ms[j]? = some true → (ms.set i true)[j]? = some true := fun {j} h => by
    rw [List.getElem?_set]; split
    · first | rfl | rw [if_pos hlt]
    · exact h
  have here : (ms.set i true)[i]? = some true := by rw [List.getElem?_set, if_pos rfl, if_pos hlt]
  have one : ∀ u, u % 2 ≠ 1 → (u ∈ w :: T ∨ ∃ (i : Nat) (x : RV), l[i]? = some x ∧ ms[i]? = some true ∧ x.r.a = u / 2) → (u ∈ T ++ x.r.fs ∨ ∃ (j : Nat) (x : RV), l[j]? = some x ∧ (ms.set i true)[j]? = some true ∧ x.r.a = u / 2) := fun u hu q => by
    rcases q with q | ⟨j, y, h1, h2, h3⟩
    · rcases List.mem_cons.1 q with rfl | q
      · exact .inr ⟨i, x, hx, here, hxa⟩
      · exact .inl (by simp [q])
    · exact .inr ⟨j, y, h1, keep h2, h3⟩
  -- the object itself
  have hob : ∃ o, findO os (w / 2) = some o ∧ RelO lays o x.r := by
    rcases rel.find0 (w / 2) with ⟨_, e⟩ | ⟨o, y, e1, e2, e3, _⟩
    · rw [hat] at e; cases e
    · rw [hat] at e2; injection e2 with e2; subst e2; exact ⟨o, e1, e3⟩
  obtain ⟨o, ho, hro⟩ := hob
  have hfs : ∀ u ∈ x.r.fs, kindAt lays o.sh ≠ 3 ∧ u ∈ o.body := fun u hu => by
    have h3 := hro.2.2
    split at h3
    · rw [h3.1] at hu; cases hu
    · rename_i k; exact ⟨k, by rw [← h3.1]; exact hu⟩
  refine ⟨by rw [List.length_set]; exact M.ml, fun j y hy hm => ?_, fun u hu => ?_, fun u hu q => one u q (M.r u hu q), fun j y hy hm u hu q => ?_⟩
  · by_cases e : i = j
    · subst e; rw [hx] at hy; injection hy with hy; subst hy; exact hr
    · rw [List.getElem?_set_ne e] at hm; exact M.s j y hy hm
  · rcases List.mem_append.1 hu with hu | hu
    · exact M.t u (by simp [hu])
    · obtain ⟨k3, hb⟩ := hfs u hu
      refine ⟨A o (by obtain ⟨p, q, rfl, _⟩ := findO_split os _ o ho; simp) u hb, fun q => ?_⟩
      refine Rch.fld hr (o := o) ?_ k3 hb q
      rw [hxa, show (((w / 2).toNat : Nat) : Int) = w / 2 by omega]; exact ho
  · by_cases e : i = j
    · subst e; rw [hx] at hy; injection hy with hy; subst hy
      exact .inl (by simp [hu])
    · rw [List.getElem?_set_ne e] at hm; exact one u q (M.c j y hy hm u hu q)
theorem RMk.done (A : ∀ o ∈ os, ∀ w ∈ o.body, 0 ≤ w ∧ w < 18446744073709551616) (rr : ∀ w ∈ rts, 0 ≤ w ∧ w < 18446744073709551616) (rel : Rel lays 0 os l) (M : RMk lays os rts l ms []) {a : Nat} (h : Rch lays os rts a) : ∃ (i : Nat) (x : RV), l[i]? = some x ∧ ms[i]? = some true ∧ x.r.a = a := by
  induction h with
  | @root w h1 h2 =>
    rcases M.r _ h1 h2 with q | ⟨i, x, e1, e2, e3⟩
    · cases q
    · have := rr _ h1
      exact ⟨i, x, e1, e2, by rw [e3]; omega⟩
  | @fld a o w h1 h2 h3 h4 h5 ih =>
    obtain ⟨i, x, e1, e2, e3⟩ := ih
    have hob : RelO lays o x.r := by
      rcases rel.find0 (a : Int) with ⟨e, _⟩ | ⟨o', y, q1, q2, q3, q4⟩
      · rw [h2] at e; cases e
      · rw [h2] at q1; injection q1 with q1; subst q1
        have hxm := List.mem_of_getElem? e1
        have hym : y ∈ l := List.mem_of_find?_eq_some q2
        have : x = y := rel.uniq x hxm y hym (by rw [e3, q4])
        rw [this]; exact q3
    have hf : w ∈ x.r.fs := by
      have q := hob.2.2
      rw [if_neg h3] at q
      rw [q.1]; exact h4
    have hw0 := A o (by obtain ⟨p, q, rfl, _⟩ := findO_split os _ o h2; simp) w h4
    rcases M.c i x e1 e2 w hf h5 with q | ⟨j, y, q1, q2, q3⟩
    · cases q
    · exact ⟨j, y, q1, q2, by rw [q3]; omega⟩
end
section
variable {h0 h : H} {bx : Nat} {words : Int} {lays : List (Int × Int)} {BL : List Nat} {l : List RV} {os : List Ob} {rts : List Int}
theorem reached_c (R : RefAt h0 h bx words lays BL l) (hl : l.length ≤ 1000) (A : ∀ o ∈ os, ∀ w ∈ o.body, 0 ≤ w ∧ w < 18446744073709551616) (rel : Rel lays 0 os l) (fit : fitAll lays os) {v : AV} (hr : Row h v rts.length 1 (wc rts)) (rr : ∀ w ∈ rts, 0 ≤ w ∧ w < 18446744073709551616) (hf : ∀ w ∈ rts, fitsO os w = true)
    (hb : rts.length + (l.map fun x => x.r.fs.length).sum ≤ 5000000) {K : AV → H → Prop}
    (hK : ∀ h' m ms, Fr [] h h' → h.get m = none → h'.get m = some (.live (bo ms) 4 true) → ms.length = l.length → (∀ (i : Nat) (x : RV), l[i]? = some x → (ms[i]? = some true ↔ Rch lays os rts x.r.a.toNat)) → K (.sl m 0 l.length (.exact l.length)) h') : C 93 [.ptr bx 0, v] h K := by
  refine run93 ?_
  unfold sh93
  obtain ⟨lv, Lv, c, r, o⟩ := R.cells
  have c2 : h.cell bx 2 = some Lv := by rw [c]; rfl
  rw [nilcA_p, valA_some]
  simp only [faA_p, valA_some, Nat.zero_add, ldA_n, c2, o.row.len]
  refine mks_bool (by omega) fun m hm => ?_
  have f1 : Fr [] h (h.set m (.live (bo (List.replicate l.length false)) 4 true)) := Fr.new hm
  have g1 : (h.set m (.live (bo (List.replicate l.length false)) 4 true)).get m = some (.live (bo (List.replicate l.length false)) 4 true) := H.get_same ..
  generalize h.set m (.live (bo (List.replicate l.length false)) 4 true) = h1 at *
  rw [show fillV [] [] = some [] from rfl]
  refine ⟨rfl, fun b0 hb0 => ?_⟩
  have f2 : Fr [] h1 (h1.set b0 (.live [] 25 true)) := Fr.new hb0
  have q0 : Qu h1 (h1.set b0 (.live [] 25 true)) (.sl b0 0 0 (.exact 0)) [] := ⟨b0, .exact 0, [], rfl, hb0, by rw [H.get_same]; rfl, .inr ⟨rfl, rfl⟩, rfl⟩
  generalize h1.set b0 (.live [] 25 true) = h2 at *
  have hal : ∀ c, h1.get c ≠ none → h2.get c ≠ none := fun c hc => by
    obtain ⟨o, ho⟩ := Option.ne_none_iff_exists'.1 hc
    rw [f2 c o (by simp) ho]; simp
  refine q0.push ((hr.fr (f1.trans f2)).src) hal (by simp; omega) fun v3 h3 q3 f3 => ?_
  rw [List.nil_append] at q3
  refine join_r (fun (J : H → Prop) => ∀ h' ms, Fr [] h h' → h'.get m = some (.live (bo ms) 4 true) → RMk lays os rts l ms [] → J h') (fun h' ms f' g' M => ?_) fun J hJ => ?_
  · refine hK h' m ms f' hm g' M.ml fun i x hx => ⟨fun e => M.s i x hx e, fun e => ?_⟩
    obtain ⟨j, y, e1, e2, e3⟩ := M.done A rr rel e
    have hat := rch_at fit hf e
    have : x = y := by
      refine rel.uniq x (List.mem_of_getElem? hx) y (List.mem_of_getElem? e1) ?_
      have := rel.pos x (List.mem_of_getElem? hx)
      omega
    subst this
    have : i = j := rel.place hx e1
    rw [this]; exact e2
  · have cov : ∀ w, w % 2 ≠ 1 → fitsO os w = true → ∃ x, atR l (w / 2) = some x := fun w hw hfw => by
      rw [rel.fits w] at hfw
      unfold fitsR at hfw
      simp only [hw, decide_false, Bool.false_or] at hfw
      exact Option.isSome_iff_exists.1 hfw
    refine loop_r (rts.length + (l.map fun x => x.r.fs.length).sum) (fun k ls h' => ∃ (vt : AV) (T : List Int) (ms : List Bool), ls = [vt] ∧ Qu h1 h' vt T ∧ (∀ c, h1.get c ≠ none → h'.get c ≠ none) ∧ Fr [] h h' ∧ h'.get m = some (.live (bo ms) 4 true) ∧ RMk lays os rts l ms T ∧ T.length + restF l ms ≤ rts.length + (l.map fun x => x.r.fs.length).sum ∧ k = T.length + restF l ms)
      ⟨v3, rts, List.replicate l.length false, rfl, q3, ?_, ?_, ?_, ?_, by rw [restF_none]; omega, by rw [restF_none]⟩ ?_
    · exact fun c hc => by
        obtain ⟨o, ho⟩ := Option.ne_none_iff_exists'.1 hc
        rw [f3 c o (f2 c o (by simp) ho) hc]; simp
    · exact fun c o _ ho => f3 c o (f2 c o (by simp) (f1 c o (by simp) ho)) (by rw [f1 c o (by simp) ho]; simp)
    · exact f3 m _ (f2 m _ (by simp) g1) (by rw [g1]; simp)
    · have no : ∀ (i : Nat), (List.replicate l.length false)[i]? ≠ some true := fun i h => by
        rw [List.getElem?_replicate] at h; split at h <;> cases h
      exact ⟨by simp, fun i x _ h => absurd h (no i), fun w hw => ⟨rr w hw, fun q => .root hw q⟩, fun w hw _ => .inl hw, fun i x _ h => absurd h (no i)⟩
    rintro k ls h4 ⟨vt, T, ms, rfl, q4, hal4, f4, g4, M, tot, rfl⟩
    rw [argA_0, q4.len, valA_some, b_gtr, valA_some]
    cases T with
    | nil =>
      have hn : ¬ ((0 : Int) < (([] : List Int).length : Nat)) := by simp
      simp only [hn, decide_false, condA_f]
      exact hJ h4 ms f4 g4 M
    | cons w T =>
      have hp : (0 : Int) < ((w :: T).length : Nat) := by rw [List.length_cons]; omega
      simp only [hp, decide_true, condA_t]
      obtain ⟨b5, o5, v5, i1, i2, i3, q5⟩ := q4.pop
      have w0 := (M.t w (by simp)).1
      have e1 : w.tmod 2 = w % 2 := Int.tmod_eq_emod_of_nonneg w0.1
      have e2 : IntKind.u64.wrap (w.tdiv 2) = w / 2 := by rw [Int.tdiv_eq_ediv_of_nonneg w0.1, u64_id (by omega) (by omega)]
      have e3 : IntKind.i64.wrap (w / 2) = w / 2 := i64_id (by omega) (by omega)
      have next : (w % 2 ≠ 1 → ∃ (i : Nat) (x : RV), l[i]? = some x ∧ ms[i]? = some true ∧ x.r.a = w / 2) → ∀ h', Fr [] h4 h' → ∃ n', n' < (w :: T).length + restF l ms ∧ ∃ (vt : AV) (T' : List Int) (ms' : List Bool), [v5] = [vt] ∧ Qu h1 h' vt T' ∧ (∀ c, h1.get c ≠ none → h'.get c ≠ none) ∧ Fr [] h h' ∧ h'.get m = some (.live (bo ms') 4 true) ∧ RMk lays os rts l ms' T' ∧ T'.length + restF l ms' ≤ rts.length + (l.map fun x => x.r.fs.length).sum ∧ n' = T'.length + restF l ms' := fun hw h' f' => by
        refine ⟨T.length + restF l ms, by rw [List.length_cons]; omega, v5, T, ms, rfl, q5.mono fun c o _ hg => f' c o (by simp) hg, fun c hc => ?_, f4.trans f', f' m _ (by simp) g4, M.skip hw, by rw [List.length_cons] at tot; omega, rfl⟩
        obtain ⟨o, ho⟩ := Option.ne_none_iff_exists'.1 (hal4 c hc)
        rw [f' c o (by simp) ho]; simp
      simp only [i1, valA_some, ldA_n, i2, i3, b_rem (show (2 : Int) ≠ 0 by decide), e1, b_eql]
      by_cases hw : w % 2 = 1
      · have hw' : IntKind.u64.wrap (w % 2) = 1 := by rw [hw]; rfl
        simp only [hw, hw', decide_true, condA_t]
        exact next (fun q => absurd hw q) h4 (Fr.refl _ _)
      · have hw' : ¬ IntKind.u64.wrap (w % 2) = 1 := by rw [u64_id (by omega) (by omega)]; exact hw
        simp only [hw, hw', decide_false, condA_f, b_quo (show (2 : Int) ≠ 0 by decide), valA_some, e2, cvA_i, e3]
        have R4 := R.keep0 f4
        refine rfind_c R4 hl _ fun h6 f6 => ?_
        have R6 := R4.keep0 f6
        have g6 := f6 m _ (by simp) g4
        have hat0 := rch_at fit hf ((M.t w (by simp)).2 hw)
        have hat : ∃ y, atR l (w / 2) = some y := by
          unfold AtO at hat0
          rw [show (((w / 2).toNat : Nat) : Int) = w / 2 by omega] at hat0
          rcases rel.find0 (w / 2) with ⟨e, _⟩ | ⟨o', y, _, q2, _⟩
          · rw [e] at hat0; cases hat0
          · exact ⟨y, q2⟩
        rcases findR_spec l (w / 2) 0 with ⟨_, s2⟩ | ⟨i, x, s1, s2, s3, s4⟩
        · obtain ⟨y, hy⟩ := hat
          unfold atR at hy
          rw [find_none s2] at hy; cases hy
        · rw [s1, Nat.zero_add]
          have hil : i < l.length := (List.getElem?_eq_some_iff.1 s2).1
          obtain ⟨bit, hbit⟩ : ∃ bit, ms[i]? = some bit := ⟨ms[i]'(by rw [M.ml]; exact hil), by simp [M.ml, hil]⟩
          have n0 : ¬ ((i : Nat) : Int) < 0 := by omega
          have iaM : ∀ k, iaA 1 (.sl m 0 l.length (.exact l.length)) (.int k ((i : Nat) : Int)) = some (.ptr m i) := fun k => by
            have : (0 : Int) ≤ (i : Nat) ∧ ((i : Nat) : Int) < l.length := by omega
            simp [iaA, this]
          have cm : h6.cell m i = some (.bool bit) := by rw [cell_of g6]; simp [bo, hbit]
          simp only [b_lss, valA_some, n0, decide_false, whenA_ff, iaM, ldA_n, cm, pickA_b, Bool.false_eq_true, if_false]
          cases bit with
          | true =>
            simp only [condA_t]
            exact next (fun _ => ⟨i, x, s2, hbit, s3⟩) h6 f6
          | false =>
            simp only [condA_f]
            have sm : stA h6 1 (.ptr m i) (.bool true) = some (h6.set m (.live (bo (ms.set i true)) 4 true)) := by
              rw [st_val g6 (by simp [bo, M.ml, hil]) rfl rfl]
              simp [bo, List.map_set]
            rw [sm, memA_some]
            have f04 : Fr [] h h6 := f4.trans f6
            have f7 : Fr [] h (h6.set m (.live (bo (ms.set i true)) 4 true)) := f04.set' hm
            have fm : ∀ c o, c ≠ m → h6.get c = some o → (h6.set m (.live (bo (ms.set i true)) 4 true)).get c = some o := fun c o hc hg => by rw [H.get_other _ _ hc]; exact hg
            have g7 : (h6.set m (.live (bo (ms.set i true)) 4 true)).get m = some (.live (bo (ms.set i true)) 4 true) := H.get_same ..
            generalize h6.set m (.live (bo (ms.set i true)) 4 true) = h7 at *
            have R7 := R.keep0 f7
            obtain ⟨lv7, Lv7, c7, r7, o7⟩ := R7.cells
            have c72 : h7.cell bx 2 = some Lv7 := by rw [c7]; rfl
            obtain ⟨bq, q, p1, p2, p3⟩ := o7.obj s2
            have cf := (cells3 p2).1
            have hok := R7.el x (List.mem_of_getElem? s2)
            simp only [nilcA_p, valA_some, faA_p, Nat.zero_add, ldA_n, c72, p1, cf]
            have hal7 : ∀ c, h1.get c ≠ none → h7.get c ≠ none := fun c hc => by
              by_cases e : c = m
              · rw [e, g7]; simp
              · obtain ⟨o, ho⟩ := Option.ne_none_iff_exists'.1 (hal4 c hc)
                rw [fm c o e (f6 c o (by simp) ho)]; simp
            have q7 : Qu h1 h7 v5 T := q5.mono fun c o hc hg => fm c o (fun e => by rw [e, g1] at hc; cases hc) (f6 c o (by simp) hg)
            have rs := restF_set l ms i x s2 hbit
            rw [List.length_cons] at tot
            refine q7.push hok.1.row.src hal7 (by omega) fun v8 h8 q8 f8 => ?_
            refine ⟨(T ++ x.r.fs).length + restF l (ms.set i true), by rw [List.length_cons, List.length_append]; omega, v8, T ++ x.r.fs, ms.set i true, rfl, q8, fun c hc => ?_, fun c o _ ho => ?_, f8 m _ g7 (by rw [g1]; simp), M.put A rel hw s2 s3 s4 hbit, by rw [List.length_append]; omega, rfl⟩
            · obtain ⟨o, ho⟩ := Option.ne_none_iff_exists'.1 (hal7 c hc)
              rw [f8 c o ho hc]; simp
            · exact f8 c o (f7 c o (by simp) ho) (by rw [f1 c o (by simp) ho]; simp)
end
end Go.Proofs.Ytljkkfcokpimkaa.X
set_option linter.unusedVariables false
set_option linter.unusedSimpArgs false
set_option maxRecDepth 20000
namespace Go.Proofs.Ytljkkfcokpimkaa.X
open Go Go.RowKit
theorem Rel.sumF {lays : List (Int × Int)} : ∀ {p : Nat} {os : List Ob} {l : List RV}, Rel lays p os l → (l.map fun x => x.r.fs.length).sum ≤ (rowOf os).length
  | _, [], [], _ => by simp [rowOf]
  | _, [], _ :: _, h => h.elim
  | _, _ :: _, [], h => h.elim
  | p, o :: os, x :: l, h => by
    have ih := h.2.2.sumF
    have hr : o.row.length = o.body.length + 1 := by simp [Ob.row]
    have hf : x.r.fs.length ≤ o.body.length := by
      have := h.2.1.2.2
      split at this
      · rw [this.1]; simp
      · rw [this.1]; exact Nat.le_refl _
    rw [rowOf_cons, List.length_append, List.map_cons, List.sum_cons]
    omega
theorem Case.bothOf {h1 h2 h' hx : H} {b bw bd bx : Nat} {B BL : List Nat} {s : Hs} {os : List Ob} {l : List RV} {v : AV} {rts : List Int} (c : Case h1 h2 h' b bw bd B s os bx BL l v rts) (T : HS hx b bw bd B s.lays 1500 os) (R' : RefAt h1 hx bx s.words.length s.lays BL l) : ∃ s', Both h1 hx b bw bd B s' os bx BL l := by
  obtain ⟨s', hh', A', e1, e2⟩ := T
  exact ⟨s', hh', A', by rw [e2, e1]; rw [c.wl] at R'; exact R', by rw [e1]; exact c.both.r, c.both.ap, c.both.new, by rw [e1]; exact c.both.fit⟩
theorem law22 (h : H) (ls : List (List AV)) (hl : LiesA h [shCase] ls) : C 22 (argsOf [shCase] ls) h yes := by
  obtain ⟨l0, ls, rfl, g0, hl⟩ := liesA_cons hl
  obtain rfl := liesA_nil hl
  obtain ⟨v, L, vo, ops, vr, rs, rfl, hr, hm, hro, hops, hmo, hrw, hW, hmw⟩ := lies_case g0
  show C 22 [.agg [v, vo, vr]] h yes
  refine run22 ?_
  unfold sh22
  refine start2_c hr hm hro hmo hops hrw hW hmw (fun h' => gcYes) fun h1 h2 h3 d b bw bd B s os bx BL l vv rts c => ?_
  clear g0 hr hm hro hops hmo hrw hW hmw
  have t0 : ∀ a c : AV, extA (.tup [a, c]) 0 = some a := fun _ _ => rfl
  have t1 : ∀ a c : AV, extA (.tup [a, c]) 1 = some c := fun _ _ => rfl
  have hll := c.ll
  have hrl := c.rl
  have T := c.hs
  have hle := T.le
  have hol := os_le os
  have n00 : ¬ ((0 : Int) ≠ 0) := by decide
  have hnum := c.both.r.len
  obtain ⟨R, hR⟩ := reach_bool s.lays os rts
  have hbl : ∀ k ∈ blocksR bx BL l, k ∉ [bw] := fun k hk q => c.both.ap k (by simp at q ⊢; simp [q]) hk
  have hnew : ∀ k ∈ [bw], h1.get k = none := fun k q => c.both.new k (by simp at q ⊢; simp [q])
  have keepR : ∀ h', Fr [bw] h3 h' → RefAt h1 h' bx s.words.length s.lays BL l := fun h' f => c.now.R.keep f hbl ((c.now.R.fr).cons hnew f)
  have keepW : ∀ h', Fr [bw] h3 h' → Row h' vv rts.length 1 (wc rts) := fun h' f => c.row f (fun k q => .inl (by simp at q; simp [q]))
  refine marks_h T c.fit c.own.row c.rr (by omega) R hR (fun hall h4 f4 => ?_) fun hall h4 va f4 T4 oa => ?_
  · -- some root does not fit
    have T4 := T.fr0 f4
    refine live_h T4 c.fit (keepW h4 f4.more) c.rr (by omega) R hR (fun _ h5 f5 => ?_) fun q => by rw [hall] at q; cases q
    have T5 := T4.fr0 f5
    have f35 := f4.trans f5
    rw [t0, valA_some, t1, valA_some]
    refine rfit_c (keepR h5 f35.more) (by omega) (keepW h5 f35.more) c.rr (by omega) fun h6 f6 => ?_
    have f36 := f35.trans f6
    rw [← c.both.r.fitsAll rts, hall]
    obtain ⟨s', B6⟩ := c.bothOf (T5.fr0 f6) (keepR h6 f36.more)
    have n11 : ((1 : Int) = 1) := rfl
    simp only [u_not, Bool.not_false, valA_some, condA_t, b_eql, decide_true, whenA_tt, pickA_b, if_true, lenA_n]
    exact same_c B6 (by omega) fun h7 f7 => by
      simp only [pickA_b, if_true, valA_some, whenA_tt]
      exact gcLives_c fun _ _ => rfl
  · refine live_h T4 c.fit (keepW h4 f4) c.rr (by omega) R hR (fun q => by rw [hall] at q; cases q) fun _ h5 f5 T5 => ?_
    have f35 := f4.trans f5
    have oa5 := T4.own oa f5 (by simp)
    rw [t0, valA_some, t1, valA_some]
    refine rfit_c (keepR h5 f35) (by omega) (keepW h5 f35) c.rr (by omega) fun h6 f6 => ?_
    have f36 := f35.trans f6.more
    have T6 := T5.fr0 f6
    have oa6 := T5.own oa5 f6 (by simp)
    rw [← c.both.r.fitsAll rts, hall]
    simp only [u_not, Bool.not_true, valA_some, condA_f]
    have hff : ∀ w ∈ rts, fitsO os w = true := fun w hw => List.all_eq_true.1 hall w hw
    have sumF := c.both.r.sumF
    refine reached_c (keepR h6 f36) (by omega) c.both.A.nonneg c.both.r c.fit (keepW h6 f36) c.rr hff (by omega) fun h7 m ms f7 hm7 g7 hml hms => ?_
    have f37 := f36.trans f7.more
    have T7 := T6.fr0 f7
    have oa7 := T6.own oa6 f7 (by simp)
    have R7 := keepR h7 f37
    obtain ⟨lv, Lv, c7, r7, o7⟩ := R7.cells
    have c72 : h7.cell bx 2 = some Lv := by rw [c7]; rfl
    generalize hML : markedL R os 0 = ML at *
    have hMl : ML.length ≤ os.length := by rw [← hML]; exact markedL_len R os 0
    have hNl : (rowOf (newO s.lays R os)).length ≤ (rowOf os).length := new_len (lays := s.lays) (R := R) (fwd := fw R os) os 0
    generalize hWn : (rowOf (newO s.lays R os)).length = Wn at *
    refine join_r (fun (J : AV → AV → H → Prop) => ∀ h', Fr [] h7 h' → J (.int .i64 ML.length) (.int .i64 Wn) h') (fun h8 f8 => ?_) fun J hJ => ?_
    · obtain ⟨s', B8⟩ := c.bothOf (T7.fr0 f8) (keepR h8 (f37.trans f8.more))
      have hlen : lenA false va = some (.int .i64 ML.length) := oa.row.len
      simp only [valA_some, b_eql, decide_true, whenA_tt, pickA_b, if_true, hlen]
      exact same_c B8 (by omega) fun h9 f9 => by
        simp only [pickA_b, if_true, valA_some, whenA_tt]
        exact gcLives_c fun _ _ => rfl
    · rw [nilcA_p, valA_some]
      simp only [faA_p, valA_some, Nat.zero_add, ldA_n, c72, o7.row.len]
      refine loop_r (l.length + 1) (fun k ls h' => ∃ (i w : Nat) (pre : List Nat) (p : Nat) (os' : List Ob), ls = [.int .i64 pre.length, .int .i64 w, .int .i64 i] ∧ i ≤ l.length ∧ Fr [] h7 h' ∧ Rel s.lays p os' (l.drop i) ∧ (∀ o ∈ os', o ∈ os) ∧ ML = pre ++ markedL R os' p ∧ w + (rowOf (newOs s.lays R (fw R os) os' p)).length = Wn ∧ k = l.length + 1 - i)
        ⟨0, 0, [], 0, os, rfl, by omega, Fr.refl _ _, by rw [List.drop_zero]; exact c.both.r, fun o ho => ho, by rw [List.nil_append, hML], by rw [Nat.zero_add]; exact hWn, rfl⟩ ?_
      rintro k ls h8 ⟨i, w, pre, p, os', rfl, hi, f8, rel, hsub, eM, eW, rfl⟩
      rw [argA_0, argA_1, argA_2, b_lss, valA_some]
      by_cases hlt : (i : Int) < l.length
      · have hlt' : i < l.length := by omega
        obtain ⟨x, hx⟩ : ∃ x, l[i]? = some x := ⟨l[i], by simp [hlt']⟩
        have hdrop : l.drop i = x :: l.drop (i + 1) := by
          rw [List.drop_eq_getElem_cons hlt']; congr 1
          rw [List.getElem?_eq_getElem hlt'] at hx; injection hx
        rw [hdrop] at rel
        obtain ⟨o, os2, rfl⟩ : ∃ o os2, os' = o :: os2 := by
          cases os' with
          | nil => exact rel.elim
          | cons o os2 => exact ⟨o, os2, rfl⟩
        obtain ⟨xa, xr, rel2⟩ := rel
        have hok := R7.el x (List.mem_of_getElem? hx)
        obtain ⟨bq, q, q1, q2, q3⟩ := (o7.fr f8 (by simp)).obj hx
        obtain ⟨bit, hbit⟩ : ∃ bit, ms[i]? = some bit := ⟨ms[i]'(by omega), by simp [hml, hlt']⟩
        have hb : bit = R p := by
          have e := hms i x hx
          rw [xa, Int.toNat_natCast, ← hR p, hbit] at e
          cases bit <;> cases hRp : R p <;> simp [hRp] at e ⊢
        have iaM : ∀ k, iaA 1 (.sl m 0 l.length (.exact l.length)) (.int k ((i : Nat) : Int)) = some (.ptr m i) := fun k => by
          have : (0 : Int) ≤ (i : Nat) ∧ ((i : Nat) : Int) < l.length := by omega
          simp [iaA, this]
        have en : IntKind.i64.wrap ((i : Int) + 1) = ((i + 1 : Nat) : Int) := by rw [i64_id (by omega) (by omega)]; rfl
        simp only [hlt, decide_true, condA_t]
        refine join_r (fun (J2 : AV → AV → H → Prop) => ∀ h9 (pre' : List Nat) (w' : Nat), Fr [] h7 h9 → ML = pre' ++ markedL R os2 (p + o.row.length) → w' + (rowOf (newOs s.lays R (fw R os) os2 (p + o.row.length))).length = Wn → J2 (.int .i64 pre'.length) (.int .i64 w') h9) (fun h9 pre' w' f9 e1 e2 => ?_) fun J2 hJ2 => ?_
        · simp only [b_add, valA_some, en]
          exact ⟨l.length + 1 - (i + 1), by omega, i + 1, w', pre', p + o.row.length, os2, rfl, by omega, f9, rel2, fun o ho => hsub o (by simp [ho]), e1, e2, rfl⟩
        simp only [q1, valA_some, ldA_s, q3]
        refine ⟨rfl, fun dd hd => ?_⟩
        have f9 : Fr [] h7 (h8.set dd (.live x.cells 89 true)) := f8.set' (f8.free hd)
        have hw := RV.leaves hok
        have ec : (AV.agg x.cells).cells = x.cells := rfl
        have el : x.cells.length = 5 := rfl
        have hc0 : (h8.set dd (.live x.cells 89 true)).cell dd 0 = some (.int .i64 x.r.a) := cell_set
        have hc1 : (h8.set dd (.live x.cells 89 true)).cell dd 1 = some (.int .i64 x.r.sh) := cell_set
        have hc2 : (h8.set dd (.live x.cells 89 true)).cell dd 2 = some (.int .i64 x.r.n) := cell_set
        have R9 := R7.keep0 f9
        obtain ⟨lv9, Lv9, c9, r9, o9⟩ := R9.cells
        have n53 := fun K => rneed_c (h := h8.set dd (.live x.cells 89 true)) (bx := bx) (by rw [c9]; rfl) r9 x.r.sh x.r.n K
        have cm : (h8.set dd (.live x.cells 89 true)).cell m i = some (.bool bit) := by rw [cell_of (f9 m _ (by simp) g7)]; simp [bo, hbit]
        have oa9 := (oa7.keep fun k n' p' _ ob hg => f9 k ob (by simp) hg).row
        simp only [go_sem, reduceIte, Nat.reduceAdd, Nat.reduceSub, Nat.reduceMul, Nat.reducePow, Nat.reduceLT, Nat.reduceLeDiff, Nat.reduceEqDiff, Int.reduceAdd, Int.reduceSub, Int.reduceMul, Int.reduceNeg, Int.reducePow, Int.reduceLT, Int.reduceLE, Int.reduceEq, Int.reduceNe, Int.reduceToNat, Int.toNat_natCast, Nat.zero_add, Nat.add_zero, Nat.mul_one, Nat.one_mul, Bool.not_true, Bool.not_false, ne_eq, not_true_eq_false, not_false_eq_true, Bool.false_eq_true, stA_p, ec, el, agg5_write hw, memA_some, iaM, cm]
        generalize h8.set dd (.live x.cells 89 true) = h9 at *
        · subst hb
          rw [markedL] at eM
          rw [newOs] at eW
          cases hRp : R p with
          | false =>
            rw [hRp] at eM eW
            simp only [go_sem, reduceIte, Nat.reduceAdd, Nat.reduceSub, Nat.reduceMul, Nat.reducePow, Nat.reduceLT, Nat.reduceLeDiff, Nat.reduceEqDiff, Int.reduceAdd, Int.reduceSub, Int.reduceMul, Int.reduceNeg, Int.reducePow, Int.reduceLT, Int.reduceLE, Int.reduceEq, Int.reduceNe, Int.reduceToNat, Int.toNat_natCast, Nat.zero_add, Nat.add_zero, Nat.mul_one, Nat.one_mul, Bool.not_true, Bool.not_false, ne_eq, not_true_eq_false, not_false_eq_true, Bool.false_eq_true]
            exact hJ2 h9 pre w f9 (by simpa using eM) (by simpa using eW)
          | true =>
            rw [hRp] at eM eW
            simp only [if_true, List.singleton_append, rowOf_cons, List.length_append, newB_len] at eM eW
            have hkl : pre.length < ML.length := by rw [eM]; simp
            have hkl' : ¬ ((ML.length : Int) ≤ (pre.length : Nat)) := by omega
            have hgot : (nc ML)[pre.length]? = some (.int .i64 p) := by
              rw [eM]; simp [nc]
            obtain ⟨b9, p9, w1, w2⟩ := oa9.at (i := (pre.length : Int)) (x := .int .i64 p) (by omega) (by omega) (by rw [Int.toNat_natCast]; exact hgot)
            have hxo : needN s.lays x.r.sh x.r.n = ((o.row.length : Int), 0) := by rw [xr.1, xr.2.1]; exact c.both.A.each o (hsub o (by simp))
            have e1 : IntKind.i64.wrap ((w : Int) + o.row.length) = ((w + o.row.length : Nat) : Int) := by rw [i64_id (by omega) (by omega)]; omega
            have e2 : IntKind.i64.wrap ((pre.length : Int) + 1) = (((pre ++ [p]).length : Nat) : Int) := by rw [i64_id (by omega) (by omega), List.length_append]; rfl
            simp only [go_sem, reduceIte, Nat.reduceAdd, Nat.reduceSub, Nat.reduceMul, Nat.reducePow, Nat.reduceLT, Nat.reduceLeDiff, Nat.reduceEqDiff, Int.reduceAdd, Int.reduceSub, Int.reduceMul, Int.reduceNeg, Int.reducePow, Int.reduceLT, Int.reduceLE, Int.reduceEq, Int.reduceNe, Int.reduceToNat, Int.toNat_natCast, Nat.zero_add, Nat.add_zero, Nat.mul_one, Nat.one_mul, Bool.not_true, Bool.not_false, ne_eq, not_true_eq_false, not_false_eq_true, Bool.false_eq_true, oa.row.len, hkl', w1, w2, hc0, hc1, hc2, xa, n53, hxo, t0, t1, e1, e2]
            exact hJ2 h9 (pre ++ [p]) (w + o.row.length) f9 (by rw [eM]; simp) (by omega)
      · have : i = l.length := by omega
        subst this
        simp only [hlt, decide_false, condA_f]
        rw [List.drop_length] at rel
        cases os' with
        | cons o os2 => exact rel.elim
        | nil =>
          have e1 : ML = pre := by rw [eM]; simp [markedL]
          have e2 : w = Wn := by rw [← eW]; simp [newOs, rowOf]
          rw [← e1, e2]
          exact hJ h8 f8
end Go.Proofs.Ytljkkfcokpimkaa.X
