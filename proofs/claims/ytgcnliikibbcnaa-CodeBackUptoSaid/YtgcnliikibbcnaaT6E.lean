/- What the law law6 needs: texts of one's own, put together; functions' contracts and plain facts. -/
import Derived.Test.YtgcnliikibbcnaaT6D
set_option linter.unusedVariables false
set_option linter.unusedSimpArgs false
set_option maxRecDepth 20000
namespace Go.Proofs.Ytgcnliikibbcnaa.X
open Go Go.RowKit
/-- All blocks but those of bytes stay. -/
def FrB (h h' : H) : Prop := ∀ c cs e w, e ≠ 5 → h.get c = some (.live cs e w) → h'.get c = some (.live cs e w)
theorem FrB.trans {h h1 h2 : H} (f : FrB h h1) (g : FrB h1 h2) : FrB h h2 := fun c cs e w he x => g c cs e w he (f c cs e w he x)
theorem Fr.frb {h h' : H} (f : Fr [] h h') : FrB h h' := fun c _ _ _ _ x => f c _ (by simp) x
theorem FrB.refl (h : H) : FrB h h := fun _ _ _ _ _ x => x
/-- Bytes so far. -/
structure V (h0 h : H) (v : AV) (L : List Nat) : Prop where
  ws : WS h0 h v L
  fr : Fr [] h0 h
section
variable {h0 h h' : H} {v : AV} {L : List Nat}
theorem V.keep (w : V h0 h v L) (f : Fr [] h h') : V h0 h' v L := ⟨w.ws.fr f, w.fr.trans f⟩
theorem WS.ne (s : WS h0 h v L) {c e : Nat} {cs : List AV} {w : Bool} (he : e ≠ 5) (hg : h.get c = some (.live cs e w)) : ∀ n p, v ≠ .sl c 0 n p := by
  intro n p q
  rcases s with s | ⟨m, q1, _, q3⟩
  · rcases s.2 with ⟨_, z⟩ | ⟨b, z1, _, z3⟩
    · rw [q] at z; cases z
    · rw [q] at z1; injection z1 with z1 _; subst z1
      rw [hg] at z3; injection z3 with z3; injection z3 with _ z3 _; exact he z3
  · rw [q] at q1; injection q1 with q1 _; subst q1
    rw [hg] at q3; injection q3 with q3; injection q3 with _ q3 _; exact he q3
theorem app_w (w : V h0 h v L) {y : AV} {D : List Nat} (hs : srcA h 1 y = some (D.length, bc D)) (hm : (L ++ D).length ≤ most) {K : AV → H → Prop} (hK : ∀ v' h', V h0 h' v' (L ++ D) → FrB h h' → K v' h') : appendA h 5 1 1 v y K := by
  rw [List.length_append] at hm
  exact wapp_c w.ws w.fr hs hm fun v' h' s f fk _ => hK v' h' ⟨s, f⟩ fun c cs e x he hg => fk c _ hg (w.ws.ne he hg)
theorem rnum_w (w : V h0 h v L) {n : Int} (hn : rg n) (hm : (L ++ numB n).length ≤ most) {K : AV → H → Prop} (hK : ∀ v' h', V h0 h' v' (L ++ numB n) → FrB h h' → K v' h') : C 39 [v, .int .i64 n] h K := by
  refine run39 ?_
  unfold sh39
  refine rput_c hn.1 hn.2 fun v1 h1 o1 f1 => ?_
  exact app_w (w.keep f1) (D := numB n) o1.row.src hm fun v' h' w' f' => hK v' h' w' (f1.frb.trans f')
theorem rtext_w (w : V h0 h v L) {s : List UInt8} (hl : s.length ≤ reachBytes) (hm : (L ++ textB s).length ≤ most) {K : AV → H → Prop} (hK : ∀ v' h', V h0 h' v' (L ++ textB s) → FrB h h' → K v' h') : C 41 [v, .str s] h K := by
  refine run41 ?_
  unfold sh41
  unfold textB at hm hK
  rw [← List.append_assoc] at hm
  rw [show lenA true (.str s) = some (.int .i64 s.length) from rfl, valA_some]
  refine rnum_w w (rg_nat hl) (by simp only [List.length_append] at hm ⊢; omega) fun v1 h1 w1 f1 => ?_
  refine s2b_r fun m hmm => ?_
  have fm : Fr [] h1 (h1.set m (.live (s.map fun c => AV.int .u8 c.toNat) 5 true)) := (Fr.refl _ _).set' hmm
  have e : (s.map fun c => AV.int .u8 c.toNat) = bc (s.map (·.toNat)) := by simp [bc]
  have hs : srcA (h1.set m (.live (s.map fun c => AV.int .u8 c.toNat) 5 true)) 1 (.sl m 0 s.length (.more 1)) = some ((s.map (·.toNat)).length, bc (s.map (·.toNat))) := by
    simp only [srcA]
    rw [H.read_eq (H.get_same ..) (by simp) (by rw [List.drop_zero, List.take_of_length_le (by simp)]), e]
    simp
  refine app_w (w1.keep fm) hs hm fun v' h' w' f' => hK v' h' (by rw [← List.append_assoc]; exact w') ((f1.trans fm.frb).trans f')
/-- A row whose elements are taken one by one; something is counted, or written. -/
theorem acc_r {α : Type} {esz ty : Nat} {zs : List AV} {lv : AV} {l : List α} {Rel : H → α → List AV → Prop} (hleaf : ∀ {h : H} {x c}, Rel h x c → leaves c = true) (hz : zs.length = esz) (lz : leaves zs = true)
    (r : RowOf h0 esz (Rel h0) lv l) (hl : l.length ≤ reachBytes) {Inv : Nat → AV → H → Prop} {a0 : AV} (hi : Inv 0 a0 h) (hfr : ∀ i a h, Inv i a h → Fr [] h0 h) (hkeep : ∀ i a h h', Inv i a h → Fr [] h h' → Inv i a h')
    {J : AV → H → Prop} {BODY : (List AV → H → Prop) → AV → AV → AV → H → Prop}
    (hJ : ∀ a h2, Inv l.length a h2 → J a h2)
    (hB : ∀ (N : List AV → H → Prop) (i : Nat) x a, l[i]? = some x → IntKind.i64.wrap ((i : Int) + 1) = ((i + 1 : Nat) : Int) → ∀ h1 d c, Inv i a h1 → h1.get d = some (.live c ty true) → Rel h0 x c → c.length = esz →
      (∀ a' h2, Inv (i + 1) a' h2 → N [a', .int .i64 ((i + 1 : Nat) : Int)] h2) → BODY N a (.int .i64 i) (.ptr d 0) h1) :
    loopA (fun N l' h => argA l' 0 fun a => argA l' 1 fun t51 => valA (binOp .lss .num t51 (.int .i64 l.length)) h fun t52 h => condA t52
      (valA (iaA esz lv t51) h fun t53 h => valA (ldA h (some esz) t53) h fun t54 h => boxA h zs ty fun d h => memA (stA h esz d t54) .undef fun _ h => BODY N a t51 d h) (J a h)) [a0, .int .i64 0] h := by
  have hr : reachBytes ≤ 4611686018427387903 := by decide
  refine loop_r (l.length + 1) (fun k ls h2 => ∃ (i : Nat) (a : AV), ls = [a, .int .i64 i] ∧ i ≤ l.length ∧ Inv i a h2 ∧ k = l.length + 1 - i) ⟨0, a0, rfl, by omega, hi, rfl⟩ ?_
  rintro k ls h2 ⟨i, a, rfl, hi, ha, rfl⟩
  by_cases q : (i : Int) < l.length
  · have hi' : i < l.length := by omega
    obtain ⟨x, hx⟩ : ∃ x, l[i]? = some x := ⟨l[i], by simp [hi']⟩
    obtain ⟨b, o, c, e1, e2, e3, e4, e5⟩ := (r.mono (hfr _ _ _ ha) fun _ _ _ z => z).el hx
    have en : IntKind.i64.wrap ((i : Int) + 1) = ((i + 1 : Nat) : Int) := by rw [i64_id (by omega) (by omega)]; rfl
    simp only [argA_0, argA_1, b_lss, valA_some, q, decide_true, condA_t, e1, ldA_read e4]
    refine box_r lz fun d hdd => ?_
    rw [copy_st e3 hz (hleaf e2), memA_some]
    have fd : Fr [] h2 (h2.set d (.live c ty true)) := (Fr.refl _ _).set' hdd
    exact hB _ i x a hx en _ d c (hkeep _ _ _ _ ha fd) (H.get_same ..) e2 e3 fun a' h3 ia => ⟨l.length + 1 - (i + 1), by omega, i + 1, a', rfl, by omega, ia, rfl⟩
  · have : i = l.length := by omega
    subst this
    simp only [argA_0, argA_1, b_lss, valA_some, q, decide_false, condA_f]
    exact hJ a h2 ha
theorem accj_r {α : Type} {esz ty : Nat} {zs : List AV} {lv : AV} {l : List α} {Rel : H → α → List AV → Prop} (hleaf : ∀ {h : H} {x c}, Rel h x c → leaves c = true) (hz : zs.length = esz) (lz : leaves zs = true)
    (r : RowOf h0 esz (Rel h0) lv l) (hl : l.length ≤ reachBytes) {Inv : Nat → AV → H → Prop} {a0 : AV} (hi : Inv 0 a0 h) (hfr : ∀ i a h, Inv i a h → Fr [] h0 h) (hkeep : ∀ i a h h', Inv i a h → Fr [] h h' → Inv i a h')
    {J : AV → H → Prop} {BODY : (AV → H → Prop) → AV → AV → AV → H → Prop}
    (hJ : ∀ a h2, Inv l.length a h2 → J a h2)
    (hB : ∀ (N : AV → H → Prop) (i : Nat) x a, l[i]? = some x → IntKind.i64.wrap ((i : Int) + 1) = ((i + 1 : Nat) : Int) → ∀ h1 d c, Inv i a h1 → h1.get d = some (.live c ty true) → Rel h0 x c → c.length = esz →
      (∀ a' h2, Inv (i + 1) a' h2 → N a' h2) → BODY N a (.int .i64 i) (.ptr d 0) h1) :
    loopA (fun N l' h => argA l' 0 fun a => argA l' 1 fun t51 => valA (binOp .lss .num t51 (.int .i64 l.length)) h fun t52 h => condA t52
      (joinA (fun (b : AV) (h : H) => valA (binOp .add .num t51 (.int .i64 1)) h fun t40 h => N [b, t40] h) fun N => valA (iaA esz lv t51) h fun t53 h => valA (ldA h (some esz) t53) h fun t54 h => boxA h zs ty fun d h => memA (stA h esz d t54) .undef fun _ h => BODY N a t51 d h) (J a h)) [a0, .int .i64 0] h := by
  have hr : reachBytes ≤ 4611686018427387903 := by decide
  refine loop_r (l.length + 1) (fun k ls h2 => ∃ (i : Nat) (a : AV), ls = [a, .int .i64 i] ∧ i ≤ l.length ∧ Inv i a h2 ∧ k = l.length + 1 - i) ⟨0, a0, rfl, by omega, hi, rfl⟩ ?_
  rintro k ls h2 ⟨i, a, rfl, hi, ha, rfl⟩
  by_cases q : (i : Int) < l.length
  · have hi' : i < l.length := by omega
    obtain ⟨x, hx⟩ : ∃ x, l[i]? = some x := ⟨l[i], by simp [hi']⟩
    obtain ⟨b, o, c, e1, e2, e3, e4, e5⟩ := (r.mono (hfr _ _ _ ha) fun _ _ _ z => z).el hx
    have en : IntKind.i64.wrap ((i : Int) + 1) = ((i + 1 : Nat) : Int) := by rw [i64_id (by omega) (by omega)]; rfl
    simp only [argA_0, argA_1, b_lss, valA_some, q, decide_true, condA_t, joinA, e1, ldA_read e4]
    refine box_r lz fun d hdd => ?_
    rw [copy_st e3 hz (hleaf e2), memA_some]
    have fd : Fr [] h2 (h2.set d (.live c ty true)) := (Fr.refl _ _).set' hdd
    exact hB _ i x a hx en _ d c (hkeep _ _ _ _ ha fd) (H.get_same ..) e2 e3 fun a' h3 ia => by
      rw [b_add, en, valA_some]
      exact ⟨l.length + 1 - (i + 1), by omega, i + 1, a', rfl, by omega, ia, rfl⟩
  · have : i = l.length := by omega
    subst this
    simp only [argA_0, argA_1, b_lss, valA_some, q, decide_false, condA_f]
    exact hJ a h2 ha
theorem acc1_r {α : Type} {lv : AV} {l : List α} {val : α → AV} (r : Row h0 lv l.length 1 (l.map val)) (hl : l.length ≤ reachBytes) {Inv : Nat → AV → H → Prop} {a0 : AV} (hi : Inv 0 a0 h) (hfr : ∀ i a h, Inv i a h → Fr [] h0 h)
    {J : AV → H → Prop} {BODY : (List AV → H → Prop) → AV → AV → AV → H → Prop}
    (hJ : ∀ a h2, Inv l.length a h2 → J a h2)
    (hB : ∀ (N : List AV → H → Prop) (i : Nat) x a, l[i]? = some x → IntKind.i64.wrap ((i : Int) + 1) = ((i + 1 : Nat) : Int) → ∀ h1, Inv i a h1 → (∀ a' h2, Inv (i + 1) a' h2 → N [a', .int .i64 ((i + 1 : Nat) : Int)] h2) → BODY N a (.int .i64 i) (val x) h1) :
    loopA (fun N l' h => argA l' 0 fun a => argA l' 1 fun t51 => valA (binOp .lss .num t51 (.int .i64 l.length)) h fun t52 h => condA t52
      (valA (iaA 1 lv t51) h fun t53 h => valA (ldA h none t53) h fun t54 h => BODY N a t51 t54 h) (J a h)) [a0, .int .i64 0] h := by
  have hr : reachBytes ≤ 4611686018427387903 := by decide
  refine loop_r (l.length + 1) (fun k ls h2 => ∃ (i : Nat) (a : AV), ls = [a, .int .i64 i] ∧ i ≤ l.length ∧ Inv i a h2 ∧ k = l.length + 1 - i) ⟨0, a0, rfl, by omega, hi, rfl⟩ ?_
  rintro k ls h2 ⟨i, a, rfl, hi, ha, rfl⟩
  by_cases q : (i : Int) < l.length
  · have hi' : i < l.length := by omega
    obtain ⟨x, hx⟩ : ∃ x, l[i]? = some x := ⟨l[i], by simp [hi']⟩
    obtain ⟨b, o, e1, e2⟩ := (r.fr (hfr _ _ _ ha)).at (i := i) (x := val x) (by omega) q (by rw [Int.toNat_natCast, List.getElem?_map, hx]; rfl)
    have en : IntKind.i64.wrap ((i : Int) + 1) = ((i + 1 : Nat) : Int) := by rw [i64_id (by omega) (by omega)]; rfl
    simp only [argA_0, argA_1, b_lss, valA_some, q, decide_true, condA_t, e1, ldA_n, e2]
    exact hB _ i x a hx en _ ha fun a' h3 ia => ⟨l.length + 1 - (i + 1), by omega, i + 1, a', rfl, by omega, ia, rfl⟩
  · have : i = l.length := by omega
    subst this
    simp only [argA_0, argA_1, b_lss, valA_some, q, decide_false, condA_f]
    exact hJ a h2 ha
theorem part_le {α : Type} (e : α → List Nat) {l : List α} {i : Nat} {x : α} (hx : l[i]? = some x) {L : List Nat} (hm : (L ++ l.flatMap e).length ≤ most) : ((L ++ (l.take i).flatMap e) ++ e x).length ≤ most := by
  have h1 := flat_take_le e l (i + 1)
  rw [flat_succ e hx, List.length_append] at h1
  simp only [List.length_append] at hm ⊢; omega
theorem rnums_w (w : V h0 h v L) {hb : H} {lv : AV} {l : List Int} (r : Row hb lv l.length 1 (ic l)) (hf : Fr [] hb h0) (ok : rgs l) (hm : (L ++ numsB l).length ≤ most) {K : AV → H → Prop} (hK : ∀ v' h', V h0 h' v' (L ++ numsB l) → FrB h h' → K v' h') : C 40 [v, lv] h K := by
  refine run40 ?_
  unfold sh40
  unfold numsB manyB at hm hK
  rw [← List.append_assoc] at hm
  rw [r.len, valA_some]
  refine rnum_w w (rg_nat ok.1) (by simp only [List.length_append] at hm ⊢; omega) fun v1 h1 w1 f1 => ?_
  refine join_r (fun (J : AV → H → Prop) => ∀ v' h', V h0 h' v' (L ++ numB l.length ++ l.flatMap numB) → FrB h h' → J v' h') (fun v' h' w' f' => hK v' h' (by rw [← List.append_assoc]; exact w') f') fun J hJ => ?_
  rw [valA_some]
  refine acc1_r (h0 := h0) (r.fr hf) ok.1 (Inv := fun i a h2 => V h0 h2 a (L ++ numB l.length ++ (l.take i).flatMap numB) ∧ FrB h h2) ⟨by simpa using w1, f1⟩ (fun i a h i1 => i1.1.fr) (fun a h2 ⟨i1, i2⟩ => ?_) ?_
  · rw [List.take_length] at i1; exact hJ a h2 i1 i2
  · rintro N i x a hx en h2 ⟨i1, i2⟩ hN
    have hb := part_le numB hx hm
    refine rnum_w i1 (ok.2 x (List.mem_of_getElem? hx)) hb fun v3 h3 w3 f3 => ?_
    rw [b_add, en, valA_some]
    exact hN v3 h3 ⟨by rw [flat_succ numB hx, ← List.append_assoc]; exact w3, i2.trans f3⟩
theorem rinstr_w (w : V h0 h v L) {hb : H} {x : Ins} {c : List AV} (r : insR hb x c) (hf : Fr [] hb h0) (ok : x.ok) (hm : (L ++ insB x).length ≤ most) {K : AV → H → Prop} (hK : ∀ v' h', V h0 h' v' (L ++ insB x) → FrB h h' → K v' h') : C 42 [v, .agg c] h K := by
  refine run42 ?_
  have hl := r.leaves
  obtain ⟨vl, vm, vv, rfl, q1, q2, q3⟩ := r
  have ok' := ok
  obtain ⟨⟨o1, o2, o3, o4, o5, o6⟩, o7, o8, o9⟩ := ok
  have ec : ∀ cs : List AV, (AV.agg cs).cells = cs := fun _ => rfl
  unfold sh42
  rw [ec]
  refine box_r hl fun d hd => ?_
  have fd : Fr [] h (h.set d (.live (insC x vl vm vv) 24 true)) := (Fr.refl _ _).set' hd
  have gd : (h.set d (.live (insC x vl vm vv) 24 true)).get d = some (.live (insC x vl vm vv) 24 true) := H.get_same ..
  have w1 := w.keep fd
  have fw := fd.frb
  generalize h.set d (.live (insC x vl vm vv) 24 true) = h1 at *
  unfold insB at hm hK
  have cd : ∀ {h2 : H}, h2.get d = some (.live (insC x vl vm vv) 24 true) → ∀ o, h2.cell d o = [AV.int .i64 x.op, .int .i64 x.d, .int .i64 x.a, .int .i64 x.b, .int .i64 x.c, .int .i64 x.n, vl, vm, vv][o]? := fun q o => cell_of q o
  refine fld_r (v := .int .i64 x.op) (by rw [cd gd]; rfl) ?_
  rw [← List.append_assoc] at hm
  refine rnum_w w1 o1 (by simp only [List.length_append] at hm ⊢; omega) fun v2 h2 w2 f2 => ?_
  have gd2 := f2 d _ _ _ (by decide) gd
  refine fld_r (v := .int .i64 x.op) (by rw [cd gd2]; rfl) ?_
  refine ruses_c x.op fun h3 f3 => ?_
  have gd3 := f3 d _ (by simp) gd2
  have w3 := w2.keep f3
  have hu := usesN_len x.op
  have hr : reachBytes ≤ 4611686018427387903 := by decide
  have fw3 := (fw.trans f2).trans f3.frb
  generalize usesN x.op = u at *
  refine join_r (fun (J : AV → H → Prop) => ∀ v' h', V h0 h' v' (L ++ numB x.op ++ u.flatMap (fldB x)) → FrB h h' → J v' h') (fun v' h' w' f' => hK v' h' (by rw [← List.append_assoc]; exact w') f') fun J hJ => ?_
  refine loop_r (u.length + 1) (fun k ls h4 => ∃ (i : Nat) (a : AV), ls = [a, .int .i64 i] ∧ i ≤ u.length ∧ V h0 h4 a (L ++ numB x.op ++ (u.take i).flatMap (fldB x)) ∧ FrB h h4 ∧ h4.get d = some (.live (insC x vl vm vv) 24 true) ∧ k = u.length + 1 - i)
    ⟨0, v2, rfl, by omega, by simpa using w3, fw3, gd3, rfl⟩ ?_
  rintro k ls h4 ⟨i, a, rfl, hi, w4, f4, gd4, rfl⟩
  have hlen : lenA true (.str u) = some (.int .i64 u.length) := rfl
  by_cases q : (i : Int) < u.length
  · have hi' : i < u.length := by omega
    obtain ⟨c, hc⟩ : ∃ c, u[i]? = some c := ⟨u[i], by simp [hi']⟩
    have hix : ixStrA (.str u) (.int .i64 i) = some (.int .u8 c.toNat) := by
      have : (0 : Int) ≤ i := by omega
      simp only [ixStrA, this, if_true, Int.toNat_natCast, hc]
    have en : IntKind.i64.wrap ((i : Int) + 1) = ((i + 1 : Nat) : Int) := by rw [i64_id (by omega) (by omega)]; rfl
    have hb := part_le (fldB x) hc hm
    have done : ∀ v5 h5, V h0 h5 v5 (L ++ numB x.op ++ (u.take i).flatMap (fldB x) ++ fldB x c) → FrB h4 h5 → ∃ n', n' < u.length + 1 - i ∧ ∃ (i' : Nat) (a : AV), [v5, AV.int .i64 ((i + 1 : Nat) : Int)] = [a, .int .i64 i'] ∧ i' ≤ u.length ∧ V h0 h5 a (L ++ numB x.op ++ (u.take i').flatMap (fldB x)) ∧ FrB h h5 ∧
        h5.get d = some (.live (insC x vl vm vv) 24 true) ∧ n' = u.length + 1 - i' := fun v5 h5 w5 f5 =>
      ⟨u.length + 1 - (i + 1), by omega, i + 1, v5, rfl, by omega, by rw [flat_succ (fldB x) hc, ← List.append_assoc]; exact w5, f4.trans f5, f5 d _ _ _ (by decide) gd4, rfl⟩
    have fn : ∀ k : UInt8, ¬ c = k → ¬ ((c.toNat : Nat) : Int) = (k.toNat : Nat) := fun k e q => e (UInt8.toNat_inj.1 (by omega))
    by_cases c0 : c = 68
    · subst c0
      have t : ((UInt8.toNat 68 : Nat) : Int) = 68 := rfl
      have e : fldB x 68 = numB x.d := rfl
      rw [e] at hb done
      simp only [joinA, go_sem, reduceIte, Nat.reduceAdd, Nat.reduceSub, Nat.reduceMul, Nat.reducePow, Nat.reduceLT, Nat.reduceLeDiff, Nat.reduceEqDiff, Int.reduceAdd, Int.reduceSub, Int.reduceMul, Int.reduceNeg, Int.reducePow, Int.reduceLT, Int.reduceLE, Int.reduceEq, Int.reduceNe, Int.reduceToNat, Int.toNat_natCast, Nat.zero_add, Nat.add_zero, Nat.mul_one, Nat.one_mul, Bool.not_true, Bool.not_false, ne_eq, not_true_eq_false, not_false_eq_true, Bool.false_eq_true, q, hlen, hix, t, cd gd4]
      refine rnum_w w4 o2 hb fun v5 h5 w5 f5 => ?_
      simp only [go_sem, reduceIte, Nat.reduceAdd, Nat.reduceSub, Nat.reduceMul, Nat.reducePow, Nat.reduceLT, Nat.reduceLeDiff, Nat.reduceEqDiff, Int.reduceAdd, Int.reduceSub, Int.reduceMul, Int.reduceNeg, Int.reducePow, Int.reduceLT, Int.reduceLE, Int.reduceEq, Int.reduceNe, Int.reduceToNat, Int.toNat_natCast, Nat.zero_add, Nat.add_zero, Nat.mul_one, Nat.one_mul, Bool.not_true, Bool.not_false, ne_eq, not_true_eq_false, not_false_eq_true, Bool.false_eq_true, en]
      exact done v5 h5 w5 f5
    have n0 : ¬ ((c.toNat : Nat) : Int) = 68 := fn 68 c0
    by_cases c1 : c = 65
    · subst c1
      have t : ((UInt8.toNat 65 : Nat) : Int) = 65 := rfl
      have e : fldB x 65 = numB x.a := rfl
      rw [e] at hb done
      simp only [joinA, go_sem, reduceIte, Nat.reduceAdd, Nat.reduceSub, Nat.reduceMul, Nat.reducePow, Nat.reduceLT, Nat.reduceLeDiff, Nat.reduceEqDiff, Int.reduceAdd, Int.reduceSub, Int.reduceMul, Int.reduceNeg, Int.reducePow, Int.reduceLT, Int.reduceLE, Int.reduceEq, Int.reduceNe, Int.reduceToNat, Int.toNat_natCast, Nat.zero_add, Nat.add_zero, Nat.mul_one, Nat.one_mul, Bool.not_true, Bool.not_false, ne_eq, not_true_eq_false, not_false_eq_true, Bool.false_eq_true, q, hlen, hix, t, cd gd4]
      refine rnum_w w4 o3 hb fun v5 h5 w5 f5 => ?_
      simp only [go_sem, reduceIte, Nat.reduceAdd, Nat.reduceSub, Nat.reduceMul, Nat.reducePow, Nat.reduceLT, Nat.reduceLeDiff, Nat.reduceEqDiff, Int.reduceAdd, Int.reduceSub, Int.reduceMul, Int.reduceNeg, Int.reducePow, Int.reduceLT, Int.reduceLE, Int.reduceEq, Int.reduceNe, Int.reduceToNat, Int.toNat_natCast, Nat.zero_add, Nat.add_zero, Nat.mul_one, Nat.one_mul, Bool.not_true, Bool.not_false, ne_eq, not_true_eq_false, not_false_eq_true, Bool.false_eq_true, en]
      exact done v5 h5 w5 f5
    have n1 : ¬ ((c.toNat : Nat) : Int) = 65 := fn 65 c1
    by_cases c2 : c = 66
    · subst c2
      have t : ((UInt8.toNat 66 : Nat) : Int) = 66 := rfl
      have e : fldB x 66 = numB x.b := rfl
      rw [e] at hb done
      simp only [joinA, go_sem, reduceIte, Nat.reduceAdd, Nat.reduceSub, Nat.reduceMul, Nat.reducePow, Nat.reduceLT, Nat.reduceLeDiff, Nat.reduceEqDiff, Int.reduceAdd, Int.reduceSub, Int.reduceMul, Int.reduceNeg, Int.reducePow, Int.reduceLT, Int.reduceLE, Int.reduceEq, Int.reduceNe, Int.reduceToNat, Int.toNat_natCast, Nat.zero_add, Nat.add_zero, Nat.mul_one, Nat.one_mul, Bool.not_true, Bool.not_false, ne_eq, not_true_eq_false, not_false_eq_true, Bool.false_eq_true, q, hlen, hix, t, cd gd4]
      refine rnum_w w4 o4 hb fun v5 h5 w5 f5 => ?_
      simp only [go_sem, reduceIte, Nat.reduceAdd, Nat.reduceSub, Nat.reduceMul, Nat.reducePow, Nat.reduceLT, Nat.reduceLeDiff, Nat.reduceEqDiff, Int.reduceAdd, Int.reduceSub, Int.reduceMul, Int.reduceNeg, Int.reducePow, Int.reduceLT, Int.reduceLE, Int.reduceEq, Int.reduceNe, Int.reduceToNat, Int.toNat_natCast, Nat.zero_add, Nat.add_zero, Nat.mul_one, Nat.one_mul, Bool.not_true, Bool.not_false, ne_eq, not_true_eq_false, not_false_eq_true, Bool.false_eq_true, en]
      exact done v5 h5 w5 f5
    have n2 : ¬ ((c.toNat : Nat) : Int) = 66 := fn 66 c2
    by_cases c3 : c = 67
    · subst c3
      have t : ((UInt8.toNat 67 : Nat) : Int) = 67 := rfl
      have e : fldB x 67 = numB x.c := rfl
      rw [e] at hb done
      simp only [joinA, go_sem, reduceIte, Nat.reduceAdd, Nat.reduceSub, Nat.reduceMul, Nat.reducePow, Nat.reduceLT, Nat.reduceLeDiff, Nat.reduceEqDiff, Int.reduceAdd, Int.reduceSub, Int.reduceMul, Int.reduceNeg, Int.reducePow, Int.reduceLT, Int.reduceLE, Int.reduceEq, Int.reduceNe, Int.reduceToNat, Int.toNat_natCast, Nat.zero_add, Nat.add_zero, Nat.mul_one, Nat.one_mul, Bool.not_true, Bool.not_false, ne_eq, not_true_eq_false, not_false_eq_true, Bool.false_eq_true, q, hlen, hix, t, cd gd4]
      refine rnum_w w4 o5 hb fun v5 h5 w5 f5 => ?_
      simp only [go_sem, reduceIte, Nat.reduceAdd, Nat.reduceSub, Nat.reduceMul, Nat.reducePow, Nat.reduceLT, Nat.reduceLeDiff, Nat.reduceEqDiff, Int.reduceAdd, Int.reduceSub, Int.reduceMul, Int.reduceNeg, Int.reducePow, Int.reduceLT, Int.reduceLE, Int.reduceEq, Int.reduceNe, Int.reduceToNat, Int.toNat_natCast, Nat.zero_add, Nat.add_zero, Nat.mul_one, Nat.one_mul, Bool.not_true, Bool.not_false, ne_eq, not_true_eq_false, not_false_eq_true, Bool.false_eq_true, en]
      exact done v5 h5 w5 f5
    have n3 : ¬ ((c.toNat : Nat) : Int) = 67 := fn 67 c3
    by_cases c4 : c = 78
    · subst c4
      have t : ((UInt8.toNat 78 : Nat) : Int) = 78 := rfl
      have e : fldB x 78 = numB x.n := rfl
      rw [e] at hb done
      simp only [joinA, go_sem, reduceIte, Nat.reduceAdd, Nat.reduceSub, Nat.reduceMul, Nat.reducePow, Nat.reduceLT, Nat.reduceLeDiff, Nat.reduceEqDiff, Int.reduceAdd, Int.reduceSub, Int.reduceMul, Int.reduceNeg, Int.reducePow, Int.reduceLT, Int.reduceLE, Int.reduceEq, Int.reduceNe, Int.reduceToNat, Int.toNat_natCast, Nat.zero_add, Nat.add_zero, Nat.mul_one, Nat.one_mul, Bool.not_true, Bool.not_false, ne_eq, not_true_eq_false, not_false_eq_true, Bool.false_eq_true, q, hlen, hix, t, cd gd4]
      refine rput_c o6.1 o6.2 fun v1 h5 p5 f5 => ?_
      refine app_w (w4.keep f5) (D := numB x.n) p5.row.src hb fun v6 h6 w6 f6 => ?_
      simp only [go_sem, reduceIte, Nat.reduceAdd, Nat.reduceSub, Nat.reduceMul, Nat.reducePow, Nat.reduceLT, Nat.reduceLeDiff, Nat.reduceEqDiff, Int.reduceAdd, Int.reduceSub, Int.reduceMul, Int.reduceNeg, Int.reducePow, Int.reduceLT, Int.reduceLE, Int.reduceEq, Int.reduceNe, Int.reduceToNat, Int.toNat_natCast, Nat.zero_add, Nat.add_zero, Nat.mul_one, Nat.one_mul, Bool.not_true, Bool.not_false, ne_eq, not_true_eq_false, not_false_eq_true, Bool.false_eq_true, en]
      exact done v6 h6 w6 (f5.frb.trans f6)
    have n4 : ¬ ((c.toNat : Nat) : Int) = 78 := fn 78 c4
    by_cases c5 : c = 76
    · subst c5
      have t : ((UInt8.toNat 76 : Nat) : Int) = 76 := rfl
      have e : fldB x 76 = numsB x.l := rfl
      rw [e] at hb done
      simp only [joinA, go_sem, reduceIte, Nat.reduceAdd, Nat.reduceSub, Nat.reduceMul, Nat.reducePow, Nat.reduceLT, Nat.reduceLeDiff, Nat.reduceEqDiff, Int.reduceAdd, Int.reduceSub, Int.reduceMul, Int.reduceNeg, Int.reducePow, Int.reduceLT, Int.reduceLE, Int.reduceEq, Int.reduceNe, Int.reduceToNat, Int.toNat_natCast, Nat.zero_add, Nat.add_zero, Nat.mul_one, Nat.one_mul, Bool.not_true, Bool.not_false, ne_eq, not_true_eq_false, not_false_eq_true, Bool.false_eq_true, q, hlen, hix, t, cd gd4]
      refine rnums_w w4 q1 hf o7 hb fun v5 h5 w5 f5 => ?_
      simp only [go_sem, reduceIte, Nat.reduceAdd, Nat.reduceSub, Nat.reduceMul, Nat.reducePow, Nat.reduceLT, Nat.reduceLeDiff, Nat.reduceEqDiff, Int.reduceAdd, Int.reduceSub, Int.reduceMul, Int.reduceNeg, Int.reducePow, Int.reduceLT, Int.reduceLE, Int.reduceEq, Int.reduceNe, Int.reduceToNat, Int.toNat_natCast, Nat.zero_add, Nat.add_zero, Nat.mul_one, Nat.one_mul, Bool.not_true, Bool.not_false, ne_eq, not_true_eq_false, not_false_eq_true, Bool.false_eq_true, en]
      exact done v5 h5 w5 f5
    have n5 : ¬ ((c.toNat : Nat) : Int) = 76 := fn 76 c5
    by_cases c6 : c = 77
    · subst c6
      have t : ((UInt8.toNat 77 : Nat) : Int) = 77 := rfl
      have e : fldB x 77 = numsB x.m := rfl
      rw [e] at hb done
      simp only [joinA, go_sem, reduceIte, Nat.reduceAdd, Nat.reduceSub, Nat.reduceMul, Nat.reducePow, Nat.reduceLT, Nat.reduceLeDiff, Nat.reduceEqDiff, Int.reduceAdd, Int.reduceSub, Int.reduceMul, Int.reduceNeg, Int.reducePow, Int.reduceLT, Int.reduceLE, Int.reduceEq, Int.reduceNe, Int.reduceToNat, Int.toNat_natCast, Nat.zero_add, Nat.add_zero, Nat.mul_one, Nat.one_mul, Bool.not_true, Bool.not_false, ne_eq, not_true_eq_false, not_false_eq_true, Bool.false_eq_true, q, hlen, hix, t, cd gd4]
      refine rnums_w w4 q2 hf o8 hb fun v5 h5 w5 f5 => ?_
      simp only [go_sem, reduceIte, Nat.reduceAdd, Nat.reduceSub, Nat.reduceMul, Nat.reducePow, Nat.reduceLT, Nat.reduceLeDiff, Nat.reduceEqDiff, Int.reduceAdd, Int.reduceSub, Int.reduceMul, Int.reduceNeg, Int.reducePow, Int.reduceLT, Int.reduceLE, Int.reduceEq, Int.reduceNe, Int.reduceToNat, Int.toNat_natCast, Nat.zero_add, Nat.add_zero, Nat.mul_one, Nat.one_mul, Bool.not_true, Bool.not_false, ne_eq, not_true_eq_false, not_false_eq_true, Bool.false_eq_true, en]
      exact done v5 h5 w5 f5
    have n6 : ¬ ((c.toNat : Nat) : Int) = 77 := fn 77 c6
    have e : fldB x c = numsB x.live := by unfold fldB; rw [if_neg c4, if_neg c0, if_neg c1, if_neg c2, if_neg c3, if_neg c5, if_neg c6]
    rw [e] at hb done
    simp only [joinA, go_sem, reduceIte, Nat.reduceAdd, Nat.reduceSub, Nat.reduceMul, Nat.reducePow, Nat.reduceLT, Nat.reduceLeDiff, Nat.reduceEqDiff, Int.reduceAdd, Int.reduceSub, Int.reduceMul, Int.reduceNeg, Int.reducePow, Int.reduceLT, Int.reduceLE, Int.reduceEq, Int.reduceNe, Int.reduceToNat, Int.toNat_natCast, Nat.zero_add, Nat.add_zero, Nat.mul_one, Nat.one_mul, Bool.not_true, Bool.not_false, ne_eq, not_true_eq_false, not_false_eq_true, Bool.false_eq_true, q, hlen, hix, n0, n1, n2, n3, n4, n5, n6, cd gd4]
    refine rnums_w w4 q3 hf o9 hb fun v5 h5 w5 f5 => ?_
    simp only [go_sem, reduceIte, Nat.reduceAdd, Nat.reduceSub, Nat.reduceMul, Nat.reducePow, Nat.reduceLT, Nat.reduceLeDiff, Nat.reduceEqDiff, Int.reduceAdd, Int.reduceSub, Int.reduceMul, Int.reduceNeg, Int.reducePow, Int.reduceLT, Int.reduceLE, Int.reduceEq, Int.reduceNe, Int.reduceToNat, Int.toNat_natCast, Nat.zero_add, Nat.add_zero, Nat.mul_one, Nat.one_mul, Bool.not_true, Bool.not_false, ne_eq, not_true_eq_false, not_false_eq_true, Bool.false_eq_true, en]
    exact done v5 h5 w5 f5
  · have : u.take i = u := List.take_of_length_le (by omega)
    rw [this] at w4
    simp only [go_sem, reduceIte, Nat.reduceAdd, Nat.reduceSub, Nat.reduceMul, Nat.reducePow, Nat.reduceLT, Nat.reduceLeDiff, Nat.reduceEqDiff, Int.reduceAdd, Int.reduceSub, Int.reduceMul, Int.reduceNeg, Int.reducePow, Int.reduceLT, Int.reduceLE, Int.reduceEq, Int.reduceNe, Int.reduceToNat, Int.toNat_natCast, Nat.zero_add, Nat.add_zero, Nat.mul_one, Nat.one_mul, Bool.not_true, Bool.not_false, ne_eq, not_true_eq_false, not_false_eq_true, Bool.false_eq_true, q, hlen]
    exact hJ a h4 w4 f4
end
end Go.Proofs.Ytgcnliikibbcnaa.X
set_option linter.unusedVariables false
set_option linter.unusedSimpArgs false
set_option maxRecDepth 20000
namespace Go.Proofs.Ytgcnliikibbcnaa.X
open Go Go.RowKit
section
variable {h : H}
theorem le_l {a b : List Nat} {n : Nat} (h : (a ++ b).length ≤ n) : a.length ≤ n := by rw [List.length_append] at h; omega
theorem le_a {a b c : List Nat} {n : Nat} (h : (a ++ (b ++ c)).length ≤ n) : (a ++ b).length ≤ n := by simp only [List.length_append] at h ⊢; omega
theorem le_m {α : Type} {e : α → List Nat} {l : List α} {L : List Nat} {n : Nat} (h : (L ++ manyB e l).length ≤ n) : (L ++ numB l.length).length ≤ n ∧ (L ++ numB l.length ++ l.flatMap e).length ≤ n := by
  unfold manyB at h; simp only [List.length_append] at h ⊢; omega
set_option maxHeartbeats 1000000 in
theorem bytes_w {m : Img} {c : List AV} (r : imgR h m c) (ok : m.ok) (hm : (bytesI m).length ≤ most) {K : AV → H → Prop} (hK : ∀ v h', V h h' v (bytesI m) → K v h') : C 19 [.agg c] h K := by
  refine run19 ?_
  have hl := r.leaves
  have ec : (AV.agg c).cells = c := rfl
  obtain ⟨vt, vs, vx, vn, vf, rfl, r1, r2, r3, r4, r5⟩ := r
  obtain ⟨⟨k1, k1'⟩, ⟨k2, k2'⟩, ⟨k3, k3'⟩, ⟨k4, k4'⟩, ⟨k5, k5'⟩, k6, k7⟩ := ok
  unfold sh19
  rw [ec]
  refine box_r hl fun b hb => ?_
  have f0 : Fr [] h (h.set b (.live [vt, vs, vx, vn, vf, .int .i64 m.main, .int .i64 m.exn] 34 true)) := (Fr.refl _ _).set' hb
  have gb : (h.set b (.live [vt, vs, vx, vn, vf, .int .i64 m.main, .int .i64 m.exn] 34 true)).get b = some (.live [vt, vs, vx, vn, vf, .int .i64 m.main, .int .i64 m.exn] 34 true) := H.get_same ..
  generalize h.set b (.live [vt, vs, vx, vn, vf, .int .i64 m.main, .int .i64 m.exn] 34 true) = h1 at *
  refine lit_head fun p hp => ?_
  have gp : (h1.set p (.live (bc headB) 5 true)).get p = some (.live (bc headB) 5 true) := H.get_same ..
  have ek : keepA (h1.set p (.live (bc headB) 5 true)) (.sl p 0 4 (.exact 4)) = some (.sl p 0 4 (.exact 4)) := by simp only [keepA, gp]; rfl
  rw [ek, valA_some]
  have fp : Fr [] h1 (h1.set p (.live (bc headB) 5 true)) := (Fr.refl _ _).set' hp
  have w2 : V h (h1.set p (.live (bc headB) 5 true)) (.sl p 0 4 (.exact 4)) headB := ⟨.inr ⟨p, rfl, f0.free hp, gp⟩, f0.trans fp⟩
  have f2 := fp.frb
  generalize h1.set p (.live (bc headB) 5 true) = h2 at *
  have cb : ∀ {h5 : H}, FrB h1 h5 → ∀ o v, ([vt, vs, vx, vn, vf, AV.int .i64 m.main, .int .i64 m.exn] : List AV)[o]? = some v → h5.cell b o = some v := fun f o v e => by rw [cell_of (f b _ _ _ (by decide) gb)]; exact e
  unfold bytesI at hm hK
  simp only [List.append_assoc] at hm
  have m1 := le_m (le_a hm)
  rw [← List.append_assoc] at hm
  have m2 := le_m (le_a hm)
  rw [← List.append_assoc] at hm
  have m3 := le_m (le_a hm)
  rw [← List.append_assoc] at hm
  have m4 := le_m (le_a hm)
  rw [← List.append_assoc] at hm
  have m5 := le_m (le_a hm)
  rw [← List.append_assoc] at hm
  have m6 := le_a hm
  rw [← List.append_assoc] at hm
  refine fld_r (cb f2 0 _ rfl) ?_
  rw [r1.len, valA_some]
  refine rnum_w w2 (rg_nat k1) m1.1 fun v3 h3 w3 f3 => ?_
  have f3 := f2.trans f3
  refine join_r (fun (J : AV → H → Prop) => ∀ v h', V h h' v (headB ++ manyB tyB m.types) → FrB h1 h' → J v h') ?_ fun J hJ => ?_
  · intro v h' w f
    refine fld_r (cb f 1 _ rfl) ?_
    rw [r2.len, valA_some]
    refine rnum_w w (rg_nat k2) m2.1 fun v3 h3 w3 f3 => ?_
    have f3 := f.trans f3
    refine join_r (fun (J : AV → H → Prop) => ∀ v h', V h h' v (headB ++ manyB tyB m.types ++ manyB shB m.shapes) → FrB h1 h' → J v h') ?_ fun J hJ => ?_
    · intro v h' w f
      refine fld_r (cb f 2 _ rfl) ?_
      rw [r3.len, valA_some]
      refine rnum_w w (rg_nat k3) m3.1 fun v3 h3 w3 f3 => ?_
      have f3 := f.trans f3
      refine join_r (fun (J : AV → H → Prop) => ∀ v h', V h h' v (headB ++ manyB tyB m.types ++ manyB shB m.shapes ++ manyB textB m.strs) → FrB h1 h' → J v h') ?_ fun J hJ => ?_
      · intro v h' w f
        refine fld_r (cb f 3 _ rfl) ?_
        rw [r4.len, valA_some]
        refine rnum_w w (rg_nat k4) m4.1 fun v3 h3 w3 f3 => ?_
        have f3 := f.trans f3
        refine join_r (fun (J : AV → H → Prop) => ∀ v h', V h h' v (headB ++ manyB tyB m.types ++ manyB shB m.shapes ++ manyB textB m.strs ++ manyB textB m.names) → FrB h1 h' → J v h') ?_ fun J hJ => ?_
        · intro v h' w f
          refine fld_r (cb f 4 _ rfl) ?_
          rw [r5.len, valA_some]
          refine rnum_w w (rg_nat k5) m5.1 fun v3 h3 w3 f3 => ?_
          have f3 := f.trans f3
          refine join_r (fun (J : AV → H → Prop) => ∀ v h', V h h' v (headB ++ manyB tyB m.types ++ manyB shB m.shapes ++ manyB textB m.strs ++ manyB textB m.names ++ manyB fnB m.fns) → FrB h1 h' → J v h') ?_ fun J hJ => ?_
          · intro v h' w f
            have c6 := cb f 6 _ rfl
            refine fld_r (cb f 5 _ rfl) ?_
            refine fld_r c6 ?_
            refine rnum_w w k6 m6 fun v4 h4 w4 f4 => ?_
            simp only [go_sem, reduceIte, Nat.reduceAdd, Nat.reduceSub, Nat.reduceMul, Nat.reducePow, Nat.reduceLT, Nat.reduceLeDiff, Nat.reduceEqDiff, Int.reduceAdd, Int.reduceSub, Int.reduceMul, Int.reduceNeg, Int.reducePow, Int.reduceLT, Int.reduceLE, Int.reduceEq, Int.reduceNe, Int.reduceToNat, Int.toNat_natCast, Nat.zero_add, Nat.add_zero, Nat.mul_one, Nat.one_mul, Bool.not_true, Bool.not_false, ne_eq, not_true_eq_false, not_false_eq_true, Bool.false_eq_true, cb (f.trans f4) 6 _ rfl]
            refine rnum_w w4 k7 hm fun v5 h5 w5 f5 => ?_
            exact hK v5 h5 w5
          · refine fld_r (cb f3 4 _ rfl) ?_
            rw [r5.len, valA_some]
            refine accj_r (h0 := h) (esz := 4) (ty := 51) (zs := [.nilsl, .int .i64 0, .int .i64 0, .nilsl]) (Rel := fnR) (fun r => fnR.leaves r) rfl rfl r5 k5 (Inv := fun i a h2 => V h h2 a (headB ++ manyB tyB m.types ++ manyB shB m.shapes ++ manyB textB m.strs ++ manyB textB m.names ++ numB m.fns.length ++ (m.fns.take i).flatMap fnB) ∧ FrB h1 h2) ⟨by simpa using w3, f3⟩ (fun i a h i1 => i1.1.fr) (fun i a h h' i1 f => ⟨i1.1.keep f, i1.2.trans f.frb⟩) (fun a h2 ⟨i1, i2⟩ => ?_) ?_
            · rw [List.take_length, List.append_assoc] at i1; exact hJ a h2 i1 i2
            · rintro N i x a hx en h4 d c ⟨i1, i2⟩ gd re hc hN
              have hb := part_le fnB hx m5.2
              obtain ⟨vp, vb, rfl, q1, q2⟩ := re
              obtain ⟨o1, o2, o3, o4, o5⟩ := k5' x (List.mem_of_getElem? hx)
              have cd : ∀ {h5 : H}, FrB h4 h5 → ∀ o w, ([vp, AV.int .i64 x.result, .int .i64 x.slots, vb] : List AV)[o]? = some w → h5.cell d o = some w := fun f o w e => by rw [cell_of (f d _ _ _ (by decide) gd)]; exact e
              have hN : ∀ a' h2, V h h2 a' (headB ++ manyB tyB m.types ++ manyB shB m.shapes ++ manyB textB m.strs ++ manyB textB m.names ++ numB m.fns.length ++ (m.fns.take i).flatMap fnB ++ fnB x) → FrB h1 h2 → N a' h2 := fun a' h2 z1 z2 => hN a' h2 ⟨by rw [flat_succ fnB hx, ← List.append_assoc]; exact z1, z2⟩
              generalize headB ++ manyB tyB m.types ++ manyB shB m.shapes ++ manyB textB m.strs ++ manyB textB m.names ++ numB m.fns.length ++ (m.fns.take i).flatMap fnB = L0 at *
              unfold fnB at hb hN
              simp only [← List.append_assoc] at hb hN
              have mb := le_m hb
              refine fld_r (cd (FrB.refl _) 0 _ rfl) ?_
              refine fld_r (cd (FrB.refl _) 1 _ rfl) ?_
              refine fld_r (cd (FrB.refl _) 2 _ rfl) ?_
              refine fld_r (cd (FrB.refl _) 3 _ rfl) ?_
              refine rnums_w i1 q1 (Fr.refl _ _) o1 (le_l (le_l (le_l hb))) fun v5 h5 w5 f5 => ?_
              have c1 := cd f5 1 _ rfl
              have c2 := cd f5 2 _ rfl
              have c3 := cd f5 3 _ rfl
              simp only [faA_p, valA_some, Nat.zero_add, ldA_n, c1, c2, c3, againK_t]
              refine rnum_w w5 o2 (le_l (le_l hb)) fun v6 h6 w6 f6 => ?_
              have f56 := f5.trans f6
              have c2 := cd f56 2 _ rfl
              have c3 := cd f56 3 _ rfl
              simp only [faA_p, valA_some, Nat.zero_add, ldA_n, c2, c3, againK_t]
              refine rnum_w w6 o3 (le_l hb) fun v7 h7 w7 f7 => ?_
              have f57 := f56.trans f7
              have c3 := cd f57 3 _ rfl
              simp only [faA_p, valA_some, Nat.zero_add, ldA_n, c3, againK_t]
              rw [q2.len, valA_some]
              refine rnum_w w7 (rg_nat o4) mb.1 fun v8 h8 w8 f8 => ?_
              have f58 := f57.trans f8
              have c3 := cd f58 3 _ rfl
              rw [c3, valA_some, q2.len, valA_some]
              have i28 := i2.trans f58
              refine accj_r (h0 := h) (esz := 2) (ty := 58) (zs := [.nilsl, .nilsl]) (Rel := blkR) (fun r => blkR.leaves r) rfl rfl q2 o4 (Inv := fun i a h2 => V h h2 a (L0 ++ numsB x.params ++ numB x.result ++ numB x.slots ++ numB x.blocks.length ++ (x.blocks.take i).flatMap blkB) ∧ FrB h1 h2) ⟨by simpa using w8, i28⟩ (fun i a h i1 => i1.1.fr) (fun i a h h' i1 f => ⟨i1.1.keep f, i1.2.trans f.frb⟩) (fun a h2 ⟨i1, i2⟩ => ?_) ?_
              · rw [List.take_length, List.append_assoc] at i1; exact hN a h2 i1 i2
              · rintro N i y a hy en h4 d c ⟨i1, i2⟩ gd re hc hN
                have hb := part_le blkB hy mb.2
                obtain ⟨vi, vc, rfl, p1, p2⟩ := re
                obtain ⟨u1, u2, u3⟩ := o5 y (List.mem_of_getElem? hy)
                have cd : ∀ {h5 : H}, FrB h4 h5 → ∀ o w, ([vi, vc] : List AV)[o]? = some w → h5.cell d o = some w := fun f o w e => by rw [cell_of (f d _ _ _ (by decide) gd)]; exact e
                have hN : ∀ a' h2, V h h2 a' (L0 ++ numsB x.params ++ numB x.result ++ numB x.slots ++ numB x.blocks.length ++ (x.blocks.take i).flatMap blkB ++ blkB y) → FrB h1 h2 → N a' h2 := fun a' h2 z1 z2 => hN a' h2 ⟨by rw [flat_succ blkB hy, ← List.append_assoc]; exact z1, z2⟩
                generalize L0 ++ numsB x.params ++ numB x.result ++ numB x.slots ++ numB x.blocks.length ++ (x.blocks.take i).flatMap blkB = L1 at *
                unfold blkB at hb hN
                simp only [← List.append_assoc] at hb hN
                have mc := le_m hb
                refine fld_r (cd (FrB.refl _) 0 _ rfl) ?_
                refine fld_r (cd (FrB.refl _) 1 _ rfl) ?_
                refine rnums_w i1 p1 (Fr.refl _ _) u1 (le_l hb) fun v5 h5 w5 f5 => ?_
                have c1 := cd f5 1 _ rfl
                simp only [faA_p, valA_some, Nat.zero_add, ldA_n, c1, againK_t]
                rw [p2.len, valA_some]
                refine rnum_w w5 (rg_nat u2) mc.1 fun v6 h6 w6 f6 => ?_
                have f56 := f5.trans f6
                rw [cd f56 1 _ rfl, valA_some, p2.len, valA_some]
                have i26 := i2.trans f56
                refine acc_r (h0 := h) (esz := 9) (ty := 24) (zs := [.int .i64 0, .int .i64 0, .int .i64 0, .int .i64 0, .int .i64 0, .int .i64 0, .nilsl, .nilsl, .nilsl]) (Rel := insR) (fun r => insR.leaves r) rfl rfl p2 u2 (Inv := fun i a h2 => V h h2 a (L1 ++ numsB y.inn ++ numB y.code.length ++ (y.code.take i).flatMap insB) ∧ FrB h1 h2) ⟨by simpa using w6, i26⟩ (fun i a h i1 => i1.1.fr) (fun i a h h' i1 f => ⟨i1.1.keep f, i1.2.trans f.frb⟩) (fun a h2 ⟨i1, i2⟩ => ?_) ?_
                · rw [List.take_length, List.append_assoc] at i1; exact hN a h2 i1 i2
                · rintro N i z a hz en h4 d c ⟨i1, i2⟩ gd re hc hN
                  have hb := part_le insB hz mc.2
                  rw [ldA_read (H.read_eq gd (by omega) (by rw [List.drop_zero, List.take_of_length_le (by omega)])), valA_some]
                  refine rinstr_w i1 re (Fr.refl _ _) (u3 z (List.mem_of_getElem? hz)) hb fun v5 h5 w5 f5 => ?_
                  rw [b_add, en, valA_some]
                  exact hN v5 h5 ⟨by rw [flat_succ insB hz, ← List.append_assoc]; exact w5, i2.trans f5⟩
        · refine fld_r (cb f3 3 _ rfl) ?_
          rw [r4.len, valA_some]
          refine acc1_r (h0 := h) (strs_row r4) k4 (Inv := fun i a h2 => V h h2 a (headB ++ manyB tyB m.types ++ manyB shB m.shapes ++ manyB textB m.strs ++ numB m.names.length ++ (m.names.take i).flatMap textB) ∧ FrB h1 h2) ⟨by simpa using w3, f3⟩ (fun i a h i1 => i1.1.fr) (fun a h2 ⟨i1, i2⟩ => ?_) ?_
          · rw [List.take_length, List.append_assoc] at i1; exact hJ a h2 i1 i2
          · rintro N i x a hx en h4 ⟨i1, i2⟩ hN
            have hb := part_le textB hx m4.2
            refine rtext_w i1 (k4' x (List.mem_of_getElem? hx)) hb fun v5 h5 w5 f5 => ?_
            rw [b_add, en, valA_some]
            exact hN v5 h5 ⟨by rw [flat_succ textB hx, ← List.append_assoc]; exact w5, i2.trans f5⟩
      · refine fld_r (cb f3 2 _ rfl) ?_
        rw [r3.len, valA_some]
        refine acc1_r (h0 := h) (strs_row r3) k3 (Inv := fun i a h2 => V h h2 a (headB ++ manyB tyB m.types ++ manyB shB m.shapes ++ numB m.strs.length ++ (m.strs.take i).flatMap textB) ∧ FrB h1 h2) ⟨by simpa using w3, f3⟩ (fun i a h i1 => i1.1.fr) (fun a h2 ⟨i1, i2⟩ => ?_) ?_
        · rw [List.take_length, List.append_assoc] at i1; exact hJ a h2 i1 i2
        · rintro N i x a hx en h4 ⟨i1, i2⟩ hN
          have hb := part_le textB hx m3.2
          refine rtext_w i1 (k3' x (List.mem_of_getElem? hx)) hb fun v5 h5 w5 f5 => ?_
          rw [b_add, en, valA_some]
          exact hN v5 h5 ⟨by rw [flat_succ textB hx, ← List.append_assoc]; exact w5, i2.trans f5⟩
    · refine fld_r (cb f3 1 _ rfl) ?_
      rw [r2.len, valA_some]
      refine acc_r (h0 := h) (esz := 3) (ty := 55) (zs := [.int .i64 0, .nilsl, .str []]) (Rel := shR) (fun r => shR.leaves r) rfl rfl r2 k2 (Inv := fun i a h2 => V h h2 a (headB ++ manyB tyB m.types ++ numB m.shapes.length ++ (m.shapes.take i).flatMap shB) ∧ FrB h1 h2) ⟨by simpa using w3, f3⟩ (fun i a h i1 => i1.1.fr) (fun i a h h' i1 f => ⟨i1.1.keep f, i1.2.trans f.frb⟩) (fun a h2 ⟨i1, i2⟩ => ?_) ?_
      · rw [List.take_length, List.append_assoc] at i1; exact hJ a h2 i1 i2
      · rintro N i x a hx en h4 d c ⟨i1, i2⟩ gd re hc hN
        have hb := part_le shB hx m2.2
        obtain ⟨v, rfl, rr⟩ := re
        obtain ⟨o1, o2, o3⟩ := k2' x (List.mem_of_getElem? hx)
        have cd : ∀ {h5 : H}, FrB h4 h5 → ∀ o w, ([AV.int .i64 x.kind, v, .str x.name] : List AV)[o]? = some w → h5.cell d o = some w := fun f o w e => by rw [cell_of (f d _ _ _ (by decide) gd)]; exact e
        unfold shB at hb
        simp only [← List.append_assoc] at hb
        refine fld_r (cd (FrB.refl _) 0 _ rfl) ?_
        refine fld_r (cd (FrB.refl _) 1 _ rfl) ?_
        refine fld_r (cd (FrB.refl _) 2 _ rfl) ?_
        refine rnum_w i1 o1 (le_l (le_l hb)) fun v5 h5 w5 f5 => ?_
        simp only [go_sem, reduceIte, Nat.reduceAdd, Nat.reduceSub, Nat.reduceMul, Nat.reducePow, Nat.reduceLT, Nat.reduceLeDiff, Nat.reduceEqDiff, Int.reduceAdd, Int.reduceSub, Int.reduceMul, Int.reduceNeg, Int.reducePow, Int.reduceLT, Int.reduceLE, Int.reduceEq, Int.reduceNe, Int.reduceToNat, Int.toNat_natCast, Nat.zero_add, Nat.add_zero, Nat.mul_one, Nat.one_mul, Bool.not_true, Bool.not_false, ne_eq, not_true_eq_false, not_false_eq_true, Bool.false_eq_true, cd f5 1 _ rfl, cd f5 2 _ rfl]
        refine rnums_w w5 rr (Fr.refl _ _) o2 (le_l hb) fun v6 h6 w6 f6 => ?_
        simp only [go_sem, reduceIte, Nat.reduceAdd, Nat.reduceSub, Nat.reduceMul, Nat.reducePow, Nat.reduceLT, Nat.reduceLeDiff, Nat.reduceEqDiff, Int.reduceAdd, Int.reduceSub, Int.reduceMul, Int.reduceNeg, Int.reducePow, Int.reduceLT, Int.reduceLE, Int.reduceEq, Int.reduceNe, Int.reduceToNat, Int.toNat_natCast, Nat.zero_add, Nat.add_zero, Nat.mul_one, Nat.one_mul, Bool.not_true, Bool.not_false, ne_eq, not_true_eq_false, not_false_eq_true, Bool.false_eq_true, cd (f5.trans f6) 2 _ rfl]
        refine rtext_w w6 o3 hb fun v7 h7 w7 f7 => ?_
        simp only [go_sem, reduceIte, Nat.reduceAdd, Nat.reduceSub, Nat.reduceMul, Nat.reducePow, Nat.reduceLT, Nat.reduceLeDiff, Nat.reduceEqDiff, Int.reduceAdd, Int.reduceSub, Int.reduceMul, Int.reduceNeg, Int.reducePow, Int.reduceLT, Int.reduceLE, Int.reduceEq, Int.reduceNe, Int.reduceToNat, Int.toNat_natCast, Nat.zero_add, Nat.add_zero, Nat.mul_one, Nat.one_mul, Bool.not_true, Bool.not_false, ne_eq, not_true_eq_false, not_false_eq_true, Bool.false_eq_true, en]
        refine hN v7 h7 ⟨?_, ((i2.trans f5).trans f6).trans f7⟩
        rw [flat_succ shB hx, show shB x = numB x.kind ++ numsB x.fs ++ textB x.name from rfl]; simp only [List.append_assoc] at w7 ⊢; exact w7
  · refine fld_r (cb f3 0 _ rfl) ?_
    rw [r1.len, valA_some]
    refine acc_r (h0 := h) (esz := 2) (ty := 53) (zs := [.bool false, .nilsl]) (Rel := tyR) (fun r => tyR.leaves r) rfl rfl r1 k1 (Inv := fun i a h2 => V h h2 a (headB ++ numB m.types.length ++ (m.types.take i).flatMap tyB) ∧ FrB h1 h2) ⟨by simpa using w3, f3⟩ (fun i a h i1 => i1.1.fr) (fun i a h h' i1 f => ⟨i1.1.keep f, i1.2.trans f.frb⟩) (fun a h2 ⟨i1, i2⟩ => ?_) ?_
    · rw [List.take_length, List.append_assoc] at i1; exact hJ a h2 i1 i2
    · rintro N i x a hx en h4 d c ⟨i1, i2⟩ gd re hc hN
      have hb := part_le tyB hx m1.2
      obtain ⟨v, rfl, rr⟩ := re
      have cd : ∀ {h5 : H}, FrB h4 h5 → ∀ o w, ([AV.bool x.imm, v] : List AV)[o]? = some w → h5.cell d o = some w := fun f o w e => by rw [cell_of (f d _ _ _ (by decide) gd)]; exact e
      have c0 := cd (FrB.refl _) 0 _ rfl
      have c1 := cd (FrB.refl _) 1 _ rfl
      unfold tyB at hb
      rw [← List.append_assoc] at hb
      have st : ∀ n : Int, n = (if x.imm then 1 else 0) → valA (faA 1 (.ptr d 0)) h4 fun t37 h => valA (ldA h none t37) h fun t38 h => C 39 [a, .int .i64 n] h fun t36 h => againK (valA (ldA h none t37) h (fun v _ => v = t38)) <| C 40 [t36, t38] h fun t39 h => valA (binOp .add .num (.int .i64 i) (.int .i64 1)) h fun t40 h => N [t39, t40] h := by
        rintro n rfl
        simp only [go_sem, reduceIte, Nat.reduceAdd, Nat.reduceSub, Nat.reduceMul, Nat.reducePow, Nat.reduceLT, Nat.reduceLeDiff, Nat.reduceEqDiff, Int.reduceAdd, Int.reduceSub, Int.reduceMul, Int.reduceNeg, Int.reducePow, Int.reduceLT, Int.reduceLE, Int.reduceEq, Int.reduceNe, Int.reduceToNat, Int.toNat_natCast, Nat.zero_add, Nat.add_zero, Nat.mul_one, Nat.one_mul, Bool.not_true, Bool.not_false, ne_eq, not_true_eq_false, not_false_eq_true, Bool.false_eq_true, c1]
        refine rnum_w i1 (by unfold rg; split <;> omega) (le_l hb) fun v5 h5 w5 f5 => ?_
        simp only [go_sem, reduceIte, Nat.reduceAdd, Nat.reduceSub, Nat.reduceMul, Nat.reducePow, Nat.reduceLT, Nat.reduceLeDiff, Nat.reduceEqDiff, Int.reduceAdd, Int.reduceSub, Int.reduceMul, Int.reduceNeg, Int.reducePow, Int.reduceLT, Int.reduceLE, Int.reduceEq, Int.reduceNe, Int.reduceToNat, Int.toNat_natCast, Nat.zero_add, Nat.add_zero, Nat.mul_one, Nat.one_mul, Bool.not_true, Bool.not_false, ne_eq, not_true_eq_false, not_false_eq_true, Bool.false_eq_true, cd f5 1 _ rfl]
        refine rnums_w w5 rr (Fr.refl _ _) (k1' x (List.mem_of_getElem? hx)) hb fun v6 h6 w6 f6 => ?_
        simp only [go_sem, reduceIte, Nat.reduceAdd, Nat.reduceSub, Nat.reduceMul, Nat.reducePow, Nat.reduceLT, Nat.reduceLeDiff, Nat.reduceEqDiff, Int.reduceAdd, Int.reduceSub, Int.reduceMul, Int.reduceNeg, Int.reducePow, Int.reduceLT, Int.reduceLE, Int.reduceEq, Int.reduceNe, Int.reduceToNat, Int.toNat_natCast, Nat.zero_add, Nat.add_zero, Nat.mul_one, Nat.one_mul, Bool.not_true, Bool.not_false, ne_eq, not_true_eq_false, not_false_eq_true, Bool.false_eq_true, en]
        refine hN v6 h6 ⟨?_, (i2.trans f5).trans f6⟩
        rw [flat_succ tyB hx, show tyB x = numB (if x.imm then 1 else 0) ++ numsB x.sh from rfl]; simp only [List.append_assoc] at w6 ⊢; exact w6
      cases hi : x.imm with
      | true => rw [hi] at c0; simp only [joinA, faA_p, valA_some, ldA_n, Nat.zero_add, c0, condA_t]; exact st 1 (by rw [hi]; rfl)
      | false => rw [hi] at c0; simp only [joinA, faA_p, valA_some, ldA_n, Nat.zero_add, c0, condA_f]; exact st 0 (by rw [hi]; rfl)
end
end Go.Proofs.Ytgcnliikibbcnaa.X
set_option linter.unusedVariables false
set_option linter.unusedSimpArgs false
set_option maxRecDepth 20000
namespace Go.Proofs.Ytgcnliikibbcnaa.X
open Go Go.RowKit
def sumN {α : Type} (w : α → Nat) (l : List α) : Nat := (l.map w).sum
def wTy (t : Ty) : Nat := t.sh.length
def wShp (s : Shp) : Nat := s.fs.length + s.name.length
def wStr (s : List UInt8) : Nat := s.length
def wIns (x : Ins) : Nat := x.l.length + x.m.length + x.live.length
def wBlk (b : Blk) : Nat := b.inn.length + b.code.length + sumN wIns b.code
def wFn (f : Fn) : Nat := f.params.length + f.blocks.length + sumN wBlk f.blocks
def wImg (m : Img) : Nat := m.types.length + m.shapes.length + m.strs.length + m.names.length + m.fns.length + sumN wTy m.types + sumN wShp m.shapes + sumN wStr (m.strs ++ m.names) + sumN wFn m.fns
theorem sum_succ {α : Type} (w : α → Nat) {l : List α} {i : Nat} {x : α} (h : l[i]? = some x) : sumN w (l.take (i + 1)) = sumN w (l.take i) + w x := by
  unfold sumN
  rw [List.take_add_one, h, List.map_append, List.sum_append]; simp
section
variable {h : H}
theorem app_new {m0 n : Nat} {y : AV} {cs : List AV} (g : h.get m0 = some (.live [] 9 true)) (hs : srcA h 1 y = some (n, cs)) (hc : cs.length = n) (hl : leaves cs = true) (hb : n * 16 ≤ most) {K : AV → H → Prop}
    (h0 : n = 0 → K (.sl m0 0 0 (.exact 0)) h) (hK : ∀ v h', Own h h' 9 1 v n cs → Fr [] h h' → K v h') : appendA h 9 1 16 (.sl m0 0 0 (.exact 0)) y K := by
  unfold appendA
  rw [hs]
  simp only
  by_cases q : n = 0
  · rw [if_pos q]; exact h0 q
  · rw [if_neg q, if_neg (by omega)]
    refine ⟨by omega, ?_⟩
    rw [Nat.zero_mul, show h.read m0 0 0 = some [] from H.read_eq g (by simp) rfl]
    simp only [List.nil_append, Nat.zero_add]
    exact ⟨hl, fun b hb => hK _ _ ⟨by omega, .inr ⟨b, rfl, hb, H.get_same ..⟩⟩ ((Fr.refl _ _).set' hb)⟩
theorem two_rows {vx vn : AV} {l1 l2 : List (List UInt8)} (r1 : Row h vx l1.length 1 (l1.map AV.str)) (r2 : Row h vn l2.length 1 (l2.map AV.str)) (b1 : l1.length ≤ lim) (b2 : l2.length ≤ lim) {P : H → Prop} {K : AV → H → Prop}
    (hP : ∀ h', Fr [] h h' → P h') (hK : ∀ v h', Fr [] h h' → Row h' v (l1 ++ l2).length 1 ((l1 ++ l2).map AV.str) → K v h') :
    mkslA h 9 0 (fillV [] []) fun t70 h => appendA h 9 1 16 t70 vx fun t73 h => againK (P h) <| appendA h 9 1 16 t73 vn fun t76 h => K t76 h := by
  have hs : ∀ l : List (List UInt8), leaves (l.map AV.str) = true := fun l => leaves_map _ (fun _ => rfl) l
  unfold lim at b1 b2
  have hmost : most = 140737488355328 := rfl
  refine ⟨rfl, fun m0 hm0 => ?_⟩
  have f1 : Fr [] h (h.set m0 (.live [] 9 true)) := (Fr.refl _ _).set' hm0
  have g0 : (h.set m0 (.live [] 9 true)).get m0 = some (.live [] 9 true) := H.get_same ..
  change appendA (h.set m0 (.live [] 9 true)) 9 1 16 (.sl m0 0 0 (.exact 0)) vx _
  generalize h.set m0 (.live [] 9 true) = h1 at *
  have r1' := r1.fr f1
  have r2' := r2.fr f1
  refine app_new g0 r1'.src (by simp) (hs _) (by omega) (fun q => ?_) fun v2 h2 o2 f2 => ?_
  · have e1 : l1 = [] := List.eq_nil_of_length_eq_zero q
    subst e1
    rw [show P h1 = True from eq_true (hP h1 f1), againK_t]
    refine app_new g0 r2'.src (by simp) (hs _) (by omega) (fun q => ?_) fun v3 h3 o3 f3 => ?_
    · have e2 : l2 = [] := List.eq_nil_of_length_eq_zero q
      subst e2
      exact hK _ _ f1 ⟨rfl, .inr ⟨m0, 0, _, rfl, rfl, H.read_eq g0 (by simp) rfl⟩⟩
    · exact hK _ _ (f1.trans f3) (by simpa using o3.row)
  · have r2'' := r2'.fr f2
    rw [show P h2 = True from eq_true (hP h2 (f1.trans f2)), againK_t]
    refine append_own o2 r2''.src (by simp) (by decide) (hs _) (hs _) f2 (by omega) fun v3 h3 o3 f3 _ => ?_
    refine hK _ _ (f1.trans f3) ?_
    rw [List.length_append, List.map_append]; exact o3.row
/-- Counted down, so far. -/
def Cnt {α : Type} (h0 : H) (n0 : Int) (w : α → Nat) (l : List α) (i : Nat) (a : AV) (h : H) : Prop := ∃ n : Int, a = .int .i64 n ∧ n = n0 - (sumN w (l.take i) : Nat) ∧ -4503599627370496 ≤ n ∧ n0 ≤ 40000 ∧ Fr [] h0 h
theorem Cnt.zero {α : Type} {h0 : H} {n0 : Int} {w : α → Nat} {l : List α} (h1 : -4503599627370496 ≤ n0) (h2 : n0 ≤ 40000) (f : Fr [] h0 h) : Cnt h0 n0 w l 0 (.int .i64 n0) h := ⟨n0, rfl, by simp [sumN], h1, h2, f⟩
theorem Cnt.fin {α : Type} {h0 : H} {n0 : Int} {w : α → Nat} {l : List α} {a : AV} (c : Cnt h0 n0 w l l.length a h) : ∃ n : Int, a = .int .i64 n ∧ n = n0 - (sumN w l : Nat) ∧ -4503599627370496 ≤ n ∧ n ≤ 40000 ∧ Fr [] h0 h := by
  obtain ⟨n, h1, h2, h3, h4, h5⟩ := c
  rw [List.take_length] at h2
  exact ⟨n, h1, h2, h3, by omega, h5⟩
/-- One step down, or out. -/
theorem down_r {n d : Int} (h1 : -4503599627370496 ≤ n) (h2 : n ≤ 40000) (hd : 0 ≤ d) (hb : d ≤ 4503599627370496) {Y : AV → H → Prop} {out : H → Prop}
    (hX : out h) (hY : 0 ≤ n - d → Y (.int .i64 (n - d)) h) :
    valA (binOp .sub .num (.int .i64 n) (.int .i64 d)) h fun t47 h => valA (binOp .lss .num t47 (.int .i64 0)) h fun t49 h => condA t49 (out h) (Y t47 h) := by
  have e : IntKind.i64.wrap (n - d) = n - d := i64_id (by omega) (by omega)
  rw [b_sub, e, valA_some, b_lss, valA_some]
  by_cases q : n - d < 0
  · rw [decide_eq_true q, condA_t]; exact hX
  · rw [decide_eq_false q, condA_f]
    exact hY (by omega)
theorem Cnt.succ {α : Type} {h0 : H} {n0 : Int} {w : α → Nat} {l : List α} {i : Nat} {x : α} (hx : l[i]? = some x) {n : Int} (hn : n = n0 - (sumN w (l.take i) : Nat)) {n' : Int} (hn' : n' = n - (w x : Nat)) (h1 : -4503599627370496 ≤ n') (h2 : n0 ≤ 40000) (f : Fr [] h0 h) : Cnt h0 n0 w l (i + 1) (.int .i64 n') h :=
  ⟨n', rfl, by rw [sum_succ w hx]; omega, h1, h2, f⟩
theorem Cnt.keep {α : Type} {h0 h' : H} {n0 : Int} {w : α → Nat} {l : List α} {i : Nat} {a : AV} (c : Cnt h0 n0 w l i a h) (f : Fr [] h h') : Cnt h0 n0 w l i a h' := by
  obtain ⟨n, h1, h2, h3, h4, h5⟩ := c
  exact ⟨n, h1, h2, h3, h4, h5.trans f⟩
theorem Cnt.fr {α : Type} {h0 : H} {n0 : Int} {w : α → Nat} {l : List α} {i : Nat} {a : AV} (c : Cnt h0 n0 w l i a h) : Fr [] h0 h := by
  obtain ⟨n, h1, h2, h3, h4, h5⟩ := c; exact h5
theorem reach_47 : reachBytes = 140737488351232 := rfl
set_option maxHeartbeats 1000000 in
theorem light_c {m : Img} {c : List AV} (r : imgR h m c) (ok : m.ok) (b3 : m.strs.length ≤ lim) (b4 : m.names.length ≤ lim) {K : AV → H → Prop} (hK : ∀ h' b, Fr [] h h' → (b = true → wImg m ≤ 40000) → K (.bool b) h') : C 15 [.agg c] h K := by
  refine run15 ?_
  have hl := r.leaves
  have ec : (AV.agg c).cells = c := rfl
  obtain ⟨vt, vs, vx, vn, vf, rfl, r1, r2, r3, r4, r5⟩ := r
  obtain ⟨⟨k1, k1'⟩, ⟨k2, k2'⟩, ⟨k3, k3'⟩, ⟨k4, k4'⟩, ⟨k5, k5'⟩, k6, k7⟩ := ok
  rw [reach_47] at k1 k2 k3 k4 k5
  have reach : ∀ {n : Nat}, n ≤ 140737488351232 → n ≤ reachBytes := fun h => by rw [reach_47]; exact h
  have out : ∀ {h'}, Fr [] h h' → K (.bool false) h' := fun f => hK _ false f (by simp)
  unfold sh15
  rw [ec]
  refine box_r hl fun b hb => ?_
  have f0 : Fr [] h (h.set b (.live [vt, vs, vx, vn, vf, .int .i64 m.main, .int .i64 m.exn] 34 true)) := (Fr.refl _ _).set' hb
  have gb : (h.set b (.live [vt, vs, vx, vn, vf, .int .i64 m.main, .int .i64 m.exn] 34 true)).get b = some (.live [vt, vs, vx, vn, vf, .int .i64 m.main, .int .i64 m.exn] 34 true) := H.get_same ..
  have r1 := r1.mono f0 fun _ _ _ => tyR.fr f0
  have r2 := r2.mono f0 fun _ _ _ => shR.fr f0
  have r3 := r3.mono f0 fun _ _ _ x => x
  have r4 := r4.mono f0 fun _ _ _ x => x
  have r5 := r5.mono f0 fun _ _ _ => fnR.fr f0
  generalize h.set b (.live [vt, vs, vx, vn, vf, .int .i64 m.main, .int .i64 m.exn] 34 true) = h1 at *
  have cb : ∀ {h5 : H}, Fr [] h1 h5 → ∀ o v, ([vt, vs, vx, vn, vf, AV.int .i64 m.main, .int .i64 m.exn] : List AV)[o]? = some v → h5.cell b o = some v := fun f o v e => by rw [cell_of (f b _ (by simp) gb)]; exact e
  have w1 : IntKind.i64.wrap (40000 - (m.types.length : Int)) = 40000 - m.types.length := i64_id (by omega) (by omega)
  have w2 : IntKind.i64.wrap (40000 - (m.types.length : Int) - m.shapes.length) = 40000 - m.types.length - m.shapes.length := i64_id (by omega) (by omega)
  have w3 : IntKind.i64.wrap (40000 - (m.types.length : Int) - m.shapes.length - m.strs.length) = 40000 - m.types.length - m.shapes.length - m.strs.length := i64_id (by omega) (by omega)
  have w4 : IntKind.i64.wrap (40000 - (m.types.length : Int) - m.shapes.length - m.strs.length - m.names.length) = 40000 - m.types.length - m.shapes.length - m.strs.length - m.names.length := i64_id (by omega) (by omega)
  have w5 : IntKind.i64.wrap (40000 - (m.types.length : Int) - m.shapes.length - m.strs.length - m.names.length - m.fns.length) = 40000 - m.types.length - m.shapes.length - m.strs.length - m.names.length - m.fns.length := i64_id (by omega) (by omega)
  have fR := Fr.refl [] h1
  refine fld_r (cb fR 0 _ rfl) ?_
  rw [r1.len, valA_some, b_sub, w1, valA_some]
  refine fld_r (cb fR 1 _ rfl) ?_
  rw [r2.len, valA_some, b_sub, w2, valA_some]
  refine fld_r (cb fR 2 _ rfl) ?_
  rw [r3.len, valA_some, b_sub, w3, valA_some]
  refine fld_r (cb fR 3 _ rfl) ?_
  rw [r4.len, valA_some, b_sub, w4, valA_some]
  refine fld_r (cb fR 4 _ rfl) ?_
  rw [r5.len, valA_some, b_sub, w5, valA_some]
  obtain ⟨n0, hn0⟩ : ∃ n0 : Int, 40000 - (m.types.length : Int) - m.shapes.length - m.strs.length - m.names.length - m.fns.length = n0 := ⟨_, rfl⟩
  rw [hn0]
  refine join_r (fun (J : AV → H → Prop) => ∀ n h', Fr [] h1 h' → n = n0 - (sumN wTy m.types : Nat) → -4503599627370496 ≤ n → n ≤ 40000 → J (.int .i64 n) h') ?_ fun J hJ => ?_
  · intro n h2 f2 e2 e2' e2''
    refine join_r (fun (J : AV → H → Prop) => ∀ n' h', Fr [] h1 h' → n' = n - (sumN wShp m.shapes : Nat) → -4503599627370496 ≤ n' → n' ≤ 40000 → J (.int .i64 n') h') ?_ fun J hJ => ?_
    · intro n3 h3 f3 e3 e3' e3''
      refine join_r (fun (J : AV → H → Prop) => ∀ n' h', Fr [] h1 h' → n' = n3 - (sumN wStr (m.strs ++ m.names) : Nat) → -4503599627370496 ≤ n' → n' ≤ 40000 → J (.int .i64 n') h') ?_ fun J hJ => ?_
      · intro n4 h4 f4 e4 e4' e4''
        refine join_r (fun (J : AV → H → Prop) => ∀ n' h', Fr [] h1 h' → n' = n4 - (sumN wFn m.fns : Nat) → J (.int .i64 n') h') ?_ fun J hJ => ?_
        · intro n5 h5 f5 e5
          rw [b_geq, valA_some]
          refine hK h5 _ (f0.trans f5) fun q => ?_
          have q := of_decide_eq_true q
          unfold wImg; omega
        · refine fld_r (cb f4 4 _ rfl) ?_
          rw [r5.len, valA_some]
          refine accj_r (h0 := h1) (esz := 4) (ty := 51) (zs := [.nilsl, .int .i64 0, .int .i64 0, .nilsl]) (Rel := fnR) (fun r => fnR.leaves r) rfl rfl r5 (reach k5) (Inv := Cnt h1 n4 wFn m.fns) (Cnt.zero e4' e4'' f4) (fun i a h i1 => i1.fr) (fun i a h h' i1 f => i1.keep f) (fun a h2 i1 => ?_) ?_
          · obtain ⟨n, rfl, e, _, _, f⟩ := i1.fin; exact hJ n h2 f e
          · rintro N i x a hx en h5 d c ⟨n, rfl, en1, en2, en3, f5⟩ gd re hc hN
            obtain ⟨vp, vb, rfl, q1, q2⟩ := re
            obtain ⟨o1, o2, o3, o4, o5⟩ := k5' x (List.mem_of_getElem? hx)
            have o1 := o1.1
            rw [reach_47] at o1 o4
            have cd : ∀ {h6 : H}, Fr [] h5 h6 → ∀ o w, ([vp, AV.int .i64 x.result, .int .i64 x.slots, vb] : List AV)[o]? = some w → h6.cell d o = some w := fun f o w e => by rw [cell_of (f d _ (by simp) gd)]; exact e
            have ea : IntKind.i64.wrap ((x.params.length : Int) + x.blocks.length) = x.params.length + x.blocks.length := i64_id (by omega) (by omega)
            refine fld_r (cd (Fr.refl _ _) 0 _ rfl) ?_
            rw [q1.len, valA_some]
            refine fld_r (cd (Fr.refl _ _) 3 _ rfl) ?_
            rw [q2.len, valA_some, b_add, ea, valA_some]
            refine down_r (d := (x.params.length : Int) + x.blocks.length) en2 (by omega) (by omega) (by omega) ?_ fun hge => ?_
            · exact out (f0.trans f5)
            refine fld_r (cd (Fr.refl _ _) 3 _ rfl) ?_
            rw [q2.len, valA_some]
            refine accj_r (h0 := h1) (esz := 2) (ty := 58) (zs := [.nilsl, .nilsl]) (Rel := blkR) (fun r => blkR.leaves r) rfl rfl q2 (reach o4) (Inv := Cnt h1 (n - ((x.params.length : Int) + x.blocks.length)) wBlk x.blocks) (Cnt.zero (by omega) (by omega) f5) (fun i a h i1 => i1.fr) (fun i a h h' i1 f => i1.keep f) (fun a h2 i1 => ?_) ?_
            · obtain ⟨n', rfl, e, e', _, f⟩ := i1.fin
              exact hN _ h2 (Cnt.succ hx en1 (by unfold wFn; omega) e' en3 f)
            · rintro N i y a hy en h6 d c ⟨n, rfl, en1, en2, en3, f6⟩ gd re hc hN
              obtain ⟨vi, vc, rfl, p1, p2⟩ := re
              obtain ⟨u1, u2, u3⟩ := o5 y (List.mem_of_getElem? hy)
              have u1 := u1.1
              rw [reach_47] at u1 u2
              have cd : ∀ {h7 : H}, Fr [] h6 h7 → ∀ o w, ([vi, vc] : List AV)[o]? = some w → h7.cell d o = some w := fun f o w e => by rw [cell_of (f d _ (by simp) gd)]; exact e
              have ea : IntKind.i64.wrap ((y.inn.length : Int) + y.code.length) = y.inn.length + y.code.length := i64_id (by omega) (by omega)
              refine fld_r (cd (Fr.refl _ _) 0 _ rfl) ?_
              rw [p1.len, valA_some]
              refine fld_r (cd (Fr.refl _ _) 1 _ rfl) ?_
              rw [p2.len, valA_some, b_add, ea, valA_some]
              refine down_r (d := (y.inn.length : Int) + y.code.length) en2 (by omega) (by omega) (by omega) ?_ fun hge => ?_
              · exact out (f0.trans f6)
              refine fld_r (cd (Fr.refl _ _) 1 _ rfl) ?_
              rw [p2.len, valA_some]
              refine acc_r (h0 := h1) (esz := 9) (ty := 24) (zs := [.int .i64 0, .int .i64 0, .int .i64 0, .int .i64 0, .int .i64 0, .int .i64 0, .nilsl, .nilsl, .nilsl]) (Rel := insR) (fun r => insR.leaves r) rfl rfl p2 (reach u2) (Inv := Cnt h1 (n - ((y.inn.length : Int) + y.code.length)) wIns y.code) (Cnt.zero (by omega) (by omega) f6) (fun i a h i1 => i1.fr) (fun i a h h' i1 f => i1.keep f) (fun a h2 i1 => ?_) ?_
              · obtain ⟨n', rfl, e, e', _, f⟩ := i1.fin
                exact hN _ h2 (Cnt.succ hy en1 (by unfold wBlk; omega) e' en3 f)
              · rintro N i z a hz en h7 d c ⟨n, rfl, en1, en2, en3, f7⟩ gd re hc hN
                obtain ⟨vl, vm, vv, rfl, z1, z2, z3⟩ := re
                obtain ⟨_, t1, t2, t3⟩ := u3 z (List.mem_of_getElem? hz)
                have t1 := t1.1
                have t2 := t2.1
                have t3 := t3.1
                rw [reach_47] at t1 t2 t3
                have cd : ∀ o w, ([AV.int .i64 z.op, .int .i64 z.d, .int .i64 z.a, .int .i64 z.b, .int .i64 z.c, .int .i64 z.n, vl, vm, vv] : List AV)[o]? = some w → h7.cell d o = some w := fun o w e => by rw [cell_of gd]; exact e
                have ea : IntKind.i64.wrap ((z.l.length : Int) + z.m.length) = z.l.length + z.m.length := i64_id (by omega) (by omega)
                have eb : IntKind.i64.wrap ((z.l.length : Int) + z.m.length + z.live.length) = z.l.length + z.m.length + z.live.length := i64_id (by omega) (by omega)
                refine fld_r (cd 6 _ rfl) ?_
                rw [z1.len, valA_some]
                refine fld_r (cd 7 _ rfl) ?_
                rw [z2.len, valA_some, b_add, ea, valA_some]
                refine fld_r (cd 8 _ rfl) ?_
                rw [z3.len, valA_some, b_add, eb, valA_some]
                refine down_r (d := (z.l.length : Int) + z.m.length + z.live.length) en2 (by omega) (by omega) (by omega) ?_ fun hge => ?_
                · exact out (f0.trans f7)
                rw [b_add, en, valA_some]
                exact hN _ h7 (Cnt.succ hz en1 (by unfold wIns; omega) (by omega) en3 f7)
      · refine fld_r (cb f3 2 _ rfl) ?_
        refine fld_r (cb f3 3 _ rfl) ?_
        refine two_rows ((strs_row r3).fr f3) ((strs_row r4).fr f3) b3 b4 (fun h' f' => ?_) fun v h4 f4 rv => ?_
        · rw [ldA_n, Nat.zero_add, cb (f3.trans f') 3 _ rfl]; rfl
        · rw [rv.len, valA_some]
          have f14 := f3.trans f4
          refine acc1_r (h0 := h4) rv (by rw [reach_47]; unfold lim at b3 b4; simp only [List.length_append]; omega) (Inv := Cnt h4 n3 wStr (m.strs ++ m.names)) (Cnt.zero e3' e3'' (Fr.refl _ _)) (fun i a h i1 => i1.fr) (fun a h2 i1 => ?_) ?_
          · obtain ⟨n, rfl, e, e', e'', f⟩ := i1.fin; exact hJ n h2 (f14.trans f) e e' e''
          · rintro N i x a hx en h5 ⟨n, rfl, en1, en2, en3, f5⟩ hN
            have hx' : x.length ≤ 140737488351232 := by
              rw [← reach_47]
              rcases List.mem_append.1 (List.mem_of_getElem? hx) with q | q
              · exact k3' x q
              · exact k4' x q
            rw [show lenA true (.str x) = some (.int .i64 x.length) from rfl, valA_some]
            refine down_r (d := (x.length : Int)) en2 (by omega) (by omega) (by omega) ?_ fun hge => ?_
            · exact out ((f0.trans f14).trans f5)
            rw [b_add, en, valA_some]
            exact hN _ h5 (Cnt.succ hx en1 rfl (by omega) en3 f5)
    · refine fld_r (cb f2 1 _ rfl) ?_
      rw [r2.len, valA_some]
      refine acc_r (h0 := h1) (esz := 3) (ty := 55) (zs := [.int .i64 0, .nilsl, .str []]) (Rel := shR) (fun r => shR.leaves r) rfl rfl r2 (reach k2) (Inv := Cnt h1 n wShp m.shapes) (Cnt.zero e2' e2'' f2) (fun i a h i1 => i1.fr) (fun i a h h' i1 f => i1.keep f) (fun a h2 i1 => ?_) ?_
      · obtain ⟨n, rfl, e, e', e'', f⟩ := i1.fin; exact hJ n h2 f e e' e''
      · rintro N i x a hx en h5 d c ⟨n, rfl, en1, en2, en3, f5⟩ gd re hc hN
        obtain ⟨v, rfl, rr⟩ := re
        obtain ⟨o1, o2, o3⟩ := k2' x (List.mem_of_getElem? hx)
        have o2 := o2.1
        rw [reach_47] at o2 o3
        have cd : ∀ o w, ([AV.int .i64 x.kind, v, .str x.name] : List AV)[o]? = some w → h5.cell d o = some w := fun o w e => by rw [cell_of gd]; exact e
        have ea : IntKind.i64.wrap ((x.fs.length : Int) + x.name.length) = x.fs.length + x.name.length := i64_id (by omega) (by omega)
        refine fld_r (cd 1 _ rfl) ?_
        rw [rr.len, valA_some]
        refine fld_r (cd 2 _ rfl) ?_
        rw [show lenA true (.str x.name) = some (.int .i64 x.name.length) from rfl, valA_some, b_add, ea, valA_some]
        refine down_r (d := (x.fs.length : Int) + x.name.length) en2 (by omega) (by omega) (by omega) ?_ fun hge => ?_
        · exact out (f0.trans f5)
        rw [b_add, en, valA_some]
        exact hN _ h5 (Cnt.succ hx en1 (by unfold wShp; omega) (by omega) en3 f5)
  · refine fld_r (cb fR 0 _ rfl) ?_
    rw [r1.len, valA_some]
    refine acc_r (h0 := h1) (esz := 2) (ty := 53) (zs := [.bool false, .nilsl]) (Rel := tyR) (fun r => tyR.leaves r) rfl rfl r1 (reach k1) (Inv := Cnt h1 n0 wTy m.types) (Cnt.zero (by omega) (by omega) fR) (fun i a h i1 => i1.fr) (fun i a h h' i1 f => i1.keep f) (fun a h2 i1 => ?_) ?_
    · obtain ⟨n, rfl, e, e', e'', f⟩ := i1.fin; exact hJ n h2 f e e' e''
    · rintro N i x a hx en h5 d c ⟨n, rfl, en1, en2, en3, f5⟩ gd re hc hN
      obtain ⟨v, rfl, rr⟩ := re
      have o2 := (k1' x (List.mem_of_getElem? hx)).1
      rw [reach_47] at o2
      have cd : ∀ o w, ([AV.bool x.imm, v] : List AV)[o]? = some w → h5.cell d o = some w := fun o w e => by rw [cell_of gd]; exact e
      refine fld_r (cd 1 _ rfl) ?_
      rw [rr.len, valA_some]
      refine down_r (d := (x.sh.length : Int)) en2 (by omega) (by omega) (by omega) ?_ fun hge => ?_
      · exact out (f0.trans f5)
      rw [b_add, en, valA_some]
      exact hN _ h5 (Cnt.succ hx en1 (by unfold wTy; omega) (by omega) en3 f5)
end
end Go.Proofs.Ytgcnliikibbcnaa.X
set_option linter.unusedVariables false
set_option linter.unusedSimpArgs false
set_option maxRecDepth 20000
namespace Go.Proofs.Ytgcnliikibbcnaa.X
open Go Go.RowKit
/-! ### How many bytes -/
theorem num_le {n : Int} (h : rg n) : (numB n).length ≤ 10 := putL_len64 (zig_lt h.1 h.2)
theorem many_le {α : Type} {e : α → List Nat} {w : α → Nat} {l : List α} {C D : Nat} (hl : l.length ≤ reachBytes) (h : ∀ x ∈ l, (e x).length ≤ C + D * w x) : (manyB e l).length ≤ 10 + C * l.length + D * sumN w l := by
  unfold manyB
  have h1 := num_le (rg_nat hl)
  have h2 : (l.flatMap e).length ≤ C * l.length + D * sumN w l := by
    clear hl h1
    induction l with
    | nil => simp [sumN]
    | cons x l ih =>
      have i1 := h x (by simp)
      have i2 := ih fun y hy => h y (by simp [hy])
      have e1 : sumN w (x :: l) = w x + sumN w l := by simp [sumN]
      rw [List.flatMap_cons, List.length_append, List.length_cons, e1, Nat.mul_add, Nat.mul_add]; omega
  rw [List.length_append]; omega
theorem nums_le {l : List Int} (h : rgs l) : (numsB l).length ≤ 10 + 10 * l.length := by
  have := many_le (e := numB) (w := fun _ => 0) (C := 10) (D := 0) h.1 fun x hx => by have := num_le (h.2 x hx); omega
  unfold numsB; omega
theorem text_le {s : List UInt8} (h : s.length ≤ reachBytes) : (textB s).length ≤ 10 + 1 * wStr s := by
  have := num_le (rg_nat h)
  unfold textB wStr; simp only [List.length_append, List.length_map]; omega
theorem ty_le {t : Ty} (h : t.ok) : (tyB t).length ≤ 20 + 10 * wTy t := by
  have := nums_le h
  have := num_le (n := if t.imm then 1 else 0) (by unfold rg; split <;> omega)
  unfold tyB wTy; simp only [List.length_append]; omega
theorem shp_le {s : Shp} (h : s.ok) : (shB s).length ≤ 30 + 10 * wShp s := by
  have := num_le h.1
  have := nums_le h.2.1
  have := text_le h.2.2
  unfold shB wShp; unfold wStr at this; simp only [List.length_append]; omega
theorem fld_le {x : Ins} (h : x.ok) (c : UInt8) : (fldB x c).length ≤ 10 + 10 * wIns x := by
  obtain ⟨⟨o1, o2, o3, o4, o5, o6⟩, o7, o8, o9⟩ := h
  have := num_le o2; have := num_le o3; have := num_le o4; have := num_le o5; have := num_le o6
  have := nums_le o7; have := nums_le o8; have := nums_le o9
  unfold fldB wIns
  repeat' split
  all_goals omega
theorem uses_six (op : Int) : (usesN op).length ≤ 6 := by
  rcases op_cases op with q | q
  · rcases q with rfl | rfl | rfl | rfl | rfl | rfl | rfl | rfl | rfl | rfl | rfl | rfl | rfl | rfl | rfl | rfl | rfl | rfl | rfl | rfl | rfl | rfl | rfl | rfl <;> decide
  · rw [usesN_out q]; decide
theorem flds_le {x : Ins} (h : x.ok) : ∀ u : List UInt8, (u.flatMap (fldB x)).length ≤ u.length * (10 + 10 * wIns x)
  | [] => by simp
  | c :: u => by
    have := flds_le h u
    have := fld_le h c
    rw [List.flatMap_cons, List.length_append, List.length_cons, Nat.add_mul]; omega
theorem ins_le {x : Ins} (h : x.ok) : (insB x).length ≤ 70 + 60 * wIns x := by
  have := num_le h.1.1
  have h2 := flds_le h (usesN x.op)
  have h3 : (usesN x.op).length * (10 + 10 * wIns x) ≤ 6 * (10 + 10 * wIns x) := Nat.mul_le_mul_right _ (uses_six x.op)
  unfold insB; rw [List.length_append]; omega
theorem blk_le {b : Blk} (h : b.ok) : (blkB b).length ≤ 20 + 70 * wBlk b := by
  have := nums_le h.1
  have := many_le (e := insB) (w := wIns) h.2.1 fun x hx => ins_le (h.2.2 x hx)
  unfold blkB wBlk; rw [List.length_append]; omega
theorem fn_le {f : Fn} (h : f.ok) : (fnB f).length ≤ 40 + 70 * wFn f := by
  obtain ⟨o1, o2, o3, o4, o5⟩ := h
  have := nums_le o1
  have := num_le o2
  have := num_le o3
  have := many_le (e := blkB) (w := wBlk) o4 fun x hx => blk_le (o5 x hx)
  unfold fnB wFn; simp only [List.length_append]; omega
theorem sum_app {α : Type} (w : α → Nat) (a b : List α) : sumN w (a ++ b) = sumN w a + sumN w b := by unfold sumN; rw [List.map_append, List.sum_append]
theorem img_le {m : Img} (h : m.ok) : (bytesI m).length ≤ 74 + 70 * wImg m := by
  obtain ⟨⟨k1, k1'⟩, ⟨k2, k2'⟩, ⟨k3, k3'⟩, ⟨k4, k4'⟩, ⟨k5, k5'⟩, k6, k7⟩ := h
  have := many_le (e := tyB) (w := wTy) k1 fun x hx => ty_le (k1' x hx)
  have := many_le (e := shB) (w := wShp) k2 fun x hx => shp_le (k2' x hx)
  have := many_le (e := textB) (w := wStr) k3 fun x hx => text_le (k3' x hx)
  have := many_le (e := textB) (w := wStr) k4 fun x hx => text_le (k4' x hx)
  have := many_le (e := fnB) (w := wFn) k5 fun x hx => fn_le (k5' x hx)
  have := num_le k6
  have := num_le k7
  have e : headB.length = 4 := rfl
  unfold bytesI wImg; rw [sum_app]; simp only [List.length_append, e]; omega
theorem most_47 : most = 140737488355328 := rfl
theorem light_le {m : Img} (h : m.ok) (hl : wImg m ≤ 40000) : (bytesI m).length ≤ most ∧ (bytesI m).length ≤ 2800074 := by
  have := img_le h; rw [most_47]; omega
section
variable {h : H}
theorem short_img {ls : List (List AV)} {l : List AV} {m : Img} (hs : Short lim ls) (hl : l ∈ ls) (r : imgR h m l) : m.strs.length ≤ lim ∧ m.names.length ≤ lim := by
  obtain ⟨vt, vs, vx, vn, vf, rfl, _, _, r3, r4, _⟩ := r
  have one : ∀ {v : AV} {l : List (List UInt8)}, RowOf h 1 stR v l → (v ∈ ([vt, vs, vx, vn, vf, .int .i64 m.main, .int .i64 m.exn] : List AV)) → l.length ≤ lim := by
    intro v l r hv
    obtain ⟨_, _, _, _, r⟩ := r
    rcases r.2 with ⟨q, _⟩ | ⟨b, off, cap, rfl, _, _⟩
    · omega
    · exact hs _ hl b off _ cap hv
  exact ⟨one r3 (by simp), one r4 (by simp)⟩
/-- An image, handed over, in its box. -/
theorem img_box {l : List AV} {m : Img} (r : imgR h m l) {K : AV → H → Prop} (hK : ∀ b h1, Fr [] h h1 → h.get b = none → h1.get b = some (.live l 34 true) → imgR h1 m l → (∀ h2, Fr [] h1 h2 → h2.read b 0 7 = some l) → K (.ptr b 0) h1) : boxA h (AV.cells (.agg l)) 34 K := by
  have hl := r.shape.1
  show boxA h l 34 K
  refine box_r r.leaves fun b hb => ?_
  have f : Fr [] h (h.set b (.live l 34 true)) := (Fr.refl _ _).set' hb
  exact hK b _ f hb (H.get_same ..) (r.fr f) fun h2 f2 => H.read_eq (f2 b _ (by simp) (H.get_same ..)) (by omega) (by rw [List.drop_zero, List.take_of_length_le (by omega)])
end
end Go.Proofs.Ytgcnliikibbcnaa.X
set_option linter.unusedVariables false
set_option linter.unusedSimpArgs false
set_option maxRecDepth 20000
namespace Go.Proofs.Ytgcnliikibbcnaa.X
open Go Go.RowKit
/-- Is it the same? -/
noncomputable def eqB {α : Type} (a b : α) : Bool := open Classical in decide (a = b)
theorem eqB_t {α : Type} {a b : α} (h : a = b) : eqB a b = true := by unfold eqB; simp [h]
theorem eqB_f {α : Type} {a b : α} (h : a ≠ b) : eqB a b = false := by unfold eqB; simp [h]
theorem eqB_iff {α : Type} {a b : α} : eqB a b = true ↔ a = b := by unfold eqB; simp
theorem eqB_self {α : Type} (a : α) : eqB a a = true := eqB_t rfl
theorem eqB_dec {α : Type} [DecidableEq α] (a b : α) : decide (a = b) = eqB a b := by
  by_cases h : a = b
  · rw [eqB_t h, decide_eq_true h]
  · rw [eqB_f h, decide_eq_false h]
theorem eqB_of {α : Type} {a b : α} {p : Bool} (h : p = true ↔ a = b) : p = eqB a b := by
  by_cases q : a = b
  · rw [eqB_t q]; exact h.2 q
  · rw [eqB_f q]; exact Bool.eq_false_iff.2 fun e => q (h.1 e)
theorem take_diff {α : Type} {l1 l2 : List α} {i : Nat} {x y : α} (h1 : l1[i]? = some x) (h2 : l2[i]? = some y) (h : x ≠ y) : l1 ≠ l2 := by
  rintro rfl
  rw [h1] at h2; injection h2 with h2; exact h h2
theorem take_same {α : Type} {l1 l2 : List α} {i : Nat} {x : α} (h1 : l1[i]? = some x) (h2 : l2[i]? = some x) (h : l1.take i = l2.take i) : l1.take (i + 1) = l2.take (i + 1) := by
  rw [List.take_add_one, List.take_add_one, h1, h2, h]
theorem take_full {α : Type} {l1 l2 : List α} {i : Nat} (hi : ¬ i < l1.length) (hl : l1.length = l2.length) (h : l1.take i = l2.take i) : l1 = l2 := by
  rwa [List.take_of_length_le (by omega), List.take_of_length_le (by omega)] at h
section
variable {h : H}
/-- Two elements are compared by a function E. -/
def EqC {α : Type} (h : H) (E : Nat) (Rel : H → α → List AV → Prop) : Prop := ∀ (h' : H) (x y : α) (c d : List AV), Fr [] h h' → Rel h' x c → Rel h' y d → ∀ K : AV → H → Prop, (∀ h'', Fr [] h' h'' → K (.bool (eqB x y)) h'') → C E [.agg c, .agg d] h' K
theorem eqf_r {α : Type} {esz ty E : Nat} {zs : List AV} {v1 v2 : AV} {l1 l2 : List α} {Rel : H → α → List AV → Prop} (hmono : ∀ {h h' : H} {x c}, Fr [] h h' → Rel h x c → Rel h' x c) (hleaf : ∀ {h : H} {x c}, Rel h x c → leaves c = true) (hz : zs.length = esz) (lz : leaves zs = true)
    (r1 : RowOf h esz (Rel h) v1 l1) (r2 : RowOf h esz (Rel h) v2 l2) (hl : l1.length ≤ reachBytes) (hE : EqC h E Rel) {K : AV → H → Prop} (hK : ∀ h', Fr [] h h' → K (.bool (eqB l1 l2)) h') :
    valA (lenA false v1) h fun t11 h =>
    valA (lenA false v2) h fun t13 h =>
    valA (binOp .neq .num t11 t13) h fun t14 h =>
    condA t14 (K (.bool false) h)
     (joinA (fun (h : H) => K (.bool true) h) fun J =>
     valA (lenA false v1) h fun t16 h =>
     loopA (fun N l h => argA l 0 fun t17 => valA (binOp .lss .num t17 t16) h fun t18 h => condA t18
      (valA (iaA esz v1 t17) h fun t20 h =>
      valA (ldA h (some esz) t20) h fun t21 h =>
      boxA h zs ty fun v18 h =>
      memA (stA h esz v18 t21) .undef fun _ h =>
      valA (iaA esz v2 t17) h fun t24 h =>
      valA (ldA h (some esz) t24) h fun t25 h =>
      boxA h zs ty fun v29 h =>
      memA (stA h esz v29 t25) .undef fun _ h =>
      valA (ldA h (some esz) v18) h fun t27 h =>
      valA (ldA h (some esz) v29) h fun t28 h =>
      callvA C (.fn E [] []) [t27, t28] h fun t29 h =>
      valA (unOp .not t29) h fun t30 h =>
      condA t30 (K (.bool false) h)
       (valA (binOp .add .num t17 (.int .i64 1)) h fun t31 h => N [t31] h)) (J h)) [.int .i64 0] h) := by
  have hr : reachBytes ≤ 4611686018427387903 := by decide
  rw [r1.len, valA_some, r2.len, valA_some, b_neq, valA_some]
  by_cases hll : (l1.length : Int) = l2.length
  · rw [decide_eq_false (by simpa using hll), condA_f]
    have hll' : l1.length = l2.length := by omega
    refine join_r (fun (J : H → Prop) => ∀ h', Fr [] h h' → l1 = l2 → J h') (fun h' f e => by have := hK h' f; rwa [eqB_t e] at this) fun J hJ => ?_
    rw [valA_some]
    refine loop_r (l1.length + 1) (fun k ls h2 => ∃ i : Nat, ls = [.int .i64 i] ∧ i ≤ l1.length ∧ l1.take i = l2.take i ∧ Fr [] h h2 ∧ k = l1.length + 1 - i) ⟨0, rfl, by omega, rfl, Fr.refl _ _, rfl⟩ ?_
    rintro k ls h2 ⟨i, rfl, hi, ha, f, rfl⟩
    by_cases q : (i : Int) < l1.length
    · have hi' : i < l1.length := by omega
      have hi2 : i < l2.length := by omega
      obtain ⟨x, hx⟩ : ∃ x, l1[i]? = some x := ⟨l1[i], by simp [hi']⟩
      obtain ⟨y, hy⟩ : ∃ y, l2[i]? = some y := ⟨l2[i], by simp [hi2]⟩
      obtain ⟨b, o, c, e1, e2, e3, e4, e5⟩ := (r1.mono f fun _ _ _ z => hmono f z).el hx
      have en : IntKind.i64.wrap ((i : Int) + 1) = ((i + 1 : Nat) : Int) := by rw [i64_id (by omega) (by omega)]; rfl
      rw [argA_0, b_lss, valA_some, decide_eq_true q, condA_t, e1, valA_some, ldA_read e4, valA_some]
      refine box_r lz fun d hd => ?_
      rw [copy_st e3 hz (hleaf e2), memA_some]
      have fd : Fr [] h2 (h2.set d (.live c ty true)) := (Fr.refl _ _).set' hd
      have gd : (h2.set d (.live c ty true)).get d = some (.live c ty true) := H.get_same ..
      have e2 := hmono fd e2
      generalize h2.set d (.live c ty true) = h3 at *
      obtain ⟨b', o', c', u1, u2, u3, u4, u5⟩ := (r2.mono (f.trans fd) fun _ _ _ z => hmono (f.trans fd) z).el hy
      rw [u1, valA_some, ldA_read u4, valA_some]
      refine box_r lz fun d' hd' => ?_
      rw [copy_st u3 hz (hleaf u2), memA_some]
      have fd' : Fr [] h3 (h3.set d' (.live c' ty true)) := (Fr.refl _ _).set' hd'
      have gd' : (h3.set d' (.live c' ty true)).get d' = some (.live c' ty true) := H.get_same ..
      have e2 := hmono fd' e2
      have u2 := hmono fd' u2
      have gd := fd' d _ (by simp) gd
      generalize h3.set d' (.live c' ty true) = h4 at *
      rw [ldA_read (H.read_eq gd (by omega) (by rw [List.drop_zero, List.take_of_length_le (by omega)])), valA_some, ldA_read (H.read_eq gd' (by omega) (by rw [List.drop_zero, List.take_of_length_le (by omega)])), valA_some, callvA_f]
      have f4 := (f.trans fd).trans fd'
      refine hE h4 x y c c' f4 e2 u2 _ fun h5 f5 => ?_
      rw [u_not, valA_some]
      by_cases hxy : x = y
      · subst hxy
        rw [eqB_self, show (!true) = false from rfl, condA_f, b_add, en, valA_some]
        exact ⟨l1.length + 1 - (i + 1), by omega, i + 1, rfl, by omega, take_same hx hy ha, f4.trans f5, rfl⟩
      · rw [eqB_f hxy, show (!false) = true from rfl, condA_t]
        have := hK h5 (f4.trans f5)
        rwa [eqB_f (take_diff hx hy hxy)] at this
    · rw [argA_0, b_lss, valA_some, decide_eq_false q, condA_f]
      exact hJ h2 f (take_full (by omega) hll' ha)
  · rw [decide_eq_true (by simpa using hll), condA_t]
    have := hK h (Fr.refl _ _)
    rwa [eqB_f (fun e => hll (by rw [e]))] at this
theorem eq1_r {α : Type} {v1 v2 : AV} {l1 l2 : List α} {val : α → AV} (r1 : Row h v1 l1.length 1 (l1.map val)) (r2 : Row h v2 l2.length 1 (l2.map val)) (hl : l1.length ≤ reachBytes) (hv : ∀ x y, binOp .neq .num (val x) (val y) = some (.bool (!eqB x y))) {K : AV → H → Prop} (hK : K (.bool (eqB l1 l2)) h) :
    valA (lenA false v1) h fun t7 h =>
    valA (lenA false v2) h fun t9 h =>
    valA (binOp .neq .num t7 t9) h fun t10 h =>
    condA t10 (K (.bool false) h)
     (joinA (fun (h : H) => K (.bool true) h) fun J =>
     valA (lenA false v1) h fun t12 h =>
     loopA (fun N l h => argA l 0 fun t13 => valA (binOp .lss .num t13 t12) h fun t14 h => condA t14
      (valA (iaA 1 v1 t13) h fun t18 h =>
      valA (ldA h none t18) h fun t19 h =>
      valA (iaA 1 v2 t13) h fun t22 h =>
      valA (ldA h none t22) h fun t23 h =>
      valA (binOp .neq .num t19 t23) h fun t24 h =>
      condA t24 (K (.bool false) h)
       (valA (binOp .add .num t13 (.int .i64 1)) h fun t25 h => N [t25] h)) (J h)) [.int .i64 0] h) := by
  have hr : reachBytes ≤ 4611686018427387903 := by decide
  rw [r1.len, valA_some, r2.len, valA_some, b_neq, valA_some]
  by_cases hll : (l1.length : Int) = l2.length
  · rw [decide_eq_false (by simpa using hll), condA_f]
    have hll' : l1.length = l2.length := by omega
    refine join_r (fun (J : H → Prop) => l1 = l2 → J h) (fun e => by rwa [eqB_t e] at hK) fun J hJ => ?_
    rw [valA_some]
    refine loop_r (l1.length + 1) (fun k ls h2 => ∃ i : Nat, ls = [.int .i64 i] ∧ i ≤ l1.length ∧ l1.take i = l2.take i ∧ h2 = h ∧ k = l1.length + 1 - i) ⟨0, rfl, by omega, rfl, rfl, rfl⟩ ?_
    rintro k ls h2 ⟨i, rfl, hi, ha, eh, rfl⟩
    rw [eh]
    by_cases q : (i : Int) < l1.length
    · have hi' : i < l1.length := by omega
      have hi2 : i < l2.length := by omega
      obtain ⟨x, hx⟩ : ∃ x, l1[i]? = some x := ⟨l1[i], by simp [hi']⟩
      obtain ⟨y, hy⟩ : ∃ y, l2[i]? = some y := ⟨l2[i], by simp [hi2]⟩
      obtain ⟨b, o, e1, e2⟩ := r1.at (i := i) (x := val x) (by omega) q (by rw [Int.toNat_natCast, List.getElem?_map, hx]; rfl)
      obtain ⟨b', o', u1, u2⟩ := r2.at (i := i) (x := val y) (by omega) (by omega) (by rw [Int.toNat_natCast, List.getElem?_map, hy]; rfl)
      have en : IntKind.i64.wrap ((i : Int) + 1) = ((i + 1 : Nat) : Int) := by rw [i64_id (by omega) (by omega)]; rfl
      rw [argA_0, b_lss, valA_some, decide_eq_true q, condA_t, e1, valA_some, ldA_n, e2, valA_some, u1, valA_some, ldA_n, u2, valA_some, hv, valA_some]
      by_cases hxy : x = y
      · subst hxy
        rw [eqB_self, show (!true) = false from rfl, condA_f, b_add, en, valA_some]
        exact ⟨l1.length + 1 - (i + 1), by omega, i + 1, rfl, by omega, take_same hx hy ha, rfl, rfl⟩
      · rw [eqB_f hxy, show (!false) = true from rfl, condA_t]
        rwa [eqB_f (take_diff hx hy hxy)] at hK
    · rw [argA_0, b_lss, valA_some, decide_eq_false q, condA_f]
      exact hJ (take_full (by omega) hll' ha)
  · rw [decide_eq_true (by simpa using hll), condA_t]
    rwa [eqB_f (fun e => hll (by rw [e]))] at hK
theorem ints_eq {v1 v2 : AV} {l1 l2 : List Int} (r1 : Row h v1 l1.length 1 (ic l1)) (r2 : Row h v2 l2.length 1 (ic l2)) (hl : l1.length ≤ reachBytes) {K : AV → H → Prop} (hK : K (.bool (eqB l1 l2)) h) : C 54 [v1, v2] h K := by
  refine run54 ?_
  unfold sh54
  refine eq1_r (val := fun n => .int .i64 n) r1 r2 hl (fun x y => ?_) hK
  rw [b_neq, ← eqB_dec]; simp
theorem strs_eq {v1 v2 : AV} {l1 l2 : List (List UInt8)} (r1 : Row h v1 l1.length 1 (l1.map AV.str)) (r2 : Row h v2 l2.length 1 (l2.map AV.str)) (hl : l1.length ≤ reachBytes) {K : AV → H → Prop} (hK : K (.bool (eqB l1 l2)) h) : C 57 [v1, v2] h K := by
  refine run57 ?_
  unfold sh57
  refine eq1_r (val := AV.str) r1 r2 hl (fun x y => ?_) hK
  rw [← eqB_dec]; simp only [go_sem, reduceIte, Nat.reduceAdd, Nat.reduceSub, Nat.reduceMul, Nat.reducePow, Nat.reduceLT, Nat.reduceLeDiff, Nat.reduceEqDiff, Int.reduceAdd, Int.reduceSub, Int.reduceMul, Int.reduceNeg, Int.reducePow, Int.reduceLT, Int.reduceLE, Int.reduceEq, Int.reduceNe, Int.reduceToNat, Int.toNat_natCast, Nat.zero_add, Nat.add_zero, Nat.mul_one, Nat.one_mul, Bool.not_true, Bool.not_false, ne_eq, not_true_eq_false, not_false_eq_true, Bool.false_eq_true]; simp
/-- One more field that must be the same. -/
theorem chunkV {p q : Bool} {b d i j : Nat} {v w : AV} (hc : h.cell b i = some v) (hd : h.cell d j = some w) (he : binOp .eql .num v w = some (.bool q)) {K : AV → H → Prop} (hK : K (.bool (p && q)) h) :
    whenA (.bool p) true (fun K => valA (faA i (.ptr b 0)) h K) h fun t11 h =>
    whenA (.bool p) true (fun K => valA (ldA h none t11) h K) h fun t12 h =>
    whenA (.bool p) true (fun K => valA (faA j (.ptr d 0)) h K) h fun t13 h =>
    whenA (.bool p) true (fun K => valA (ldA h none t13) h K) h fun t14 h =>
    whenA (.bool p) true (fun K => valA (binOp .eql .num t12 t14) h K) h fun t15 h =>
    valA (pickA (.bool p) t15 (.bool false)) h K := by
  cases p with
  | true => simp only [whenA_tt, faA_p, valA_some, ldA_n, Nat.zero_add, hc, hd, he, pickA_b, if_true]; exact hK
  | false => simp only [whenA_ft, pickA_b, valA_some]; exact hK
theorem chunkF {p q : Bool} {b d i j F : Nat} {v w : AV} {ar : List AV} (hc : h.cell b i = some v) (hd : h.cell d j = some w) {K : AV → H → Prop} (hX : ∀ K' : AV → H → Prop, (∀ h', Fr [] h h' → K' (.bool q) h') → C F (v :: w :: ar) h K') (hK : ∀ h', Fr [] h h' → K (.bool (p && q)) h') :
    whenA (.bool p) true (fun K => valA (faA i (.ptr b 0)) h K) h fun t11 h =>
    whenA (.bool p) true (fun K => valA (ldA h none t11) h K) h fun t12 h =>
    whenA (.bool p) true (fun K => valA (faA j (.ptr d 0)) h K) h fun t13 h =>
    whenA (.bool p) true (fun K => valA (ldA h none t13) h K) h fun t14 h =>
    whenA (.bool p) true (fun K => C F (t12 :: t14 :: ar) h K) h fun t15 h =>
    valA (pickA (.bool p) t15 (.bool false)) h K := by
  cases p with
  | true =>
    simp only [whenA_tt, faA_p, valA_some, ldA_n, Nat.zero_add, hc, hd]
    refine hX _ fun h' f => ?_
    rw [pickA_b, if_pos rfl, valA_some]; exact hK h' f
  | false => simp only [whenA_ft, pickA_b, valA_some]; exact hK h (Fr.refl _ _)
theorem eqI (x y : Int) : binOp .eql .num (.int .i64 x) (.int .i64 y) = some (.bool (eqB x y)) := by rw [b_eql, eqB_dec]
theorem eqS (x y : List UInt8) : binOp .eql .num (.str x) (.str y) = some (.bool (eqB x y)) := by rw [b_seql, eqB_dec]
/-- Two boxes. -/
theorem two_box {c d : List AV} {ty : Nat} (lc : leaves c = true) (ld : leaves d = true) {K : AV → AV → H → Prop} (hK : ∀ b e h', Fr [] h h' → (∀ h2, Fr [] h' h2 → ∀ o, h2.cell b o = c[o]?) → (∀ h2, Fr [] h' h2 → ∀ o, h2.cell e o = d[o]?) → (∀ h2, Fr [] h' h2 → h2.get b = some (.live c ty true) ∧ h2.get e = some (.live d ty true)) → K (.ptr b 0) (.ptr e 0) h') :
    boxA h (AV.cells (.agg c)) ty fun x h => boxA h (AV.cells (.agg d)) ty fun y h => K x y h := by
  show boxA h c ty fun x h => boxA h d ty fun y h => K x y h
  refine box_r lc fun b hb => ?_
  have f1 : Fr [] h (h.set b (.live c ty true)) := (Fr.refl _ _).set' hb
  have g1 : (h.set b (.live c ty true)).get b = some (.live c ty true) := H.get_same ..
  generalize h.set b (.live c ty true) = h1 at *
  refine box_r ld fun e he => ?_
  have f2 : Fr [] h1 (h1.set e (.live d ty true)) := (Fr.refl _ _).set' he
  have g2 : (h1.set e (.live d ty true)).get e = some (.live d ty true) := H.get_same ..
  have g1 := f2 b _ (by simp) g1
  generalize h1.set e (.live d ty true) = h2 at *
  exact hK b e h2 (f1.trans f2) (fun h3 f3 o => cell_of (f3 b _ (by simp) g1) o) (fun h3 f3 o => cell_of (f3 e _ (by simp) g2) o) fun h3 f3 => ⟨f3 b _ (by simp) g1, f3 e _ (by simp) g2⟩
theorem ty_eq {x y : Ty} {c d : List AV} (r : tyR h x c) (s : tyR h y d) (ok : x.ok) {K : AV → H → Prop} (hK : ∀ h', Fr [] h h' → K (.bool (eqB x y)) h') : C 53 [.agg c, .agg d] h K := by
  refine run53 ?_
  unfold sh53
  refine two_box r.leaves s.leaves fun b e h1 f cb ce _ => ?_
  obtain ⟨v, rfl, r1⟩ := r.fr f
  obtain ⟨w, rfl, s1⟩ := s.fr f
  refine fld_r (v := .bool x.imm) (by rw [cb h1 (Fr.refl _ _)]; rfl) ?_
  refine fld_r (v := .bool y.imm) (by rw [ce h1 (Fr.refl _ _)]; rfl) ?_
  rw [b_beql, valA_some, eqB_dec]
  refine chunkF (q := eqB x.sh y.sh) (by rw [cb h1 (Fr.refl _ _)]; rfl) (by rw [ce h1 (Fr.refl _ _)]; rfl) (fun K' hK' => ints_eq r1 s1 ok.1 (hK' h1 (Fr.refl _ _))) fun h2 f2 => ?_
  have := hK h2 (f.trans f2)
  rwa [← eqB_of (p := eqB x.imm y.imm && eqB x.sh y.sh) (by rw [Bool.and_eq_true, eqB_iff, eqB_iff]; cases x; cases y; simp)] at this
theorem shp_eq {x y : Shp} {c d : List AV} (r : shR h x c) (s : shR h y d) (ok : x.ok) {K : AV → H → Prop} (hK : ∀ h', Fr [] h h' → K (.bool (eqB x y)) h') : C 56 [.agg c, .agg d] h K := by
  refine run56 ?_
  unfold sh56
  refine two_box r.leaves s.leaves fun b e h1 f cb ce _ => ?_
  obtain ⟨v, rfl, r1⟩ := r.fr f
  obtain ⟨w, rfl, s1⟩ := s.fr f
  have cb := cb h1 (Fr.refl _ _)
  have ce := ce h1 (Fr.refl _ _)
  refine fld_r (v := .int .i64 x.kind) (by rw [cb]; rfl) ?_
  refine fld_r (v := .int .i64 y.kind) (by rw [ce]; rfl) ?_
  rw [eqI, valA_some]
  refine chunkV (q := eqB x.name y.name) (v := .str x.name) (w := .str y.name) (by rw [cb]; rfl) (by rw [ce]; rfl) (eqS _ _) ?_
  refine chunkF (q := eqB x.fs y.fs) (by rw [cb]; rfl) (by rw [ce]; rfl) (fun K' hK' => ints_eq r1 s1 ok.2.1.1 (hK' h1 (Fr.refl _ _))) fun h2 f2 => ?_
  have := hK h2 (f.trans f2)
  rwa [← eqB_of (p := (eqB x.kind y.kind && eqB x.name y.name) && eqB x.fs y.fs) (by simp only [Bool.and_eq_true, eqB_iff]; cases x; cases y; simp; grind)] at this
theorem ins_eq {x y : Ins} {c d : List AV} (r : insR h x c) (s : insR h y d) (ok : x.ok) {K : AV → H → Prop} (hK : ∀ h', Fr [] h h' → K (.bool (eqB x y)) h') : C 81 [.agg c, .agg d] h K := by
  refine run81 ?_
  unfold sh81
  refine two_box r.leaves s.leaves fun b e h1 f cb ce _ => ?_
  obtain ⟨v1, v2, v3, rfl, r1, r2, r3⟩ := r.fr f
  obtain ⟨w1, w2, w3, rfl, s1, s2, s3⟩ := s.fr f
  obtain ⟨_, o7, o8, o9⟩ := ok
  refine fld_r (v := .int .i64 x.op) (by rw [cb h1 (Fr.refl _ _)]; rfl) ?_
  refine fld_r (v := .int .i64 y.op) (by rw [ce h1 (Fr.refl _ _)]; rfl) ?_
  rw [eqI, valA_some]
  refine chunkV (q := eqB x.d y.d) (v := .int .i64 x.d) (w := .int .i64 y.d) (by rw [cb h1 (Fr.refl _ _)]; rfl) (by rw [ce h1 (Fr.refl _ _)]; rfl) (eqI _ _) ?_
  refine chunkV (q := eqB x.a y.a) (v := .int .i64 x.a) (w := .int .i64 y.a) (by rw [cb h1 (Fr.refl _ _)]; rfl) (by rw [ce h1 (Fr.refl _ _)]; rfl) (eqI _ _) ?_
  refine chunkV (q := eqB x.b y.b) (v := .int .i64 x.b) (w := .int .i64 y.b) (by rw [cb h1 (Fr.refl _ _)]; rfl) (by rw [ce h1 (Fr.refl _ _)]; rfl) (eqI _ _) ?_
  refine chunkV (q := eqB x.c y.c) (v := .int .i64 x.c) (w := .int .i64 y.c) (by rw [cb h1 (Fr.refl _ _)]; rfl) (by rw [ce h1 (Fr.refl _ _)]; rfl) (eqI _ _) ?_
  refine chunkV (q := eqB x.n y.n) (v := .int .i64 x.n) (w := .int .i64 y.n) (by rw [cb h1 (Fr.refl _ _)]; rfl) (by rw [ce h1 (Fr.refl _ _)]; rfl) (eqI _ _) ?_
  refine chunkF (q := eqB x.l y.l) (v := v1) (w := w1) (by rw [cb h1 (Fr.refl _ _)]; rfl) (by rw [ce h1 (Fr.refl _ _)]; rfl) (fun K' hK' => ints_eq r1 s1 o7.1 (hK' h1 (Fr.refl _ _))) fun h2 f2 => ?_
  refine chunkF (q := eqB x.m y.m) (v := v2) (w := w2) (by rw [cb h2 f2]; rfl) (by rw [ce h2 f2]; rfl) (fun K' hK' => ints_eq (r2.fr f2) (s2.fr f2) o8.1 (hK' h2 (Fr.refl _ _))) fun h3 f3 => ?_
  have f3 := f2.trans f3
  refine chunkF (q := eqB x.live y.live) (v := v3) (w := w3) (by rw [cb h3 f3]; rfl) (by rw [ce h3 f3]; rfl) (fun K' hK' => ints_eq (r3.fr f3) (s3.fr f3) o9.1 (hK' h3 (Fr.refl _ _))) fun h4 f4 => ?_
  have := hK h4 ((f.trans f3).trans f4)
  rwa [← eqB_of (p := ((((((((eqB x.op y.op && eqB x.d y.d) && eqB x.a y.a) && eqB x.b y.b) && eqB x.c y.c) && eqB x.n y.n) && eqB x.l y.l) && eqB x.m y.m) && eqB x.live y.live)) (by simp only [Bool.and_eq_true, eqB_iff]; cases x; cases y; simp; grind)] at this
theorem RowOf.with {α : Type} {esz : Nat} {R : α → List AV → Prop} {P : α → Prop} {v : AV} {l : List α} (r : RowOf h esz R v l) (hp : ∀ x ∈ l, P x) : RowOf h esz (fun x c => R x c ∧ P x) v l := r.mono (Fr.refl _ _) fun x hx c q => ⟨q, hp x hx⟩
theorem codes_eq {v1 v2 : AV} {l1 l2 : List Ins} (r1 : RowOf h 9 (insR h) v1 l1) (r2 : RowOf h 9 (insR h) v2 l2) (hl : l1.length ≤ reachBytes) (k1 : ∀ x ∈ l1, x.ok) (k2 : ∀ x ∈ l2, x.ok) {K : AV → H → Prop} (hK : ∀ h', Fr [] h h' → K (.bool (eqB l1 l2)) h') : C 80 [v1, v2, .fn 81 [] []] h K := by
  refine run80 ?_
  unfold sh80
  exact eqf_r (esz := 9) (ty := 24) (E := 81) (zs := [.int .i64 0, .int .i64 0, .int .i64 0, .int .i64 0, .int .i64 0, .int .i64 0, .nilsl, .nilsl, .nilsl]) (Rel := relIn) relIn_mono (fun r => r.1.leaves) rfl rfl (r1.with k1) (r2.with k2) hl (fun h' x y c d _ rx ry K hK => ins_eq rx.1 ry.1 rx.2 hK) hK
theorem blk_eq {x y : Blk} {c d : List AV} (r : blkR h x c) (s : blkR h y d) (ok : x.ok) (ok' : y.ok) {K : AV → H → Prop} (hK : ∀ h', Fr [] h h' → K (.bool (eqB x y)) h') : C 79 [.agg c, .agg d] h K := by
  refine run79 ?_
  unfold sh79
  refine two_box r.leaves s.leaves fun b e h1 f cb ce _ => ?_
  obtain ⟨v1, v2, rfl, r1, r2⟩ := r.fr f
  obtain ⟨w1, w2, rfl, s1, s2⟩ := s.fr f
  refine fld_r (v := v1) (by rw [cb h1 (Fr.refl _ _)]; rfl) ?_
  refine fld_r (v := w1) (by rw [ce h1 (Fr.refl _ _)]; rfl) ?_
  refine ints_eq r1 s1 ok.1.1 ?_
  refine chunkF (q := eqB x.code y.code) (v := v2) (w := w2) (by rw [cb h1 (Fr.refl _ _)]; rfl) (by rw [ce h1 (Fr.refl _ _)]; rfl) (fun K' hK' => codes_eq r2 s2 ok.2.1 ok.2.2 ok'.2.2 hK') fun h2 f2 => ?_
  have := hK h2 (f.trans f2)
  rwa [← eqB_of (p := eqB x.inn y.inn && eqB x.code y.code) (by rw [Bool.and_eq_true, eqB_iff, eqB_iff]; cases x; cases y; simp)] at this
theorem blks_eq {v1 v2 : AV} {l1 l2 : List Blk} (r1 : RowOf h 2 (blkR h) v1 l1) (r2 : RowOf h 2 (blkR h) v2 l2) (hl : l1.length ≤ reachBytes) (k1 : ∀ x ∈ l1, x.ok) (k2 : ∀ x ∈ l2, x.ok) {K : AV → H → Prop} (hK : ∀ h', Fr [] h h' → K (.bool (eqB l1 l2)) h') : C 78 [v1, v2, .fn 79 [] []] h K := by
  refine run78 ?_
  unfold sh78
  exact eqf_r (esz := 2) (ty := 58) (E := 79) (zs := [.nilsl, .nilsl]) (Rel := relBl) relBl_mono (fun r => r.1.leaves) rfl rfl (r1.with k1) (r2.with k2) hl (fun h' x y c d _ rx ry K hK => blk_eq rx.1 ry.1 rx.2 ry.2 hK) hK
theorem fn_eq {x y : Fn} {c d : List AV} (r : fnR h x c) (s : fnR h y d) (ok : x.ok) (ok' : y.ok) {K : AV → H → Prop} (hK : ∀ h', Fr [] h h' → K (.bool (eqB x y)) h') : C 59 [.agg c, .agg d] h K := by
  refine run59 ?_
  unfold sh59
  refine two_box r.leaves s.leaves fun b e h1 f cb ce _ => ?_
  obtain ⟨v1, v2, rfl, r1, r2⟩ := r.fr f
  obtain ⟨w1, w2, rfl, s1, s2⟩ := s.fr f
  obtain ⟨o1, o2, o3, o4, o5⟩ := ok
  obtain ⟨_, _, _, _, o5'⟩ := ok'
  refine fld_r (v := v1) (by rw [cb h1 (Fr.refl _ _)]; rfl) ?_
  refine fld_r (v := w1) (by rw [ce h1 (Fr.refl _ _)]; rfl) ?_
  refine ints_eq r1 s1 o1.1 ?_
  refine chunkV (q := eqB x.result y.result) (v := .int .i64 x.result) (w := .int .i64 y.result) (by rw [cb h1 (Fr.refl _ _)]; rfl) (by rw [ce h1 (Fr.refl _ _)]; rfl) (eqI _ _) ?_
  refine chunkV (q := eqB x.slots y.slots) (v := .int .i64 x.slots) (w := .int .i64 y.slots) (by rw [cb h1 (Fr.refl _ _)]; rfl) (by rw [ce h1 (Fr.refl _ _)]; rfl) (eqI _ _) ?_
  refine chunkF (q := eqB x.blocks y.blocks) (v := v2) (w := w2) (by rw [cb h1 (Fr.refl _ _)]; rfl) (by rw [ce h1 (Fr.refl _ _)]; rfl) (fun K' hK' => blks_eq r2 s2 o4 o5 o5' hK') fun h2 f2 => ?_
  have := hK h2 (f.trans f2)
  rwa [← eqB_of (p := ((eqB x.params y.params && eqB x.result y.result) && eqB x.slots y.slots) && eqB x.blocks y.blocks) (by simp only [Bool.and_eq_true, eqB_iff]; cases x; cases y; simp; grind)] at this
theorem fns_eq {v1 v2 : AV} {l1 l2 : List Fn} (r1 : RowOf h 4 (fnR h) v1 l1) (r2 : RowOf h 4 (fnR h) v2 l2) (hl : l1.length ≤ reachBytes) (k1 : ∀ x ∈ l1, x.ok) (k2 : ∀ x ∈ l2, x.ok) {K : AV → H → Prop} (hK : ∀ h', Fr [] h h' → K (.bool (eqB l1 l2)) h') : C 58 [v1, v2, .fn 59 [] []] h K := by
  refine run58 ?_
  unfold sh58
  exact eqf_r (esz := 4) (ty := 51) (E := 59) (zs := [.nilsl, .int .i64 0, .int .i64 0, .nilsl]) (Rel := relFn) relFn_mono (fun r => r.1.leaves) rfl rfl (r1.with k1) (r2.with k2) hl (fun h' x y c d _ rx ry K hK => fn_eq rx.1 ry.1 rx.2 ry.2 hK) hK
theorem shps_eq {v1 v2 : AV} {l1 l2 : List Shp} (r1 : RowOf h 3 (shR h) v1 l1) (r2 : RowOf h 3 (shR h) v2 l2) (hl : l1.length ≤ reachBytes) (k1 : ∀ x ∈ l1, x.ok) (k2 : ∀ x ∈ l2, x.ok) {K : AV → H → Prop} (hK : ∀ h', Fr [] h h' → K (.bool (eqB l1 l2)) h') : C 55 [v1, v2, .fn 56 [] []] h K := by
  refine run55 ?_
  unfold sh55
  exact eqf_r (esz := 3) (ty := 55) (E := 56) (zs := [.int .i64 0, .nilsl, .str []]) (Rel := relSh) relSh_mono (fun r => r.1.leaves) rfl rfl (r1.with k1) (r2.with k2) hl (fun h' x y c d _ rx ry K hK => shp_eq rx.1 ry.1 rx.2 hK) hK
theorem tys_eq {v1 v2 : AV} {l1 l2 : List Ty} (r1 : RowOf h 2 (tyR h) v1 l1) (r2 : RowOf h 2 (tyR h) v2 l2) (hl : l1.length ≤ reachBytes) (k1 : ∀ x ∈ l1, x.ok) (k2 : ∀ x ∈ l2, x.ok) {K : AV → H → Prop} (hK : ∀ h', Fr [] h h' → K (.bool (eqB l1 l2)) h') : C 52 [v1, v2, .fn 53 [] []] h K := by
  refine run52 ?_
  unfold sh52
  exact eqf_r (esz := 2) (ty := 53) (E := 53) (zs := [.bool false, .nilsl]) (Rel := relTy) relTy_mono (fun r => r.1.leaves) rfl rfl (r1.with k1) (r2.with k2) hl (fun h' x y c d _ rx ry K hK => ty_eq rx.1 ry.1 rx.2 hK) hK
theorem same_c {x y : Img} {c d : List AV} (r : imgR h x c) (s : imgR h y d) (ok : x.ok) (ok' : y.ok) {K : AV → H → Prop} (hK : ∀ h', Fr [] h h' → K (.bool (eqB x y)) h') : C 21 [.agg c, .agg d] h K := by
  refine run21 ?_
  unfold sh21
  refine two_box r.leaves s.leaves fun b e h1 f cb ce _ => ?_
  obtain ⟨v1, v2, v3, v4, v5, rfl, r1, r2, r3, r4, r5⟩ := r.fr f
  obtain ⟨w1, w2, w3, w4, w5, rfl, s1, s2, s3, s4, s5⟩ := s.fr f
  obtain ⟨⟨k1, k1'⟩, ⟨k2, k2'⟩, ⟨k3, k3'⟩, ⟨k4, k4'⟩, ⟨k5, k5'⟩, k6, k7⟩ := ok
  obtain ⟨⟨_, j1'⟩, ⟨_, j2'⟩, _, _, ⟨_, j5'⟩, _, _⟩ := ok'
  refine fld_r (v := v1) (by rw [cb h1 (Fr.refl _ _)]; rfl) ?_
  refine fld_r (v := w1) (by rw [ce h1 (Fr.refl _ _)]; rfl) ?_
  refine tys_eq r1 s1 k1 k1' j1' fun h2 f2 => ?_
  refine chunkF (q := eqB x.shapes y.shapes) (v := v2) (w := w2) (by rw [cb h2 f2]; rfl) (by rw [ce h2 f2]; rfl) (fun K' hK' => shps_eq (r2.mono f2 fun _ _ _ => shR.fr f2) (s2.mono f2 fun _ _ _ => shR.fr f2) k2 k2' j2' hK') fun h3 f3 => ?_
  have f3 := f2.trans f3
  refine chunkF (q := eqB x.strs y.strs) (v := v3) (w := w3) (by rw [cb h3 f3]; rfl) (by rw [ce h3 f3]; rfl) (fun K' hK' => strs_eq ((strs_row r3).fr f3) ((strs_row s3).fr f3) k3 (hK' h3 (Fr.refl _ _))) fun h4 f4 => ?_
  have f4 := f3.trans f4
  refine chunkF (q := eqB x.names y.names) (v := v4) (w := w4) (by rw [cb h4 f4]; rfl) (by rw [ce h4 f4]; rfl) (fun K' hK' => strs_eq ((strs_row r4).fr f4) ((strs_row s4).fr f4) k4 (hK' h4 (Fr.refl _ _))) fun h5 f5 => ?_
  have f5 := f4.trans f5
  refine chunkF (q := eqB x.fns y.fns) (v := v5) (w := w5) (by rw [cb h5 f5]; rfl) (by rw [ce h5 f5]; rfl) (fun K' hK' => fns_eq (r5.mono f5 fun _ _ _ => fnR.fr f5) (s5.mono f5 fun _ _ _ => fnR.fr f5) k5 k5' j5' hK') fun h6 f6 => ?_
  have f6 := f5.trans f6
  refine chunkV (q := eqB x.main y.main) (v := .int .i64 x.main) (w := .int .i64 y.main) (by rw [cb h6 f6]; rfl) (by rw [ce h6 f6]; rfl) (eqI _ _) ?_
  refine chunkV (q := eqB x.exn y.exn) (v := .int .i64 x.exn) (w := .int .i64 y.exn) (by rw [cb h6 f6]; rfl) (by rw [ce h6 f6]; rfl) (eqI _ _) ?_
  have := hK h6 (f.trans f6)
  rwa [← eqB_of (p := (((((eqB x.types y.types && eqB x.shapes y.shapes) && eqB x.strs y.strs) && eqB x.names y.names) && eqB x.fns y.fns) && eqB x.main y.main) && eqB x.exn y.exn) (by simp only [Bool.and_eq_true, eqB_iff]; cases x; cases y; simp; grind)] at this
theorem rsame_c {x y : Img} {c d : List AV} (r : imgR h x c) (s : imgR h y d) (ok : x.ok) (ok' : y.ok) (hx : (bytesI x).length ≤ most) (hy : (bytesI y).length ≤ most) {K : AV → H → Prop} (hK : ∀ h', Fr [] h h' → K (.bool (eqB (bytesI x) (bytesI y))) h') : C 22 [.agg c, .agg d] h K := by
  refine run22 ?_
  unfold sh22
  have lc := r.shape.1
  have ld := s.shape.1
  refine two_box r.leaves s.leaves fun b e h1 f cb ce g => ?_
  have rb : ∀ h2, Fr [] h1 h2 → h2.read b 0 7 = some c := fun h2 f2 => H.read_eq (g h2 f2).1 (by omega) (by rw [List.drop_zero, List.take_of_length_le (by omega)])
  have re : ∀ h2, Fr [] h1 h2 → h2.read e 0 7 = some d := fun h2 f2 => H.read_eq (g h2 f2).2 (by omega) (by rw [List.drop_zero, List.take_of_length_le (by omega)])
  rw [ldA_read (rb h1 (Fr.refl _ _)), valA_some, ldA_read (re h1 (Fr.refl _ _)), valA_some]
  refine bytes_w (r.fr f) ok hx fun v h2 w2 => ?_
  have f2 := w2.fr
  rw [ldA_read (re h2 f2)]
  simp only [go_sem, reduceIte, Nat.reduceAdd, Nat.reduceSub, Nat.reduceMul, Nat.reducePow, Nat.reduceLT, Nat.reduceLeDiff, Nat.reduceEqDiff, Int.reduceAdd, Int.reduceSub, Int.reduceMul, Int.reduceNeg, Int.reducePow, Int.reduceLT, Int.reduceLE, Int.reduceEq, Int.reduceNe, Int.reduceToNat, Int.toNat_natCast, Nat.zero_add, Nat.add_zero, Nat.mul_one, Nat.one_mul, Bool.not_true, Bool.not_false, ne_eq, not_true_eq_false, not_false_eq_true, Bool.false_eq_true, w2.ws.row.b2s]
  refine bytes_w (s.fr (f.trans f2)) ok' hy fun v' h3 w3 => ?_
  have f3 := w3.fr
  simp only [go_sem, reduceIte, Nat.reduceAdd, Nat.reduceSub, Nat.reduceMul, Nat.reducePow, Nat.reduceLT, Nat.reduceLeDiff, Nat.reduceEqDiff, Int.reduceAdd, Int.reduceSub, Int.reduceMul, Int.reduceNeg, Int.reducePow, Int.reduceLT, Int.reduceLE, Int.reduceEq, Int.reduceNe, Int.reduceToNat, Int.toNat_natCast, Nat.zero_add, Nat.add_zero, Nat.mul_one, Nat.one_mul, Bool.not_true, Bool.not_false, ne_eq, not_true_eq_false, not_false_eq_true, Bool.false_eq_true, (w2.ws.row.fr f3).b2s, w3.ws.row.b2s]
  have := hK h3 ((f.trans f2).trans f3)
  rwa [← eqB_of (p := decide ((bytesI x).map UInt8.ofNat = (bytesI y).map UInt8.ofNat)) (by rw [decide_eq_true_eq]; exact ⟨ofNat_inj (bytes_lt x) (bytes_lt y), fun e => by rw [e]⟩)] at this
end
end Go.Proofs.Ytgcnliikibbcnaa.X
set_option linter.unusedVariables false
set_option linter.unusedSimpArgs false
set_option maxRecDepth 20000
namespace Go.Proofs.Ytgcnliikibbcnaa.X
open Go Go.RowKit
section
variable {h : H}
/-- Not light, or too much beside it? -/
theorem chunkLg {lt : Bool} {v : AV} {n : Nat} {k : Int} (hn : lenA false v = some (.int .i64 n)) {K : AV → H → Prop} : (whenA (.bool !lt) false (fun K => K v h) h fun t18 h => whenA (.bool !lt) false (fun K => valA (lenA false t18) h K) h fun t19 h => whenA (.bool !lt) false (fun K => valA (binOp .gtr .num t19 (.int .i64 k)) h K) h fun t20 h =>
      valA (pickA (.bool !lt) (.bool true) t20) h K) = K (.bool (!lt || decide (k < (n : Int)))) h := by
  cases lt <;> simp only [go_sem, reduceIte, Nat.reduceAdd, Nat.reduceSub, Nat.reduceMul, Nat.reducePow, Nat.reduceLT, Nat.reduceLeDiff, Nat.reduceEqDiff, Int.reduceAdd, Int.reduceSub, Int.reduceMul, Int.reduceNeg, Int.reducePow, Int.reduceLT, Int.reduceLE, Int.reduceEq, Int.reduceNe, Int.reduceToNat, Int.toNat_natCast, Nat.zero_add, Nat.add_zero, Nat.mul_one, Nat.one_mul, Bool.not_true, Bool.not_false, ne_eq, not_true_eq_false, not_false_eq_true, Bool.false_eq_true, Bool.not_true, Bool.not_false, Bool.true_or, Bool.false_or, hn]
theorem law6 (h : H) (ls : List (List AV)) (hl : LiesA h [shM, .sl (.int .u8)] ls) (hs : Short lim ls) : C 6 (argsOf [shM, .sl (.int .u8)] ls) h yes := by
  obtain ⟨l0, ls, rfl, h0, hl⟩ := liesA_cons hl
  obtain ⟨l2, ls, rfl, h2, hl⟩ := liesA_cons hl
  obtain rfl := liesA_nil hl
  obtain ⟨m, r, ok⟩ := lies_img h0
  obtain ⟨bv, B, rfl, rB, ltB, lenB⟩ := lies_bytes h2
  obtain ⟨b3, b4⟩ := short_img hs (by simp) r
  show C 6 [.agg l0, bv] h yes
  refine run6 ?_
  unfold sh6
  refine img_box r fun b h1 f1 hb gb r1 rd => ?_
  rw [ldA_read (rd h1 (Fr.refl _ _)), valA_some]
  refine light_c r1 ok b3 b4 fun h2 lt f2 hlt => ?_
  have rB := (rB.fr f1).fr f2
  rw [u_not, valA_some, chunkLg rB.len]
  by_cases q : (!lt || decide (40000 < (B.length : Int))) = true
  · rw [q, condA_t]; exact lives_c fun _ _ => rfl
  rw [Bool.eq_false_iff.2 q, condA_f]
  have q : lt = true ∧ ¬ 40000 < (B.length : Int) := by simpa using q
  obtain ⟨rfl, hM⟩ := q
  have hw := light_le ok (hlt rfl)
  rw [ldA_read (rd h2 f2), valA_some]
  -- what comes behind: any bytes
  have back : ∀ {h4 : H}, Fr [] h2 h4 → C 20 [bv] h4 fun t50 h => valA (extA t50 0) h fun t51 h => valA (extA t50 1) h fun t52 h => boxA h [.nilsl, .nilsl, .nilsl, .nilsl, .nilsl, (.int .i64 0), (.int .i64 0)] 34 fun y9 h =>
      memA (stA h 7 y9 t51) .undef fun _ h => joinA (fun (h : H) => C 14 [] h fun t69 h => yes t69 h) fun J => valA (binOp .eql .num t52 (.int .i64 0)) h fun t54 h => condA t54
        (valA (ldA h (some 7) y9) h fun t56 h => C 16 [t56] h fun t57 h => valA (extA t57 0) h fun t58 h => valA (extA t57 1) h fun t59 h => valA (binOp .neq .num t59 (.int .i64 0)) h fun t61 h =>
        whenA t61 false (fun K => K t58 h) h fun t63 h => whenA t61 false (fun K => valA (b2sA h t63) h K) h fun t64 h => whenA t61 false (fun K => K bv h) h fun t65 h => whenA t61 false (fun K => valA (b2sA h t65) h K) h fun t66 h =>
        whenA t61 false (fun K => valA (binOp .neq .num t64 t66) h K) h fun t67 h => valA (pickA t61 (.bool true) t67) h fun t68 h => condA t68 (yes (.bool false) h) (J h)) (J h) := by
    intro h4 f4
    have rB := rB.fr f4
    refine decode_c rB ltB (by omega) fun h5 c5 f5 i5 o5 => ?_
    rw [ext2]
    refine imgbox_r i5 rfl rfl rfl fun d h6 f6 hd gd rd6 => ?_
    refine join_r (fun (J : H → Prop) => ∀ h', J h') (fun h' => lives_c fun _ _ => rfl) fun J hJ => ?_
    have rB6 := (rB.fr f5).fr f6
    by_cases hz : (decodeN B).2 = 0
    · obtain ⟨e1, e2⟩ := decode_bk ltB hz
      rw [hz, b_eql, valA_some, decide_eq_true rfl, condA_t, ldA_read rd6, valA_some]
      refine encode_c (i5.fr f6) o5 (by rw [e1, most_47]; omega) (fun q => absurd e2 q) fun _ v7 h7 f7 w7 => ?_
      rw [ext2]
      have s7 := w7.row.b2s
      rw [e1] at s7
      simp only [go_sem, reduceIte, Nat.reduceAdd, Nat.reduceSub, Nat.reduceMul, Nat.reducePow, Nat.reduceLT, Nat.reduceLeDiff, Nat.reduceEqDiff, Int.reduceAdd, Int.reduceSub, Int.reduceMul, Int.reduceNeg, Int.reducePow, Int.reduceLT, Int.reduceLE, Int.reduceEq, Int.reduceNe, Int.reduceToNat, Int.toNat_natCast, Nat.zero_add, Nat.add_zero, Nat.mul_one, Nat.one_mul, Bool.not_true, Bool.not_false, ne_eq, not_true_eq_false, not_false_eq_true, Bool.false_eq_true, s7, (rB6.fr f7).b2s]
      exact hJ h7
    · rw [b_eql, valA_some, decide_eq_false hz, condA_f]
      exact hJ h6
  by_cases hc : checkN m = 0
  · refine encode_c (r1.fr f2) ok hw.1 (fun q => absurd hc q) fun _ v h3 f3 ws => ?_
    rw [ext2]
    refine join_r (fun (J : H → Prop) => ∀ h', Fr [] h2 h' → J h') (fun h' f' => back f') fun J hJ => ?_
    rw [b_eql, valA_some, decide_eq_true rfl, condA_t]
    refine decode_c ws.row (bytes_lt m) (by omega) fun h4 c4 f4 i4 o4 => ?_
    rw [decode_fw ok hc] at i4 o4 ⊢
    rw [ext2]
    refine imgbox_r i4 rfl rfl rfl fun d h5 f5 hd gd rd5 => ?_
    have f25 := (f3.trans f4).trans f5
    have rm5 := rd h5 (f2.trans f25)
    simp only [go_sem, reduceIte, Nat.reduceAdd, Nat.reduceSub, Nat.reduceMul, Nat.reducePow, Nat.reduceLT, Nat.reduceLeDiff, Nat.reduceEqDiff, Int.reduceAdd, Int.reduceSub, Int.reduceMul, Int.reduceNeg, Int.reducePow, Int.reduceLT, Int.reduceLE, Int.reduceEq, Int.reduceNe, Int.reduceToNat, Int.toNat_natCast, Nat.zero_add, Nat.add_zero, Nat.mul_one, Nat.one_mul, Bool.not_true, Bool.not_false, ne_eq, not_true_eq_false, not_false_eq_true, Bool.false_eq_true, rd5, rm5]
    refine same_c (i4.fr f5) (r1.fr (f2.trans f25)) ok ok fun h6 f6 => ?_
    rw [eqB_self]
    have f26 := f25.trans f6
    have rd6 : h6.read d 0 7 = some c4 := H.read_eq (f6 d _ (by simp) gd) (by rw [i4.shape.1]; decide) (by rw [List.drop_zero, List.take_of_length_le (by rw [i4.shape.1]; decide)])
    have rm6 := rd h6 (f2.trans f26)
    simp only [go_sem, reduceIte, Nat.reduceAdd, Nat.reduceSub, Nat.reduceMul, Nat.reducePow, Nat.reduceLT, Nat.reduceLeDiff, Nat.reduceEqDiff, Int.reduceAdd, Int.reduceSub, Int.reduceMul, Int.reduceNeg, Int.reducePow, Int.reduceLT, Int.reduceLE, Int.reduceEq, Int.reduceNe, Int.reduceToNat, Int.toNat_natCast, Nat.zero_add, Nat.add_zero, Nat.mul_one, Nat.one_mul, Bool.not_true, Bool.not_false, ne_eq, not_true_eq_false, not_false_eq_true, Bool.false_eq_true, rd6, rm6]
    refine rsame_c ((i4.fr f5).fr f6) (r1.fr (f2.trans f26)) ok ok hw.1 hw.1 fun h7 f7 => ?_
    rw [eqB_self]
    simp only [go_sem, reduceIte, Nat.reduceAdd, Nat.reduceSub, Nat.reduceMul, Nat.reducePow, Nat.reduceLT, Nat.reduceLeDiff, Nat.reduceEqDiff, Int.reduceAdd, Int.reduceSub, Int.reduceMul, Int.reduceNeg, Int.reducePow, Int.reduceLT, Int.reduceLE, Int.reduceEq, Int.reduceNe, Int.reduceToNat, Int.toNat_natCast, Nat.zero_add, Nat.add_zero, Nat.mul_one, Nat.one_mul, Bool.not_true, Bool.not_false, ne_eq, not_true_eq_false, not_false_eq_true, Bool.false_eq_true]
    exact hJ h7 (f26.trans f7)
  · refine encode_c (r1.fr f2) ok hw.1 (fun _ h3 f3 => ?_) (fun q => absurd q hc)
    rw [ext2]
    refine join_r (fun (J : H → Prop) => ∀ h', Fr [] h2 h' → J h') (fun h' f' => back f') fun J hJ => ?_
    rw [b_eql, valA_some, decide_eq_false hc, condA_f]
    exact hJ h3 f3
end
end Go.Proofs.Ytgcnliikibbcnaa.X
