/- What the law law27 needs: texts of one's own, put together; functions' contracts and plain facts. -/
import Derived.Test.YtljkkfcokpimkaaT27E
set_option linter.unusedVariables false
set_option linter.unusedSimpArgs false
set_option maxRecDepth 20000
namespace Go.Proofs.Ytljkkfcokpimkaa.X
open Go Go.RowKit
def H.cutB (h : H) (S : List Nat) : H := ⟨fun k => if k ∈ S then none else h.get k, by
  obtain ⟨n, hn⟩ := h.fin
  exact ⟨n, fun k hk => by split; rfl; exact hn k hk⟩⟩
theorem cutB_out {h : H} {S : List Nat} {c : Nat} (hc : c ∉ S) : (h.cutB S).get c = h.get c := if_neg hc
theorem cutB_in {h : H} {S : List Nat} {c : Nat} (hc : c ∈ S) : (h.cutB S).get c = none := if_pos hc
section
variable {h0 h : H} {bx : Nat} {words : Int} {lays : List (Int × Int)} {BL : List Nat} {l : List RV}
theorem RefAt.below (R : RefAt h0 h bx words lays BL l) : Fr [] h0 (h.cutB (blocksR bx BL l)) ∧ RefAt (h.cutB (blocksR bx BL l)) h bx words lays BL l := by
  have f : Fr [] h0 (h.cutB (blocksR bx BL l)) := fun c o _ ho => by
    have hc : c ∉ blocksR bx BL l := fun q => by rw [R.new c q] at ho; cases ho
    rw [cutB_out hc]; exact R.fr c o (by simp) ho
  obtain ⟨lv, Lv, s1, s2, s3⟩ := R.st
  refine ⟨f, fun c o _ ho => ?_, ⟨lv, Lv, s1, s2.fr f, s3⟩, R.el, R.nd, fun c hc => cutB_in hc⟩
  by_cases hc : c ∈ blocksR bx BL l
  · rw [cutB_in hc] at ho; cases ho
  · rw [cutB_out hc] at ho; exact ho
theorem RefAt.ty (R : RefAt h0 h bx words lays BL l) {c : Nat} (hc : c ∈ blocksR bx BL l) {cs : List AV} {e : Nat} {w : Bool} (hg : h.get c = some (.live cs e w)) : e ≠ 3 := by
  obtain ⟨lv, Lv, s1, s2, s3⟩ := R.st
  have sl : ∀ {ty esz v B n cs'}, SlW h ty esz v B n cs' → c ∈ B → e = ty := fun o hB => by
    rcases o.2 with ⟨_, _, q⟩ | ⟨b, _, _, _, q, g⟩
    · rw [q] at hB; cases hB
    · rw [q] at hB; simp at hB; subst hB; rw [hg] at g; injection g with g; injection g
  simp only [blocksR, List.mem_cons, List.mem_append, List.mem_flatMap] at hc
  rcases hc with rfl | hc | ⟨x, hx, hc⟩
  · rw [s1] at hg; injection hg with hg; injection hg with _ hg _; omega
  · have := sl s3.w hc; omega
  · have hok := R.el x hx
    rcases List.mem_append.1 hc with q | q
    · have := sl hok.1 q; omega
    · have := sl hok.2 q; omega
end
theorem OwnW.keep {h1 h' h'' : H} {ty esz : Nat} {v : AV} {n : Nat} {cs : List AV} (o : OwnW h1 h' ty esz v n cs) (f : Fr [] h' h'') : OwnW h1 h'' ty esz v n cs := by
  obtain ⟨B, q1, q2, q3⟩ := o
  exact ⟨B, q1.fr f (by simp), fun c hc => ⟨(q2 c hc).1, f c _ (by simp) (q2 c hc).2⟩, q3⟩
theorem OwnW.one {h1 h' : H} {ty esz : Nat} {v : AV} {n : Nat} {cs : List AV} (o : OwnW h1 h' ty esz v n cs) : v.leaf = true ∧ v.cells = [v] := by
  obtain ⟨B, q1, q2, q3⟩ := o
  exact q1.one
end Go.Proofs.Ytljkkfcokpimkaa.X
set_option linter.unusedVariables false
set_option linter.unusedSimpArgs false
set_option maxRecDepth 20000
namespace Go.Proofs.Ytljkkfcokpimkaa.X
open Go Go.RowKit
theorem need_n {lays : List (Int × Int)} {i n r : Int} (h : needN lays i n = (r, 0)) : n ≤ 65536 := by
  unfold needN at h
  split at h
  · simp at h
  · split at h
    · simp at h
    · split at h
      · simp at h
      · omega
end Go.Proofs.Ytljkkfcokpimkaa.X
set_option linter.unusedVariables false
set_option linter.unusedSimpArgs false
set_option maxRecDepth 20000
namespace Go.Proofs.Ytljkkfcokpimkaa.X
open Go Go.RowKit
def plc (met : List Nat) (a : Nat) : List Nat × Nat := if a ∈ met then (met, met.idxOf a) else (met ++ [a], met.length)
def addW (s : List Nat × List Int) (w : Int) : List Nat × List Int := if w % 2 = 1 then (s.1, s.2 ++ [w]) else ((plc s.1 (w / 2).toNat).1, s.2 ++ [((plc s.1 (w / 2).toNat).2 : Int) * 2])
def textO (o : Ob) : List UInt8 := ((List.range o.n.toNat).map fun i => (byteW (o.body.getD (i / 8) 0) (i % 8)).toNat).map UInt8.ofNat
def txt (o : Ob) : List Int := (textO o).map fun c => (c.toNat : Int)
def obW (lays : List (Int × Int)) (o : Ob) (s : List Nat × List Int) : List Nat × List Int := if kindAt lays o.sh = 3 then (s.1, s.2 ++ [o.sh, o.n] ++ txt o) else o.body.foldl addW (s.1, s.2 ++ [o.sh, o.n])
def bfs (lays : List (Int × Int)) (os : List Ob) : Nat → Nat → List Nat × List Int → List Int
  | 0, _, s => s.2
  | k + 1, i, s => if i < s.1.length then (match findO os ((s.1.getD i 0 : Nat) : Int) with | some o => bfs lays os k (i + 1) (obW lays o s) | none => s.2) else s.2
section
variable {h hb : H} {b bw bd : Nat} {B : List Nat} {lays : List (Int × Int)} {n : Nat} {os : List Ob}
theorem text_h (t : HS h b bw bd B lays n os) {a : Int} {o : Ob} (hf : findO os a = some o) {K : AV → H → Prop} (hno : kindAt lays o.sh ≠ 3 → K (.tup [.str [], .int .i64 1]) h) (hyes : kindAt lays o.sh = 3 → ∀ h', Fr [] h h' → K (.tup [.str (textO o), .int .i64 0]) h') : C 71 [.ptr b 0, .int .i64 a] h K := by
  obtain ⟨s, hh, A, rfl, rfl⟩ := t
  refine text_a hh A a (fun q => hno (q o hf)) fun o' e k h' f => ?_
  rw [hf] at e; injection e with e; subst e
  have := hyes k h' f
  have hbd := A.body hf
  rw [if_pos k] at hbd
  have e : s.bytes a o.n.toNat = (List.range o.n.toNat).map fun i => (byteW (o.body.getD (i / 8) 0) (i % 8)).toNat := by
    unfold Hs.bytes
    apply List.map_congr_left
    intro i hi
    rw [List.mem_range] at hi
    rw [A.word hf (i / 8) (by omega)]
  rw [e]; exact this
theorem len_h (t : HS h b bw bd B lays n os) {a : Int} {o : Ob} (hf : findO os a = some o) (K : AV → H → Prop) : C 72 [.ptr b 0, .int .i64 a] h K = K (.tup [.int .i64 o.n, .int .i64 0]) h := by
  obtain ⟨s, hh, A, rfl, rfl⟩ := t
  rw [len_a hh A, hf]
structure Sg (os : List Ob) (hb h : H) (vm vo : AV) (s : List Nat × List Int) (N : Nat) : Prop where
  f : Fr [] hb h
  m : Own hb h 3 1 vm s.1.length (nc s.1)
  o : Own hb h 25 1 vo s.2.length (wc s.2)
  a : ∀ a ∈ s.1, AtO os a
  ml : s.1.length ≤ N
  ol : s.2.length ≤ N
theorem Sg.fr {vm vo : AV} {s : List Nat × List Int} {N : Nat} (S : Sg os hb h vm vo s N) {h' : H} (f : Fr [] h h') : Sg os hb h' vm vo s N :=
  ⟨S.f.trans f, S.m.keep fun k _ _ _ ob hg => f k ob (by simp) hg, S.o.keep fun k _ _ _ ob hg => f k ob (by simp) hg, S.a, S.ml, S.ol⟩
theorem Sg.more {vm vo : AV} {s : List Nat × List Int} {N M : Nat} (S : Sg os hb h vm vo s N) (hM : N ≤ M) : Sg os hb h vm vo s M := ⟨S.f, S.m, S.o, S.a, Nat.le_trans S.ml hM, Nat.le_trans S.ol hM⟩
theorem Sg.out {vm vo : AV} {s : List Nat × List Int} {N : Nat} (S : Sg os hb h vm vo s N) (hN : N ≤ 4000000000) {w : Int} {K : AV → H → Prop} (hK : ∀ v' h', Sg os hb h' vm v' (s.1, s.2 ++ [w]) (N + 1) → (∀ c cs w, h.get c = some (.live cs 5 w) → h'.get c = some (.live cs 5 w)) → K v' h') : mkslA h 25 1 (fillV [.int .u64 0] [(0, 1, .int .u64 w)]) (fun t h => appendA h 25 1 8 vo t K) := by
  have ef : fillV [AV.int .u64 0] [(0, 1, .int .u64 w)] = some [.int .u64 w] := rfl
  rw [ef]
  have hol := S.ol
  refine append_one (h0 := hb) S.o rfl (by decide) (wc_leaves _) rfl S.f (by unfold most; omega) fun v8 h8 o8 f8 k8 => ?_
  refine hK v8 h8 ⟨f8, S.m.keep fun k n' p e ob hg => k8 k ob hg ?_, ?_, S.a, Nat.le_succ_of_le S.ml, by simp; exact hol⟩ fun c cs w hg => k8 c _ hg (Own.ne S.o hg (by decide))
  · rcases S.m.2 with ⟨_, e2⟩ | ⟨k2, e2, _, g⟩
    · rw [e2] at e; cases e
    · rw [e2] at e; injection e with e; subst e
      rw [hg] at g; injection g with g; subst g
      exact Own.ne S.o hg (by decide)
  · have e : wc (s.2 ++ [w]) = wc s.2 ++ [.int .u64 w] := by simp [wc]
    show Own hb h8 25 1 v8 (s.2 ++ [w]).length (wc (s.2 ++ [w]))
    rw [e, List.length_append]; exact o8
theorem addW_keep {s : List Nat × List Int} {w : Int} {i a : Nat} (h : s.1[i]? = some a) : (addW s w).1[i]? = some a := by
  have hi := (List.getElem?_eq_some_iff.1 h).1
  unfold addW
  split
  · exact h
  · show (plc s.1 _).1[i]? = some a
    unfold plc
    split
    · exact h
    · show (s.1 ++ _)[i]? = some a
      rw [List.getElem?_append_left hi]; exact h
theorem Sg.place {vm vo : AV} {s : List Nat × List Int} {N : Nat} (S : Sg os hb h vm vo s N) (hN : N ≤ 4000000000) {a : Nat} (ha : AtO os a) {K : AV → H → Prop} (hK : ∀ v' h', Sg os hb h' v' vo ((plc s.1 a).1, s.2) (N + 1) → K (.tup [v', .int .i64 ((plc s.1 a).2 : Nat)]) h') : C 118 [vm, .int .i64 (a : Nat)] h K := by
  refine run118 ?_
  unfold sh118
  have hml := S.ml
  refine join_r (fun (J : H → Prop) => a ∉ s.1 → J h) (fun hna => ?_) fun J hJ => ?_
  · have ef : fillV [AV.int .i64 0] [(0, 1, .int .i64 (a : Nat))] = some [.int .i64 (a : Nat)] := rfl
    rw [ef]
    have ep : plc s.1 a = (s.1 ++ [a], s.1.length) := if_neg hna
    rw [ep] at hK
    refine append_one (h0 := hb) S.m rfl (by decide) (leaves_map _ (fun _ => rfl) _) rfl S.f (by unfold most; omega) fun v8 h8 o8 f8 k8 => ?_
    rw [S.m.row.len, valA_some]
    refine hK v8 h8 ⟨f8, ?_, S.o.keep fun k n' p e ob hg => k8 k ob hg ?_, fun c hc => ?_, by simp; exact hml, Nat.le_succ_of_le S.ol⟩
    · have e : nc (s.1 ++ [a]) = nc s.1 ++ [.int .i64 (a : Nat)] := by simp [nc]
      show Own hb h8 3 1 v8 (s.1 ++ [a]).length (nc (s.1 ++ [a]))
      rw [e, List.length_append]; exact o8
    · rcases S.o.2 with ⟨_, e2⟩ | ⟨k2, e2, _, g⟩
      · rw [e2] at e; cases e
      · rw [e2] at e; injection e with e; subst e
        rw [hg] at g; injection g with g; subst g
        exact Own.ne S.m hg (by decide)
    · rcases List.mem_append.1 hc with hc | hc
      · exact S.a c hc
      · simp at hc; rw [hc]; exact ha
  · rw [S.m.row.len, valA_some]
    refine loop_r (s.1.length + 1) (fun c ls h' => ∃ i : Nat, ls = [.int .i64 i] ∧ i ≤ s.1.length ∧ (∀ k, k < i → s.1[k]? ≠ some a) ∧ h' = h ∧ c = s.1.length + 1 - i) ⟨0, rfl, by omega, fun k hk => absurd hk (by omega), rfl, rfl⟩ ?_
    rintro c ls h' ⟨i, rfl, hi, hno, e, rfl⟩
    rw [e, argA_0, b_lss, valA_some]
    by_cases q : (i : Int) < s.1.length
    · have hi' : i < s.1.length := by omega
      obtain ⟨x, hx⟩ : ∃ x, s.1[i]? = some x := ⟨s.1[i], by simp [hi']⟩
      simp only [q, decide_true, condA_t]
      refine S.m.row.get (x := .int .i64 x) (by omega) q (by rw [Int.toNat_natCast]; unfold nc; rw [List.getElem?_map, hx]; rfl) ?_
      rw [b_eql, valA_some]
      by_cases hxa : x = a
      · subst hxa
        simp only [decide_true, condA_t]
        have hm : x ∈ s.1 := List.mem_of_getElem? hx
        have ep : plc s.1 x = (s.1, s.1.idxOf x) := if_pos hm
        have ei : s.1.idxOf x = i := by
          have h1 : s.1.idxOf x < s.1.length := List.idxOf_lt_length_of_mem hm
          have h2 : s.1[s.1.idxOf x]? = some x := by rw [List.getElem?_eq_getElem h1, List.getElem_idxOf]
          by_cases h3 : s.1.idxOf x < i
          · exact absurd h2 (hno _ h3)
          · have h4 : ¬ i < s.1.idxOf x := fun h5 => by
              have := List.not_of_lt_findIdx (p := (· == x)) (xs := s.1) (i := i) h5
              rw [List.getElem?_eq_getElem hi'] at hx
              injection hx with hx
              simp [hx] at this
            omega
        rw [ep, ei] at hK
        exact hK vm h (S.more (by omega))
      · have hne : ¬ ((x : Nat) : Int) = (a : Nat) := by omega
        have en : IntKind.i64.wrap ((i : Int) + 1) = ((i + 1 : Nat) : Int) := by rw [i64_id (by omega) (by omega)]; rfl
        simp only [hne, decide_false, condA_f]
        rw [b_add, en, valA_some]
        refine ⟨s.1.length + 1 - (i + 1), by omega, i + 1, rfl, by omega, fun k hk => ?_, rfl, rfl⟩
        by_cases hki : k = i
        · subst hki; rw [hx]; intro e; injection e with e; exact hxa e
        · exact hno k (by omega)
    · have : i = s.1.length := by omega
      subst this
      simp only [q, decide_false, condA_f]
      refine hJ fun hm => ?_
      obtain ⟨k, hk⟩ := List.getElem?_of_mem hm
      exact hno k (List.getElem?_eq_some_iff.1 hk).1 hk
theorem Sg.add {vm vo : AV} {s : List Nat × List Int} {N : Nat} (S : Sg os hb h vm vo s N) (hN : N ≤ 3000000000) {w : Int} (w0 : 0 ≤ w ∧ w < 18446744073709551616) (hf : fitsO os w = true) {J : AV → AV → H → Prop} (hJ : ∀ vm' vo' h', Sg os hb h' vm' vo' (addW s w) (N + 2) → J vm' vo' h') :
    C 48 [.int .u64 w] h fun t29 h => condA t29
      (mkslA h 25 1 (fillV [(.int .u64 0)] [(0, 1, .int .u64 w)]) fun t32 h => appendA h 25 1 8 vo t32 fun t33 h => J vm t33 h)
      (C 85 [.int .u64 w] h fun t37 h => C 118 [vm, t37] h fun t38 h => valA (extA t38 0) h fun t39 h => valA (extA t38 1) h fun t40 h => valA (cvA .u64 t40) h fun t43 h => valA (binOp .mul .num t43 (.int .u64 2)) h fun t44 h =>
        mkslA h 25 1 (fillV [(.int .u64 0)] [(0, 1, t44)]) fun t45 h => appendA h 25 1 8 vo t45 fun t46 h => J t39 t46 h) := by
  have t0 : ∀ a c : AV, extA (.tup [a, c]) 0 = some a := fun _ _ => rfl
  have t1 : ∀ a c : AV, extA (.tup [a, c]) 1 = some c := fun _ _ => rfl
  rw [isImm_c w0.1 w0.2]
  by_cases hw : w % 2 = 1
  · simp only [hw, decide_true, condA_t]
    have e : addW s w = (s.1, s.2 ++ [w]) := if_pos hw
    rw [e] at hJ
    exact S.out (by omega) fun v' h' S' _ => hJ vm v' h' (S'.more (by omega))
  · simp only [hw, decide_false, condA_f]
    have e : addW s w = ((plc s.1 (w / 2).toNat).1, s.2 ++ [((plc s.1 (w / 2).toNat).2 : Int) * 2]) := if_neg hw
    rw [e] at hJ
    have ha : AtO os (w / 2).toNat := by
      unfold fitsO at hf
      simp only [hw, decide_false, Bool.false_or] at hf
      unfold AtO
      rw [show (((w / 2).toNat : Nat) : Int) = w / 2 by omega]; exact hf
    rw [at_c w0.1 w0.2, show w / 2 = (((w / 2).toNat : Nat) : Int) by omega]
    refine S.place (by omega) ha fun v' h' S' => ?_
    have hk : (plc s.1 (w / 2).toNat).2 ≤ N := by
      unfold plc
      split
      · rename_i hm
        have := List.idxOf_lt_length_of_mem hm
        have := S.ml
        show s.1.idxOf _ ≤ N
        omega
      · exact S.ml
    rw [t0, valA_some, t1, valA_some, cvA_i, valA_some, u64_id (by omega) (by omega), b_mul, valA_some, u64_id (by omega) (by omega)]
    exact S'.out (by omega) fun v2 h2 S2 _ => hJ v' v2 h2 S2
end
end Go.Proofs.Ytljkkfcokpimkaa.X
set_option linter.unusedVariables false
set_option linter.unusedSimpArgs false
set_option maxRecDepth 20000
namespace Go.Proofs.Ytljkkfcokpimkaa.X
open Go Go.RowKit
section
variable {h hb : H} {b bw bd : Nat} {B : List Nat} {lays : List (Int × Int)} {n : Nat} {os : List Ob} {rts : List Int}
theorem HS.ob (t : HS h b bw bd B lays n os) {a : Int} {o : Ob} (hf : findO os a = some o) : (0 ≤ o.sh ∧ o.sh ≤ 512) ∧ (0 ≤ o.n ∧ o.n ≤ 65536) ∧ (kindAt lays o.sh ≠ 3 → (o.body.length : Int) = o.n) ∧ (∀ w ∈ o.body, 0 ≤ w ∧ w < 18446744073709551616) ∧ o ∈ os := by
  obtain ⟨s, hh, A, rfl, rfl⟩ := t
  have ho : o ∈ os := by obtain ⟨p, q, rfl, _⟩ := findO_split os _ o hf; simp
  have E := A.each o ho
  have hl := A.good.llen
  have hn := need_n E
  have q : ¬ (o.sh < 0 ∨ (s.lays.length : Int) ≤ o.sh ∨ o.n < 0) := fun q => by
    unfold needN at E; rw [if_pos q] at E; simp at E
  have hbd := A.body hf
  refine ⟨by omega, by omega, fun k => ?_, A.nonneg o ho, ho⟩
  rw [if_neg k] at hbd; omega
theorem Sg.out2 {vm vo : AV} {s : List Nat × List Int} {N : Nat} (S : Sg os hb h vm vo s N) (hN : N ≤ 4000000000) {x y : Int} {K : AV → H → Prop} (hK : ∀ v' h', Sg os hb h' vm v' (s.1, s.2 ++ [x, y]) (N + 2) → K v' h') : mkslA h 25 2 (fillV [.int .u64 0, .int .u64 0] [(0, 1, .int .u64 x), (1, 1, .int .u64 y)]) (fun t h => appendA h 25 1 8 vo t K) := by
  refine lit2 fun m h' f' _ r' => ?_
  have S' := S.fr f'
  have hol := S.ol
  refine append_own (h0 := hb) S'.o r'.src rfl (by decide) (wc_leaves _) (wc_leaves _) S'.f (by unfold most; omega) fun v8 h8 o8 f8 k8 => ?_
  refine hK v8 h8 ⟨f8, S'.m.keep fun k n' p e ob hg => k8 k ob hg ?_, ?_, S.a, Nat.le_trans S.ml (by omega), by simp; exact hol⟩
  · rcases S'.m.2 with ⟨_, e2⟩ | ⟨k2, e2, _, g⟩
    · rw [e2] at e; cases e
    · rw [e2] at e; injection e with e; subst e
      rw [hg] at g; injection g with g; subst g
      exact Own.ne S'.o hg (by decide)
  · have e : wc (s.2 ++ [x, y]) = wc s.2 ++ wc [x, y] := by simp [wc]
    show Own hb h8 25 1 v8 (s.2 ++ [x, y]).length (wc (s.2 ++ [x, y]))
    rw [e, List.length_append]; exact o8
theorem fold_take {s : List Nat × List Int} {L : List Int} {i : Nat} {w : Int} (h : L[i]? = some w) : (L.take (i + 1)).foldl addW s = addW ((L.take i).foldl addW s) w := by
  rw [List.take_add_one, h, List.foldl_append]; rfl
theorem sight_c (T : HS h b bw bd B lays n os) (fit : fitAll lays os) {v : AV} (hr : Row h v rts.length 1 (wc rts)) (hrl : rts.length ≤ 65536) (rr : ∀ w ∈ rts, 0 ≤ w ∧ w < 18446744073709551616) (hff : ∀ w ∈ rts, fitsO os w = true) {K : AV → H → Prop}
    (hK : ∀ h' vo, Fr [] h h' → Own h h' 25 1 vo (bfs lays os 1600 0 (rts.foldl addW ([], []))).length (wc (bfs lays os 1600 0 (rts.foldl addW ([], [])))) → (bfs lays os 1600 0 (rts.foldl addW ([], []))).length ≤ 4000000000 → K vo h') : C 94 [.ptr b 0, v] h K := by
  refine run94 ?_
  unfold sh94
  have t0 : ∀ a c : AV, extA (.tup [a, c]) 0 = some a := fun _ _ => rfl
  have t1 : ∀ a c : AV, extA (.tup [a, c]) 1 = some c := fun _ _ => rfl
  generalize hRES : bfs lays os 1600 0 (rts.foldl addW ([], [])) = RES at *
  refine join_r (fun (J : AV → AV → H → Prop) => ∀ vm vo h', Sg os h h' vm vo (rts.foldl addW ([], [])) 200000 → J vm vo h') (fun vm vo h1 S1 => ?_) fun J hJ => ?_
  · -- the objects met
    refine join_r (fun (J : AV → H → Prop) => ∀ vo h', Fr [] h h' → Own h h' 25 1 vo RES.length (wc RES) → RES.length ≤ 4000000000 → J vo h') (fun vo h' f o q => hK h' vo f o q) fun J hJ => ?_
    refine loop_r 1601 (fun c ls h' => ∃ (i : Nat) (vm vo : AV) (s : List Nat × List Int), ls = [vm, vo, .int .i64 i] ∧ i ≤ 1600 ∧ Sg os h h' vm vo s (200000 + i * 200000) ∧ bfs lays os (1600 - i) i s = RES ∧ c = 1601 - i) ⟨0, vm, vo, _, rfl, by omega, S1, hRES, rfl⟩ ?_
    clear S1 vm vo hRES hK
    rintro c ls h2 ⟨i, vm, vo, s, rfl, hi, S2, hB, rfl⟩
    have hol := S2.ol
    have hml := S2.ml
    rw [argA_0, argA_1, argA_2, S2.m.row.len, valA_some, b_lss, valA_some]
    by_cases q1 : (i : Int) < s.1.length
    · by_cases q2 : (i : Int) < 1600
      · have hi' : i < s.1.length := by omega
        obtain ⟨k, hk⟩ : ∃ k, 1600 - i = k + 1 := ⟨1599 - i, by omega⟩
        obtain ⟨a, ha⟩ : ∃ a, s.1[i]? = some a := ⟨s.1[i], by simp [hi']⟩
        have hat := S2.a a (List.mem_of_getElem? ha)
        obtain ⟨o, hf⟩ := Option.isSome_iff_exists.1 hat
        have T2 := T.fr0 S2.f
        obtain ⟨o1, o2, o3, o4, o5⟩ := T.ob hf
        rw [hk, bfs, if_pos hi', List.getD_eq_getElem?_getD, ha] at hB
        simp only [Option.getD_some, hf] at hB
        have en : IntKind.i64.wrap ((i : Int) + 1) = ((i + 1 : Nat) : Int) := by rw [i64_id (by omega) (by omega)]; rfl
        simp only [q1, q2, decide_true, whenA_tt, b_lss, valA_some, pickA_b, if_true, condA_t]
        refine join_r (fun (J2 : AV → AV → H → Prop) => ∀ vm' vo' h', Sg os h h' vm' vo' (obW lays o s) (200000 + (i + 1) * 200000) → J2 vm' vo' h') (fun vm' vo' h' S' => ?_) fun J2 hJ2 => ?_
        · rw [b_add, valA_some, en]
          exact ⟨1601 - (i + 1), by omega, i + 1, vm', vo', _, rfl, by omega, S', by rw [show 1600 - (i + 1) = k by omega]; exact hB, rfl⟩
        · have hga : (nc s.1)[(i : Int).toNat]? = some (.int .i64 (a : Nat)) := by rw [Int.toNat_natCast]; unfold nc; rw [List.getElem?_map, ha]; rfl
          obtain ⟨bm, om, i1, i2⟩ := S2.m.row.at (i := (i : Int)) (by omega) q1 hga
          have es : IntKind.u64.wrap o.sh = o.sh := u64_id (by omega) (by omega)
          have eN : IntKind.u64.wrap o.n = o.n := u64_id (by omega) (by omega)
          simp only [i1, valA_some, ldA_n, i2, shape_h T2 hf, t0, t1, len_h T2 hf, cvA_i, es, eN]
          refine S2.out2 (by omega) fun vo3 h3 S3 => ?_
          have T3 := T.fr0 S3.f
          obtain ⟨bm3, om3, j1, j2⟩ := S3.m.row.at (i := (i : Int)) (by omega) q1 hga
          have eij := (i1 .i64).symm.trans (j1 .i64)
          injection eij with eij
          injection eij with eij1 eij2
          subst eij1; subst eij2
          simp only [j2, valA_some]
          -- the fields, behind the text
          have fields : ∀ (err : Int) vo4 h4 (X : List Int), Sg os h h4 vm vo4 (s.1, s.2 ++ [o.sh, o.n] ++ X) (200000 + i * 200000 + 2 + 65536) → (kindAt lays o.sh = 3 → err = 0 ∧ X = txt o) → (kindAt lays o.sh ≠ 3 → err = 1 ∧ X = []) →
              loopA (fun N_117 l h => argA l 0 fun met5_118 => argA l 1 fun out6_119 => argA l 2 fun j19 => 
     valA (binOp .lss .num j19 (.int .i64 o.n)) h fun t107 h =>
     whenA t107 true (fun K => K (.int .i64 err) h) h fun t109 h =>
     whenA t107 true (fun K => valA (binOp .neq .num t109 (.int .i64 0)) h K) h fun t110 h =>
     valA (pickA t107 t110 (.bool false)) h fun t111 h =>
     condA t111
      (joinA (fun (met5'_120 : AV) (out6'_121 : AV) (h : H) =>
      valA (binOp .add .num j19 (.int .i64 1)) h fun t113 h =>
      N_117 [met5'_120, out6'_121, t113] h) fun J_154 =>
     valA (iaA 1 met5_118 (.int .i64 (i : Nat))) h fun t118 h =>
     valA (ldA h none t118) h fun t119 h =>
     C 64 [.ptr b 0, t119, j19] h fun t121 h =>
     valA (extA t121 0) h fun t122 h =>
     valA (extA t121 1) h fun t123 h =>
     C 48 [t122] h fun t125 h =>
     condA t125
      (mkslA h 25 1 (fillV [(.int .u64 0)] [(0, 1, t122)]) fun t128 h =>
      appendA h 25 1 8 out6_119 t128 fun t129 h =>
      J_154 met5_118 t129 h)
      (C 85 [t122] h fun t133 h =>
     C 118 [met5_118, t133] h fun t134 h =>
     valA (extA t134 0) h fun t135 h =>
     valA (extA t134 1) h fun t136 h =>
     valA (cvA .u64 t136) h fun t139 h =>
     valA (binOp .mul .num t139 (.int .u64 2)) h fun t140 h =>
     mkslA h 25 1 (fillV [(.int .u64 0)] [(0, 1, t140)]) fun t141 h =>
     appendA h 25 1 8 out6_119 t141 fun t142 h =>
     J_154 t135 t142 h))
      (J2 met5_118 out6_119 h)) [vm, vo4, .int .i64 0] h4 := fun err vo4 h4 X S4 hk3 hkn => by
            by_cases k3 : kindAt lays o.sh = 3
            · obtain ⟨rfl, rfl⟩ := hk3 k3
              refine loop_r 1 (fun c ls h' => ls = [vm, vo4, .int .i64 0] ∧ h' = h4) ⟨rfl, rfl⟩ ?_
              rintro c ls h' ⟨rfl, rfl⟩
              rw [argA_0, argA_1, argA_2, b_lss, valA_some]
              have hJ3 := hJ2 vm vo4 h' (by
                have e : obW lays o s = (s.1, s.2 ++ [o.sh, o.n] ++ txt o) := if_pos k3
                rw [e]; exact S4.more (by omega))
              have n00 : ¬ ((0 : Int) ≠ 0) := by decide
              by_cases q : (0 : Int) < o.n
              · simp only [q, decide_true, whenA_tt, b_neq, valA_some, n00, decide_false, pickA_b, if_true, condA_f]
                exact hJ3
              · simp only [q, decide_false, whenA_ft, pickA_b, Bool.false_eq_true, if_false, valA_some, condA_f]
                exact hJ3
            · obtain ⟨rfl, rfl⟩ := hkn k3
              rw [List.append_nil] at S4
              have o3 := o3 k3
              refine loop_r (o.body.length + 1) (fun c ls h' => ∃ (j : Nat) (vm' vo' : AV), ls = [vm', vo', .int .i64 j] ∧ j ≤ o.body.length ∧ Sg os h h' vm' vo' ((o.body.take j).foldl addW (s.1, s.2 ++ [o.sh, o.n])) (200000 + i * 200000 + 2 + 65536 + 2 * j) ∧ (((o.body.take j).foldl addW (s.1, s.2 ++ [o.sh, o.n])).1)[i]? = some a ∧ c = o.body.length + 1 - j) ⟨0, vm, vo4, rfl, by omega, S4, ha, rfl⟩ ?_
              rintro c ls h' ⟨j, vm', vo', rfl, hj, S5, ha5, rfl⟩
              rw [argA_0, argA_1, argA_2, b_lss, valA_some]
              have n10 : (1 : Int) ≠ 0 := by decide
              by_cases q : (j : Int) < o.n
              · have hj' : j < o.body.length := by omega
                obtain ⟨w, hw⟩ : ∃ w, o.body[j]? = some w := ⟨o.body[j], by simp [hj']⟩
                have hwm := List.mem_of_getElem? hw
                have en2 : IntKind.i64.wrap ((j : Int) + 1) = ((j + 1 : Nat) : Int) := by rw [i64_id (by omega) (by omega)]; rfl
                have T5 := T.fr0 S5.f
                simp only [q, decide_true, whenA_tt, b_neq, valA_some, n10, pickA_b, if_true, condA_t, ne_eq, not_false_eq_true]
                have ft := fold_take (s := (s.1, s.2 ++ [o.sh, o.n])) hw
                refine join_r (fun (J3 : AV → AV → H → Prop) => ∀ vm' vo' h', Sg os h h' vm' vo' ((o.body.take (j + 1)).foldl addW (s.1, s.2 ++ [o.sh, o.n])) (200000 + i * 200000 + 2 + 65536 + 2 * (j + 1)) → J3 vm' vo' h') (fun vm6 vo6 h6 S6 => ?_) fun J3 hJ3 => ?_
                · rw [b_add, valA_some, en2]
                  refine ⟨o.body.length + 1 - (j + 1), by omega, j + 1, vm6, vo6, rfl, by omega, S6, ?_, rfl⟩
                  rw [ft]
                  exact addW_keep ha5
                · have hl5 := (List.getElem?_eq_some_iff.1 ha5).1
                  obtain ⟨bm5, om5, u1, u2⟩ := S5.m.row.at (i := (i : Int)) (x := .int .i64 (a : Nat)) (by omega) (by omega) (by rw [Int.toNat_natCast]; unfold nc; rw [List.getElem?_map, ha5]; rfl)
                  have gv : o.body.getD (j : Int).toNat 0 = w := by rw [Int.toNat_natCast, List.getD_eq_getElem?_getD, hw]; rfl
                  simp only [u1, valA_some, ldA_n, u2, get_h T5 hf k3 (by omega) q, gv, t0, t1]
                  refine S5.add (by omega) (o4 w hwm) (fit o o5 k3 w hwm) fun vm6 vo6 h6 S6 => ?_
                  rw [← ft] at S6
                  exact hJ3 vm6 vo6 h6 (S6.more (by omega))
              · have : j = o.body.length := by omega
                subst this
                simp only [q, decide_false, whenA_ft, pickA_b, Bool.false_eq_true, if_false, valA_some, condA_f]
                rw [List.take_length] at S5
                have e : obW lays o s = o.body.foldl addW (s.1, s.2 ++ [o.sh, o.n]) := if_neg k3
                exact hJ2 vm' vo' h' (by rw [e]; exact S5.more (by omega))
          -- the text
          have text : ∀ (tx : List UInt8) (err : Int) h4, Fr [] h3 h4 → tx.length ≤ 65536 → (kindAt lays o.sh = 3 → err = 0 ∧ tx.map (fun c => (c.toNat : Int)) = txt o) → (kindAt lays o.sh ≠ 3 → err = 1 ∧ tx = []) → ∀ (J5 : AV → H → Prop), (∀ vo4 h4 X, Sg os h h4 vm vo4 (s.1, s.2 ++ [o.sh, o.n] ++ X) (200000 + i * 200000 + 2 + 65536) → (kindAt lays o.sh = 3 → err = 0 ∧ X = txt o) → (kindAt lays o.sh ≠ 3 → err = 1 ∧ X = []) → J5 vo4 h4) →
              s2bA h4 5 (.str tx) fun t93 h =>
              valA (lenA false t93) h fun t94 h =>
              loopA (fun N_156 l h => argA l 0 fun out6_157 => argA l 1 fun t95 =>
              valA (binOp .lss .num t95 t94) h fun t96 h =>
              condA t96
              (valA (iaA 1 t93 t95) h fun t97 h =>
              valA (ldA h none t97) h fun t98 h =>
              valA (cvA .u64 t98) h fun t101 h =>
              mkslA h 25 1 (fillV [(.int .u64 0)] [(0, 1, t101)]) fun t102 h =>
              appendA h 25 1 8 out6_157 t102 fun t103 h =>
              valA (binOp .add .num t95 (.int .i64 1)) h fun t104 h =>
              N_156 [t103, t104] h)
              (J5 out6_157 h)) [vo3, (.int .i64 0)] h := fun tx err h4 f4 htx hk3 hkn J5 hJ5 => by
            refine ⟨leaves_map _ (fun _ => rfl) tx, fun bt hbt => ?_⟩
            have f5 : Fr [] h4 (h4.set bt (.live (tx.map fun c => AV.int .u8 c.toNat) 5 true)) := Fr.new hbt
            have rt : Row (h4.set bt (.live (tx.map fun c => AV.int .u8 c.toNat) 5 true)) (.sl bt 0 tx.length (.more 1)) tx.length 1 (tx.map fun c => AV.int .u8 c.toNat) := ⟨by simp, .inr ⟨bt, 0, _, rfl, rfl, H.read_eq (H.get_same ..) (by simp) (by rw [List.drop_zero, List.take_of_length_le (by simp)])⟩⟩
            have gt : (h4.set bt (.live (tx.map fun c => AV.int .u8 c.toNat) 5 true)).get bt = some (.live (tx.map fun c => AV.int .u8 c.toNat) 5 true) := H.get_same ..
            generalize h4.set bt (.live (tx.map fun c => AV.int .u8 c.toNat) 5 true) = h5 at *
            have S5 := S3.fr (f4.trans f5)
            simp only [rt.len, valA_some]
            refine loop_r (tx.length + 1) (fun c ls h' => ∃ (j : Nat) (vo' : AV), ls = [vo', .int .i64 j] ∧ j ≤ tx.length ∧ h'.get bt = some (.live (tx.map fun c => AV.int .u8 c.toNat) 5 true) ∧ Sg os h h' vm vo' (s.1, s.2 ++ [o.sh, o.n] ++ (tx.take j).map (fun c => (c.toNat : Int))) (200000 + i * 200000 + 2 + j) ∧ c = tx.length + 1 - j) ⟨0, vo3, rfl, by omega, gt, by simpa using S5, rfl⟩ ?_
            rintro c ls h6 ⟨j, vo', rfl, hj, g6, S6, rfl⟩
            rw [argA_0, argA_1, b_lss, valA_some]
            by_cases q : (j : Int) < tx.length
            · have hj' : j < tx.length := by omega
              obtain ⟨cb, hcb⟩ : ∃ cb, tx[j]? = some cb := ⟨tx[j], by simp [hj']⟩
              have en2 : IntKind.i64.wrap ((j : Int) + 1) = ((j + 1 : Nat) : Int) := by rw [i64_id (by omega) (by omega)]; rfl
              have hc8 : cb.toNat < 256 := cb.toNat_lt
              have rt6 : Row h6 (.sl bt 0 tx.length (.more 1)) tx.length 1 (tx.map fun c => AV.int .u8 c.toNat) := ⟨by simp, .inr ⟨bt, 0, _, rfl, rfl, H.read_eq g6 (by simp) (by rw [List.drop_zero, List.take_of_length_le (by simp)])⟩⟩
              simp only [q, decide_true, condA_t]
              refine rt6.get (x := .int .u8 cb.toNat) (by omega) q (by rw [Int.toNat_natCast, List.getElem?_map, hcb]; rfl) ?_
              rw [cvA_i, valA_some, u64_id (by omega) (by omega)]
              refine S6.out (by omega) fun v8 h8 S8 k8 => ?_
              rw [b_add, valA_some, en2]
              have e8 : (s.1, s.2 ++ [o.sh, o.n] ++ (tx.take j).map (fun c => (c.toNat : Int)) ++ [((cb.toNat : Nat) : Int)]) = (s.1, s.2 ++ [o.sh, o.n] ++ (tx.take (j + 1)).map (fun c => (c.toNat : Int))) := by
                rw [List.take_add_one, hcb]; simp
              have S9 : Sg os h h8 vm v8 (s.1, s.2 ++ [o.sh, o.n] ++ (tx.take (j + 1)).map (fun c => (c.toNat : Int))) (200000 + i * 200000 + 2 + j + 1) := by rw [← e8]; exact S8
              exact ⟨tx.length + 1 - (j + 1), by omega, j + 1, v8, rfl, by omega, k8 bt _ _ g6, S9.more (by omega), rfl⟩
            · have : j = tx.length := by omega
              subst this
              simp only [q, decide_false, condA_f]
              rw [List.take_length] at S6
              refine hJ5 vo' h6 _ (S6.more (by omega)) (fun k => hk3 k) fun k => ⟨(hkn k).1, by rw [(hkn k).2]; rfl⟩
          refine text_h T3 hf (fun k3 => ?_) fun k3 h4 f4 => ?_
          · rw [t0, valA_some, t1, valA_some]
            refine join_r (fun (J5 : AV → H → Prop) => ∀ vo4 h4 X, Sg os h h4 vm vo4 (s.1, s.2 ++ [o.sh, o.n] ++ X) (200000 + i * 200000 + 2 + 65536) → (kindAt lays o.sh = 3 → (1 : Int) = 0 ∧ X = txt o) → (kindAt lays o.sh ≠ 3 → (1 : Int) = 1 ∧ X = []) → J5 vo4 h4) (fun vo4 h4 X S4 a1 a2 => fields 1 vo4 h4 X S4 a1 a2) fun J5 hJ5 => ?_
            exact text [] 1 h3 (Fr.refl _ _) (by simp) (fun q => absurd q k3) (fun _ => ⟨rfl, rfl⟩) J5 hJ5
          · rw [t0, valA_some, t1, valA_some]
            refine join_r (fun (J5 : AV → H → Prop) => ∀ vo4 h4 X, Sg os h h4 vm vo4 (s.1, s.2 ++ [o.sh, o.n] ++ X) (200000 + i * 200000 + 2 + 65536) → (kindAt lays o.sh = 3 → (0 : Int) = 0 ∧ X = txt o) → (kindAt lays o.sh ≠ 3 → (0 : Int) = 1 ∧ X = []) → J5 vo4 h4) (fun vo4 h4 X S4 a1 a2 => fields 0 vo4 h4 X S4 a1 a2) fun J5 hJ5 => ?_
            exact text (textO o) 0 h4 f4 (by simp [textO]; omega) (fun _ => ⟨rfl, rfl⟩) (fun q => absurd k3 q) J5 hJ5
      · have : i = 1600 := by omega
        subst this
        simp only [q1, q2, decide_true, whenA_tt, b_lss, valA_some, pickA_b, if_true, condA_f, decide_false]
        have e : s.2 = RES := hB
        exact hJ vo h2 S2.f (by rw [← e]; exact S2.o) (by rw [← e]; omega)
    · simp only [q1, decide_false, whenA_ft, pickA_b, Bool.false_eq_true, if_false, valA_some, condA_f]
      have e : s.2 = RES := by
        cases hk : 1600 - i with
        | zero => rw [hk] at hB; exact hB
        | succ k => rw [hk, bfs, if_neg (by omega)] at hB; exact hB
      exact hJ vo h2 S2.f (by rw [← e]; exact S2.o) (by rw [← e]; omega)
  · -- the roots
    rw [hr.len, valA_some]
    refine loop_r (rts.length + 1) (fun c ls h' => ∃ (i : Nat) (vm vo : AV), ls = [vm, vo, .int .i64 i] ∧ i ≤ rts.length ∧ Sg os h h' vm vo ((rts.take i).foldl addW ([], [])) (2 * i) ∧ c = rts.length + 1 - i) ⟨0, .nilsl, .nilsl, rfl, by omega, ⟨Fr.refl _ _, Own.nil _ _ _ _, Own.nil _ _ _ _, (fun a ha => by cases ha), by simp, by simp⟩, rfl⟩ ?_
    rintro c ls h2 ⟨i, vm, vo, rfl, hi, S, rfl⟩
    rw [argA_0, argA_1, argA_2, b_lss, valA_some]
    by_cases q : (i : Int) < rts.length
    · have hi' : i < rts.length := by omega
      obtain ⟨w, hw⟩ : ∃ w, rts[i]? = some w := ⟨rts[i], by simp [hi']⟩
      have hwm := List.mem_of_getElem? hw
      have en : IntKind.i64.wrap ((i : Int) + 1) = ((i + 1 : Nat) : Int) := by rw [i64_id (by omega) (by omega)]; rfl
      have ft := fold_take (s := (([] : List Nat), ([] : List Int))) hw
      simp only [q, decide_true, condA_t]
      refine join_r (fun (J2 : AV → AV → H → Prop) => ∀ vm' vo' h', Sg os h h' vm' vo' ((rts.take (i + 1)).foldl addW ([], [])) (2 * (i + 1)) → J2 vm' vo' h') (fun vm' vo' h' S' => ?_) fun J2 hJ2 => ?_
      · rw [b_add, valA_some, en]
        exact ⟨rts.length + 1 - (i + 1), by omega, i + 1, vm', vo', rfl, by omega, S', rfl⟩
      · refine (hr.fr S.f).get (x := .int .u64 w) (by omega) q (by rw [Int.toNat_natCast, wc_get, hw]; rfl) ?_
        refine S.add (by omega) (rr w hwm) (hff w hwm) fun vm6 vo6 h6 S6 => ?_
        rw [← ft] at S6
        exact hJ2 vm6 vo6 h6 (S6.more (by omega))
    · have : i = rts.length := by omega
      subst this
      simp only [q, decide_false, condA_f]
      rw [List.take_length] at S
      exact hJ vm vo h2 (S.more (by omega))
end
end Go.Proofs.Ytljkkfcokpimkaa.X
set_option linter.unusedVariables false
set_option linter.unusedSimpArgs false
set_option maxRecDepth 20000
namespace Go.Proofs.Ytljkkfcokpimkaa.X
open Go Go.RowKit
theorem fwd_inj {lays : List (Int × Int)} {R : Nat → Bool} : ∀ (os : List Ob) (p to a b : Nat) (o1 o2 : Ob), findO os (a : Int) = some o1 → findO os (b : Int) = some o2 → R (p + a) = true → R (p + b) = true → fwdN R os p to (p + a) = fwdN R os p to (p + b) → a = b
  | [], p, to, a, b, o1, o2, h, _, _, _, _ => by simp [findO] at h
  | x :: os, p, to, a, b, o1, o2, ha, hb, Ra, Rb, e => by
    have hx := row_pos x
    have tail : ∀ (c : Nat) o, findO (x :: os) (c : Int) = some o → c ≠ 0 → ∃ d, c = x.row.length + d ∧ findO os (d : Int) = some o := fun c o h h0 => by
      rw [findO, if_neg (by omega)] at h
      have hl := (findO_lt _ _ _ h).1
      refine ⟨c - x.row.length, by omega, ?_⟩
      rw [show ((c - x.row.length : Nat) : Int) = (c : Int) - x.row.length by omega]; exact h
    have big : ∀ (d : Nat) o, findO os (d : Int) = some o → R (p + x.row.length + d) = true → ∀ to', to' ≤ fwdN R os (p + x.row.length) to' (p + x.row.length + d) := fun d o h hR to' => (new_find (lays := lays) (fwd := fun a => a) (R := R) os (p + x.row.length) to' d o h hR).1
    by_cases a0 : a = 0
    · by_cases b0 : b = 0
      · rw [a0, b0]
      · exfalso
        subst a0
        obtain ⟨d, rfl, hd⟩ := tail b o2 hb b0
        rw [fwdN, fwdN, if_pos (by omega), if_neg (by omega), if_pos (show R p = true from Ra)] at e
        have := big d o2 hd (by rw [Nat.add_assoc]; exact Rb) (to + x.row.length)
        rw [Nat.add_assoc] at this
        omega
    · by_cases b0 : b = 0
      · exfalso
        subst b0
        obtain ⟨d, rfl, hd⟩ := tail a o1 ha a0
        rw [fwdN, fwdN, if_neg (show ¬ (p + (x.row.length + d) = p) by omega), if_pos (show R p = true from Rb), if_pos (show p + 0 = p from rfl)] at e
        have := big d o1 hd (by rw [Nat.add_assoc]; exact Ra) (to + x.row.length)
        rw [Nat.add_assoc] at this
        omega
      · obtain ⟨d, rfl, hd⟩ := tail a o1 ha a0
        obtain ⟨d2, rfl, hd2⟩ := tail b o2 hb b0
        rw [fwdN, fwdN, if_neg (show ¬ (p + (x.row.length + d) = p) by omega), if_neg (show ¬ (p + (x.row.length + d2) = p) by omega)] at e
        have := fwd_inj (lays := lays) os (p + x.row.length) (if R p then to + x.row.length else to) d d2 o1 o2 hd hd2 (by rw [Nat.add_assoc]; exact Ra) (by rw [Nat.add_assoc]; exact Rb) (by rw [Nat.add_assoc, Nat.add_assoc]; exact e)
        rw [this]
section
variable {lays : List (Int × Int)} {os : List Ob} {rts : List Int} {R : Nat → Bool}
def goodA (os : List Ob) (R : Nat → Bool) (a : Nat) : Prop := R a = true ∧ AtO os a
theorem fw_inj {a b : Nat} (ha : goodA os R a) (hb : goodA os R b) (e : fw R os a = fw R os b) : a = b := by
  obtain ⟨o1, h1⟩ := Option.isSome_iff_exists.1 ha.2
  obtain ⟨o2, h2⟩ := Option.isSome_iff_exists.1 hb.2
  refine fwd_inj (lays := []) (R := R) os 0 0 a b o1 o2 h1 h2 (by rw [Nat.zero_add]; exact ha.1) (by rw [Nat.zero_add]; exact hb.1) ?_
  rw [Nat.zero_add, Nat.zero_add]; exact e
theorem idx_map2 {met : List Nat} (hm : ∀ a ∈ met, goodA os R a) {a : Nat} (ha : goodA os R a) : (met.map (fw R os)).idxOf (fw R os a) = met.idxOf a ∧ (fw R os a ∈ met.map (fw R os) ↔ a ∈ met) := by
  induction met with
  | nil => simp
  | cons x met ih =>
    obtain ⟨i1, i2⟩ := ih fun b hb => hm b (by simp [hb])
    have hx := hm x (by simp)
    have hxa : (fw R os x = fw R os a) ↔ x = a := ⟨fw_inj hx ha, fun e => by rw [e]⟩
    refine ⟨?_, ?_⟩
    · rw [List.map_cons, List.idxOf_cons, List.idxOf_cons, i1]
      by_cases e : x = a
      · subst e; simp
      · have e' : ¬ fw R os x = fw R os a := fun q => e (hxa.1 q)
        have b1 : (x == a) = false := by simpa using e
        have b2 : (fw R os x == fw R os a) = false := by simpa using e'
        rw [b1, b2]
    · rw [List.map_cons, List.mem_cons, List.mem_cons, i2]
      constructor
      · rintro (q | q)
        · exact .inl (fw_inj ha hx q)
        · exact .inr q
      · rintro (q | q)
        · exact .inl (by rw [q])
        · exact .inr q
def Vw (os : List Ob) (R : Nat → Bool) (s s' : List Nat × List Int) : Prop := s'.1 = s.1.map (fw R os) ∧ s'.2 = s.2 ∧ ∀ a ∈ s.1, goodA os R a
theorem plc_good {met : List Nat} (hm : ∀ a ∈ met, goodA os R a) {a : Nat} (ha : goodA os R a) : plc (met.map (fw R os)) (fw R os a) = ((plc met a).1.map (fw R os), (plc met a).2) ∧ ∀ b ∈ (plc met a).1, goodA os R b := by
  obtain ⟨i1, i2⟩ := idx_map2 hm ha
  unfold plc
  by_cases h : a ∈ met
  · rw [if_pos h, if_pos (i2.2 h), i1]
    exact ⟨rfl, hm⟩
  · rw [if_neg h, if_neg fun q => h (i2.1 q)]
    refine ⟨by simp, fun b hb => ?_⟩
    rcases List.mem_append.1 hb with hb | hb
    · exact hm b hb
    · simp at hb; rw [hb]; exact ha
theorem addW_good {s s' : List Nat × List Int} (V : Vw os R s s') {w : Int} (hw : w % 2 ≠ 1 → goodA os R (w / 2).toNat) : Vw os R (addW s w) (addW s' (fwdW (fw R os) w)) := by
  obtain ⟨v1, v2, v3⟩ := V
  by_cases h : w % 2 = 1
  · have e : fwdW (fw R os) w = w := by unfold fwdW; rw [if_pos h]
    rw [e]
    unfold addW
    rw [if_pos h, if_pos h, v2]
    exact ⟨v1, rfl, v3⟩
  · have e : fwdW (fw R os) w = ((fw R os (w / 2).toNat : Nat) : Int) * 2 := by unfold fwdW; rw [if_neg h]
    obtain ⟨p1, p2⟩ := plc_good v3 (hw h)
    unfold addW
    rw [e, if_neg h, if_neg (by omega), show (((fw R os (w / 2).toNat : Nat) : Int) * 2 / 2).toNat = fw R os (w / 2).toNat by omega, v1, p1, v2]
    exact ⟨rfl, rfl, p2⟩
theorem fold_good : ∀ (L : List Int) {s s' : List Nat × List Int}, Vw os R s s' → (∀ w ∈ L, w % 2 ≠ 1 → goodA os R (w / 2).toNat) → Vw os R (L.foldl addW s) ((L.map (fwdW (fw R os))).foldl addW s')
  | [], _, _, V, _ => V
  | w :: L, s, s', V, h => by
    rw [List.map_cons, List.foldl_cons, List.foldl_cons]
    exact fold_good L (addW_good V (h w (by simp))) fun u hu => h u (by simp [hu])
theorem bfs_good (hR : ∀ a, R a = true ↔ Rch lays os rts a) (fit : fitAll lays os) (hff : ∀ w ∈ rts, fitsO os w = true) : ∀ (k i : Nat) {s s' : List Nat × List Int}, Vw os R s s' → bfs lays (newO lays R os) k i s' = bfs lays os k i s
  | 0, i, s, s', V => V.2.1
  | k + 1, i, s, s', V => by
    obtain ⟨v1, v2, v3⟩ := V
    rw [bfs, bfs]
    have hl : s'.1.length = s.1.length := by rw [v1, List.length_map]
    by_cases h : i < s.1.length
    · rw [if_pos h, if_pos (by omega)]
      obtain ⟨a, ha⟩ : ∃ a, s.1[i]? = some a := ⟨s.1[i], by simp [h]⟩
      have ga := v3 a (List.mem_of_getElem? ha)
      obtain ⟨o, ho⟩ := Option.isSome_iff_exists.1 ga.2
      have e1 : s.1.getD i 0 = a := by rw [List.getD_eq_getElem?_getD, ha]; rfl
      have e2 : s'.1.getD i 0 = fw R os a := by rw [List.getD_eq_getElem?_getD, v1, List.getElem?_map, ha]; rfl
      rw [e1, e2, ho, fw_find hR ho ga.1]
      simp only
      refine bfs_good hR fit hff k (i + 1) ?_
      unfold obW
      by_cases k3 : kindAt lays o.sh = 3
      · have k3' : kindAt lays (newB lays (fw R os) o).sh = 3 := k3
        have et : txt (newB lays (fw R os) o) = txt o := by
          unfold txt textO newB
          simp only [k3, if_true]
        rw [if_pos k3, if_pos k3', et, v2]
        exact ⟨v1, rfl, v3⟩
      · have k3' : ¬ kindAt lays (newB lays (fw R os) o).sh = 3 := k3
        have eb : (newB lays (fw R os) o).body = o.body.map (fwdW (fw R os)) := by unfold newB; simp only [k3, if_false]
        rw [if_neg k3, if_neg k3', eb, v2]
        refine fold_good o.body ⟨v1, rfl, v3⟩ fun w hw hw1 => ?_
        have hr := Rch.fld ((hR a).1 ga.1) ho k3 hw hw1
        exact ⟨(hR _).2 hr, rch_at fit hff hr⟩
    · rw [if_neg h, if_neg (by omega)]; exact v2
theorem bfs_same (hR : ∀ a, R a = true ↔ Rch lays os rts a) (fit : fitAll lays os) (hff : ∀ w ∈ rts, fitsO os w = true) : bfs lays (newO lays R os) 1600 0 ((rts.map (fwdW (fw R os))).foldl addW ([], [])) = bfs lays os 1600 0 (rts.foldl addW ([], [])) := by
  refine bfs_good hR fit hff 1600 0 (fold_good rts ⟨rfl, rfl, fun a ha => by cases ha⟩ fun w hw hw1 => ?_)
  have hr := Rch.root (lays := lays) (os := os) hw hw1
  exact ⟨(hR _).2 hr, rch_at fit hff hr⟩
end
theorem law27 (h : H) (ls : List (List AV)) (hl : LiesA h [shCase] ls) : C 27 (argsOf [shCase] ls) h yes := by
  obtain ⟨l0, ls, rfl, g0, hl⟩ := liesA_cons hl
  obtain rfl := liesA_nil hl
  obtain ⟨v, L, vo, ops, vr, rs, rfl, hr, hm, hro, hops, hmo, hrw, hW, hmw⟩ := lies_case g0
  show C 27 [.agg [v, vo, vr]] h yes
  refine run27 ?_
  unfold sh27
  refine start_c hr hm hro hmo hops hrw hW hmw (fun h' => gcYes) fun h1 h2 h3 d b bw bd B s os bx BL l vv rts _ _ _ c hall => ?_
  clear g0 hr hm hro hops hmo hrw hW hmw
  have t0 : ∀ a c : AV, extA (.tup [a, c]) 0 = some a := fun _ _ => rfl
  have t1 : ∀ a c : AV, extA (.tup [a, c]) 1 = some c := fun _ _ => rfl
  have hff : ∀ w ∈ rts, fitsO os w = true := fun w hw => List.all_eq_true.1 hall w hw
  obtain ⟨R, hR⟩ := reach_bool s.lays os rts
  have hll := c.ll; have hrl := c.rl
  have T := c.hs
  refine sight_c T c.fit c.own.row (by omega) c.rr hff fun h4 v4 f4 o4 q4 => ?_
  have T4 := T.fr0 f4
  have r4 := c.row f4 (fun k q => by cases q)
  refine collect_h T4 c.fit c.wh r4 c.rr (by omega) R hR (fun q => by rw [hall] at q; cases q) fun _ h5 v5 m f5 hmm T5 o5 => ?_
  rw [t0, valA_some, t1, valA_some]
  have fit' := new_fitAll c.fit hR
  have hf' := new_rts hff hR
  have hle := T5.le
  have hrr' := new_rts_range c.rr hff hR (by omega)
  have r4' : Row h5 v4 (bfs s.lays os 1600 0 (rts.foldl addW ([], []))).length 1 (wc (bfs s.lays os 1600 0 (rts.foldl addW ([], [])))) := by
    refine o4.row.mono fun k off cap ob e hg => f5 k ob (fun q => ?_) hg
    rcases o4.2 with ⟨_, e2⟩ | ⟨k2, e2, e3, _⟩
    · rw [e2] at e; cases e
    · rw [e2] at e; injection e with e
      rw [e] at e3
      exact T.alive k (by simp at q ⊢; rcases q with q | q <;> simp [q]) e3
  have r5 : Row h5 v5 (rts.map (fwdW (fw R os))).length 1 (wc (rts.map (fwdW (fw R os)))) := by rw [List.length_map]; exact o5.row
  simp only [b_eql, decide_true, valA_some, whenA_tt]
  refine sight_c T5 fit' r5 (by rw [List.length_map]; omega) hrr' hf' fun h6 v6 f6 o6 q6 => ?_
  rw [bfs_same hR c.fit hff] at o6 q6
  have al := fun K => alikeW_c (r4'.fr f6) o6.row (by omega) K
  simp only [al, decide_true, pickA_b, if_true, valA_some, whenA_tt]
  exact gcLives_c fun _ _ => rfl
end Go.Proofs.Ytljkkfcokpimkaa.X
