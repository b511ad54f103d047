/- What the law law8 needs: texts of one's own, put together; functions' contracts and plain facts. -/
import Derived.Test.YtgcnliikibbcnaaT8C
set_option linter.unusedVariables false
set_option linter.unusedSimpArgs false
set_option maxRecDepth 20000
namespace Go.Proofs.Ytgcnliikibbcnaa.X
open Go Go.RowKit
def relI (_ : H) (x : Int) (c : List AV) : Prop := c = [.int .i64 x] ∧ rg x
def relS (_ : H) (s : List UInt8) (c : List AV) : Prop := c = [.str s] ∧ s.length ≤ reachBytes
def relTy (h : H) (t : Ty) (c : List AV) : Prop := tyR h t c ∧ t.ok
def relSh (h : H) (t : Shp) (c : List AV) : Prop := shR h t c ∧ t.ok
def relIn (h : H) (t : Ins) (c : List AV) : Prop := insR h t c ∧ t.ok
def relBl (h : H) (t : Blk) (c : List AV) : Prop := blkR h t c ∧ t.ok
def relFn (h : H) (t : Fn) (c : List AV) : Prop := fnR h t c ∧ t.ok
def numsR (B : List Nat) (s : RS) : List Int × RS := someR B (longR B) s
def kindR (B : List Nat) (s : RS) : Ty × RS :=
  let r := longR B s
  let q := numsR B ⟨r.2.pos, (r.2.bad || decide (r.1 < 0)) || decide (1 < r.1)⟩
  (⟨decide (r.1 = 1), q.1⟩, q.2)
def shapeR (B : List Nat) (s : RS) : Shp × RS :=
  let a := longR B s
  let b := numsR B a.2
  let c := textR B b.2
  (⟨a.1, b.1, c.1⟩, c.2)
def fldR (B : List Nat) (q : Ins × RS) (c : UInt8) : Ins × RS :=
  let x := q.1
  let n := longR B q.2
  let l := numsR B q.2
  if c = 78 then ({ x with n := n.1 }, n.2) else if c = 68 then ({ x with d := n.1 }, n.2) else if c = 65 then ({ x with a := n.1 }, n.2) else if c = 66 then ({ x with b := n.1 }, n.2) else if c = 67 then ({ x with c := n.1 }, n.2) else
  if c = 76 then ({ x with l := l.1 }, l.2) else if c = 77 then ({ x with m := l.1 }, l.2) else ({ x with live := l.1 }, l.2)
theorem rg0 : rg 0 := by unfold rg; omega
def insZ (op : Int) : Ins := ⟨op, 0, 0, 0, 0, 0, [], [], []⟩
def instrR (B : List Nat) (s : RS) : Ins × RS :=
  let a := longR B s
  (usesN a.1).foldl (fldR B) (insZ a.1, ⟨a.2.pos, a.2.bad || decide (usesN a.1 = [])⟩)
def blockR (B : List Nat) (s : RS) : Blk × RS :=
  let a := numsR B s
  let b := someR B (instrR B) a.2
  (⟨a.1, b.1⟩, b.2)
def functionR (B : List Nat) (s : RS) : Fn × RS :=
  let a := numsR B s
  let b := longR B a.2
  let c := longR B b.2
  let d := someR B (blockR B) c.2
  (⟨a.1, b.1, c.1, d.1⟩, d.2)
theorem stepsR_len {α : Type} {dec : RS → α × RS} : ∀ (n : Nat) (s : RS) (acc : List α), (stepsR dec n s acc).1.length ≤ acc.length + n
  | 0, s, acc => Nat.le_refl _
  | n + 1, s, acc => by
    rw [stepsR]; split
    · simp
    · have := stepsR_len (dec := dec) n (dec s).2 (acc ++ [(dec s).1])
      simp at this; omega
theorem someR_len {α : Type} {B : List Nat} {dec : RS → α × RS} {s : RS} (hs : s.pos ≤ B.length) : (someR B dec s).1.length ≤ B.length := by
  have h1 := stepsR_len (dec := dec) (countR B s).1 (countR B s).2 []
  have h2 := countR_facts B s hs
  unfold someR
  simp at h1; omega
theorem ints_row {h : H} {v : AV} {l : List Int} (r : RowOf h 1 (relI h) v l) : Row h v l.length 1 (ic l) ∧ ∀ n ∈ l, rg n := by
  obtain ⟨css, h1, h2, h3, r⟩ := r
  have e : ∀ i (hi : i < l.length), css[i]? = some [.int .i64 l[i]] ∧ rg l[i] := fun i hi => by
    have hc : i < css.length := by omega
    have := h2 i l[i] css[i] (by simp [hi]) (by simp [hc])
    exact ⟨by rw [List.getElem?_eq_getElem hc, this.1], this.2⟩
  have e2 : css = l.map fun n => [AV.int .i64 n] := by
    apply List.ext_getElem?
    intro i
    by_cases hi : i < l.length
    · rw [(e i hi).1, List.getElem?_map, List.getElem?_eq_getElem hi]; rfl
    · rw [List.getElem?_eq_none (by omega), List.getElem?_eq_none (by simp; omega)]
  refine ⟨?_, fun n hn => ?_⟩
  · have : css.flatten = ic l := by
      rw [e2]; unfold ic
      clear e2 e h1 h2 h3 r
      induction l with
      | nil => rfl
      | cons x l ih => simp [ih]
    rw [← this]; exact r
  · obtain ⟨i, hi, rfl⟩ := List.getElem_of_mem hn
    exact (e i hi).2
theorem agg_st {h : H} {d e n : Nat} {cs c : List AV} (hd : h.get d = Option.some (.live cs e true)) (hcs : cs.length = n) (hc : c.length = n) (hl : leaves c = true) : stA h n (.ptr d 0) (.agg c) = some (h.set d (.live c e true)) := by
  have ec : (AV.agg c).cells = c := rfl
  simp only [stA_p, ec, hc, if_true]
  unfold H.write
  rw [hd]
  simp only [hl, and_true]
  rw [if_pos (by omega)]
  have := overlay_end' c cs [] (by omega)
  simp only [List.nil_append, List.length_nil] at this
  rw [this]
section
variable {h : H} {rb : Nat} {vB : AV} {B : List Nat} {s : RS}
/-- The reader anew, told of memory further on. -/
theorem Rd.re (r : Rd h rb vB B s) {h' : H} (f : Fr [rb] h h') {s' : RS} (g : h'.get rb = Option.some (.live [vB, .int .i64 s'.pos, .bool s'.bad] 85 true)) (hp : s'.pos ≤ B.length) : Rd h' rb vB B s' := ⟨g, r.row.fr f.wo, hp, r.lt, r.len, r.some⟩
theorem Rd.ne (r : Rd h rb vB B s) {d : Nat} (hd : h.get d = none) : d ≠ rb := fun e => by rw [e, r.g] at hd; cases hd
theorem eachI : EachR rb B 51 1 (longR B) relI := by
  intro h vB s r K hK
  refine rnum_c r fun h' f' r' => ?_
  exact hK h' [.int .i64 (longR B s).1] f' r' ⟨rfl, (longR_facts B s r.pos).1⟩ rfl
theorem relI_mono {h h' : H} {x : Int} {c : List AV} (_ : Fr [] h h') (r : relI h x c) : relI h' x c := r
theorem relI_leaf {h : H} {x : Int} {c : List AV} (r : relI h x c) : leaves c = true ∧ ∃ v, c = [v] ∧ v.cells = [v] ∧ v.leaf = true := by
  obtain ⟨rfl, _⟩ := r; exact ⟨rfl, _, rfl, rfl, rfl⟩
theorem eachS : EachR rb B 48 1 (textR B) relS := by
  intro h vB s r K hK
  refine rtext_c r fun h' f' r' => ?_
  refine hK h' [.str (textR B s).1] f' r' ⟨rfl, ?_⟩ rfl
  have : 4294967296 ≤ reachBytes := by decide
  have := r.len
  unfold textR
  simp only [List.length_map, List.length_take, List.length_drop]
  omega
theorem relS_mono {h h' : H} {x : List UInt8} {c : List AV} (_ : Fr [] h h') (r : relS h x c) : relS h' x c := r
theorem relS_leaf {h : H} {x : List UInt8} {c : List AV} (r : relS h x c) : leaves c = true ∧ ∃ v, c = [v] ∧ v.cells = [v] ∧ v.leaf = true := by
  obtain ⟨rfl, _⟩ := r; exact ⟨rfl, _, rfl, rfl, rfl⟩
theorem rnums_c (r : Rd h rb vB B s) {K : AV → H → Prop} (hK : ∀ v h', Fr [rb] h h' → Rd h' rb vB B (numsR B s).2 → Row (H.new h h') v (numsR B s).1.length 1 (ic (numsR B s).1) → rgs (numsR B s).1 → K v h') : C 74 [.ptr rb 0] h K := by
  refine run74 ?_
  unfold sh74
  refine someInt_c r (dec := longR B) (Rel := relI) (fun f r => relI_mono f r) (fun r => relI_leaf r) eachI fun v h' f' r' rr => ?_
  obtain ⟨q1, q2⟩ := ints_row rr
  have h1 : (numsR B s).1.length ≤ B.length := someR_len (B := B) (dec := longR B) (s := s) r.pos
  have : 4294967296 ≤ reachBytes := by decide
  have := r.len
  exact hK v h' f' r' q1 ⟨by omega, q2⟩
theorem chunkK {b : Bool} {n : Int} {K : AV → H → Prop} : (whenA (.bool b) false (fun K => K (.int .i64 n) h) h fun t12 h => whenA (.bool b) false (fun K => valA (binOp .lss .num t12 (.int .i64 0)) h K) h fun t13 h => valA (pickA (.bool b) (.bool true) t13) h fun t14 h => K t14 h) = K (.bool (b || decide (n < 0))) h := by
  cases b <;> simp only [go_sem, reduceIte, Nat.reduceAdd, Nat.reduceSub, Nat.reduceMul, Nat.reducePow, Nat.reduceLT, Nat.reduceLeDiff, Nat.reduceEqDiff, Int.reduceAdd, Int.reduceSub, Int.reduceMul, Int.reduceNeg, Int.reducePow, Int.reduceLT, Int.reduceLE, Int.reduceEq, Int.reduceNe, Int.reduceToNat, Int.toNat_natCast, Nat.zero_add, Nat.add_zero, Nat.mul_one, Nat.one_mul, Bool.not_true, Bool.not_false, ne_eq, not_true_eq_false, not_false_eq_true, Bool.false_eq_true, Bool.true_or, Bool.false_or]
theorem chunkK1 {b : Bool} {n : Int} {K : AV → H → Prop} : (whenA (.bool b) false (fun K => K (.int .i64 n) h) h fun t16 h => whenA (.bool b) false (fun K => valA (binOp .gtr .num t16 (.int .i64 1)) h K) h fun t17 h => valA (pickA (.bool b) (.bool true) t17) h fun t18 h => K t18 h) = K (.bool (b || decide (1 < n))) h := by
  cases b <;> simp only [go_sem, reduceIte, Nat.reduceAdd, Nat.reduceSub, Nat.reduceMul, Nat.reducePow, Nat.reduceLT, Nat.reduceLeDiff, Nat.reduceEqDiff, Int.reduceAdd, Int.reduceSub, Int.reduceMul, Int.reduceNeg, Int.reducePow, Int.reduceLT, Int.reduceLE, Int.reduceEq, Int.reduceNe, Int.reduceToNat, Int.toNat_natCast, Nat.zero_add, Nat.add_zero, Nat.mul_one, Nat.one_mul, Bool.not_true, Bool.not_false, ne_eq, not_true_eq_false, not_false_eq_true, Bool.false_eq_true, Bool.true_or, Bool.false_or]
theorem eachT : EachR rb B 44 2 (kindR B) relTy := by
  intro h vB s r K hK
  refine run44 ?_
  unfold sh44
  refine box_r rfl fun d hd => ?_
  have f0 : Fr [] h (h.set d (.live [.bool false, .nilsl] 53 true)) := (Fr.refl _ _).set' hd
  have gd : (h.set d (.live [.bool false, .nilsl] 53 true)).get d = some (.live [.bool false, .nilsl] 53 true) := H.get_same ..
  have hdr := r.ne hd
  have r1 := r.keep f0
  generalize h.set d (.live [.bool false, .nilsl] 53 true) = h1 at *
  refine rnum_c r1 fun h2 f2 r2 => ?_
  have gd2 := f2 d _ (by simpa using hdr) gd
  have hp := (longR_facts B s r.pos).2.2
  unfold kindR at hK
  simp only at hK
  generalize longR B s = x at *
  obtain ⟨n, t⟩ := x
  simp only at hK r2 hp ⊢
  rw [nilcA_p, valA_some]
  refine fld_r (r2.cell 2) ?_
  rw [chunkK, chunkK1]
  have st := st_val r2.g (off := 2) (v := .bool ((t.bad || decide (n < 0)) || decide (1 < n))) (by simp) rfl rfl
  obtain ⟨r3, f3⟩ := r2.put ⟨t.pos, (t.bad || decide (n < 0)) || decide (1 < n)⟩ hp (cs := [vB, AV.int .i64 t.pos, .bool t.bad].set 2 (.bool ((t.bad || decide (n < 0)) || decide (1 < n)))) rfl
  have gd3 := f3 d _ (by simpa using hdr) gd2
  simp only [nilcA_p, valA_some, faA_p, Nat.zero_add, st, memA_some, b_eql]
  refine rnums_c r3 fun v h4 f4 r4 rv ok => ?_
  have gd4 := f4 d _ (by simpa using hdr) gd3
  rw [fill2 rfl rfl rv.one.1 rv.one.2, buildA_s, valA_some]
  have hlv : leaves [AV.bool (decide (n = 1)), v] = true := by simp only [leaves, rv.one.1]; rfl
  rw [show stA h4 2 (.ptr d 0) (.agg [AV.bool (decide (n = 1)), v]) = _ from agg_st (n := 2) gd4 rfl rfl hlv, memA_some]
  have f04 : Fr [rb] h h4 := ((f0.more.trans f2).trans f3).trans f4
  have f05 : Fr [rb] h (h4.set d (.live [AV.bool (decide (n = 1)), v] 53 true)) := f04.set' hd
  have f45 : Fr [d] h4 (h4.set d (.live [AV.bool (decide (n = 1)), v] 53 true)) := Fr.put (by simp)
  have r5 := r.re f05 (s' := (numsR B ⟨t.pos, (t.bad || decide (n < 0)) || decide (1 < n)⟩).2) (by rw [H.get_other _ _ hdr.symm]; exact r4.g) r4.pos
  rw [ldA_read (H.read_eq (H.get_same ..) (by simp) rfl), valA_some]
  refine hK _ [AV.bool (decide (n = 1)), v] f05 r5 ⟨⟨v, rfl, rv.fr (new_mono f45 (fun k hk => ?_) fun k hk => ?_)⟩, ok⟩ rfl
  · simp at hk; subst hk; rw [gd3]; simp
  · have := alive_of ((f0.more.trans f2).trans f3) (by rw [r3.g]; simp) k hk
    exact this
/-- A reader at work, with a box of its own. -/
structure RdD (h h1 hi : H) (rb d : Nat) (vB : AV) (B : List Nat) (s : RS) (cs : List AV) (e : Nat) : Prop where
  f : Fr [rb] h hi
  g : Fr [rb, d] h1 hi
  a0 : ∀ k, h.get k ≠ none → h1.get k ≠ none
  a : ∀ k, h1.get k ≠ none → hi.get k ≠ none
  k1 : ∀ k ∈ [rb, d], h1.get k ≠ none
  hd : h.get d = none
  r : Rd hi rb vB B s
  gd : hi.get d = some (.live cs e true)
section
variable {h h1 hi h2 h' : H} {rb d e : Nat} {vB : AV} {B : List Nat} {s s' : RS} {cs : List AV}
theorem Rd.box (r : Rd h rb vB B s) (hd : h.get d = none) : RdD h (h.set d (.live cs e true)) (h.set d (.live cs e true)) rb d vB B s cs e := by
  have f : Fr [] h (h.set d (.live cs e true)) := (Fr.refl _ _).set' hd
  have hr := r.ne hd
  refine ⟨f.more, Fr.refl _ _, fun k hk => ?_, fun k hk => hk, fun k hk => ?_, hd, r.keep f, H.get_same ..⟩
  · rw [H.get_other _ _ (fun e => hk (by rw [e]; exact hd))]; exact hk
  · simp only [List.mem_cons, List.not_mem_nil, or_false] at hk
    rcases hk with rfl | rfl
    · rw [H.get_other _ _ hr.symm, r.g]; simp
    · rw [H.get_same]; simp
theorem RdD.ne (q : RdD h h1 hi rb d vB B s cs e) (r : Rd h rb vB B s') : d ≠ rb := r.ne q.hd
theorem Fr.rd (f : Fr [rb] h h') : Fr [rb, d] h h' := f.weaken fun k hk => by simp at hk ⊢; exact .inl hk
theorem RdD.call (q : RdD h h1 hi rb d vB B s cs e) (hn : d ≠ rb) (f2 : Fr [rb] hi h2) (r2 : Rd h2 rb vB B s') : RdD h h1 h2 rb d vB B s' cs e :=
  ⟨q.f.trans f2, q.g.trans f2.rd, q.a0, fun k hk => alive_of f2 (by rw [r2.g]; simp) k (q.a k hk), q.k1, q.hd, r2, f2 d _ (by simpa using hn) q.gd⟩
theorem RdD.put (q : RdD h h1 hi rb d vB B s cs e) {s0 : RS} (r : Rd h rb vB B s0) {cs' cs'' : List AV} (hc : cs'' = cs') : RdD h h1 (hi.set d (.live cs'' e true)) rb d vB B s cs' e := by
  subst hc
  have f' : Fr [rb] h (hi.set d (.live cs'' e true)) := q.f.set' q.hd
  refine ⟨f', q.g.trans (Fr.put (by simp)), q.a0, fun k hk => ?_, q.k1, q.hd, r.re f' (by rw [H.get_other _ _ (r.ne q.hd).symm]; exact q.r.g) q.r.pos, H.get_same ..⟩
  rw [H.get_set]; split
  · simp
  · exact q.a k hk
theorem RdD.val (q : RdD h h1 hi rb d vB B s cs e) (f : Fr [rb, d] h2 h') : Fr [] (H.new hi h2) (H.new h1 h') := new_mono f (fun k hk => q.a k (q.k1 k hk)) q.a
theorem RdD.val0 (q : RdD h h1 hi rb d vB B s cs e) (f : Fr [rb, d] h2 h') : Fr [] (H.new h1 h2) (H.new h1 h') := new_mono f q.k1 fun _ hk => hk
theorem RdD.fin (q : RdD h h1 hi rb d vB B s cs e) : Fr [] (H.new h1 h2) (H.new h h2) := new_mono (S := []) (Fr.refl _ _) (by simp) q.a0
theorem RdD.cell (q : RdD h h1 hi rb d vB B s cs e) (off : Nat) : hi.cell d off = cs[off]? := cell_of q.gd off
theorem RdD.read (q : RdD h h1 hi rb d vB B s cs e) {n : Nat} (hn : cs.length = n) : hi.read d 0 n = some cs := H.read_eq q.gd (by omega) (by rw [List.drop_zero, List.take_of_length_le (by omega)])
/-- A field of the box is set. -/
theorem RdD.st (q : RdD h h1 hi rb d vB B s cs e) {s0 : RS} (r : Rd h rb vB B s0) {off : Nat} {v : AV} {cs' : List AV} (hc : cs.set off v = cs') (ho : off < cs.length) (hv : v.leaf = true) (hv' : v.cells = [v]) {K : AV → H → Prop}
    (hK : ∀ h', Fr [rb, d] hi h' → RdD h h1 h' rb d vB B s cs' e → K .undef h') : valA (faA off (.ptr d 0)) hi fun t h => memA (stA h 1 t v) .undef K := by
  rw [faA_p, valA_some, Nat.zero_add, st_val q.gd ho hv hv', memA_some]
  exact hK _ (Fr.put (by simp)) (q.put r hc)
/-- The box is read, put into itself, and read once more. -/
theorem RdD.done (q : RdD h h1 hi rb d vB B s cs e) {s0 : RS} (r : Rd h rb vB B s0) {n : Nat} (hn : cs.length = n) (hl : leaves cs = true) {K : AV → H → Prop}
    (hK : ∀ h', Fr [rb, d] hi h' → RdD h h1 h' rb d vB B s cs e → K (.agg cs) h') : valA (ldA hi (some n) (.ptr d 0)) hi fun t h => memA (stA h n (.ptr d 0) t) .undef fun _ h => valA (ldA h (some n) (.ptr d 0)) h fun res _ => K res h := by
  have q' := q.put r (cs'' := cs) rfl
  rw [ldA_read (q.read hn), valA_some, agg_st q.gd hn hn hl, memA_some, ldA_read (q'.read hn), valA_some]
  exact hK _ (Fr.put (by simp)) q'
end
end
section
variable {rb : Nat} {B : List Nat}
theorem eachSh : EachR rb B 46 3 (shapeR B) relSh := by
  intro h vB s r K hK
  refine run46 ?_
  unfold sh46
  refine box_r rfl fun d hd => ?_
  have hdr := r.ne hd
  have q1 := r.box hd (cs := [.int .i64 0, .nilsl, .str []]) (e := 55)
  generalize h.set d (.live [.int .i64 0, .nilsl, .str []] 55 true) = h1 at *
  refine rnum_c q1.r fun h2 f2 r2 => ?_
  refine (q1.call hdr f2 r2).st r (cs' := [.int .i64 (longR B s).1, .nilsl, .str []]) rfl (by simp) rfl rfl fun h3 g3 q3 => ?_
  refine rnums_c q3.r fun v h4 f4 r4 rv ok => ?_
  refine (q3.call hdr f4 r4).st r (cs' := [.int .i64 (longR B s).1, v, .str []]) rfl (by simp) rv.one.1 rv.one.2 fun h5 g5 q5 => ?_
  refine eachS h5 vB _ q5.r _ fun h6 c f6 r6 rs _ => ?_
  obtain ⟨rfl, lt⟩ := rs
  refine (q5.call hdr f6 r6).st r (v := .str (textR B (numsR B (longR B s).2).2).1) (cs' := [.int .i64 (longR B s).1, v, .str (textR B (numsR B (longR B s).2).2).1]) rfl (by simp) rfl rfl fun h7 g7 q7 => ?_
  refine q7.done r rfl (by simp only [leaves, rv.one.1]; rfl) fun h8 g8 q8 => ?_
  have g : Fr [rb, d] h4 h8 := ((g5.trans f6.rd).trans g7).trans g8
  exact hK h8 _ q8.f q8.r ⟨⟨v, rfl, (rv.fr (q3.val g)).fr q3.fin⟩, (longR_facts B s r.pos).1, ok, lt⟩ rfl
theorem RowOf.all {α : Type} {h : H} {esz : Nat} {R : α → List AV → Prop} {P : α → Prop} {v : AV} {l : List α} (r : RowOf h esz (fun x c => R x c ∧ P x) v l) {x : α} (hx : x ∈ l) : P x := by
  obtain ⟨css, h1, h2, _, _⟩ := r
  obtain ⟨i, hi, rfl⟩ := List.getElem_of_mem hx
  have hc : i < css.length := by omega
  exact (h2 i l[i] css[i] (by simp [hi]) (by simp [hc])).2
theorem relSh_mono {h h' : H} {x : Shp} {c : List AV} (f : Fr [] h h') (r : relSh h x c) : relSh h' x c := ⟨r.1.fr f, r.2⟩
theorem relTy_mono {h h' : H} {x : Ty} {c : List AV} (f : Fr [] h h') (r : relTy h x c) : relTy h' x c := ⟨r.1.fr f, r.2⟩
theorem relIn_mono {h h' : H} {x : Ins} {c : List AV} (f : Fr [] h h') (r : relIn h x c) : relIn h' x c := ⟨r.1.fr f, r.2⟩
theorem relBl_mono {h h' : H} {x : Blk} {c : List AV} (f : Fr [] h h') (r : relBl h x c) : relBl h' x c := ⟨r.1.fr f, r.2⟩
theorem relFn_mono {h h' : H} {x : Fn} {c : List AV} (f : Fr [] h h') (r : relFn h x c) : relFn h' x c := ⟨r.1.fr f, r.2⟩
def R3 (h : H) (x : Ins) (vl vm vv : AV) : Prop := Row h vl x.l.length 1 (ic x.l) ∧ Row h vm x.m.length 1 (ic x.m) ∧ Row h vv x.live.length 1 (ic x.live)
theorem R3.fr {h h' : H} {x : Ins} {vl vm vv : AV} (f : Fr [] h h') (r : R3 h x vl vm vv) : R3 h' x vl vm vv := ⟨r.1.fr f, r.2.1.fr f, r.2.2.fr f⟩
theorem chunkU {b : Bool} {u : List UInt8} {h : H} {K : AV → H → Prop} : (whenA (.bool b) false (fun K => K (.str u) h) h fun t19 h => whenA (.bool b) false (fun K => valA (binOp .eql .num t19 (.str [])) h K) h fun t20 h => valA (pickA (.bool b) (.bool true) t20) h K) = K (.bool (b || decide (u = []))) h := by
  cases b <;> simp only [go_sem, reduceIte, Nat.reduceAdd, Nat.reduceSub, Nat.reduceMul, Nat.reducePow, Nat.reduceLT, Nat.reduceLeDiff, Nat.reduceEqDiff, Int.reduceAdd, Int.reduceSub, Int.reduceMul, Int.reduceNeg, Int.reducePow, Int.reduceLT, Int.reduceLE, Int.reduceEq, Int.reduceNe, Int.reduceToNat, Int.toNat_natCast, Nat.zero_add, Nat.add_zero, Nat.mul_one, Nat.one_mul, Bool.not_true, Bool.not_false, ne_eq, not_true_eq_false, not_false_eq_true, Bool.false_eq_true, Bool.true_or, Bool.false_or]
theorem eachIn : EachR rb B 101 9 (instrR B) relIn := by
  intro h vB s r K hK
  refine run101 ?_
  unfold sh101
  refine box_r rfl fun d hd => ?_
  have hdr := r.ne hd
  have q1 := r.box hd (cs := insC (insZ 0) .nilsl .nilsl .nilsl) (e := 24)
  change C 51 _ (h.set d (.live (insC (insZ 0) .nilsl .nilsl .nilsl) 24 true)) _
  generalize h.set d (.live (insC (insZ 0) .nilsl .nilsl .nilsl) 24 true) = h1 at *
  refine rnum_c q1.r fun h2 f2 r2 => ?_
  refine (q1.call hdr f2 r2).st r (cs' := insC (insZ (longR B s).1) .nilsl .nilsl .nilsl) rfl (by simp [insC]) rfl rfl fun h3 g3 q3 => ?_
  have hop := (longR_facts B s r.pos).1
  unfold instrR at hK
  simp only at hK
  generalize longR B s = a at *
  obtain ⟨op, s3⟩ := a
  simp only at q3 hK hop ⊢
  refine fld_r (v := .int .i64 op) (by rw [q3.cell]; rfl) ?_
  rw [uses_c, nilcA_p, valA_some]
  refine fld_r (q3.r.cell 2) ?_
  show whenA (.bool s3.bad) _ _ _ _
  rw [chunkU]
  have hu := usesN_len op
  have hrb : reachBytes ≤ 4611686018427387903 := by decide
  generalize usesN op = u at *
  have hlen := q3.r.len
  have st := st_val q3.r.g (off := 2) (v := .bool (s3.bad || decide (u = []))) (by simp) rfl rfl
  rw [valA_some, faA_p, valA_some, Nat.zero_add, st, memA_some]
  obtain ⟨r4, f4⟩ := q3.r.put ⟨s3.pos, s3.bad || decide (u = [])⟩ q3.r.pos (cs := [vB, AV.int .i64 s3.pos, .bool s3.bad].set 2 (.bool (s3.bad || decide (u = [])))) rfl
  have q4 := q3.call hdr f4 r4
  generalize h3.set rb _ = h4 at *
  refine join_r (fun (J : H → Prop) => ∀ h5 x s5 vl vm vv, RdD h h1 h5 rb d vB B s5 (insC x vl vm vv) 24 → R3 (H.new h1 h5) x vl vm vv → x.ok → u.foldl (fldR B) (insZ op, ⟨s3.pos, s3.bad || decide (u = [])⟩) = (x, s5) → J h5) ?_ fun J hJ => ?_
  · intro h5 x s5 vl vm vv q5 r3 ok e5
    refine q5.done r rfl (by simp only [insC, leaves, r3.1.one.1, r3.2.1.one.1, r3.2.2.one.1]; rfl) fun h6 g6 q6 => ?_
    have r3 := r3.fr ((q6.val0 g6).trans q6.fin)
    rw [e5] at hK
    exact hK h6 (insC x vl vm vv) q6.f q6.r ⟨⟨vl, vm, vv, rfl, r3.1, r3.2.1, r3.2.2⟩, ok⟩ rfl
  refine s2b_r fun m hmm => ?_
  have fm : Fr [] h4 (h4.set m (.live (u.map fun c => AV.int .u8 c.toNat) 5 true)) := (Fr.refl _ _).set' hmm
  have gm : (h4.set m (.live (u.map fun c => AV.int .u8 c.toNat) 5 true)).get m = some (.live (u.map fun c => AV.int .u8 c.toNat) 5 true) := H.get_same ..
  have hm1 : m ≠ rb := fun e => by rw [e, r4.g] at hmm; cases hmm
  have hm2 : m ≠ d := fun e => by rw [e, q4.gd] at hmm; cases hmm
  have q5 := q4.call hdr fm.more (q4.r.keep fm)
  generalize h4.set m (.live (u.map fun c => AV.int .u8 c.toNat) 5 true) = h5 at *
  have rowm : ∀ {h4 : H}, h4.get m = some (.live (u.map fun c => AV.int .u8 c.toNat) 5 true) → Row h4 (.sl m 0 u.length (.more 1)) u.length 1 (u.map fun c => AV.int .u8 c.toNat) := fun q =>
    ⟨by simp, .inr ⟨m, 0, _, rfl, rfl, H.read_eq q (by simp) (by rw [List.drop_zero, List.take_of_length_le (by simp)])⟩⟩
  rw [(rowm gm).len, valA_some]
  have take_succ : ∀ (i : Nat) (c : UInt8), u[i]? = some c → u.take (i + 1) = u.take i ++ [c] := fun i c hc => by
    rw [List.take_add_one, hc]; rfl
  have hlr : ∀ s, (RS.pos s ≤ B.length) → rg (longR B s).1 := fun s hs => (longR_facts B s hs).1
  refine loop_r (u.length + 1) (fun k ls h5 => ∃ (i : Nat) (x : Ins) (s5 : RS) (vl vm vv : AV), ls = [.int .i64 i] ∧ i ≤ u.length ∧ RdD h h1 h5 rb d vB B s5 (insC x vl vm vv) 24 ∧ R3 (H.new h1 h5) x vl vm vv ∧ x.ok ∧ (u.take i).foldl (fldR B) (insZ op, ⟨s3.pos, s3.bad || decide (u = [])⟩) = (x, s5) ∧
      h5.get m = some (.live (u.map fun c => AV.int .u8 c.toNat) 5 true) ∧ k = u.length + 1 - i)
    ⟨0, _, _, _, _, _, rfl, by omega, q5, ⟨Row.nil _ _, Row.nil _ _, Row.nil _ _⟩, ⟨⟨hop, rg0, rg0, rg0, rg0, rg0⟩, ⟨by simp [insZ], by simp [insZ]⟩, ⟨by simp [insZ], by simp [insZ]⟩, ⟨by simp [insZ], by simp [insZ]⟩⟩, rfl, gm, rfl⟩ ?_
  rintro k ls h5 ⟨i, x, s5, vl, vm, vv, rfl, hi, q5, r3, ok, e5, gm, rfl⟩
  by_cases q : (i : Int) < u.length
  · have hi' : i < u.length := by omega
    obtain ⟨c, hc⟩ : ∃ c, u[i]? = some c := ⟨u[i], by simp [hi']⟩
    obtain ⟨bo, oo, m1, m2⟩ := (rowm gm).at (i := i) (x := .int .u8 c.toNat) (by omega) q (by rw [Int.toNat_natCast, List.getElem?_map, hc]; rfl)
    have en : IntKind.i64.wrap ((i : Int) + 1) = ((i + 1 : Nat) : Int) := by rw [i64_id (by omega) (by omega)]; rfl
    have done : ∀ h6 x' s' vl' vm' vv', Fr [rb, d] h5 h6 → RdD h h1 h6 rb d vB B s' (insC x' vl' vm' vv') 24 → R3 (H.new h1 h6) x' vl' vm' vv' → x'.ok → fldR B (x, s5) c = (x', s') → ∃ n', n' < u.length + 1 - i ∧
        ∃ (i' : Nat) (x : Ins) (s5 : RS) (vl vm vv : AV), [AV.int .i64 ((i + 1 : Nat) : Int)] = [.int .i64 i'] ∧ i' ≤ u.length ∧ RdD h h1 h6 rb d vB B s5 (insC x vl vm vv) 24 ∧ R3 (H.new h1 h6) x vl vm vv ∧ x.ok ∧ (u.take i').foldl (fldR B) (insZ op, ⟨s3.pos, s3.bad || decide (u = [])⟩) = (x, s5) ∧
      h6.get m = some (.live (u.map fun c => AV.int .u8 c.toNat) 5 true) ∧ n' = u.length + 1 - i' := fun h6 x' s' vl' vm' vv' g q6 r3 ok e =>
      ⟨u.length + 1 - (i + 1), by omega, i + 1, x', s', vl', vm', vv', rfl, by omega, q6, r3, ok, by rw [take_succ i c hc, List.foldl_append, e5]; exact e, g m _ (by simp [hm1, hm2]) gm, rfl⟩
    have fn : ∀ k : UInt8, ¬ c = k → ¬ ((c.toNat : Nat) : Int) = (k.toNat : Nat) := fun k e q => e (UInt8.toNat_inj.1 (by omega))
    have hu : insC x vl vm vv = [.int .i64 x.op, .int .i64 x.d, .int .i64 x.a, .int .i64 x.b, .int .i64 x.c, .int .i64 x.n, vl, vm, vv] := rfl
    obtain ⟨⟨o1, o2, o3, o4, o5, o6⟩, o7, o8, o9⟩ := ok
    have hn := hlr s5 q5.r.pos
    by_cases c0 : c = 78
    · subst c0
      have t : ((UInt8.toNat 78 : Nat) : Int) = 78 := rfl
      simp only [joinA, go_sem, reduceIte, Nat.reduceAdd, Nat.reduceSub, Nat.reduceMul, Nat.reducePow, Nat.reduceLT, Nat.reduceLeDiff, Nat.reduceEqDiff, Int.reduceAdd, Int.reduceSub, Int.reduceMul, Int.reduceNeg, Int.reducePow, Int.reduceLT, Int.reduceLE, Int.reduceEq, Int.reduceNe, Int.reduceToNat, Int.toNat_natCast, Nat.zero_add, Nat.add_zero, Nat.mul_one, Nat.one_mul, Bool.not_true, Bool.not_false, ne_eq, not_true_eq_false, not_false_eq_true, Bool.false_eq_true, q, m1, m2, t]
      refine long_c q5.r fun h6 f6 r6 => ?_
      have q6 := q5.call hdr f6 r6
      have st := st_val q6.gd (off := 5) (v := .int .i64 (longR B s5).1) (by simp [insC]) rfl rfl
      simp only [go_sem, reduceIte, Nat.reduceAdd, Nat.reduceSub, Nat.reduceMul, Nat.reducePow, Nat.reduceLT, Nat.reduceLeDiff, Nat.reduceEqDiff, Int.reduceAdd, Int.reduceSub, Int.reduceMul, Int.reduceNeg, Int.reducePow, Int.reduceLT, Int.reduceLE, Int.reduceEq, Int.reduceNe, Int.reduceToNat, Int.toNat_natCast, Nat.zero_add, Nat.add_zero, Nat.mul_one, Nat.one_mul, Bool.not_true, Bool.not_false, ne_eq, not_true_eq_false, not_false_eq_true, Bool.false_eq_true, st, en]
      have q7 := q6.put r (cs'' := (insC x vl vm vv).set 5 (.int .i64 (longR B s5).1)) (cs' := insC { x with n := (longR B s5).1 } vl vm vv) rfl
      have g7 : Fr [rb, d] h6 (h6.set d (.live ((insC x vl vm vv).set 5 (.int .i64 (longR B s5).1)) 24 true)) := Fr.put (by simp)
      exact done _ { x with n := (longR B s5).1 } (longR B s5).2 vl vm vv (f6.rd.trans g7) q7 (r3.fr (q7.val0 (f6.rd.trans g7))) ⟨⟨o1, o2, o3, o4, o5, hn⟩, o7, o8, o9⟩ (by rfl)
    have n0 : ¬ ((c.toNat : Nat) : Int) = 78 := fn 78 c0
    by_cases c1 : c = 68
    · subst c1
      have t : ((UInt8.toNat 68 : Nat) : Int) = 68 := rfl
      have tn : numAt 68 = some 1 := rfl
      simp only [joinA, go_sem, reduceIte, Nat.reduceAdd, Nat.reduceSub, Nat.reduceMul, Nat.reducePow, Nat.reduceLT, Nat.reduceLeDiff, Nat.reduceEqDiff, Int.reduceAdd, Int.reduceSub, Int.reduceMul, Int.reduceNeg, Int.reducePow, Int.reduceLT, Int.reduceLE, Int.reduceEq, Int.reduceNe, Int.reduceToNat, Int.toNat_natCast, Nat.zero_add, Nat.add_zero, Nat.mul_one, Nat.one_mul, Bool.not_true, Bool.not_false, ne_eq, not_true_eq_false, not_false_eq_true, Bool.false_eq_true, q, m1, m2, t, number_c, tn]
      refine rnum_c q5.r fun h6 f6 r6 => ?_
      have q6 := q5.call hdr f6 r6
      have st := st_val q6.gd (off := 1) (v := .int .i64 (longR B s5).1) (by simp [insC]) rfl rfl
      simp only [go_sem, reduceIte, Nat.reduceAdd, Nat.reduceSub, Nat.reduceMul, Nat.reducePow, Nat.reduceLT, Nat.reduceLeDiff, Nat.reduceEqDiff, Int.reduceAdd, Int.reduceSub, Int.reduceMul, Int.reduceNeg, Int.reducePow, Int.reduceLT, Int.reduceLE, Int.reduceEq, Int.reduceNe, Int.reduceToNat, Int.toNat_natCast, Nat.zero_add, Nat.add_zero, Nat.mul_one, Nat.one_mul, Bool.not_true, Bool.not_false, ne_eq, not_true_eq_false, not_false_eq_true, Bool.false_eq_true, st, en]
      have q7 := q6.put r (cs'' := (insC x vl vm vv).set 1 (.int .i64 (longR B s5).1)) (cs' := insC { x with d := (longR B s5).1 } vl vm vv) rfl
      have g7 : Fr [rb, d] h6 (h6.set d (.live ((insC x vl vm vv).set 1 (.int .i64 (longR B s5).1)) 24 true)) := Fr.put (by simp)
      exact done _ { x with d := (longR B s5).1 } (longR B s5).2 vl vm vv (f6.rd.trans g7) q7 (r3.fr (q7.val0 (f6.rd.trans g7))) ⟨⟨o1, hn, o3, o4, o5, o6⟩, o7, o8, o9⟩ (by rfl)
    have n1 : ¬ ((c.toNat : Nat) : Int) = 68 := fn 68 c1
    by_cases c2 : c = 65
    · subst c2
      have t : ((UInt8.toNat 65 : Nat) : Int) = 65 := rfl
      have tn : numAt 65 = some 2 := rfl
      simp only [joinA, go_sem, reduceIte, Nat.reduceAdd, Nat.reduceSub, Nat.reduceMul, Nat.reducePow, Nat.reduceLT, Nat.reduceLeDiff, Nat.reduceEqDiff, Int.reduceAdd, Int.reduceSub, Int.reduceMul, Int.reduceNeg, Int.reducePow, Int.reduceLT, Int.reduceLE, Int.reduceEq, Int.reduceNe, Int.reduceToNat, Int.toNat_natCast, Nat.zero_add, Nat.add_zero, Nat.mul_one, Nat.one_mul, Bool.not_true, Bool.not_false, ne_eq, not_true_eq_false, not_false_eq_true, Bool.false_eq_true, q, m1, m2, t, number_c, tn]
      refine rnum_c q5.r fun h6 f6 r6 => ?_
      have q6 := q5.call hdr f6 r6
      have st := st_val q6.gd (off := 2) (v := .int .i64 (longR B s5).1) (by simp [insC]) rfl rfl
      simp only [go_sem, reduceIte, Nat.reduceAdd, Nat.reduceSub, Nat.reduceMul, Nat.reducePow, Nat.reduceLT, Nat.reduceLeDiff, Nat.reduceEqDiff, Int.reduceAdd, Int.reduceSub, Int.reduceMul, Int.reduceNeg, Int.reducePow, Int.reduceLT, Int.reduceLE, Int.reduceEq, Int.reduceNe, Int.reduceToNat, Int.toNat_natCast, Nat.zero_add, Nat.add_zero, Nat.mul_one, Nat.one_mul, Bool.not_true, Bool.not_false, ne_eq, not_true_eq_false, not_false_eq_true, Bool.false_eq_true, st, en]
      have q7 := q6.put r (cs'' := (insC x vl vm vv).set 2 (.int .i64 (longR B s5).1)) (cs' := insC { x with a := (longR B s5).1 } vl vm vv) rfl
      have g7 : Fr [rb, d] h6 (h6.set d (.live ((insC x vl vm vv).set 2 (.int .i64 (longR B s5).1)) 24 true)) := Fr.put (by simp)
      exact done _ { x with a := (longR B s5).1 } (longR B s5).2 vl vm vv (f6.rd.trans g7) q7 (r3.fr (q7.val0 (f6.rd.trans g7))) ⟨⟨o1, o2, hn, o4, o5, o6⟩, o7, o8, o9⟩ (by rfl)
    have n2 : ¬ ((c.toNat : Nat) : Int) = 65 := fn 65 c2
    by_cases c3 : c = 66
    · subst c3
      have t : ((UInt8.toNat 66 : Nat) : Int) = 66 := rfl
      have tn : numAt 66 = some 3 := rfl
      simp only [joinA, go_sem, reduceIte, Nat.reduceAdd, Nat.reduceSub, Nat.reduceMul, Nat.reducePow, Nat.reduceLT, Nat.reduceLeDiff, Nat.reduceEqDiff, Int.reduceAdd, Int.reduceSub, Int.reduceMul, Int.reduceNeg, Int.reducePow, Int.reduceLT, Int.reduceLE, Int.reduceEq, Int.reduceNe, Int.reduceToNat, Int.toNat_natCast, Nat.zero_add, Nat.add_zero, Nat.mul_one, Nat.one_mul, Bool.not_true, Bool.not_false, ne_eq, not_true_eq_false, not_false_eq_true, Bool.false_eq_true, q, m1, m2, t, number_c, tn]
      refine rnum_c q5.r fun h6 f6 r6 => ?_
      have q6 := q5.call hdr f6 r6
      have st := st_val q6.gd (off := 3) (v := .int .i64 (longR B s5).1) (by simp [insC]) rfl rfl
      simp only [go_sem, reduceIte, Nat.reduceAdd, Nat.reduceSub, Nat.reduceMul, Nat.reducePow, Nat.reduceLT, Nat.reduceLeDiff, Nat.reduceEqDiff, Int.reduceAdd, Int.reduceSub, Int.reduceMul, Int.reduceNeg, Int.reducePow, Int.reduceLT, Int.reduceLE, Int.reduceEq, Int.reduceNe, Int.reduceToNat, Int.toNat_natCast, Nat.zero_add, Nat.add_zero, Nat.mul_one, Nat.one_mul, Bool.not_true, Bool.not_false, ne_eq, not_true_eq_false, not_false_eq_true, Bool.false_eq_true, st, en]
      have q7 := q6.put r (cs'' := (insC x vl vm vv).set 3 (.int .i64 (longR B s5).1)) (cs' := insC { x with b := (longR B s5).1 } vl vm vv) rfl
      have g7 : Fr [rb, d] h6 (h6.set d (.live ((insC x vl vm vv).set 3 (.int .i64 (longR B s5).1)) 24 true)) := Fr.put (by simp)
      exact done _ { x with b := (longR B s5).1 } (longR B s5).2 vl vm vv (f6.rd.trans g7) q7 (r3.fr (q7.val0 (f6.rd.trans g7))) ⟨⟨o1, o2, o3, hn, o5, o6⟩, o7, o8, o9⟩ (by rfl)
    have n3 : ¬ ((c.toNat : Nat) : Int) = 66 := fn 66 c3
    by_cases c4 : c = 67
    · subst c4
      have t : ((UInt8.toNat 67 : Nat) : Int) = 67 := rfl
      have tn : numAt 67 = some 4 := rfl
      simp only [joinA, go_sem, reduceIte, Nat.reduceAdd, Nat.reduceSub, Nat.reduceMul, Nat.reducePow, Nat.reduceLT, Nat.reduceLeDiff, Nat.reduceEqDiff, Int.reduceAdd, Int.reduceSub, Int.reduceMul, Int.reduceNeg, Int.reducePow, Int.reduceLT, Int.reduceLE, Int.reduceEq, Int.reduceNe, Int.reduceToNat, Int.toNat_natCast, Nat.zero_add, Nat.add_zero, Nat.mul_one, Nat.one_mul, Bool.not_true, Bool.not_false, ne_eq, not_true_eq_false, not_false_eq_true, Bool.false_eq_true, q, m1, m2, t, number_c, tn]
      refine rnum_c q5.r fun h6 f6 r6 => ?_
      have q6 := q5.call hdr f6 r6
      have st := st_val q6.gd (off := 4) (v := .int .i64 (longR B s5).1) (by simp [insC]) rfl rfl
      simp only [go_sem, reduceIte, Nat.reduceAdd, Nat.reduceSub, Nat.reduceMul, Nat.reducePow, Nat.reduceLT, Nat.reduceLeDiff, Nat.reduceEqDiff, Int.reduceAdd, Int.reduceSub, Int.reduceMul, Int.reduceNeg, Int.reducePow, Int.reduceLT, Int.reduceLE, Int.reduceEq, Int.reduceNe, Int.reduceToNat, Int.toNat_natCast, Nat.zero_add, Nat.add_zero, Nat.mul_one, Nat.one_mul, Bool.not_true, Bool.not_false, ne_eq, not_true_eq_false, not_false_eq_true, Bool.false_eq_true, st, en]
      have q7 := q6.put r (cs'' := (insC x vl vm vv).set 4 (.int .i64 (longR B s5).1)) (cs' := insC { x with c := (longR B s5).1 } vl vm vv) rfl
      have g7 : Fr [rb, d] h6 (h6.set d (.live ((insC x vl vm vv).set 4 (.int .i64 (longR B s5).1)) 24 true)) := Fr.put (by simp)
      exact done _ { x with c := (longR B s5).1 } (longR B s5).2 vl vm vv (f6.rd.trans g7) q7 (r3.fr (q7.val0 (f6.rd.trans g7))) ⟨⟨o1, o2, o3, o4, hn, o6⟩, o7, o8, o9⟩ (by rfl)
    have n4 : ¬ ((c.toNat : Nat) : Int) = 67 := fn 67 c4
    by_cases c5 : c = 76
    · subst c5
      have t : ((UInt8.toNat 76 : Nat) : Int) = 76 := rfl
      have tn : numAt 76 = none := rfl
      have tl : listAt 76 = 6 := rfl
      simp only [joinA, go_sem, reduceIte, Nat.reduceAdd, Nat.reduceSub, Nat.reduceMul, Nat.reducePow, Nat.reduceLT, Nat.reduceLeDiff, Nat.reduceEqDiff, Int.reduceAdd, Int.reduceSub, Int.reduceMul, Int.reduceNeg, Int.reducePow, Int.reduceLT, Int.reduceLE, Int.reduceEq, Int.reduceNe, Int.reduceToNat, Int.toNat_natCast, Nat.zero_add, Nat.add_zero, Nat.mul_one, Nat.one_mul, Bool.not_true, Bool.not_false, ne_eq, not_true_eq_false, not_false_eq_true, Bool.false_eq_true, q, m1, m2, t, number_c, tn, list_c, tl]
      refine rnums_c q5.r fun v h6 f6 r6 rv okl => ?_
      have q6 := q5.call hdr f6 r6
      have st := st_val q6.gd (off := 6) (v := v) (by simp [insC]) rv.one.1 rv.one.2
      simp only [go_sem, reduceIte, Nat.reduceAdd, Nat.reduceSub, Nat.reduceMul, Nat.reducePow, Nat.reduceLT, Nat.reduceLeDiff, Nat.reduceEqDiff, Int.reduceAdd, Int.reduceSub, Int.reduceMul, Int.reduceNeg, Int.reducePow, Int.reduceLT, Int.reduceLE, Int.reduceEq, Int.reduceNe, Int.reduceToNat, Int.toNat_natCast, Nat.zero_add, Nat.add_zero, Nat.mul_one, Nat.one_mul, Bool.not_true, Bool.not_false, ne_eq, not_true_eq_false, not_false_eq_true, Bool.false_eq_true, st, en]
      have q7 := q6.put r (cs'' := (insC x vl vm vv).set 6 v) (cs' := insC { x with l := (numsR B s5).1 } v vm vv) rfl
      have g7 : Fr [rb, d] h6 (h6.set d (.live ((insC x vl vm vv).set 6 v) 24 true)) := Fr.put (by simp)
      have r3' := r3.fr (q7.val0 (f6.rd.trans g7))
      exact done _ { x with l := (numsR B s5).1 } (numsR B s5).2 v vm vv (f6.rd.trans g7) q7 ⟨rv.fr (q5.val g7), r3'.2.1, r3'.2.2⟩ ⟨⟨o1, o2, o3, o4, o5, o6⟩, okl, o8, o9⟩ (by rfl)
    have n5 : ¬ ((c.toNat : Nat) : Int) = 76 := fn 76 c5
    by_cases c6 : c = 77
    · subst c6
      have t : ((UInt8.toNat 77 : Nat) : Int) = 77 := rfl
      have tn : numAt 77 = none := rfl
      have tl : listAt 77 = 7 := rfl
      simp only [joinA, go_sem, reduceIte, Nat.reduceAdd, Nat.reduceSub, Nat.reduceMul, Nat.reducePow, Nat.reduceLT, Nat.reduceLeDiff, Nat.reduceEqDiff, Int.reduceAdd, Int.reduceSub, Int.reduceMul, Int.reduceNeg, Int.reducePow, Int.reduceLT, Int.reduceLE, Int.reduceEq, Int.reduceNe, Int.reduceToNat, Int.toNat_natCast, Nat.zero_add, Nat.add_zero, Nat.mul_one, Nat.one_mul, Bool.not_true, Bool.not_false, ne_eq, not_true_eq_false, not_false_eq_true, Bool.false_eq_true, q, m1, m2, t, number_c, tn, list_c, tl]
      refine rnums_c q5.r fun v h6 f6 r6 rv okl => ?_
      have q6 := q5.call hdr f6 r6
      have st := st_val q6.gd (off := 7) (v := v) (by simp [insC]) rv.one.1 rv.one.2
      simp only [go_sem, reduceIte, Nat.reduceAdd, Nat.reduceSub, Nat.reduceMul, Nat.reducePow, Nat.reduceLT, Nat.reduceLeDiff, Nat.reduceEqDiff, Int.reduceAdd, Int.reduceSub, Int.reduceMul, Int.reduceNeg, Int.reducePow, Int.reduceLT, Int.reduceLE, Int.reduceEq, Int.reduceNe, Int.reduceToNat, Int.toNat_natCast, Nat.zero_add, Nat.add_zero, Nat.mul_one, Nat.one_mul, Bool.not_true, Bool.not_false, ne_eq, not_true_eq_false, not_false_eq_true, Bool.false_eq_true, st, en]
      have q7 := q6.put r (cs'' := (insC x vl vm vv).set 7 v) (cs' := insC { x with m := (numsR B s5).1 } vl v vv) rfl
      have g7 : Fr [rb, d] h6 (h6.set d (.live ((insC x vl vm vv).set 7 v) 24 true)) := Fr.put (by simp)
      have r3' := r3.fr (q7.val0 (f6.rd.trans g7))
      exact done _ { x with m := (numsR B s5).1 } (numsR B s5).2 vl v vv (f6.rd.trans g7) q7 ⟨r3'.1, rv.fr (q5.val g7), r3'.2.2⟩ ⟨⟨o1, o2, o3, o4, o5, o6⟩, o7, okl, o9⟩ (by rfl)
    have n6 : ¬ ((c.toNat : Nat) : Int) = 77 := fn 77 c6
    have tn : numAt ((c.toNat : Nat) : Int) = none := by unfold numAt; rw [if_neg n1, if_neg n2, if_neg n3, if_neg n4]
    have tl : listAt ((c.toNat : Nat) : Int) = 8 := by unfold listAt; rw [if_neg n5, if_neg n6]
    simp only [joinA, go_sem, reduceIte, Nat.reduceAdd, Nat.reduceSub, Nat.reduceMul, Nat.reducePow, Nat.reduceLT, Nat.reduceLeDiff, Nat.reduceEqDiff, Int.reduceAdd, Int.reduceSub, Int.reduceMul, Int.reduceNeg, Int.reducePow, Int.reduceLT, Int.reduceLE, Int.reduceEq, Int.reduceNe, Int.reduceToNat, Int.toNat_natCast, Nat.zero_add, Nat.add_zero, Nat.mul_one, Nat.one_mul, Bool.not_true, Bool.not_false, ne_eq, not_true_eq_false, not_false_eq_true, Bool.false_eq_true, q, m1, m2, n0, number_c, tn, list_c, tl]
    refine rnums_c q5.r fun v h6 f6 r6 rv okl => ?_
    have q6 := q5.call hdr f6 r6
    have st := st_val q6.gd (off := 8) (v := v) (by simp [insC]) rv.one.1 rv.one.2
    simp only [go_sem, reduceIte, Nat.reduceAdd, Nat.reduceSub, Nat.reduceMul, Nat.reducePow, Nat.reduceLT, Nat.reduceLeDiff, Nat.reduceEqDiff, Int.reduceAdd, Int.reduceSub, Int.reduceMul, Int.reduceNeg, Int.reducePow, Int.reduceLT, Int.reduceLE, Int.reduceEq, Int.reduceNe, Int.reduceToNat, Int.toNat_natCast, Nat.zero_add, Nat.add_zero, Nat.mul_one, Nat.one_mul, Bool.not_true, Bool.not_false, ne_eq, not_true_eq_false, not_false_eq_true, Bool.false_eq_true, st, en]
    have q7 := q6.put r (cs'' := (insC x vl vm vv).set 8 v) (cs' := insC { x with live := (numsR B s5).1 } vl vm v) rfl
    have g7 : Fr [rb, d] h6 (h6.set d (.live ((insC x vl vm vv).set 8 v) 24 true)) := Fr.put (by simp)
    have r3' := r3.fr (q7.val0 (f6.rd.trans g7))
    refine done _ { x with live := (numsR B s5).1 } (numsR B s5).2 vl vm v (f6.rd.trans g7) q7 ⟨r3'.1, r3'.2.1, rv.fr (q5.val g7)⟩ ⟨⟨o1, o2, o3, o4, o5, o6⟩, o7, o8, okl⟩ ?_
    unfold fldR
    rw [if_neg c0, if_neg c1, if_neg c2, if_neg c3, if_neg c4, if_neg c5, if_neg c6]
  · have : u.take i = u := List.take_of_length_le (by omega)
    rw [this] at e5
    simp only [go_sem, reduceIte, Nat.reduceAdd, Nat.reduceSub, Nat.reduceMul, Nat.reducePow, Nat.reduceLT, Nat.reduceLeDiff, Nat.reduceEqDiff, Int.reduceAdd, Int.reduceSub, Int.reduceMul, Int.reduceNeg, Int.reducePow, Int.reduceLT, Int.reduceLE, Int.reduceEq, Int.reduceNe, Int.reduceToNat, Int.toNat_natCast, Nat.zero_add, Nat.add_zero, Nat.mul_one, Nat.one_mul, Bool.not_true, Bool.not_false, ne_eq, not_true_eq_false, not_false_eq_true, Bool.false_eq_true, q]
    exact hJ h5 x s5 vl vm vv q5 r3 ok e5
theorem eachBl : EachR rb B 76 2 (blockR B) relBl := by
  intro h vB s r K hK
  refine run76 ?_
  unfold sh76
  refine box_r rfl fun d hd => ?_
  have hdr := r.ne hd
  have q1 := r.box hd (cs := [.nilsl, .nilsl]) (e := 58)
  generalize h.set d (.live [.nilsl, .nilsl] 58 true) = h1 at *
  refine rnums_c q1.r fun v h2 f2 r2 rv ok => ?_
  refine (q1.call hdr f2 r2).st r (cs' := [v, .nilsl]) rfl (by simp) rv.one.1 rv.one.2 fun h3 g3 q3 => ?_
  refine someIns_c q3.r (dec := instrR B) (Rel := relIn) relIn_mono (fun r => r.1.leaves) eachIn fun w h4 f4 r4 rw_ => ?_
  have hl := someR_len (B := B) (dec := instrR B) q3.r.pos
  have hlen := r.len
  have : 4294967296 ≤ reachBytes := by decide
  refine (q3.call hdr f4 r4).st r (cs' := [v, w]) rfl (by simp) rw_.one.1 rw_.one.2 fun h5 g5 q5 => ?_
  refine q5.done r rfl (by simp only [leaves, rv.one.1, rw_.one.1]; rfl) fun h6 g6 q6 => ?_
  have g4 : Fr [rb, d] h4 h6 := g5.trans g6
  have g2 : Fr [rb, d] h2 h6 := (g3.trans f4.rd).trans g4
  have F4 := (q3.val g4).trans q6.fin
  refine hK h6 [v, w] q6.f q6.r ⟨⟨v, w, rfl, rv.fr ((q1.val g2).trans q6.fin), rw_.mono F4 fun _ _ _ r => r.1.fr F4⟩, ok, by show (someR B (instrR B) _).1.length ≤ _; omega, ?_⟩ rfl
  intro x hx
  exact (rw_.all hx)
theorem eachFn : EachR rb B 50 4 (functionR B) relFn := by
  intro h vB s r K hK
  refine run50 ?_
  unfold sh50
  refine box_r rfl fun d hd => ?_
  have hdr := r.ne hd
  have q1 := r.box hd (cs := [.nilsl, .int .i64 0, .int .i64 0, .nilsl]) (e := 51)
  generalize h.set d (.live [.nilsl, .int .i64 0, .int .i64 0, .nilsl] 51 true) = h1 at *
  refine rnums_c q1.r fun v h2 f2 r2 rv ok => ?_
  refine (q1.call hdr f2 r2).st r (cs' := [v, .int .i64 0, .int .i64 0, .nilsl]) rfl (by simp) rv.one.1 rv.one.2 fun h3 g3 q3 => ?_
  have w1 := longR_facts B _ q3.r.pos
  refine rnum_c q3.r fun h4 f4 r4 => ?_
  refine (q3.call hdr f4 r4).st r (cs' := [v, .int .i64 (longR B (numsR B s).2).1, .int .i64 0, .nilsl]) rfl (by simp) rfl rfl fun h5 g5 q5 => ?_
  have w2 := longR_facts B _ q5.r.pos
  refine rnum_c q5.r fun h6 f6 r6 => ?_
  refine (q5.call hdr f6 r6).st r (cs' := [v, .int .i64 (longR B (numsR B s).2).1, .int .i64 (longR B (longR B (numsR B s).2).2).1, .nilsl]) rfl (by simp) rfl rfl fun h7 g7 q7 => ?_
  refine someBlk_c q7.r (dec := blockR B) (Rel := relBl) relBl_mono (fun r => r.1.leaves) eachBl fun w h8 f8 r8 rw_ => ?_
  have hl := someR_len (B := B) (dec := blockR B) q7.r.pos
  have hlen := r.len
  have : 4294967296 ≤ reachBytes := by decide
  refine (q7.call hdr f8 r8).st r (cs' := [v, .int .i64 (longR B (numsR B s).2).1, .int .i64 (longR B (longR B (numsR B s).2).2).1, w]) rfl (by simp) rw_.one.1 rw_.one.2 fun h9 g9 q9 => ?_
  refine q9.done r rfl (by simp only [leaves, rv.one.1, rw_.one.1]; rfl) fun ha ga qa => ?_
  have g8 : Fr [rb, d] h8 ha := g9.trans ga
  have g2 : Fr [rb, d] h2 ha := (((((g3.trans f4.rd).trans g5).trans f6.rd).trans g7).trans f8.rd).trans g8
  have F8 := (q7.val g8).trans qa.fin
  refine hK ha [v, .int .i64 (longR B (numsR B s).2).1, .int .i64 (longR B (longR B (numsR B s).2).2).1, w] qa.f qa.r ⟨⟨v, w, rfl, rv.fr ((q1.val g2).trans qa.fin), rw_.mono F8 fun _ _ _ r => r.1.fr F8⟩, ok, w1.1, w2.1, by show (someR B (blockR B) _).1.length ≤ _; omega, ?_⟩ rfl
  intro x hx
  exact (rw_.all hx)
end
end Go.Proofs.Ytgcnliikibbcnaa.X
set_option linter.unusedVariables false
set_option linter.unusedSimpArgs false
set_option maxRecDepth 20000
namespace Go.Proofs.Ytgcnliikibbcnaa.X
open Go Go.RowKit
def imgZ : Img := ⟨[], [], [], [], [], 0, 0⟩
def noHead (B : List Nat) : Bool := decide ((B.length : Int) < 4) || decide ((B.take 4).map UInt8.ofNat ≠ [66, 69, 76, 49])
def imageR (B : List Nat) : Img × RS :=
  let a := someR B (kindR B) ⟨4, false⟩
  let b := someR B (shapeR B) a.2
  let c := someR B (textR B) b.2
  let d := someR B (textR B) c.2
  let e := someR B (functionR B) d.2
  let f := longR B e.2
  let g := longR B f.2
  (⟨a.1, b.1, c.1, d.1, e.1, f.1, g.1⟩, g.2)
def badEnd (B : List Nat) (r : Img × RS) : Bool := (r.2.bad || decide ((r.2.pos : Int) ≠ B.length)) || decide (checkN r.1 ≠ 0)
def decodeN (B : List Nat) : Img × Int := if noHead B then (imgZ, 20) else if badEnd B (imageR B) then (imgZ, 20) else ((imageR B).1, 0)
theorem imgZ_r (h : H) : imgR h imgZ [.nilsl, .nilsl, .nilsl, .nilsl, .nilsl, .int .i64 0, .int .i64 0] := ⟨_, _, _, _, _, rfl, RowOf.nil .., RowOf.nil .., RowOf.nil .., RowOf.nil .., RowOf.nil ..⟩
theorem imgZ_ok : imgZ.ok := by simp [Img.ok, imgZ, rg0]
theorem chunkH {h : H} {v : AV} {B : List Nat} (r : Row h v B.length 1 (bc B)) {K : AV → H → Prop} :
    (valA (lenA false v) h fun t7 h => valA (binOp .lss .num t7 (.int .i64 4)) h fun t8 h => whenA t8 false (fun K => K v h) h fun t10 h => whenA t8 false (fun K => valA (sliceOp (.row 1) t10 none (some (.int .i64 4)) none) h K) h fun t11 h =>
      whenA t8 false (fun K => valA (b2sA h t11) h K) h fun t12 h => whenA t8 false (fun K => valA (binOp .neq .num t12 (.str [66, 69, 76, 49])) h K) h fun t13 h => valA (pickA t8 (.bool true) t13) h K) = K (.bool (noHead B)) h := by
  unfold noHead
  by_cases c : (B.length : Int) < 4
  · simp only [go_sem, reduceIte, Nat.reduceAdd, Nat.reduceSub, Nat.reduceMul, Nat.reducePow, Nat.reduceLT, Nat.reduceLeDiff, Nat.reduceEqDiff, Int.reduceAdd, Int.reduceSub, Int.reduceMul, Int.reduceNeg, Int.reducePow, Int.reduceLT, Int.reduceLE, Int.reduceEq, Int.reduceNe, Int.reduceToNat, Int.toNat_natCast, Nat.zero_add, Nat.add_zero, Nat.mul_one, Nat.one_mul, Bool.not_true, Bool.not_false, ne_eq, not_true_eq_false, not_false_eq_true, Bool.false_eq_true, r.len, c, decide_true, Bool.true_or]
  · have hs : sliceOp (.row 1) v none (some (.int .i64 4)) none = sliceOp (.row 1) v (some (.int .i64 0)) (some (.int .i64 4)) none := by cases v <;> rfl
    obtain ⟨v', w1, w2⟩ := r.slice (k := .i64) (k' := .i64) (i := 0) (j := 4) (by omega) (by omega) (by omega) (by omega)
    have e : (List.drop ((0 : Int).toNat * 1) (bc B)).take (((4 : Int).toNat - (0 : Int).toNat) * 1) = bc (B.take 4) := by simp [bc, List.map_take]
    rw [e] at w2
    have w2 : Row h v' (B.take 4).length 1 (bc (B.take 4)) := by
      have : (B.take 4).length = (4 : Int).toNat - (0 : Int).toNat := by rw [List.length_take]; omega
      rw [this]; exact w2
    simp only [go_sem, reduceIte, Nat.reduceAdd, Nat.reduceSub, Nat.reduceMul, Nat.reducePow, Nat.reduceLT, Nat.reduceLeDiff, Nat.reduceEqDiff, Int.reduceAdd, Int.reduceSub, Int.reduceMul, Int.reduceNeg, Int.reducePow, Int.reduceLT, Int.reduceLE, Int.reduceEq, Int.reduceNe, Int.reduceToNat, Int.toNat_natCast, Nat.zero_add, Nat.add_zero, Nat.mul_one, Nat.one_mul, Bool.not_true, Bool.not_false, ne_eq, not_true_eq_false, not_false_eq_true, Bool.false_eq_true, r.len, c, hs, w1, w2.b2s, decide_false, Bool.false_or]
theorem RowOf.both {α : Type} {h : H} {esz : Nat} {R : α → List AV → Prop} {P : α → Prop} {v : AV} {l : List α} (r : RowOf h esz (fun x c => R x c ∧ P x) v l) : RowOf h esz R v l ∧ ∀ x ∈ l, P x :=
  ⟨r.mono (Fr.refl _ _) fun _ _ _ q => q.1, fun _ hx => r.all hx⟩
theorem RowOf.up {α : Type} {h h' : H} {esz : Nat} {R : H → α → List AV → Prop} (hmono : ∀ {h h' : H} {x c}, Fr [] h h' → R h x c → R h' x c) {v : AV} {l : List α} (r : RowOf h esz (R h) v l) (f : Fr [] h h') : RowOf h' esz (R h') v l :=
  r.mono f fun _ _ _ q => hmono f q
theorem chunkEnd {b : Bool} {rb : Nat} {v : AV} {h : H} {p n : Nat} (hp : h.cell rb 1 = some (.int .i64 p)) (hn : lenA false v = some (.int .i64 n)) {K : AV → H → Prop} :
    (whenA (.bool b) false (fun K => K (.ptr rb 0) h) h fun t55 h => whenA (.bool b) false (fun K => valA (nilcA t55) h K) h fun t56 h => whenA (.bool b) false (fun K => valA (faA 1 t56) h K) h fun t57 h =>
      whenA (.bool b) false (fun K => valA (ldA h none t57) h K) h fun t58 h => whenA (.bool b) false (fun K => K v h) h fun t59 h => whenA (.bool b) false (fun K => valA (lenA false t59) h K) h fun t60 h =>
      whenA (.bool b) false (fun K => valA (binOp .neq .num t58 t60) h K) h fun t61 h => valA (pickA (.bool b) (.bool true) t61) h K) = K (.bool (b || decide ((p : Int) ≠ n))) h := by
  cases b <;> simp only [go_sem, reduceIte, Nat.reduceAdd, Nat.reduceSub, Nat.reduceMul, Nat.reducePow, Nat.reduceLT, Nat.reduceLeDiff, Nat.reduceEqDiff, Int.reduceAdd, Int.reduceSub, Int.reduceMul, Int.reduceNeg, Int.reducePow, Int.reduceLT, Int.reduceLE, Int.reduceEq, Int.reduceNe, Int.reduceToNat, Int.toNat_natCast, Nat.zero_add, Nat.add_zero, Nat.mul_one, Nat.one_mul, Bool.not_true, Bool.not_false, ne_eq, not_true_eq_false, not_false_eq_true, Bool.false_eq_true, hp, hn, Bool.true_or, Bool.false_or]
theorem chunkC {b : Bool} {d : Nat} {h : H} {m : Img} {c : List AV} (hr : h.read d 0 7 = some c) (r : imgR h m c) (ok : m.ok) {K : AV → H → Prop} (hK : ∀ h', Fr [] h h' → K (.bool (b || decide (checkN m ≠ 0))) h') :
    whenA (.bool b) false (fun K => valA (ldA h (some 7) (.ptr d 0)) h K) h fun t64 h => whenA (.bool b) false (fun K => C 18 [t64] h K) h fun t65 h =>
      whenA (.bool b) false (fun K => valA (binOp .neq .num t65 (.int .i64 0)) h K) h fun t66 h => valA (pickA (.bool b) (.bool true) t66) h K := by
  cases b with
  | true => simp only [go_sem, reduceIte, Nat.reduceAdd, Nat.reduceSub, Nat.reduceMul, Nat.reducePow, Nat.reduceLT, Nat.reduceLeDiff, Nat.reduceEqDiff, Int.reduceAdd, Int.reduceSub, Int.reduceMul, Int.reduceNeg, Int.reducePow, Int.reduceLT, Int.reduceLE, Int.reduceEq, Int.reduceNe, Int.reduceToNat, Int.toNat_natCast, Nat.zero_add, Nat.add_zero, Nat.mul_one, Nat.one_mul, Bool.not_true, Bool.not_false, ne_eq, not_true_eq_false, not_false_eq_true, Bool.false_eq_true]; have := hK h (Fr.refl _ _); rwa [Bool.true_or] at this
  | false =>
    simp only [go_sem, reduceIte, Nat.reduceAdd, Nat.reduceSub, Nat.reduceMul, Nat.reducePow, Nat.reduceLT, Nat.reduceLeDiff, Nat.reduceEqDiff, Int.reduceAdd, Int.reduceSub, Int.reduceMul, Int.reduceNeg, Int.reducePow, Int.reduceLT, Int.reduceLE, Int.reduceEq, Int.reduceNe, Int.reduceToNat, Int.toNat_natCast, Nat.zero_add, Nat.add_zero, Nat.mul_one, Nat.one_mul, Bool.not_true, Bool.not_false, ne_eq, not_true_eq_false, not_false_eq_true, Bool.false_eq_true, hr]
    refine check_c r ok fun h' f => ?_
    simp only [go_sem, reduceIte, Nat.reduceAdd, Nat.reduceSub, Nat.reduceMul, Nat.reducePow, Nat.reduceLT, Nat.reduceLeDiff, Nat.reduceEqDiff, Int.reduceAdd, Int.reduceSub, Int.reduceMul, Int.reduceNeg, Int.reducePow, Int.reduceLT, Int.reduceLE, Int.reduceEq, Int.reduceNe, Int.reduceToNat, Int.toNat_natCast, Nat.zero_add, Nat.add_zero, Nat.mul_one, Nat.one_mul, Bool.not_true, Bool.not_false, ne_eq, not_true_eq_false, not_false_eq_true, Bool.false_eq_true]
    have := hK h' f; rwa [Bool.false_or] at this
theorem decode_c {h : H} {v : AV} {B : List Nat} (r : Row h v B.length 1 (bc B)) (lt : ∀ d ∈ B, d < 256) (len : B.length ≤ 4294967296) {K : AV → H → Prop}
    (hK : ∀ h' c, Fr [] h h' → imgR h' (decodeN B).1 c → (decodeN B).1.ok → K (.tup [.agg c, .int .i64 (decodeN B).2]) h') : C 20 [v] h K := by
  refine run20 ?_
  unfold sh20
  refine box_r rfl fun t ht => ?_
  have f1 : Fr [] h (h.set t (.live [.nilsl, .nilsl, .nilsl, .nilsl, .nilsl, .int .i64 0, .int .i64 0] 34 true)) := (Fr.refl _ _).set' ht
  have gt : (h.set t (.live [.nilsl, .nilsl, .nilsl, .nilsl, .nilsl, .int .i64 0, .int .i64 0] 34 true)).get t = some (.live [.nilsl, .nilsl, .nilsl, .nilsl, .nilsl, .int .i64 0, .int .i64 0] 34 true) := H.get_same ..
  have r1 := r.fr f1
  generalize h.set t (.live [.nilsl, .nilsl, .nilsl, .nilsl, .nilsl, .int .i64 0, .int .i64 0] 34 true) = h1 at *
  have out : ∀ {h2 : H} {c : List AV} {n : Int} {m : Img}, h2.get t = some (.live [.nilsl, .nilsl, .nilsl, .nilsl, .nilsl, .int .i64 0, .int .i64 0] 34 true) → Fr [] h h2 → (imgR (H.only h2 fun k => k ≠ t) m c) → decodeN B = (m, n) → m.ok →
      memA (stA h2 7 (.ptr t 0) (.agg c)) .undef fun _ h => valA (ldA h (some 7) (.ptr t 0)) h fun res _ => K (.tup [res, .int .i64 n]) h := by
    intro h2 c n m gt2 f2 ri hd ok
    have hcl : c.length = 7 := by obtain ⟨_, _, _, _, _, rfl, _⟩ := ri; rfl
    rw [show stA h2 7 (.ptr t 0) (.agg c) = _ from agg_st (n := 7) gt2 rfl hcl ri.leaves, memA_some, ldA_read (H.read_eq (H.get_same ..) (by omega) (by rw [List.drop_zero, List.take_of_length_le (by omega)])), valA_some]
    have := hK (h2.set t (.live c 34 true)) c (f2.set' ht)
    rw [hd] at this
    refine this (ri.fr fun k o _ x => ?_) ok
    simp only [H.only] at x
    split at x
    · rename_i q; rw [H.get_other _ _ q]; exact x
    · cases x
  rw [chunkH r1]
  cases hh : noHead B with
  | true =>
    rw [condA_t, show buildA (fillV [AV.nilsl, AV.nilsl, AV.nilsl, AV.nilsl, AV.nilsl, AV.int .i64 0, AV.int .i64 0] []) = some (.agg [AV.nilsl, AV.nilsl, AV.nilsl, AV.nilsl, AV.nilsl, AV.int .i64 0, AV.int .i64 0]) from rfl, valA_some]
    exact out gt f1 (imgZ_r _) (by unfold decodeN; rw [hh]; rfl) imgZ_ok
  | false =>
    have hB : 4 ≤ B.length := by
      unfold noHead at hh
      simp only [Bool.or_eq_false_iff, decide_eq_false_iff_not] at hh; omega
    rw [condA_f, show fillV [AV.nilsl, .int .i64 0, .bool false] [(0, 1, v), (1, 1, .int .i64 4)] = some [v, .int .i64 4, .bool false] by simp [fillV, r.one.2, leaves, r.one.1, overlay, show (AV.int .i64 4).cells = [.int .i64 4] from rfl, show (AV.int .i64 4).leaf = true from rfl], buildA_s, valA_some]
    refine box_r (cs := [v, .int .i64 4, .bool false]) (by simp only [leaves, r.one.1]; rfl) fun rb hrb => ?_
    have f2 : Fr [] h1 (h1.set rb (.live [v, .int .i64 4, .bool false] 85 true)) := (Fr.refl _ _).set' hrb
    have rd : Rd (h1.set rb (.live [v, .int .i64 4, .bool false] 85 true)) rb v B ⟨4, false⟩ := by
      refine ⟨H.get_same .., r1.fr fun k o _ x => ?_, hB, lt, len, by omega⟩
      have hk : k ≠ rb := fun e => by rw [e, hrb] at x; cases x
      rw [H.get_wo, if_neg hk, H.get_other _ _ hk]; exact x
    have gt2 := f2 t _ (by simp) gt
    have htr : t ≠ rb := fun e => by rw [e, hrb] at gt; cases gt
    change boxA (h1.set rb (.live [v, .int .i64 4, .bool false] 85 true)) _ _ _
    generalize h1.set rb (.live [v, .int .i64 4, .bool false] 85 true) = h2 at *
    refine box_r rfl fun d hd => ?_
    have hdr := rd.ne hd
    have q3 := rd.box hd (cs := [.nilsl, .nilsl, .nilsl, .nilsl, .nilsl, .int .i64 0, .int .i64 0]) (e := 34)
    generalize h2.set d (.live [.nilsl, .nilsl, .nilsl, .nilsl, .nilsl, .int .i64 0, .int .i64 0] 34 true) = h3 at *
    have big : 4294967296 ≤ reachBytes := by decide
    have x1 := someR_len (B := B) (dec := kindR B) q3.r.pos
    have ei : imageR B = imageR B := rfl
    conv at ei => rhs; unfold imageR
    simp only at ei
    refine someTy_c q3.r (dec := kindR B) (Rel := relTy) relTy_mono (fun r => r.1.leaves) eachT fun v1 ha1 fa1 ra1 u1 => ?_
    refine (q3.call hdr fa1 ra1).st rd (cs' := [v1, .nilsl, .nilsl, .nilsl, .nilsl, .int .i64 0, .int .i64 0]) rfl (by simp) u1.one.1 u1.one.2 fun hb1 gb1 q4 => ?_
    generalize hA : someR B (kindR B) ⟨4, false⟩ = A at *
    have x2 := someR_len (B := B) (dec := shapeR B) q4.r.pos
    refine someShp_c q4.r (dec := shapeR B) (Rel := relSh) relSh_mono (fun r => r.1.leaves) eachSh fun v2 ha2 fa2 ra2 u2 => ?_
    refine (q4.call hdr fa2 ra2).st rd (cs' := [v1, v2, .nilsl, .nilsl, .nilsl, .int .i64 0, .int .i64 0]) rfl (by simp) u2.one.1 u2.one.2 fun hb2 gb2 q5 => ?_
    generalize hB' : someR B (shapeR B) A.2 = Bs at *
    have x3 := someR_len (B := B) (dec := textR B) q5.r.pos
    refine someStr_c q5.r (dec := textR B) (Rel := relS) relS_mono relS_leaf eachS fun v3 ha3 fa3 ra3 u3 => ?_
    refine (q5.call hdr fa3 ra3).st rd (cs' := [v1, v2, v3, .nilsl, .nilsl, .int .i64 0, .int .i64 0]) rfl (by simp) u3.one.1 u3.one.2 fun hb3 gb3 q6 => ?_
    generalize hC : someR B (textR B) Bs.2 = Cs at *
    have x4 := someR_len (B := B) (dec := textR B) q6.r.pos
    refine someStr_c q6.r (dec := textR B) (Rel := relS) relS_mono relS_leaf eachS fun v4 ha4 fa4 ra4 u4 => ?_
    refine (q6.call hdr fa4 ra4).st rd (cs' := [v1, v2, v3, v4, .nilsl, .int .i64 0, .int .i64 0]) rfl (by simp) u4.one.1 u4.one.2 fun hb4 gb4 q7 => ?_
    generalize hD : someR B (textR B) Cs.2 = Ds at *
    have x5 := someR_len (B := B) (dec := functionR B) q7.r.pos
    refine someFn_c q7.r (dec := functionR B) (Rel := relFn) relFn_mono (fun r => r.1.leaves) eachFn fun v5 ha5 fa5 ra5 u5 => ?_
    refine (q7.call hdr fa5 ra5).st rd (cs' := [v1, v2, v3, v4, v5, .int .i64 0, .int .i64 0]) rfl (by simp) u5.one.1 u5.one.2 fun hb5 gb5 q8 => ?_
    generalize hE : someR B (functionR B) Ds.2 = Es at *
    have x6 := longR_facts B _ q8.r.pos
    refine rnum_c q8.r fun ha6 fa6 ra6 => ?_
    refine (q8.call hdr fa6 ra6).st rd (cs' := [v1, v2, v3, v4, v5, .int .i64 (longR B Es.2).1, .int .i64 0]) rfl (by simp) rfl rfl fun hb6 gb6 q9 => ?_
    generalize hF : longR B Es.2 = Fs at *
    have x7 := longR_facts B _ q9.r.pos
    refine rnum_c q9.r fun ha7 fa7 ra7 => ?_
    refine (q9.call hdr fa7 ra7).st rd (cs' := [v1, v2, v3, v4, v5, .int .i64 Fs.1, .int .i64 (longR B Fs.2).1]) rfl (by simp) rfl rfl fun hb7 gb7 qa => ?_
    generalize hG : longR B Fs.2 = Gs at *
    have g7 : Fr [rb, d] ha5 hb7 := (((gb5.trans fa6.rd).trans gb6).trans fa7.rd).trans gb7
    have g6 : Fr [rb, d] ha4 hb7 := (gb4.trans fa5.rd).trans g7
    have g5 : Fr [rb, d] ha3 hb7 := (gb3.trans fa4.rd).trans g6
    have g4 : Fr [rb, d] ha2 hb7 := (gb2.trans fa3.rd).trans g5
    have g3 : Fr [rb, d] ha1 hb7 := (gb1.trans fa2.rd).trans g4
    have u1 := (RowOf.up (R := relTy) relTy_mono u1 ((q3.val g3).trans qa.fin)).both
    have u2 := (RowOf.up (R := relSh) relSh_mono u2 ((q4.val g4).trans qa.fin)).both
    have u3 := (RowOf.up (R := relS) relS_mono u3 ((q5.val g5).trans qa.fin)).both
    have u4 := (RowOf.up (R := relS) relS_mono u4 ((q6.val g6).trans qa.fin)).both
    have u5 := (RowOf.up (R := relFn) relFn_mono u5 ((q7.val g7).trans qa.fin)).both
    have im : imgR (H.new h2 hb7) (imageR B).1 [v1, v2, v3, v4, v5, .int .i64 Fs.1, .int .i64 Gs.1] := by
      rw [ei]; exact ⟨v1, v2, v3, v4, v5, rfl, u1.1, u2.1, u3.1, u4.1, u5.1⟩
    have ok : (imageR B).1.ok := by
      rw [ei]
      exact ⟨⟨by show A.1.length ≤ _; omega, u1.2⟩, ⟨by show Bs.1.length ≤ _; omega, u2.2⟩, ⟨by show Cs.1.length ≤ _; omega, u3.2⟩, ⟨by show Ds.1.length ≤ _; omega, u4.2⟩, ⟨by show Es.1.length ≤ _; omega, u5.2⟩, x6.1, x7.1⟩
    have im7 := im.fr (only_le hb7 _)
    have gt7 := qa.f t _ (by simpa using htr) gt2
    have f12 := f1.trans f2
    have hrh : h.get rb = none := f1.free hrb
    have fall : Fr [] h hb7 := fun k o _ x => by
      refine qa.f k o (fun q => ?_) (f12 k o (by simp) x)
      simp at q; rw [q, hrh] at x; cases x
    rw [nilcA_p, valA_some]
    refine fld_r (qa.r.cell 2) ?_
    show whenA (.bool Gs.2.bad) _ _ _ _
    rw [chunkEnd (qa.r.cell 1) r.len]
    refine chunkC (qa.read rfl) im7 ok fun hc fc => ?_
    have gt8 := fc t _ (by simp) gt7
    have fall8 := fall.trans fc
    have eb : badEnd B (imageR B) = ((Gs.2.bad || decide ((Gs.2.pos : Int) ≠ B.length)) || decide (checkN (imageR B).1 ≠ 0)) := by rw [ei]; rfl
    rw [← eb]
    cases hbe : badEnd B (imageR B) with
    | true =>
      rw [condA_t, show buildA (fillV [AV.nilsl, AV.nilsl, AV.nilsl, AV.nilsl, AV.nilsl, AV.int .i64 0, AV.int .i64 0] []) = some (.agg [AV.nilsl, AV.nilsl, AV.nilsl, AV.nilsl, AV.nilsl, AV.int .i64 0, AV.int .i64 0]) from rfl, valA_some]
      exact out gt8 fall8 (imgZ_r _) (by unfold decodeN; rw [hh, hbe]; rfl) imgZ_ok
    | false =>
      rw [condA_f, ldA_read (H.read_eq (fc d _ (by simp) qa.gd) (by simp) rfl), valA_some]
      refine out gt8 fall8 (im.fr (only_fr fun k o q x => ⟨fun e => ?_, fc k o (by simp) x⟩)) (by unfold decodeN; rw [hh, hbe]; rfl) ok
      rw [e, gt2] at q; cases q
end Go.Proofs.Ytgcnliikibbcnaa.X
set_option linter.unusedVariables false
set_option linter.unusedSimpArgs false
set_option maxRecDepth 20000
namespace Go.Proofs.Ytgcnliikibbcnaa.X
open Go Go.RowKit
/-! ### What is written is read -/
/-- Such bytes are read as x, wherever they stand. -/
def Fw {α : Type} (B : List Nat) (dec : RS → α × RS) (x : α) (bs : List Nat) : Prop := ∀ pre post, B = pre ++ (bs ++ post) → dec ⟨pre.length, false⟩ = (x, ⟨(pre ++ bs).length, false⟩)
theorem putL_pos (x : Nat) : 0 < (putL x).length := by rw [putL]; split <;> simp
theorem numB_pos (n : Int) : 0 < (numB n).length := putL_pos _
variable {B : List Nat}
theorem drop_pre {pre l : List Nat} (h : B = pre ++ l) : B.drop pre.length = l := by rw [h, List.drop_left]
theorem num_fw {n : Int} (hn : rg n) {pre post : List Nat} (h : B = pre ++ (numB n ++ post)) (b : Bool) : longR B ⟨pre.length, b⟩ = (n, ⟨(pre ++ numB n).length, b⟩) := by
  have hz := zig_lt hn.1 hn.2
  have hp := numB_pos n
  have hd : decS B (pre.length : Nat) = (n, ((pre.length : Nat) : Int) + ((numB n).length : Nat), true) := by
    have := decS_good (L := B) (a := (pre.length : Nat)) (t := putL (zig n)) (by omega) (by rw [h]; simp only [List.length_append]; omega)
      (by rw [Int.toNat_natCast, drop_pre h]; exact cut_putL _ _ 10 (putL_len64 hz)) ⟨by rw [val_putL], by rw [val_putL]; exact hz⟩
    rw [this, val_putL, unz_zig]; rfl
  unfold longR
  rw [hd]
  simp only [List.length_append]
  congr 1
theorem long_fw {n : Int} (hn : rg n) : Fw B (longR B) n (numB n) := fun _ _ h => num_fw hn h false
theorem rg_nat {k : Nat} (h : k ≤ reachBytes) : rg (k : Nat) := by
  have : reachBytes ≤ 9223372036854775807 := by decide
  unfold rg; omega
theorem count_fw {k : Nat} (hk : k ≤ reachBytes) {pre post : List Nat} (h : B = pre ++ (numB k ++ post)) (hp : k ≤ post.length) : countR B ⟨pre.length, false⟩ = (k, ⟨(pre ++ numB k).length, false⟩) := by
  unfold countR
  rw [num_fw (rg_nat hk) h false]
  have hb : countBad B (((k : Nat) : Int), ⟨(pre ++ numB k).length, false⟩) = false := by
    unfold countBad
    have : B.length = (pre ++ numB k).length + post.length := by rw [h]; simp only [List.length_append]; omega
    simp only [Bool.false_or, Bool.or_eq_false_iff, decide_eq_false_iff_not]
    omega
  simp only [hb]
  rfl
theorem nat_u8 (s : List UInt8) : (s.map (·.toNat)).map UInt8.ofNat = s := by
  rw [List.map_map]
  conv => rhs; rw [← List.map_id s]
  apply List.map_congr_left
  intro c _
  simp
theorem text_fw {s : List UInt8} (hs : s.length ≤ reachBytes) : Fw B (textR B) s (textB s) := by
  intro pre post h
  unfold textB at h
  rw [List.append_assoc] at h
  unfold textR
  rw [count_fw hs h (by simp)]
  simp only
  rw [drop_pre (pre := pre ++ numB s.length) (l := s.map (·.toNat) ++ post) (by rw [h, List.append_assoc])]
  have : (s.map (·.toNat) ++ post).take s.length = s.map (·.toNat) := by
    rw [List.take_append, List.take_of_length_le (by simp)]; simp
  rw [this, nat_u8]
  simp only [textB, List.length_append, List.length_map, Nat.add_assoc]
section
variable {α : Type} {enc : α → List Nat} {dec : RS → α × RS}
theorem steps_fw : ∀ (l acc : List α), (∀ x ∈ l, Fw B dec x (enc x)) → ∀ pre post, B = pre ++ (l.flatMap enc ++ post) → stepsR dec l.length ⟨pre.length, false⟩ acc = (acc ++ l, ⟨(pre ++ l.flatMap enc).length, false⟩)
  | [], acc, _, pre, post, _ => by simp [stepsR]
  | x :: l, acc, hd, pre, post, h => by
    rw [List.flatMap_cons, List.append_assoc] at h
    rw [List.length_cons, stepsR, if_neg (by simp), hd x (by simp) pre _ h]
    have := steps_fw l (acc ++ [x]) (fun y hy => hd y (by simp [hy])) (pre ++ enc x) post (by rw [h, List.append_assoc])
    simp only
    rw [this]
    simp
theorem flat_len_ge {l : List α} (h : ∀ x ∈ l, 0 < (enc x).length) : l.length ≤ (l.flatMap enc).length := by
  induction l with
  | nil => simp
  | cons x l ih =>
    have h1 := h x (by simp)
    have h2 := ih fun y hy => h y (by simp [hy])
    rw [List.flatMap_cons, List.length_append, List.length_cons]; omega
theorem some_fw {l : List α} (hl : l.length ≤ reachBytes) (hp : ∀ x ∈ l, 0 < (enc x).length) (hd : ∀ x ∈ l, Fw B dec x (enc x)) : Fw B (someR B dec) l (manyB enc l) := by
  intro pre post h
  unfold manyB at h
  rw [List.append_assoc] at h
  unfold someR
  have := flat_len_ge hp
  rw [count_fw hl h (by simp only [List.length_append]; omega)]
  simp only
  rw [steps_fw l [] hd (pre ++ numB l.length) post (by rw [h, List.append_assoc])]
  simp [manyB]
end
theorem nums_fw {l : List Int} (h : rgs l) : Fw B (numsR B) l (numsB l) := some_fw h.1 (fun x _ => numB_pos x) fun x hx => long_fw (h.2 x hx)
theorem ty_fw {t : Ty} (h : t.ok) : Fw B (kindR B) t (tyB t) := by
  intro pre post e
  unfold tyB at e
  rw [List.append_assoc] at e
  have hn : rg (if t.imm then 1 else 0) := by unfold rg; split <;> omega
  unfold kindR
  rw [num_fw hn e false]
  have hb : ((false || decide ((if t.imm then (1 : Int) else 0) < 0)) || decide ((1 : Int) < (if t.imm then (1 : Int) else 0))) = false := by cases t.imm <;> decide
  simp only [hb]
  rw [nums_fw h (pre ++ numB (if t.imm then 1 else 0)) post (by rw [e, List.append_assoc])]
  obtain ⟨imm, sh⟩ := t
  cases imm <;> simp [tyB]
theorem shp_fw {s : Shp} (h : s.ok) : Fw B (shapeR B) s (shB s) := by
  intro pre post e
  unfold shB at e
  simp only [List.append_assoc] at e
  unfold shapeR
  rw [num_fw h.1 e false]
  simp only
  rw [← List.append_assoc] at e
  rw [nums_fw h.2.1 _ _ e]
  simp only
  rw [← List.append_assoc] at e
  rw [text_fw h.2.2 _ _ e]
  simp [shB]
/-- A field is put over. -/
def setF (x y : Ins) (c : UInt8) : Ins :=
  if c = 78 then { y with n := x.n } else if c = 68 then { y with d := x.d } else if c = 65 then { y with a := x.a } else if c = 66 then { y with b := x.b } else if c = 67 then { y with c := x.c } else
  if c = 76 then { y with l := x.l } else if c = 77 then { y with m := x.m } else { y with live := x.live }
theorem fld_fw {x : Ins} (ok : x.ok) (y : Ins) (c : UInt8) {pre post : List Nat} (e : B = pre ++ (fldB x c ++ post)) : fldR B (y, ⟨pre.length, false⟩) c = (setF x y c, ⟨(pre ++ fldB x c).length, false⟩) := by
  obtain ⟨⟨o1, o2, o3, o4, o5, o6⟩, o7, o8, o9⟩ := ok
  unfold fldB at e ⊢
  unfold fldR setF
  by_cases c0 : c = 78
  · simp only [c0, if_true] at e ⊢; rw [long_fw o6 _ _ e]
  by_cases c1 : c = 68
  · simp only [c0, c1, if_true, if_false] at e ⊢; rw [long_fw o2 _ _ e]; simp
  by_cases c2 : c = 65
  · simp only [c0, c1, c2, if_true, if_false] at e ⊢; rw [long_fw o3 _ _ e]; simp
  by_cases c3 : c = 66
  · simp only [c0, c1, c2, c3, if_true, if_false] at e ⊢; rw [long_fw o4 _ _ e]; simp
  by_cases c4 : c = 67
  · simp only [c0, c1, c2, c3, c4, if_true, if_false] at e ⊢; rw [long_fw o5 _ _ e]; simp
  by_cases c5 : c = 76
  · simp only [c0, c1, c2, c3, c4, c5, if_true, if_false] at e ⊢; rw [nums_fw o7 _ _ e]; simp
  by_cases c6 : c = 77
  · simp only [c0, c1, c2, c3, c4, c5, c6, if_true, if_false] at e ⊢; rw [nums_fw o8 _ _ e]; simp
  simp only [c0, c1, c2, c3, c4, c5, c6, if_true, if_false] at e ⊢; rw [nums_fw o9 _ _ e]
theorem flds_fw {x : Ins} (ok : x.ok) : ∀ (u : List UInt8) (y : Ins) (pre post : List Nat), B = pre ++ (u.flatMap (fldB x) ++ post) → u.foldl (fldR B) (y, ⟨pre.length, false⟩) = (u.foldl (setF x) y, ⟨(pre ++ u.flatMap (fldB x)).length, false⟩)
  | [], y, pre, post, _ => by simp
  | c :: u, y, pre, post, e => by
    rw [List.flatMap_cons, List.append_assoc] at e
    rw [List.foldl_cons, List.foldl_cons, fld_fw ok y c e, flds_fw ok u _ _ post (by rw [e, List.append_assoc])]
    simp
theorem set_plain {x : Ins} (h : plainN x = true) : (usesN x.op).foldl (setF x) (insZ x.op) = x ∧ usesN x.op ≠ [] := by
  obtain ⟨op, d, a, b, c, n, l, m, live⟩ := x
  unfold plainN at h
  simp only at h
  rcases op_cases op with q | q
  · rcases q with rfl | rfl | rfl | rfl | rfl | rfl | rfl | rfl | rfl | rfl | rfl | rfl | rfl | rfl | rfl | rfl | rfl | rfl | rfl | rfl | rfl | rfl | rfl | rfl <;>
      simp [usesN, usesL, hasL] at h <;> simp [usesN, usesL, setF, insZ, h]
  · rw [usesN_out q] at h; simp at h
theorem ins_fw {x : Ins} (ok : x.ok) (hp : plainN x = true) : Fw B (instrR B) x (insB x) := by
  intro pre post e
  unfold insB at e
  rw [List.append_assoc] at e
  obtain ⟨h1, h2⟩ := set_plain hp
  unfold instrR
  rw [num_fw ok.1.1 e false]
  simp only [h2, decide_false, Bool.or_false]
  rw [flds_fw ok _ _ _ post (by rw [e, List.append_assoc]), h1]
  simp [insB]
theorem nums_pos (l : List Int) : 0 < (numsB l).length := by unfold numsB manyB; have := numB_pos l.length; simp only [List.length_append]; omega
theorem ins_pos (x : Ins) : 0 < (insB x).length := by unfold insB; have := numB_pos x.op; simp only [List.length_append]; omega
theorem blk_pos (x : Blk) : 0 < (blkB x).length := by unfold blkB; have := nums_pos x.inn; simp only [List.length_append]; omega
theorem fn_pos (x : Fn) : 0 < (fnB x).length := by unfold fnB; have := nums_pos x.params; simp only [List.length_append]; omega
theorem ty_pos (x : Ty) : 0 < (tyB x).length := by unfold tyB; have := nums_pos x.sh; simp only [List.length_append]; omega
theorem shp_pos (x : Shp) : 0 < (shB x).length := by unfold shB; have := nums_pos x.fs; simp only [List.length_append]; omega
theorem text_pos (x : List UInt8) : 0 < (textB x).length := by unfold textB; have := numB_pos x.length; simp only [List.length_append]; omega
theorem blk_fw {b : Blk} (ok : b.ok) (hp : ∀ x ∈ b.code, plainN x = true) : Fw B (blockR B) b (blkB b) := by
  intro pre post e
  unfold blkB at e
  rw [List.append_assoc] at e
  unfold blockR
  rw [nums_fw ok.1 _ _ e]
  rw [← List.append_assoc] at e
  simp only
  rw [some_fw ok.2.1 (fun x _ => ins_pos x) (fun x hx => ins_fw (ok.2.2 x hx) (hp x hx)) _ _ e]
  simp [blkB]
theorem fn_fw {f : Fn} (ok : f.ok) (hp : ∀ b ∈ f.blocks, ∀ x ∈ b.code, plainN x = true) : Fw B (functionR B) f (fnB f) := by
  intro pre post e
  obtain ⟨o1, o2, o3, o4, o5⟩ := ok
  unfold fnB at e
  simp only [List.append_assoc] at e
  unfold functionR
  rw [nums_fw o1 _ _ e]
  rw [← List.append_assoc] at e
  simp only
  rw [num_fw o2 e false]
  rw [← List.append_assoc] at e
  simp only
  rw [num_fw o3 e false]
  rw [← List.append_assoc] at e
  simp only
  rw [some_fw o4 (fun x _ => blk_pos x) (fun x hx => blk_fw (o5 x hx) (hp x hx)) _ _ e]
  simp [fnB]
theorem check_plain {m : Img} (h : checkN m = 0) : ∀ f ∈ m.fns, ∀ b ∈ f.blocks, ∀ x ∈ b.code, plainN x = true := by
  intro f hf b hb x hx
  unfold checkN at h
  split at h
  · omega
  · split at h
    · omega
    · rename_i q
      cases hp : plainN x with
      | true => rfl
      | false => exact absurd (List.any_eq_true.2 ⟨f, hf, List.any_eq_true.2 ⟨b, hb, List.any_eq_true.2 ⟨x, hx, by unfold notPlain; rw [hp]; rfl⟩⟩⟩) q
theorem image_fw {m : Img} (ok : m.ok) (hc : checkN m = 0) {post : List Nat} (e : B = bytesI m ++ post) : imageR B = (m, ⟨(bytesI m).length, false⟩) := by
  have hp := check_plain hc
  obtain ⟨o1, o2, o3, o4, o5, o6, o7⟩ := ok
  unfold bytesI at e
  simp only [List.append_assoc] at e
  unfold imageR
  rw [show (⟨4, false⟩ : RS) = ⟨headB.length, false⟩ from rfl, some_fw o1.1 (fun x _ => ty_pos x) (fun x hx => ty_fw (o1.2 x hx)) _ _ e]
  rw [← List.append_assoc] at e
  simp only
  rw [some_fw o2.1 (fun x _ => shp_pos x) (fun x hx => shp_fw (o2.2 x hx)) _ _ e]
  rw [← List.append_assoc] at e
  simp only
  rw [some_fw o3.1 (fun x _ => text_pos x) (fun x hx => text_fw (o3.2 x hx)) _ _ e]
  rw [← List.append_assoc] at e
  simp only
  rw [some_fw o4.1 (fun x _ => text_pos x) (fun x hx => text_fw (o4.2 x hx)) _ _ e]
  rw [← List.append_assoc] at e
  simp only
  rw [some_fw o5.1 (fun x _ => fn_pos x) (fun x hx => fn_fw (o5.2 x hx) (hp x hx)) _ _ e]
  rw [← List.append_assoc] at e
  simp only
  rw [num_fw o6 e false]
  rw [← List.append_assoc] at e
  simp only
  rw [num_fw o7 e false]
  simp only [bytesI, List.append_assoc]
theorem head_ok {l : List Nat} (h : B = headB ++ l) : noHead B = false := by
  subst h
  unfold noHead
  simp [headB]
  exact decide_eq_false (by omega)
theorem decode_fw {m : Img} (ok : m.ok) (hc : checkN m = 0) : decodeN (bytesI m) = (m, 0) := by
  unfold decodeN
  rw [head_ok (by unfold bytesI; simp only [List.append_assoc]; rfl), image_fw ok hc (by rw [List.append_nil])]
  simp [badEnd, hc]
end Go.Proofs.Ytgcnliikibbcnaa.X
set_option linter.unusedVariables false
set_option linter.unusedSimpArgs false
set_option maxRecDepth 20000
namespace Go.Proofs.Ytgcnliikibbcnaa.X
open Go Go.RowKit
section
variable {h : H} {l : List AV}
theorem lies_num (hl : Lies h (.int .i64) l) : ∃ n, l = [.int .i64 n] ∧ rg n := by
  obtain ⟨n, rfl, q, q'⟩ := lies_i64 hl
  exact ⟨n, rfl, by unfold rg; omega⟩
end
theorem checkZ : checkN imgZ = 0 := by rfl
theorem numB0 : numB 0 = [0] := putL_small (by decide)
theorem bytesZ : bytesI imgZ = [66, 69, 76, 49, 0, 0, 0, 0, 0, 0, 0] := by simp [bytesI, imgZ, manyB, numB0, headB]
theorem decZ : decodeN (bytesI imgZ) = (imgZ, 0) := decode_fw imgZ_ok checkZ
theorem decS1 : decodeN [66, 69, 76] = (imgZ, 20) := by rfl
section
variable {h : H}
theorem imgR.shape {m : Img} {c : List AV} (r : imgR h m c) : c.length = 7 ∧ c[5]? = some (.int .i64 m.main) ∧ c[6]? = some (.int .i64 m.exn) := by
  obtain ⟨_, _, _, _, _, rfl, _⟩ := r; exact ⟨rfl, rfl, rfl⟩
/-- An image that is put into a box of its own. -/
theorem imgbox_r {m : Img} {c : List AV} {n : Nat} {zs : List AV} (r : imgR h m c) (hz : zs.length = n) (hn : n = 7) (lz : leaves zs = true) {K : AV → H → Prop}
    (hK : ∀ d h', Fr [] h h' → h.get d = none → h'.get d = some (.live c 34 true) → h'.read d 0 7 = some c → K (.ptr d 0) h') : boxA h zs 34 fun x h => memA (stA h n x (.agg c)) .undef fun _ h => K x h := by
  subst hn
  have hc := r.shape.1
  refine box_r lz fun d hd => ?_
  rw [copy_st hc hz r.leaves, memA_some]
  exact hK d _ ((Fr.refl _ _).set' hd) hd (H.get_same ..) (H.read_eq (H.get_same ..) (by omega) (by rw [List.drop_zero, List.take_of_length_le (by omega)]))
theorem putL_lt (x : Nat) : ∀ d ∈ putL x, d < 256 := by
  induction x using putL.induct with
  | case1 x h => rw [putL, if_pos h]; simp; omega
  | case2 x h ih =>
    rw [putL, if_neg h]
    intro d hd
    rcases List.mem_cons.1 hd with rfl | hd
    · omega
    · exact ih d hd
theorem numB_lt (n : Int) : ∀ d ∈ numB n, d < 256 := putL_lt _
theorem manyB_lt {α : Type} {e : α → List Nat} (h : ∀ x, ∀ d ∈ e x, d < 256) (l : List α) : ∀ d ∈ manyB e l, d < 256 := by
  intro d hd
  rcases List.mem_append.1 hd with hd | hd
  · exact numB_lt _ d hd
  · obtain ⟨x, _, hx⟩ := List.mem_flatMap.1 hd
    exact h x d hx
theorem app_lt {a b : List Nat} (ha : ∀ d ∈ a, d < 256) (hb : ∀ d ∈ b, d < 256) : ∀ d ∈ a ++ b, d < 256 := fun d hd => (List.mem_append.1 hd).elim (ha d) (hb d)
theorem textB_lt (s : List UInt8) : ∀ d ∈ textB s, d < 256 := app_lt (numB_lt _) fun d hd => by
  obtain ⟨c, _, rfl⟩ := List.mem_map.1 hd
  exact UInt8.toNat_lt c
theorem numsB_lt (l : List Int) : ∀ d ∈ numsB l, d < 256 := manyB_lt numB_lt l
theorem fldB_lt (x : Ins) (c : UInt8) : ∀ d ∈ fldB x c, d < 256 := by
  unfold fldB
  repeat' split
  all_goals first | exact numB_lt _ | exact numsB_lt _
theorem insB_lt (x : Ins) : ∀ d ∈ insB x, d < 256 := app_lt (numB_lt _) fun d hd => by
  obtain ⟨c, _, hx⟩ := List.mem_flatMap.1 hd
  exact fldB_lt x c d hx
theorem bytes_lt (m : Img) : ∀ d ∈ bytesI m, d < 256 := by
  unfold bytesI
  refine app_lt (app_lt (app_lt (app_lt (app_lt (app_lt (app_lt (by decide) (manyB_lt ?_ _)) (manyB_lt ?_ _)) (manyB_lt textB_lt _)) (manyB_lt textB_lt _)) (manyB_lt ?_ _)) (numB_lt _)) (numB_lt _)
  · exact fun t => app_lt (numB_lt _) (numsB_lt _)
  · exact fun t => app_lt (app_lt (numB_lt _) (numsB_lt _)) (textB_lt _)
  · exact fun f => app_lt (app_lt (app_lt (numsB_lt _) (numB_lt _)) (numB_lt _)) (manyB_lt (fun b => app_lt (numsB_lt _) (manyB_lt insB_lt _)) _)
theorem ext2 {a b : AV} {h : H} {K : AV → AV → H → Prop} : (valA (extA (.tup [a, b]) 0) h fun x h => valA (extA (.tup [a, b]) 1) h fun y h => K x y h) = K a b h := by
  rw [show extA (.tup [a, b]) 0 = some a from rfl, valA_some, show extA (.tup [a, b]) 1 = some b from rfl, valA_some]
theorem lives_c {K : AV → H → Prop} (hK : ∀ h', Fr [] h h' → K (.bool true) h') : C 14 [] h K := by
  refine run14 ?_
  unfold sh14
  rw [show buildA (fillV [AV.nilsl, AV.nilsl, AV.nilsl, AV.nilsl, AV.nilsl, AV.int .i64 0, AV.int .i64 0] []) = some (.agg [AV.nilsl, AV.nilsl, AV.nilsl, AV.nilsl, AV.nilsl, AV.int .i64 0, AV.int .i64 0]) from rfl, valA_some]
  refine encode_c (imgZ_r h) imgZ_ok (by rw [bytesZ]; decide) (fun q => absurd checkZ q) fun _ v h1 f1 w1 => ?_
  rw [ext2]
  show mkslA h1 5 3 (fillV [(.int .u8 0), (.int .u8 0), (.int .u8 0)] [(0, 1, (.int .u8 66)), (1, 1, (.int .u8 69)), (2, 1, (.int .u8 76))]) _
  refine ⟨rfl, fun p hp => ?_⟩
  have gp : (h1.set p (.live (bc [66, 69, 76]) 5 true)).get p = some (.live (bc [66, 69, 76]) 5 true) := H.get_same ..
  have fp : Fr [] h1 (h1.set p (.live (bc [66, 69, 76]) 5 true)) := (Fr.refl _ _).set' hp
  change valA (keepA (h1.set p (.live (bc [66, 69, 76]) 5 true)) (.sl p 0 3 (.exact 3))) (h1.set p (.live (bc [66, 69, 76]) 5 true)) _
  have w2 := w1.row.fr fp
  have f2 := f1.trans fp
  generalize h1.set p (.live (bc [66, 69, 76]) 5 true) = h2 at *
  rw [show keepA h2 (.sl p 0 3 (.exact 3)) = some (.sl p 0 3 (.exact 3)) by simp only [keepA, gp]; rfl, valA_some]
  have rp : Row h2 (.sl p 0 3 (.exact 3)) [66, 69, 76].length 1 (bc [66, 69, 76]) := ⟨rfl, .inr ⟨p, 0, _, rfl, rfl, H.read_eq gp (by decide) rfl⟩⟩
  refine decode_c rp (by decide) (by decide) fun h3 c f3 ri _ => ?_
  rw [decS1] at ri ⊢
  rw [ext2]
  refine imgbox_r ri rfl rfl rfl fun d h4 f4 _ _ _ => ?_
  have w4 := (w2.fr f3).fr f4
  refine decode_c w4 (bytes_lt _) (by rw [bytesZ]; decide) fun h5 c f5 ri _ => ?_
  rw [decZ] at ri ⊢
  rw [ext2]
  refine imgbox_r ri rfl rfl rfl fun d h6 f6 hd gd rd => ?_
  have w6 := (w4.fr f5).fr f6
  have e1 := w6.b2s
  have e2 : (bytesI imgZ).map UInt8.ofNat = [66, 69, 76, 49, 0, 0, 0, 0, 0, 0, 0] := by rw [bytesZ]; rfl
  rw [e2] at e1
  have c5 : h6.cell d 5 = some (.int .i64 0) := by rw [cell_of gd]; exact ri.shape.2.1
  have u19 : usesN 19 = [65, 66, 67] := rfl
  have ff := ((((f2.trans f3).trans f4).trans f5).trans f6)
  simp only [go_sem, reduceIte, Nat.reduceAdd, Nat.reduceSub, Nat.reduceMul, Nat.reducePow, Nat.reduceLT, Nat.reduceLeDiff, Nat.reduceEqDiff, Int.reduceAdd, Int.reduceSub, Int.reduceMul, Int.reduceNeg, Int.reducePow, Int.reduceLT, Int.reduceLE, Int.reduceEq, Int.reduceNe, Int.reduceToNat, Int.toNat_natCast, Nat.zero_add, Nat.add_zero, Nat.mul_one, Nat.one_mul, Bool.not_true, Bool.not_false, ne_eq, not_true_eq_false, not_false_eq_true, Bool.false_eq_true, e1, c5, uses_c, u19]
  rw [show buildA (fillV [AV.int .i64 0, .int .i64 0, .int .i64 0, .int .i64 0, .int .i64 0, .int .i64 0, .nilsl, .nilsl, .nilsl] [(0, 1, AV.int .i64 18), (2, 1, AV.int .i64 3)]) = some (.agg (insC ⟨18, 0, 3, 0, 0, 0, [], [], []⟩ .nilsl .nilsl .nilsl)) from rfl, valA_some]
  refine plain_c ⟨_, _, _, rfl, Row.nil .., Row.nil .., Row.nil ..⟩ fun h7 f7 => ?_
  rw [show plainN ⟨18, 0, 3, 0, 0, 0, [], [], []⟩ = true from rfl]
  simp only [go_sem, reduceIte, Nat.reduceAdd, Nat.reduceSub, Nat.reduceMul, Nat.reducePow, Nat.reduceLT, Nat.reduceLeDiff, Nat.reduceEqDiff, Int.reduceAdd, Int.reduceSub, Int.reduceMul, Int.reduceNeg, Int.reducePow, Int.reduceLT, Int.reduceLE, Int.reduceEq, Int.reduceNe, Int.reduceToNat, Int.toNat_natCast, Nat.zero_add, Nat.add_zero, Nat.mul_one, Nat.one_mul, Bool.not_true, Bool.not_false, ne_eq, not_true_eq_false, not_false_eq_true, Bool.false_eq_true]
  rw [show buildA (fillV [AV.int .i64 0, .int .i64 0, .int .i64 0, .int .i64 0, .int .i64 0, .int .i64 0, .nilsl, .nilsl, .nilsl] [(0, 1, AV.int .i64 18), (2, 1, AV.int .i64 3), (1, 1, AV.int .i64 1)]) = some (.agg (insC ⟨18, 1, 3, 0, 0, 0, [], [], []⟩ .nilsl .nilsl .nilsl)) from rfl, valA_some]
  refine plain_c ⟨_, _, _, rfl, Row.nil .., Row.nil .., Row.nil ..⟩ fun h8 f8 => ?_
  rw [show plainN ⟨18, 1, 3, 0, 0, 0, [], [], []⟩ = false from rfl]
  simp only [go_sem, reduceIte, Nat.reduceAdd, Nat.reduceSub, Nat.reduceMul, Nat.reducePow, Nat.reduceLT, Nat.reduceLeDiff, Nat.reduceEqDiff, Int.reduceAdd, Int.reduceSub, Int.reduceMul, Int.reduceNeg, Int.reducePow, Int.reduceLT, Int.reduceLE, Int.reduceEq, Int.reduceNe, Int.reduceToNat, Int.toNat_natCast, Nat.zero_add, Nat.add_zero, Nat.mul_one, Nat.one_mul, Bool.not_true, Bool.not_false, ne_eq, not_true_eq_false, not_false_eq_true, Bool.false_eq_true]
  exact hK h8 ((ff.trans f7).trans f8)
end
end Go.Proofs.Ytgcnliikibbcnaa.X
set_option linter.unusedVariables false
set_option linter.unusedSimpArgs false
set_option maxRecDepth 20000
namespace Go.Proofs.Ytgcnliikibbcnaa.X
open Go Go.RowKit
/-- All blocks but those of bytes stay. -/
def FrB (h h' : H) : Prop := ∀ c cs e w, e ≠ 5 → h.get c = some (.live cs e w) → h'.get c = some (.live cs e w)
theorem FrB.trans {h h1 h2 : H} (f : FrB h h1) (g : FrB h1 h2) : FrB h h2 := fun c cs e w he x => g c cs e w he (f c cs e w he x)
theorem FrB.refl (h : H) : FrB h h := fun _ _ _ _ _ x => x
/-- Bytes so far. -/
structure V (h0 h : H) (v : AV) (L : List Nat) : Prop where
  ws : WS h0 h v L
  fr : Fr [] h0 h
section
variable {h0 h h' : H} {v : AV} {L : List Nat}
theorem V.keep (w : V h0 h v L) (f : Fr [] h h') : V h0 h' v L := ⟨w.ws.fr f, w.fr.trans f⟩
theorem WS.ne (s : WS h0 h v L) {c e : Nat} {cs : List AV} {w : Bool} (he : e ≠ 5) (hg : h.get c = some (.live cs e w)) : ∀ n p, v ≠ .sl c 0 n p := by
  intro n p q
  rcases s with s | ⟨m, q1, _, q3⟩
  · rcases s.2 with ⟨_, z⟩ | ⟨b, z1, _, z3⟩
    · rw [q] at z; cases z
    · rw [q] at z1; injection z1 with z1 _; subst z1
      rw [hg] at z3; injection z3 with z3; injection z3 with _ z3 _; exact he z3
  · rw [q] at q1; injection q1 with q1 _; subst q1
    rw [hg] at q3; injection q3 with q3; injection q3 with _ q3 _; exact he q3
end
end Go.Proofs.Ytgcnliikibbcnaa.X
set_option linter.unusedVariables false
set_option linter.unusedSimpArgs false
set_option maxRecDepth 20000
namespace Go.Proofs.Ytgcnliikibbcnaa.X
open Go Go.RowKit
def sumN {α : Type} (w : α → Nat) (l : List α) : Nat := (l.map w).sum
def wTy (t : Ty) : Nat := t.sh.length
def wShp (s : Shp) : Nat := s.fs.length + s.name.length
def wStr (s : List UInt8) : Nat := s.length
def wIns (x : Ins) : Nat := x.l.length + x.m.length + x.live.length
def wBlk (b : Blk) : Nat := b.inn.length + b.code.length + sumN wIns b.code
def wFn (f : Fn) : Nat := f.params.length + f.blocks.length + sumN wBlk f.blocks
def wImg (m : Img) : Nat := m.types.length + m.shapes.length + m.strs.length + m.names.length + m.fns.length + sumN wTy m.types + sumN wShp m.shapes + sumN wStr (m.strs ++ m.names) + sumN wFn m.fns
theorem sum_succ {α : Type} (w : α → Nat) {l : List α} {i : Nat} {x : α} (h : l[i]? = some x) : sumN w (l.take (i + 1)) = sumN w (l.take i) + w x := by
  unfold sumN
  rw [List.take_add_one, h, List.map_append, List.sum_append]; simp
section
variable {h : H}
/-- Counted down, so far. -/
def Cnt {α : Type} (h0 : H) (n0 : Int) (w : α → Nat) (l : List α) (i : Nat) (a : AV) (h : H) : Prop := ∃ n : Int, a = .int .i64 n ∧ n = n0 - (sumN w (l.take i) : Nat) ∧ -4503599627370496 ≤ n ∧ n0 ≤ 40000 ∧ Fr [] h0 h
theorem Cnt.zero {α : Type} {h0 : H} {n0 : Int} {w : α → Nat} {l : List α} (h1 : -4503599627370496 ≤ n0) (h2 : n0 ≤ 40000) (f : Fr [] h0 h) : Cnt h0 n0 w l 0 (.int .i64 n0) h := ⟨n0, rfl, by simp [sumN], h1, h2, f⟩
theorem Cnt.fin {α : Type} {h0 : H} {n0 : Int} {w : α → Nat} {l : List α} {a : AV} (c : Cnt h0 n0 w l l.length a h) : ∃ n : Int, a = .int .i64 n ∧ n = n0 - (sumN w l : Nat) ∧ -4503599627370496 ≤ n ∧ n ≤ 40000 ∧ Fr [] h0 h := by
  obtain ⟨n, h1, h2, h3, h4, h5⟩ := c
  rw [List.take_length] at h2
  exact ⟨n, h1, h2, h3, by omega, h5⟩
theorem Cnt.succ {α : Type} {h0 : H} {n0 : Int} {w : α → Nat} {l : List α} {i : Nat} {x : α} (hx : l[i]? = some x) {n : Int} (hn : n = n0 - (sumN w (l.take i) : Nat)) {n' : Int} (hn' : n' = n - (w x : Nat)) (h1 : -4503599627370496 ≤ n') (h2 : n0 ≤ 40000) (f : Fr [] h0 h) : Cnt h0 n0 w l (i + 1) (.int .i64 n') h :=
  ⟨n', rfl, by rw [sum_succ w hx]; omega, h1, h2, f⟩
theorem Cnt.keep {α : Type} {h0 h' : H} {n0 : Int} {w : α → Nat} {l : List α} {i : Nat} {a : AV} (c : Cnt h0 n0 w l i a h) (f : Fr [] h h') : Cnt h0 n0 w l i a h' := by
  obtain ⟨n, h1, h2, h3, h4, h5⟩ := c
  exact ⟨n, h1, h2, h3, h4, h5.trans f⟩
theorem Cnt.fr {α : Type} {h0 : H} {n0 : Int} {w : α → Nat} {l : List α} {i : Nat} {a : AV} (c : Cnt h0 n0 w l i a h) : Fr [] h0 h := by
  obtain ⟨n, h1, h2, h3, h4, h5⟩ := c; exact h5
end
end Go.Proofs.Ytgcnliikibbcnaa.X
set_option linter.unusedVariables false
set_option linter.unusedSimpArgs false
set_option maxRecDepth 20000
namespace Go.Proofs.Ytgcnliikibbcnaa.X
open Go Go.RowKit
/-! ### How many bytes -/
theorem num_le {n : Int} (h : rg n) : (numB n).length ≤ 10 := putL_len64 (zig_lt h.1 h.2)
theorem many_le {α : Type} {e : α → List Nat} {w : α → Nat} {l : List α} {C D : Nat} (hl : l.length ≤ reachBytes) (h : ∀ x ∈ l, (e x).length ≤ C + D * w x) : (manyB e l).length ≤ 10 + C * l.length + D * sumN w l := by
  unfold manyB
  have h1 := num_le (rg_nat hl)
  have h2 : (l.flatMap e).length ≤ C * l.length + D * sumN w l := by
    clear hl h1
    induction l with
    | nil => simp [sumN]
    | cons x l ih =>
      have i1 := h x (by simp)
      have i2 := ih fun y hy => h y (by simp [hy])
      have e1 : sumN w (x :: l) = w x + sumN w l := by simp [sumN]
      rw [List.flatMap_cons, List.length_append, List.length_cons, e1, Nat.mul_add, Nat.mul_add]; omega
  rw [List.length_append]; omega
theorem nums_le {l : List Int} (h : rgs l) : (numsB l).length ≤ 10 + 10 * l.length := by
  have := many_le (e := numB) (w := fun _ => 0) (C := 10) (D := 0) h.1 fun x hx => by have := num_le (h.2 x hx); omega
  unfold numsB; omega
theorem text_le {s : List UInt8} (h : s.length ≤ reachBytes) : (textB s).length ≤ 10 + 1 * wStr s := by
  have := num_le (rg_nat h)
  unfold textB wStr; simp only [List.length_append, List.length_map]; omega
theorem ty_le {t : Ty} (h : t.ok) : (tyB t).length ≤ 20 + 10 * wTy t := by
  have := nums_le h
  have := num_le (n := if t.imm then 1 else 0) (by unfold rg; split <;> omega)
  unfold tyB wTy; simp only [List.length_append]; omega
theorem shp_le {s : Shp} (h : s.ok) : (shB s).length ≤ 30 + 10 * wShp s := by
  have := num_le h.1
  have := nums_le h.2.1
  have := text_le h.2.2
  unfold shB wShp; unfold wStr at this; simp only [List.length_append]; omega
theorem fld_le {x : Ins} (h : x.ok) (c : UInt8) : (fldB x c).length ≤ 10 + 10 * wIns x := by
  obtain ⟨⟨o1, o2, o3, o4, o5, o6⟩, o7, o8, o9⟩ := h
  have := num_le o2; have := num_le o3; have := num_le o4; have := num_le o5; have := num_le o6
  have := nums_le o7; have := nums_le o8; have := nums_le o9
  unfold fldB wIns
  repeat' split
  all_goals omega
theorem uses_six (op : Int) : (usesN op).length ≤ 6 := by
  rcases op_cases op with q | q
  · rcases q with rfl | rfl | rfl | rfl | rfl | rfl | rfl | rfl | rfl | rfl | rfl | rfl | rfl | rfl | rfl | rfl | rfl | rfl | rfl | rfl | rfl | rfl | rfl | rfl <;> decide
  · rw [usesN_out q]; decide
theorem flds_le {x : Ins} (h : x.ok) : ∀ u : List UInt8, (u.flatMap (fldB x)).length ≤ u.length * (10 + 10 * wIns x)
  | [] => by simp
  | c :: u => by
    have := flds_le h u
    have := fld_le h c
    rw [List.flatMap_cons, List.length_append, List.length_cons, Nat.add_mul]; omega
theorem ins_le {x : Ins} (h : x.ok) : (insB x).length ≤ 70 + 60 * wIns x := by
  have := num_le h.1.1
  have h2 := flds_le h (usesN x.op)
  have h3 : (usesN x.op).length * (10 + 10 * wIns x) ≤ 6 * (10 + 10 * wIns x) := Nat.mul_le_mul_right _ (uses_six x.op)
  unfold insB; rw [List.length_append]; omega
theorem blk_le {b : Blk} (h : b.ok) : (blkB b).length ≤ 20 + 70 * wBlk b := by
  have := nums_le h.1
  have := many_le (e := insB) (w := wIns) h.2.1 fun x hx => ins_le (h.2.2 x hx)
  unfold blkB wBlk; rw [List.length_append]; omega
theorem fn_le {f : Fn} (h : f.ok) : (fnB f).length ≤ 40 + 70 * wFn f := by
  obtain ⟨o1, o2, o3, o4, o5⟩ := h
  have := nums_le o1
  have := num_le o2
  have := num_le o3
  have := many_le (e := blkB) (w := wBlk) o4 fun x hx => blk_le (o5 x hx)
  unfold fnB wFn; simp only [List.length_append]; omega
theorem sum_app {α : Type} (w : α → Nat) (a b : List α) : sumN w (a ++ b) = sumN w a + sumN w b := by unfold sumN; rw [List.map_append, List.sum_append]
theorem img_le {m : Img} (h : m.ok) : (bytesI m).length ≤ 74 + 70 * wImg m := by
  obtain ⟨⟨k1, k1'⟩, ⟨k2, k2'⟩, ⟨k3, k3'⟩, ⟨k4, k4'⟩, ⟨k5, k5'⟩, k6, k7⟩ := h
  have := many_le (e := tyB) (w := wTy) k1 fun x hx => ty_le (k1' x hx)
  have := many_le (e := shB) (w := wShp) k2 fun x hx => shp_le (k2' x hx)
  have := many_le (e := textB) (w := wStr) k3 fun x hx => text_le (k3' x hx)
  have := many_le (e := textB) (w := wStr) k4 fun x hx => text_le (k4' x hx)
  have := many_le (e := fnB) (w := wFn) k5 fun x hx => fn_le (k5' x hx)
  have := num_le k6
  have := num_le k7
  have e : headB.length = 4 := rfl
  unfold bytesI wImg; rw [sum_app]; simp only [List.length_append, e]; omega
theorem most_47 : most = 140737488355328 := rfl
end Go.Proofs.Ytgcnliikibbcnaa.X
set_option linter.unusedVariables false
set_option linter.unusedSimpArgs false
set_option maxRecDepth 20000
namespace Go.Proofs.Ytgcnliikibbcnaa.X
open Go Go.RowKit
/-- Is it the same? -/
noncomputable def eqB {α : Type} (a b : α) : Bool := open Classical in decide (a = b)
theorem eqB_t {α : Type} {a b : α} (h : a = b) : eqB a b = true := by unfold eqB; simp [h]
theorem eqB_f {α : Type} {a b : α} (h : a ≠ b) : eqB a b = false := by unfold eqB; simp [h]
theorem eqB_iff {α : Type} {a b : α} : eqB a b = true ↔ a = b := by unfold eqB; simp
theorem eqB_self {α : Type} (a : α) : eqB a a = true := eqB_t rfl
theorem eqB_dec {α : Type} [DecidableEq α] (a b : α) : decide (a = b) = eqB a b := by
  by_cases h : a = b
  · rw [eqB_t h, decide_eq_true h]
  · rw [eqB_f h, decide_eq_false h]
theorem eqB_of {α : Type} {a b : α} {p : Bool} (h : p = true ↔ a = b) : p = eqB a b := by
  by_cases q : a = b
  · rw [eqB_t q]; exact h.2 q
  · rw [eqB_f q]; exact Bool.eq_false_iff.2 fun e => q (h.1 e)
theorem take_diff {α : Type} {l1 l2 : List α} {i : Nat} {x y : α} (h1 : l1[i]? = some x) (h2 : l2[i]? = some y) (h : x ≠ y) : l1 ≠ l2 := by
  rintro rfl
  rw [h1] at h2; injection h2 with h2; exact h h2
theorem take_same {α : Type} {l1 l2 : List α} {i : Nat} {x : α} (h1 : l1[i]? = some x) (h2 : l2[i]? = some x) (h : l1.take i = l2.take i) : l1.take (i + 1) = l2.take (i + 1) := by
  rw [List.take_add_one, List.take_add_one, h1, h2, h]
theorem take_full {α : Type} {l1 l2 : List α} {i : Nat} (hi : ¬ i < l1.length) (hl : l1.length = l2.length) (h : l1.take i = l2.take i) : l1 = l2 := by
  rwa [List.take_of_length_le (by omega), List.take_of_length_le (by omega)] at h
section
variable {h : H}
/-- Two elements are compared by a function E. -/
def EqC {α : Type} (h : H) (E : Nat) (Rel : H → α → List AV → Prop) : Prop := ∀ (h' : H) (x y : α) (c d : List AV), Fr [] h h' → Rel h' x c → Rel h' y d → ∀ K : AV → H → Prop, (∀ h'', Fr [] h' h'' → K (.bool (eqB x y)) h'') → C E [.agg c, .agg d] h' K
theorem eqf_r {α : Type} {esz ty E : Nat} {zs : List AV} {v1 v2 : AV} {l1 l2 : List α} {Rel : H → α → List AV → Prop} (hmono : ∀ {h h' : H} {x c}, Fr [] h h' → Rel h x c → Rel h' x c) (hleaf : ∀ {h : H} {x c}, Rel h x c → leaves c = true) (hz : zs.length = esz) (lz : leaves zs = true)
    (r1 : RowOf h esz (Rel h) v1 l1) (r2 : RowOf h esz (Rel h) v2 l2) (hl : l1.length ≤ reachBytes) (hE : EqC h E Rel) {K : AV → H → Prop} (hK : ∀ h', Fr [] h h' → K (.bool (eqB l1 l2)) h') :
    valA (lenA false v1) h fun t11 h =>
    valA (lenA false v2) h fun t13 h =>
    valA (binOp .neq .num t11 t13) h fun t14 h =>
    condA t14 (K (.bool false) h)
     (joinA (fun (h : H) => K (.bool true) h) fun J =>
     valA (lenA false v1) h fun t16 h =>
     loopA (fun N l h => argA l 0 fun t17 => valA (binOp .lss .num t17 t16) h fun t18 h => condA t18
      (valA (iaA esz v1 t17) h fun t20 h =>
      valA (ldA h (some esz) t20) h fun t21 h =>
      boxA h zs ty fun v18 h =>
      memA (stA h esz v18 t21) .undef fun _ h =>
      valA (iaA esz v2 t17) h fun t24 h =>
      valA (ldA h (some esz) t24) h fun t25 h =>
      boxA h zs ty fun v29 h =>
      memA (stA h esz v29 t25) .undef fun _ h =>
      valA (ldA h (some esz) v18) h fun t27 h =>
      valA (ldA h (some esz) v29) h fun t28 h =>
      callvA C (.fn E [] []) [t27, t28] h fun t29 h =>
      valA (unOp .not t29) h fun t30 h =>
      condA t30 (K (.bool false) h)
       (valA (binOp .add .num t17 (.int .i64 1)) h fun t31 h => N [t31] h)) (J h)) [.int .i64 0] h) := by
  have hr : reachBytes ≤ 4611686018427387903 := by decide
  rw [r1.len, valA_some, r2.len, valA_some, b_neq, valA_some]
  by_cases hll : (l1.length : Int) = l2.length
  · rw [decide_eq_false (by simpa using hll), condA_f]
    have hll' : l1.length = l2.length := by omega
    refine join_r (fun (J : H → Prop) => ∀ h', Fr [] h h' → l1 = l2 → J h') (fun h' f e => by have := hK h' f; rwa [eqB_t e] at this) fun J hJ => ?_
    rw [valA_some]
    refine loop_r (l1.length + 1) (fun k ls h2 => ∃ i : Nat, ls = [.int .i64 i] ∧ i ≤ l1.length ∧ l1.take i = l2.take i ∧ Fr [] h h2 ∧ k = l1.length + 1 - i) ⟨0, rfl, by omega, rfl, Fr.refl _ _, rfl⟩ ?_
    rintro k ls h2 ⟨i, rfl, hi, ha, f, rfl⟩
    by_cases q : (i : Int) < l1.length
    · have hi' : i < l1.length := by omega
      have hi2 : i < l2.length := by omega
      obtain ⟨x, hx⟩ : ∃ x, l1[i]? = some x := ⟨l1[i], by simp [hi']⟩
      obtain ⟨y, hy⟩ : ∃ y, l2[i]? = some y := ⟨l2[i], by simp [hi2]⟩
      obtain ⟨b, o, c, e1, e2, e3, e4, e5⟩ := (r1.mono f fun _ _ _ z => hmono f z).el hx
      have en : IntKind.i64.wrap ((i : Int) + 1) = ((i + 1 : Nat) : Int) := by rw [i64_id (by omega) (by omega)]; rfl
      rw [argA_0, b_lss, valA_some, decide_eq_true q, condA_t, e1, valA_some, ldA_read e4, valA_some]
      refine box_r lz fun d hd => ?_
      rw [copy_st e3 hz (hleaf e2), memA_some]
      have fd : Fr [] h2 (h2.set d (.live c ty true)) := (Fr.refl _ _).set' hd
      have gd : (h2.set d (.live c ty true)).get d = some (.live c ty true) := H.get_same ..
      have e2 := hmono fd e2
      generalize h2.set d (.live c ty true) = h3 at *
      obtain ⟨b', o', c', u1, u2, u3, u4, u5⟩ := (r2.mono (f.trans fd) fun _ _ _ z => hmono (f.trans fd) z).el hy
      rw [u1, valA_some, ldA_read u4, valA_some]
      refine box_r lz fun d' hd' => ?_
      rw [copy_st u3 hz (hleaf u2), memA_some]
      have fd' : Fr [] h3 (h3.set d' (.live c' ty true)) := (Fr.refl _ _).set' hd'
      have gd' : (h3.set d' (.live c' ty true)).get d' = some (.live c' ty true) := H.get_same ..
      have e2 := hmono fd' e2
      have u2 := hmono fd' u2
      have gd := fd' d _ (by simp) gd
      generalize h3.set d' (.live c' ty true) = h4 at *
      rw [ldA_read (H.read_eq gd (by omega) (by rw [List.drop_zero, List.take_of_length_le (by omega)])), valA_some, ldA_read (H.read_eq gd' (by omega) (by rw [List.drop_zero, List.take_of_length_le (by omega)])), valA_some, callvA_f]
      have f4 := (f.trans fd).trans fd'
      refine hE h4 x y c c' f4 e2 u2 _ fun h5 f5 => ?_
      rw [u_not, valA_some]
      by_cases hxy : x = y
      · subst hxy
        rw [eqB_self, show (!true) = false from rfl, condA_f, b_add, en, valA_some]
        exact ⟨l1.length + 1 - (i + 1), by omega, i + 1, rfl, by omega, take_same hx hy ha, f4.trans f5, rfl⟩
      · rw [eqB_f hxy, show (!false) = true from rfl, condA_t]
        have := hK h5 (f4.trans f5)
        rwa [eqB_f (take_diff hx hy hxy)] at this
    · rw [argA_0, b_lss, valA_some, decide_eq_false q, condA_f]
      exact hJ h2 f (take_full (by omega) hll' ha)
  · rw [decide_eq_true (by simpa using hll), condA_t]
    have := hK h (Fr.refl _ _)
    rwa [eqB_f (fun e => hll (by rw [e]))] at this
theorem eq1_r {α : Type} {v1 v2 : AV} {l1 l2 : List α} {val : α → AV} (r1 : Row h v1 l1.length 1 (l1.map val)) (r2 : Row h v2 l2.length 1 (l2.map val)) (hl : l1.length ≤ reachBytes) (hv : ∀ x y, binOp .neq .num (val x) (val y) = some (.bool (!eqB x y))) {K : AV → H → Prop} (hK : K (.bool (eqB l1 l2)) h) :
    valA (lenA false v1) h fun t7 h =>
    valA (lenA false v2) h fun t9 h =>
    valA (binOp .neq .num t7 t9) h fun t10 h =>
    condA t10 (K (.bool false) h)
     (joinA (fun (h : H) => K (.bool true) h) fun J =>
     valA (lenA false v1) h fun t12 h =>
     loopA (fun N l h => argA l 0 fun t13 => valA (binOp .lss .num t13 t12) h fun t14 h => condA t14
      (valA (iaA 1 v1 t13) h fun t18 h =>
      valA (ldA h none t18) h fun t19 h =>
      valA (iaA 1 v2 t13) h fun t22 h =>
      valA (ldA h none t22) h fun t23 h =>
      valA (binOp .neq .num t19 t23) h fun t24 h =>
      condA t24 (K (.bool false) h)
       (valA (binOp .add .num t13 (.int .i64 1)) h fun t25 h => N [t25] h)) (J h)) [.int .i64 0] h) := by
  have hr : reachBytes ≤ 4611686018427387903 := by decide
  rw [r1.len, valA_some, r2.len, valA_some, b_neq, valA_some]
  by_cases hll : (l1.length : Int) = l2.length
  · rw [decide_eq_false (by simpa using hll), condA_f]
    have hll' : l1.length = l2.length := by omega
    refine join_r (fun (J : H → Prop) => l1 = l2 → J h) (fun e => by rwa [eqB_t e] at hK) fun J hJ => ?_
    rw [valA_some]
    refine loop_r (l1.length + 1) (fun k ls h2 => ∃ i : Nat, ls = [.int .i64 i] ∧ i ≤ l1.length ∧ l1.take i = l2.take i ∧ h2 = h ∧ k = l1.length + 1 - i) ⟨0, rfl, by omega, rfl, rfl, rfl⟩ ?_
    rintro k ls h2 ⟨i, rfl, hi, ha, eh, rfl⟩
    rw [eh]
    by_cases q : (i : Int) < l1.length
    · have hi' : i < l1.length := by omega
      have hi2 : i < l2.length := by omega
      obtain ⟨x, hx⟩ : ∃ x, l1[i]? = some x := ⟨l1[i], by simp [hi']⟩
      obtain ⟨y, hy⟩ : ∃ y, l2[i]? = some y := ⟨l2[i], by simp [hi2]⟩
      obtain ⟨b, o, e1, e2⟩ := r1.at (i := i) (x := val x) (by omega) q (by rw [Int.toNat_natCast, List.getElem?_map, hx]; rfl)
      obtain ⟨b', o', u1, u2⟩ := r2.at (i := i) (x := val y) (by omega) (by omega) (by rw [Int.toNat_natCast, List.getElem?_map, hy]; rfl)
      have en : IntKind.i64.wrap ((i : Int) + 1) = ((i + 1 : Nat) : Int) := by rw [i64_id (by omega) (by omega)]; rfl
      rw [argA_0, b_lss, valA_some, decide_eq_true q, condA_t, e1, valA_some, ldA_n, e2, valA_some, u1, valA_some, ldA_n, u2, valA_some, hv, valA_some]
      by_cases hxy : x = y
      · subst hxy
        rw [eqB_self, show (!true) = false from rfl, condA_f, b_add, en, valA_some]
        exact ⟨l1.length + 1 - (i + 1), by omega, i + 1, rfl, by omega, take_same hx hy ha, rfl, rfl⟩
      · rw [eqB_f hxy, show (!false) = true from rfl, condA_t]
        rwa [eqB_f (take_diff hx hy hxy)] at hK
    · rw [argA_0, b_lss, valA_some, decide_eq_false q, condA_f]
      exact hJ (take_full (by omega) hll' ha)
  · rw [decide_eq_true (by simpa using hll), condA_t]
    rwa [eqB_f (fun e => hll (by rw [e]))] at hK
theorem ints_eq {v1 v2 : AV} {l1 l2 : List Int} (r1 : Row h v1 l1.length 1 (ic l1)) (r2 : Row h v2 l2.length 1 (ic l2)) (hl : l1.length ≤ reachBytes) {K : AV → H → Prop} (hK : K (.bool (eqB l1 l2)) h) : C 54 [v1, v2] h K := by
  refine run54 ?_
  unfold sh54
  refine eq1_r (val := fun n => .int .i64 n) r1 r2 hl (fun x y => ?_) hK
  rw [b_neq, ← eqB_dec]; simp
theorem strs_eq {v1 v2 : AV} {l1 l2 : List (List UInt8)} (r1 : Row h v1 l1.length 1 (l1.map AV.str)) (r2 : Row h v2 l2.length 1 (l2.map AV.str)) (hl : l1.length ≤ reachBytes) {K : AV → H → Prop} (hK : K (.bool (eqB l1 l2)) h) : C 57 [v1, v2] h K := by
  refine run57 ?_
  unfold sh57
  refine eq1_r (val := AV.str) r1 r2 hl (fun x y => ?_) hK
  rw [← eqB_dec]; simp only [go_sem, reduceIte, Nat.reduceAdd, Nat.reduceSub, Nat.reduceMul, Nat.reducePow, Nat.reduceLT, Nat.reduceLeDiff, Nat.reduceEqDiff, Int.reduceAdd, Int.reduceSub, Int.reduceMul, Int.reduceNeg, Int.reducePow, Int.reduceLT, Int.reduceLE, Int.reduceEq, Int.reduceNe, Int.reduceToNat, Int.toNat_natCast, Nat.zero_add, Nat.add_zero, Nat.mul_one, Nat.one_mul, Bool.not_true, Bool.not_false, ne_eq, not_true_eq_false, not_false_eq_true, Bool.false_eq_true]; simp
/-- One more field that must be the same. -/
theorem chunkV {p q : Bool} {b d i j : Nat} {v w : AV} (hc : h.cell b i = some v) (hd : h.cell d j = some w) (he : binOp .eql .num v w = some (.bool q)) {K : AV → H → Prop} (hK : K (.bool (p && q)) h) :
    whenA (.bool p) true (fun K => valA (faA i (.ptr b 0)) h K) h fun t11 h =>
    whenA (.bool p) true (fun K => valA (ldA h none t11) h K) h fun t12 h =>
    whenA (.bool p) true (fun K => valA (faA j (.ptr d 0)) h K) h fun t13 h =>
    whenA (.bool p) true (fun K => valA (ldA h none t13) h K) h fun t14 h =>
    whenA (.bool p) true (fun K => valA (binOp .eql .num t12 t14) h K) h fun t15 h =>
    valA (pickA (.bool p) t15 (.bool false)) h K := by
  cases p with
  | true => simp only [whenA_tt, faA_p, valA_some, ldA_n, Nat.zero_add, hc, hd, he, pickA_b, if_true]; exact hK
  | false => simp only [whenA_ft, pickA_b, valA_some]; exact hK
theorem chunkF {p q : Bool} {b d i j F : Nat} {v w : AV} {ar : List AV} (hc : h.cell b i = some v) (hd : h.cell d j = some w) {K : AV → H → Prop} (hX : ∀ K' : AV → H → Prop, (∀ h', Fr [] h h' → K' (.bool q) h') → C F (v :: w :: ar) h K') (hK : ∀ h', Fr [] h h' → K (.bool (p && q)) h') :
    whenA (.bool p) true (fun K => valA (faA i (.ptr b 0)) h K) h fun t11 h =>
    whenA (.bool p) true (fun K => valA (ldA h none t11) h K) h fun t12 h =>
    whenA (.bool p) true (fun K => valA (faA j (.ptr d 0)) h K) h fun t13 h =>
    whenA (.bool p) true (fun K => valA (ldA h none t13) h K) h fun t14 h =>
    whenA (.bool p) true (fun K => C F (t12 :: t14 :: ar) h K) h fun t15 h =>
    valA (pickA (.bool p) t15 (.bool false)) h K := by
  cases p with
  | true =>
    simp only [whenA_tt, faA_p, valA_some, ldA_n, Nat.zero_add, hc, hd]
    refine hX _ fun h' f => ?_
    rw [pickA_b, if_pos rfl, valA_some]; exact hK h' f
  | false => simp only [whenA_ft, pickA_b, valA_some]; exact hK h (Fr.refl _ _)
theorem eqI (x y : Int) : binOp .eql .num (.int .i64 x) (.int .i64 y) = some (.bool (eqB x y)) := by rw [b_eql, eqB_dec]
theorem eqS (x y : List UInt8) : binOp .eql .num (.str x) (.str y) = some (.bool (eqB x y)) := by rw [b_seql, eqB_dec]
/-- Two boxes. -/
theorem two_box {c d : List AV} {ty : Nat} (lc : leaves c = true) (ld : leaves d = true) {K : AV → AV → H → Prop} (hK : ∀ b e h', Fr [] h h' → (∀ h2, Fr [] h' h2 → ∀ o, h2.cell b o = c[o]?) → (∀ h2, Fr [] h' h2 → ∀ o, h2.cell e o = d[o]?) → (∀ h2, Fr [] h' h2 → h2.get b = some (.live c ty true) ∧ h2.get e = some (.live d ty true)) → K (.ptr b 0) (.ptr e 0) h') :
    boxA h (AV.cells (.agg c)) ty fun x h => boxA h (AV.cells (.agg d)) ty fun y h => K x y h := by
  show boxA h c ty fun x h => boxA h d ty fun y h => K x y h
  refine box_r lc fun b hb => ?_
  have f1 : Fr [] h (h.set b (.live c ty true)) := (Fr.refl _ _).set' hb
  have g1 : (h.set b (.live c ty true)).get b = some (.live c ty true) := H.get_same ..
  generalize h.set b (.live c ty true) = h1 at *
  refine box_r ld fun e he => ?_
  have f2 : Fr [] h1 (h1.set e (.live d ty true)) := (Fr.refl _ _).set' he
  have g2 : (h1.set e (.live d ty true)).get e = some (.live d ty true) := H.get_same ..
  have g1 := f2 b _ (by simp) g1
  generalize h1.set e (.live d ty true) = h2 at *
  exact hK b e h2 (f1.trans f2) (fun h3 f3 o => cell_of (f3 b _ (by simp) g1) o) (fun h3 f3 o => cell_of (f3 e _ (by simp) g2) o) fun h3 f3 => ⟨f3 b _ (by simp) g1, f3 e _ (by simp) g2⟩
theorem ty_eq {x y : Ty} {c d : List AV} (r : tyR h x c) (s : tyR h y d) (ok : x.ok) {K : AV → H → Prop} (hK : ∀ h', Fr [] h h' → K (.bool (eqB x y)) h') : C 53 [.agg c, .agg d] h K := by
  refine run53 ?_
  unfold sh53
  refine two_box r.leaves s.leaves fun b e h1 f cb ce _ => ?_
  obtain ⟨v, rfl, r1⟩ := r.fr f
  obtain ⟨w, rfl, s1⟩ := s.fr f
  refine fld_r (v := .bool x.imm) (by rw [cb h1 (Fr.refl _ _)]; rfl) ?_
  refine fld_r (v := .bool y.imm) (by rw [ce h1 (Fr.refl _ _)]; rfl) ?_
  rw [b_beql, valA_some, eqB_dec]
  refine chunkF (q := eqB x.sh y.sh) (by rw [cb h1 (Fr.refl _ _)]; rfl) (by rw [ce h1 (Fr.refl _ _)]; rfl) (fun K' hK' => ints_eq r1 s1 ok.1 (hK' h1 (Fr.refl _ _))) fun h2 f2 => ?_
  have := hK h2 (f.trans f2)
  rwa [← eqB_of (p := eqB x.imm y.imm && eqB x.sh y.sh) (by rw [Bool.and_eq_true, eqB_iff, eqB_iff]; cases x; cases y; simp)] at this
theorem shp_eq {x y : Shp} {c d : List AV} (r : shR h x c) (s : shR h y d) (ok : x.ok) {K : AV → H → Prop} (hK : ∀ h', Fr [] h h' → K (.bool (eqB x y)) h') : C 56 [.agg c, .agg d] h K := by
  refine run56 ?_
  unfold sh56
  refine two_box r.leaves s.leaves fun b e h1 f cb ce _ => ?_
  obtain ⟨v, rfl, r1⟩ := r.fr f
  obtain ⟨w, rfl, s1⟩ := s.fr f
  have cb := cb h1 (Fr.refl _ _)
  have ce := ce h1 (Fr.refl _ _)
  refine fld_r (v := .int .i64 x.kind) (by rw [cb]; rfl) ?_
  refine fld_r (v := .int .i64 y.kind) (by rw [ce]; rfl) ?_
  rw [eqI, valA_some]
  refine chunkV (q := eqB x.name y.name) (v := .str x.name) (w := .str y.name) (by rw [cb]; rfl) (by rw [ce]; rfl) (eqS _ _) ?_
  refine chunkF (q := eqB x.fs y.fs) (by rw [cb]; rfl) (by rw [ce]; rfl) (fun K' hK' => ints_eq r1 s1 ok.2.1.1 (hK' h1 (Fr.refl _ _))) fun h2 f2 => ?_
  have := hK h2 (f.trans f2)
  rwa [← eqB_of (p := (eqB x.kind y.kind && eqB x.name y.name) && eqB x.fs y.fs) (by simp only [Bool.and_eq_true, eqB_iff]; cases x; cases y; simp; grind)] at this
theorem ins_eq {x y : Ins} {c d : List AV} (r : insR h x c) (s : insR h y d) (ok : x.ok) {K : AV → H → Prop} (hK : ∀ h', Fr [] h h' → K (.bool (eqB x y)) h') : C 81 [.agg c, .agg d] h K := by
  refine run81 ?_
  unfold sh81
  refine two_box r.leaves s.leaves fun b e h1 f cb ce _ => ?_
  obtain ⟨v1, v2, v3, rfl, r1, r2, r3⟩ := r.fr f
  obtain ⟨w1, w2, w3, rfl, s1, s2, s3⟩ := s.fr f
  obtain ⟨_, o7, o8, o9⟩ := ok
  refine fld_r (v := .int .i64 x.op) (by rw [cb h1 (Fr.refl _ _)]; rfl) ?_
  refine fld_r (v := .int .i64 y.op) (by rw [ce h1 (Fr.refl _ _)]; rfl) ?_
  rw [eqI, valA_some]
  refine chunkV (q := eqB x.d y.d) (v := .int .i64 x.d) (w := .int .i64 y.d) (by rw [cb h1 (Fr.refl _ _)]; rfl) (by rw [ce h1 (Fr.refl _ _)]; rfl) (eqI _ _) ?_
  refine chunkV (q := eqB x.a y.a) (v := .int .i64 x.a) (w := .int .i64 y.a) (by rw [cb h1 (Fr.refl _ _)]; rfl) (by rw [ce h1 (Fr.refl _ _)]; rfl) (eqI _ _) ?_
  refine chunkV (q := eqB x.b y.b) (v := .int .i64 x.b) (w := .int .i64 y.b) (by rw [cb h1 (Fr.refl _ _)]; rfl) (by rw [ce h1 (Fr.refl _ _)]; rfl) (eqI _ _) ?_
  refine chunkV (q := eqB x.c y.c) (v := .int .i64 x.c) (w := .int .i64 y.c) (by rw [cb h1 (Fr.refl _ _)]; rfl) (by rw [ce h1 (Fr.refl _ _)]; rfl) (eqI _ _) ?_
  refine chunkV (q := eqB x.n y.n) (v := .int .i64 x.n) (w := .int .i64 y.n) (by rw [cb h1 (Fr.refl _ _)]; rfl) (by rw [ce h1 (Fr.refl _ _)]; rfl) (eqI _ _) ?_
  refine chunkF (q := eqB x.l y.l) (v := v1) (w := w1) (by rw [cb h1 (Fr.refl _ _)]; rfl) (by rw [ce h1 (Fr.refl _ _)]; rfl) (fun K' hK' => ints_eq r1 s1 o7.1 (hK' h1 (Fr.refl _ _))) fun h2 f2 => ?_
  refine chunkF (q := eqB x.m y.m) (v := v2) (w := w2) (by rw [cb h2 f2]; rfl) (by rw [ce h2 f2]; rfl) (fun K' hK' => ints_eq (r2.fr f2) (s2.fr f2) o8.1 (hK' h2 (Fr.refl _ _))) fun h3 f3 => ?_
  have f3 := f2.trans f3
  refine chunkF (q := eqB x.live y.live) (v := v3) (w := w3) (by rw [cb h3 f3]; rfl) (by rw [ce h3 f3]; rfl) (fun K' hK' => ints_eq (r3.fr f3) (s3.fr f3) o9.1 (hK' h3 (Fr.refl _ _))) fun h4 f4 => ?_
  have := hK h4 ((f.trans f3).trans f4)
  rwa [← eqB_of (p := ((((((((eqB x.op y.op && eqB x.d y.d) && eqB x.a y.a) && eqB x.b y.b) && eqB x.c y.c) && eqB x.n y.n) && eqB x.l y.l) && eqB x.m y.m) && eqB x.live y.live)) (by simp only [Bool.and_eq_true, eqB_iff]; cases x; cases y; simp; grind)] at this
theorem RowOf.with {α : Type} {esz : Nat} {R : α → List AV → Prop} {P : α → Prop} {v : AV} {l : List α} (r : RowOf h esz R v l) (hp : ∀ x ∈ l, P x) : RowOf h esz (fun x c => R x c ∧ P x) v l := r.mono (Fr.refl _ _) fun x hx c q => ⟨q, hp x hx⟩
theorem codes_eq {v1 v2 : AV} {l1 l2 : List Ins} (r1 : RowOf h 9 (insR h) v1 l1) (r2 : RowOf h 9 (insR h) v2 l2) (hl : l1.length ≤ reachBytes) (k1 : ∀ x ∈ l1, x.ok) (k2 : ∀ x ∈ l2, x.ok) {K : AV → H → Prop} (hK : ∀ h', Fr [] h h' → K (.bool (eqB l1 l2)) h') : C 80 [v1, v2, .fn 81 [] []] h K := by
  refine run80 ?_
  unfold sh80
  exact eqf_r (esz := 9) (ty := 24) (E := 81) (zs := [.int .i64 0, .int .i64 0, .int .i64 0, .int .i64 0, .int .i64 0, .int .i64 0, .nilsl, .nilsl, .nilsl]) (Rel := relIn) relIn_mono (fun r => r.1.leaves) rfl rfl (r1.with k1) (r2.with k2) hl (fun h' x y c d _ rx ry K hK => ins_eq rx.1 ry.1 rx.2 hK) hK
theorem blk_eq {x y : Blk} {c d : List AV} (r : blkR h x c) (s : blkR h y d) (ok : x.ok) (ok' : y.ok) {K : AV → H → Prop} (hK : ∀ h', Fr [] h h' → K (.bool (eqB x y)) h') : C 79 [.agg c, .agg d] h K := by
  refine run79 ?_
  unfold sh79
  refine two_box r.leaves s.leaves fun b e h1 f cb ce _ => ?_
  obtain ⟨v1, v2, rfl, r1, r2⟩ := r.fr f
  obtain ⟨w1, w2, rfl, s1, s2⟩ := s.fr f
  refine fld_r (v := v1) (by rw [cb h1 (Fr.refl _ _)]; rfl) ?_
  refine fld_r (v := w1) (by rw [ce h1 (Fr.refl _ _)]; rfl) ?_
  refine ints_eq r1 s1 ok.1.1 ?_
  refine chunkF (q := eqB x.code y.code) (v := v2) (w := w2) (by rw [cb h1 (Fr.refl _ _)]; rfl) (by rw [ce h1 (Fr.refl _ _)]; rfl) (fun K' hK' => codes_eq r2 s2 ok.2.1 ok.2.2 ok'.2.2 hK') fun h2 f2 => ?_
  have := hK h2 (f.trans f2)
  rwa [← eqB_of (p := eqB x.inn y.inn && eqB x.code y.code) (by rw [Bool.and_eq_true, eqB_iff, eqB_iff]; cases x; cases y; simp)] at this
theorem blks_eq {v1 v2 : AV} {l1 l2 : List Blk} (r1 : RowOf h 2 (blkR h) v1 l1) (r2 : RowOf h 2 (blkR h) v2 l2) (hl : l1.length ≤ reachBytes) (k1 : ∀ x ∈ l1, x.ok) (k2 : ∀ x ∈ l2, x.ok) {K : AV → H → Prop} (hK : ∀ h', Fr [] h h' → K (.bool (eqB l1 l2)) h') : C 78 [v1, v2, .fn 79 [] []] h K := by
  refine run78 ?_
  unfold sh78
  exact eqf_r (esz := 2) (ty := 58) (E := 79) (zs := [.nilsl, .nilsl]) (Rel := relBl) relBl_mono (fun r => r.1.leaves) rfl rfl (r1.with k1) (r2.with k2) hl (fun h' x y c d _ rx ry K hK => blk_eq rx.1 ry.1 rx.2 ry.2 hK) hK
theorem fn_eq {x y : Fn} {c d : List AV} (r : fnR h x c) (s : fnR h y d) (ok : x.ok) (ok' : y.ok) {K : AV → H → Prop} (hK : ∀ h', Fr [] h h' → K (.bool (eqB x y)) h') : C 59 [.agg c, .agg d] h K := by
  refine run59 ?_
  unfold sh59
  refine two_box r.leaves s.leaves fun b e h1 f cb ce _ => ?_
  obtain ⟨v1, v2, rfl, r1, r2⟩ := r.fr f
  obtain ⟨w1, w2, rfl, s1, s2⟩ := s.fr f
  obtain ⟨o1, o2, o3, o4, o5⟩ := ok
  obtain ⟨_, _, _, _, o5'⟩ := ok'
  refine fld_r (v := v1) (by rw [cb h1 (Fr.refl _ _)]; rfl) ?_
  refine fld_r (v := w1) (by rw [ce h1 (Fr.refl _ _)]; rfl) ?_
  refine ints_eq r1 s1 o1.1 ?_
  refine chunkV (q := eqB x.result y.result) (v := .int .i64 x.result) (w := .int .i64 y.result) (by rw [cb h1 (Fr.refl _ _)]; rfl) (by rw [ce h1 (Fr.refl _ _)]; rfl) (eqI _ _) ?_
  refine chunkV (q := eqB x.slots y.slots) (v := .int .i64 x.slots) (w := .int .i64 y.slots) (by rw [cb h1 (Fr.refl _ _)]; rfl) (by rw [ce h1 (Fr.refl _ _)]; rfl) (eqI _ _) ?_
  refine chunkF (q := eqB x.blocks y.blocks) (v := v2) (w := w2) (by rw [cb h1 (Fr.refl _ _)]; rfl) (by rw [ce h1 (Fr.refl _ _)]; rfl) (fun K' hK' => blks_eq r2 s2 o4 o5 o5' hK') fun h2 f2 => ?_
  have := hK h2 (f.trans f2)
  rwa [← eqB_of (p := ((eqB x.params y.params && eqB x.result y.result) && eqB x.slots y.slots) && eqB x.blocks y.blocks) (by simp only [Bool.and_eq_true, eqB_iff]; cases x; cases y; simp; grind)] at this
theorem fns_eq {v1 v2 : AV} {l1 l2 : List Fn} (r1 : RowOf h 4 (fnR h) v1 l1) (r2 : RowOf h 4 (fnR h) v2 l2) (hl : l1.length ≤ reachBytes) (k1 : ∀ x ∈ l1, x.ok) (k2 : ∀ x ∈ l2, x.ok) {K : AV → H → Prop} (hK : ∀ h', Fr [] h h' → K (.bool (eqB l1 l2)) h') : C 58 [v1, v2, .fn 59 [] []] h K := by
  refine run58 ?_
  unfold sh58
  exact eqf_r (esz := 4) (ty := 51) (E := 59) (zs := [.nilsl, .int .i64 0, .int .i64 0, .nilsl]) (Rel := relFn) relFn_mono (fun r => r.1.leaves) rfl rfl (r1.with k1) (r2.with k2) hl (fun h' x y c d _ rx ry K hK => fn_eq rx.1 ry.1 rx.2 ry.2 hK) hK
theorem shps_eq {v1 v2 : AV} {l1 l2 : List Shp} (r1 : RowOf h 3 (shR h) v1 l1) (r2 : RowOf h 3 (shR h) v2 l2) (hl : l1.length ≤ reachBytes) (k1 : ∀ x ∈ l1, x.ok) (k2 : ∀ x ∈ l2, x.ok) {K : AV → H → Prop} (hK : ∀ h', Fr [] h h' → K (.bool (eqB l1 l2)) h') : C 55 [v1, v2, .fn 56 [] []] h K := by
  refine run55 ?_
  unfold sh55
  exact eqf_r (esz := 3) (ty := 55) (E := 56) (zs := [.int .i64 0, .nilsl, .str []]) (Rel := relSh) relSh_mono (fun r => r.1.leaves) rfl rfl (r1.with k1) (r2.with k2) hl (fun h' x y c d _ rx ry K hK => shp_eq rx.1 ry.1 rx.2 hK) hK
theorem tys_eq {v1 v2 : AV} {l1 l2 : List Ty} (r1 : RowOf h 2 (tyR h) v1 l1) (r2 : RowOf h 2 (tyR h) v2 l2) (hl : l1.length ≤ reachBytes) (k1 : ∀ x ∈ l1, x.ok) (k2 : ∀ x ∈ l2, x.ok) {K : AV → H → Prop} (hK : ∀ h', Fr [] h h' → K (.bool (eqB l1 l2)) h') : C 52 [v1, v2, .fn 53 [] []] h K := by
  refine run52 ?_
  unfold sh52
  exact eqf_r (esz := 2) (ty := 53) (E := 53) (zs := [.bool false, .nilsl]) (Rel := relTy) relTy_mono (fun r => r.1.leaves) rfl rfl (r1.with k1) (r2.with k2) hl (fun h' x y c d _ rx ry K hK => ty_eq rx.1 ry.1 rx.2 hK) hK
theorem same_c {x y : Img} {c d : List AV} (r : imgR h x c) (s : imgR h y d) (ok : x.ok) (ok' : y.ok) {K : AV → H → Prop} (hK : ∀ h', Fr [] h h' → K (.bool (eqB x y)) h') : C 21 [.agg c, .agg d] h K := by
  refine run21 ?_
  unfold sh21
  refine two_box r.leaves s.leaves fun b e h1 f cb ce _ => ?_
  obtain ⟨v1, v2, v3, v4, v5, rfl, r1, r2, r3, r4, r5⟩ := r.fr f
  obtain ⟨w1, w2, w3, w4, w5, rfl, s1, s2, s3, s4, s5⟩ := s.fr f
  obtain ⟨⟨k1, k1'⟩, ⟨k2, k2'⟩, ⟨k3, k3'⟩, ⟨k4, k4'⟩, ⟨k5, k5'⟩, k6, k7⟩ := ok
  obtain ⟨⟨_, j1'⟩, ⟨_, j2'⟩, _, _, ⟨_, j5'⟩, _, _⟩ := ok'
  refine fld_r (v := v1) (by rw [cb h1 (Fr.refl _ _)]; rfl) ?_
  refine fld_r (v := w1) (by rw [ce h1 (Fr.refl _ _)]; rfl) ?_
  refine tys_eq r1 s1 k1 k1' j1' fun h2 f2 => ?_
  refine chunkF (q := eqB x.shapes y.shapes) (v := v2) (w := w2) (by rw [cb h2 f2]; rfl) (by rw [ce h2 f2]; rfl) (fun K' hK' => shps_eq (r2.mono f2 fun _ _ _ => shR.fr f2) (s2.mono f2 fun _ _ _ => shR.fr f2) k2 k2' j2' hK') fun h3 f3 => ?_
  have f3 := f2.trans f3
  refine chunkF (q := eqB x.strs y.strs) (v := v3) (w := w3) (by rw [cb h3 f3]; rfl) (by rw [ce h3 f3]; rfl) (fun K' hK' => strs_eq ((strs_row r3).fr f3) ((strs_row s3).fr f3) k3 (hK' h3 (Fr.refl _ _))) fun h4 f4 => ?_
  have f4 := f3.trans f4
  refine chunkF (q := eqB x.names y.names) (v := v4) (w := w4) (by rw [cb h4 f4]; rfl) (by rw [ce h4 f4]; rfl) (fun K' hK' => strs_eq ((strs_row r4).fr f4) ((strs_row s4).fr f4) k4 (hK' h4 (Fr.refl _ _))) fun h5 f5 => ?_
  have f5 := f4.trans f5
  refine chunkF (q := eqB x.fns y.fns) (v := v5) (w := w5) (by rw [cb h5 f5]; rfl) (by rw [ce h5 f5]; rfl) (fun K' hK' => fns_eq (r5.mono f5 fun _ _ _ => fnR.fr f5) (s5.mono f5 fun _ _ _ => fnR.fr f5) k5 k5' j5' hK') fun h6 f6 => ?_
  have f6 := f5.trans f6
  refine chunkV (q := eqB x.main y.main) (v := .int .i64 x.main) (w := .int .i64 y.main) (by rw [cb h6 f6]; rfl) (by rw [ce h6 f6]; rfl) (eqI _ _) ?_
  refine chunkV (q := eqB x.exn y.exn) (v := .int .i64 x.exn) (w := .int .i64 y.exn) (by rw [cb h6 f6]; rfl) (by rw [ce h6 f6]; rfl) (eqI _ _) ?_
  have := hK h6 (f.trans f6)
  rwa [← eqB_of (p := (((((eqB x.types y.types && eqB x.shapes y.shapes) && eqB x.strs y.strs) && eqB x.names y.names) && eqB x.fns y.fns) && eqB x.main y.main) && eqB x.exn y.exn) (by simp only [Bool.and_eq_true, eqB_iff]; cases x; cases y; simp; grind)] at this
end
end Go.Proofs.Ytgcnliikibbcnaa.X
set_option linter.unusedVariables false
set_option linter.unusedSimpArgs false
set_option maxRecDepth 20000
namespace Go.Proofs.Ytgcnliikibbcnaa.X
open Go Go.RowKit
section
variable {h : H}
/-- A byte is set. -/
theorem WS.put {h0 : H} {v : AV} {L : List Nat} (s : WS h0 h v L) {i : Nat} {x : Nat} (hi : i < L.length) : ∃ b, (∀ k, iaA 1 v (.int k (i : Int)) = some (.ptr b i)) ∧ h.cell b i = some (.int .u8 (L[i] : Nat)) ∧ stA h 1 (.ptr b i) (.int .u8 (x : Nat)) = some (h.set b (.live (bc (L.set i x)) 5 true)) ∧ h0.get b = none ∧ Row (h.set b (.live (bc (L.set i x)) 5 true)) v L.length 1 (bc (L.set i x)) := by
  have key : ∀ b p, v = .sl b 0 L.length p → p.fits 1 = true → h0.get b = none → h.get b = some (.live (bc L) 5 true) → ∃ b, (∀ k, iaA 1 v (.int k (i : Int)) = some (.ptr b i)) ∧ h.cell b i = some (.int .u8 (L[i] : Nat)) ∧ stA h 1 (.ptr b i) (.int .u8 (x : Nat)) = some (h.set b (.live (bc (L.set i x)) 5 true)) ∧ h0.get b = none ∧ Row (h.set b (.live (bc (L.set i x)) 5 true)) v L.length 1 (bc (L.set i x)) := by
    rintro b p rfl hp h0' hg
    have r : Row h (.sl b 0 L.length p) L.length 1 (bc L) := ⟨by simp [bc], .inr ⟨b, 0, p, rfl, hp, H.read_eq hg (by simp [bc]) (by rw [List.drop_zero, List.take_of_length_le (by simp [bc])])⟩⟩
    refine ⟨b, fun k => ?_, ?_, ?_, h0', by simp [bc], .inr ⟨b, 0, p, rfl, hp, H.read_eq (H.get_same ..) (by simp [bc]) (by rw [List.drop_zero, List.take_of_length_le (by simp [bc])])⟩⟩
    · have : (0 : Int) ≤ i := by omega
      have h2 : (i : Int) < L.length := by omega
      simp only [iaA_s, this, h2, and_self, if_true, Int.toNat_natCast, Nat.mul_one, Nat.zero_add]
      try simp [hp]
    · rw [cell_of hg]; simp [bc, hi]
    · rw [st_val hg (by simp [bc]; exact hi) rfl rfl]
      simp [bc, List.map_set]
  rcases s with s | ⟨m, q1, q2, q3⟩
  · rcases s.2 with ⟨z, _⟩ | ⟨b, z1, z2, z3⟩
    · omega
    · exact key b _ z1 (by simp [Cap.fits]) z2 z3
  · exact key m _ q1 rfl q2 q3
end
end Go.Proofs.Ytgcnliikibbcnaa.X
set_option linter.unusedVariables false
set_option linter.unusedSimpArgs false
set_option maxRecDepth 20000
namespace Go.Proofs.Ytgcnliikibbcnaa.X
open Go Go.RowKit
section
variable {h : H}
def imgX (x : Ins) : Img := ⟨[], [], [], [], [⟨[], 0, 0, [⟨[], [x]⟩]⟩], 0, 0⟩
theorem rgs_nil : rgs [] := ⟨by simp, by simp⟩
theorem imgX_ok {x : Ins} (ok : x.ok) : (imgX x).ok := by
  have h1 : 1 ≤ reachBytes := by decide
  refine ⟨⟨by simp [imgX], by simp [imgX]⟩, ⟨by simp [imgX], by simp [imgX]⟩, ⟨by simp [imgX], by simp [imgX]⟩, ⟨by simp [imgX], by simp [imgX]⟩, ⟨h1, ?_⟩, rg0, rg0⟩
  intro f hf
  simp only [imgX, List.mem_singleton] at hf
  subst hf
  refine ⟨rgs_nil, rg0, rg0, h1, fun b hb => ?_⟩
  simp only [List.mem_singleton] at hb
  subst hb
  refine ⟨rgs_nil, h1, fun y hy => ?_⟩
  simp only [List.mem_singleton] at hy
  subst hy; exact ok
end
end Go.Proofs.Ytgcnliikibbcnaa.X
