/- What the law law3 needs: texts of one's own, put together; functions' contracts and plain facts. -/
import Derived.Test.YtdljelicbnjfjaaGreatT3D
set_option linter.unusedVariables false
set_option linter.unusedSimpArgs false
set_option maxRecDepth 20000
namespace Go.Proofs.YtdljelicbnjfjaaGreat.X
open Go Go.RowKit
/-! ### What is written is read -/
def Fw {α : Type} (B : List Nat) (dec : RS → α × RS) (x : α) (bs : List Nat) : Prop := ∀ pre post, B = pre ++ (bs ++ post) → dec ⟨pre.length, false⟩ = (x, ⟨(pre ++ bs).length, false⟩)
theorem putL_pos (x : Nat) : 0 < (putL x).length := by rw [putL]; split <;> simp
theorem numB_pos (n : Int) : 0 < (numB n).length := putL_pos _
variable {B : List Nat}
theorem drop_pre {pre l : List Nat} (h : B = pre ++ l) : B.drop pre.length = l := by rw [h, List.drop_left]
theorem num_fw {n : Int} (hn : rg n) {pre post : List Nat} (h : B = pre ++ (numB n ++ post)) (b : Bool) : longR B ⟨pre.length, b⟩ = (n, ⟨(pre ++ numB n).length, b⟩) := by
  have hz := zig_lt hn.1 hn.2
  have hp := numB_pos n
  have hd : decS B (pre.length : Nat) = (n, ((pre.length : Nat) : Int) + ((numB n).length : Nat), true) := by
    have := decS_good (L := B) (a := (pre.length : Nat)) (t := putL (zig n)) (by omega) (by rw [h]; simp only [List.length_append]; omega)
      (by rw [Int.toNat_natCast, drop_pre h]; exact cut_putL _ _ 10 (putL_len64 hz)) ⟨by rw [val_putL], by rw [val_putL]; exact hz⟩
    rw [this, val_putL, unz_zig]; rfl
  unfold longR
  rw [hd]
  simp only [List.length_append]
  congr 1
theorem long_fw {n : Int} (hn : rg n) : Fw B (longR B) n (numB n) := fun _ _ h => num_fw hn h false
theorem rg_nat {k : Nat} (h : k ≤ reachBytes) : rg (k : Nat) := by
  have : reachBytes ≤ 9223372036854775807 := by decide
  unfold rg; omega
theorem count_fw {k : Nat} (hk : k ≤ reachBytes) {pre post : List Nat} (h : B = pre ++ (numB k ++ post)) (hp : k ≤ post.length) : countR B ⟨pre.length, false⟩ = (k, ⟨(pre ++ numB k).length, false⟩) := by
  unfold countR
  rw [num_fw (rg_nat hk) h false]
  have hb : countBad B (((k : Nat) : Int), ⟨(pre ++ numB k).length, false⟩) = false := by
    unfold countBad
    have : B.length = (pre ++ numB k).length + post.length := by rw [h]; simp only [List.length_append]; omega
    simp only [Bool.false_or, Bool.or_eq_false_iff, decide_eq_false_iff_not]
    omega
  simp only [hb]
  rfl
theorem nat_u8 (s : List UInt8) : (s.map (·.toNat)).map UInt8.ofNat = s := by
  rw [List.map_map]
  conv => rhs; rw [← List.map_id s]
  apply List.map_congr_left
  intro c _
  simp
theorem text_fw {s : List UInt8} (hs : s.length ≤ reachBytes) : Fw B (textR B) s (textB s) := by
  intro pre post h
  unfold textB at h
  rw [List.append_assoc] at h
  unfold textR
  rw [count_fw hs h (by simp)]
  simp only
  rw [drop_pre (pre := pre ++ numB s.length) (l := s.map (·.toNat) ++ post) (by rw [h, List.append_assoc])]
  have : (s.map (·.toNat) ++ post).take s.length = s.map (·.toNat) := by
    rw [List.take_append, List.take_of_length_le (by simp)]; simp
  rw [this, nat_u8]
  simp only [textB, List.length_append, List.length_map, Nat.add_assoc]
section
variable {α : Type} {enc : α → List Nat} {dec : RS → α × RS}
theorem steps_fw : ∀ (l acc : List α), (∀ x ∈ l, Fw B dec x (enc x)) → ∀ pre post, B = pre ++ (l.flatMap enc ++ post) → stepsR dec l.length ⟨pre.length, false⟩ acc = (acc ++ l, ⟨(pre ++ l.flatMap enc).length, false⟩)
  | [], acc, _, pre, post, _ => by simp [stepsR]
  | x :: l, acc, hd, pre, post, h => by
    rw [List.flatMap_cons, List.append_assoc] at h
    rw [List.length_cons, stepsR, if_neg (by simp), hd x (by simp) pre _ h]
    have := steps_fw l (acc ++ [x]) (fun y hy => hd y (by simp [hy])) (pre ++ enc x) post (by rw [h, List.append_assoc])
    simp only
    rw [this]
    simp
theorem flat_len_ge {l : List α} (h : ∀ x ∈ l, 0 < (enc x).length) : l.length ≤ (l.flatMap enc).length := by
  induction l with
  | nil => simp
  | cons x l ih =>
    have h1 := h x (by simp)
    have h2 := ih fun y hy => h y (by simp [hy])
    rw [List.flatMap_cons, List.length_append, List.length_cons]; omega
theorem some_fw {l : List α} (hl : l.length ≤ reachBytes) (hp : ∀ x ∈ l, 0 < (enc x).length) (hd : ∀ x ∈ l, Fw B dec x (enc x)) : Fw B (someR B dec) l (manyB enc l) := by
  intro pre post h
  unfold manyB at h
  rw [List.append_assoc] at h
  unfold someR
  have := flat_len_ge hp
  rw [count_fw hl h (by simp only [List.length_append]; omega)]
  simp only
  rw [steps_fw l [] hd (pre ++ numB l.length) post (by rw [h, List.append_assoc])]
  simp [manyB]
end
theorem nums_fw {l : List Int} (h : rgs l) : Fw B (numsR B) l (numsB l) := some_fw h.1 (fun x _ => numB_pos x) fun x hx => long_fw (h.2 x hx)
theorem ty_fw {t : Ty} (h : t.ok) : Fw B (kindR B) t (tyB t) := by
  intro pre post e
  unfold tyB at e
  rw [List.append_assoc] at e
  have hn : rg (if t.imm then 1 else 0) := by unfold rg; split <;> omega
  unfold kindR
  rw [num_fw hn e false]
  have hb : ((false || decide ((if t.imm then (1 : Int) else 0) < 0)) || decide ((1 : Int) < (if t.imm then (1 : Int) else 0))) = false := by cases t.imm <;> decide
  simp only [hb]
  rw [nums_fw h (pre ++ numB (if t.imm then 1 else 0)) post (by rw [e, List.append_assoc])]
  obtain ⟨imm, sh⟩ := t
  cases imm <;> simp [tyB]
theorem shp_fw {s : Shp} (h : s.ok) : Fw B (shapeR B) s (shB s) := by
  intro pre post e
  unfold shB at e
  simp only [List.append_assoc] at e
  unfold shapeR
  rw [num_fw h.1 e false]
  simp only
  rw [← List.append_assoc] at e
  rw [nums_fw h.2.1 _ _ e]
  simp only
  rw [← List.append_assoc] at e
  rw [text_fw h.2.2 _ _ e]
  simp [shB]
def setF (x y : Ins) (c : UInt8) : Ins :=
  if c = 78 then { y with n := x.n } else if c = 68 then { y with d := x.d } else if c = 65 then { y with a := x.a } else if c = 66 then { y with b := x.b } else if c = 67 then { y with c := x.c } else
  if c = 76 then { y with l := x.l } else if c = 77 then { y with m := x.m } else { y with live := x.live }
theorem fld_fw {x : Ins} (ok : x.ok) (y : Ins) (c : UInt8) {pre post : List Nat} (e : B = pre ++ (fldB x c ++ post)) : fldR B (y, ⟨pre.length, false⟩) c = (setF x y c, ⟨(pre ++ fldB x c).length, false⟩) := by
  obtain ⟨⟨o1, o2, o3, o4, o5, o6⟩, o7, o8, o9⟩ := ok
  unfold fldB at e ⊢
  unfold fldR setF
  by_cases c0 : c = 78
  · simp only [c0, if_true] at e ⊢; rw [long_fw o6 _ _ e]
  by_cases c1 : c = 68
  · simp only [c0, c1, if_true, if_false] at e ⊢; rw [long_fw o2 _ _ e]; simp
  by_cases c2 : c = 65
  · simp only [c0, c1, c2, if_true, if_false] at e ⊢; rw [long_fw o3 _ _ e]; simp
  by_cases c3 : c = 66
  · simp only [c0, c1, c2, c3, if_true, if_false] at e ⊢; rw [long_fw o4 _ _ e]; simp
  by_cases c4 : c = 67
  · simp only [c0, c1, c2, c3, c4, if_true, if_false] at e ⊢; rw [long_fw o5 _ _ e]; simp
  by_cases c5 : c = 76
  · simp only [c0, c1, c2, c3, c4, c5, if_true, if_false] at e ⊢; rw [nums_fw o7 _ _ e]; simp
  by_cases c6 : c = 77
  · simp only [c0, c1, c2, c3, c4, c5, c6, if_true, if_false] at e ⊢; rw [nums_fw o8 _ _ e]; simp
  simp only [c0, c1, c2, c3, c4, c5, c6, if_true, if_false] at e ⊢; rw [nums_fw o9 _ _ e]
theorem flds_fw {x : Ins} (ok : x.ok) : ∀ (u : List UInt8) (y : Ins) (pre post : List Nat), B = pre ++ (u.flatMap (fldB x) ++ post) → u.foldl (fldR B) (y, ⟨pre.length, false⟩) = (u.foldl (setF x) y, ⟨(pre ++ u.flatMap (fldB x)).length, false⟩)
  | [], y, pre, post, _ => by simp
  | c :: u, y, pre, post, e => by
    rw [List.flatMap_cons, List.append_assoc] at e
    rw [List.foldl_cons, List.foldl_cons, fld_fw ok y c e, flds_fw ok u _ _ post (by rw [e, List.append_assoc])]
    simp
theorem set_plain {x : Ins} (h : plainN x = true) : (usesN x.op).foldl (setF x) (insZ x.op) = x ∧ usesN x.op ≠ [] := by
  obtain ⟨op, d, a, b, c, n, l, m, live⟩ := x
  unfold plainN at h
  simp only at h
  rcases op_cases op with q | q
  · rcases q with rfl | rfl | rfl | rfl | rfl | rfl | rfl | rfl | rfl | rfl | rfl | rfl | rfl | rfl | rfl | rfl | rfl | rfl | rfl | rfl | rfl | rfl | rfl | rfl <;>
      simp [usesN, usesL, hasL] at h <;> simp [usesN, usesL, setF, insZ, h]
  · rw [usesN_out q] at h; simp at h
theorem ins_fw {x : Ins} (ok : x.ok) (hp : plainN x = true) : Fw B (instrR B) x (insB x) := by
  intro pre post e
  unfold insB at e
  rw [List.append_assoc] at e
  obtain ⟨h1, h2⟩ := set_plain hp
  unfold instrR
  rw [num_fw ok.1.1 e false]
  simp only [h2, decide_false, Bool.or_false]
  rw [flds_fw ok _ _ _ post (by rw [e, List.append_assoc]), h1]
  simp [insB]
theorem nums_pos (l : List Int) : 0 < (numsB l).length := by unfold numsB manyB; have := numB_pos l.length; simp only [List.length_append]; omega
theorem ins_pos (x : Ins) : 0 < (insB x).length := by unfold insB; have := numB_pos x.op; simp only [List.length_append]; omega
theorem blk_pos (x : Blk) : 0 < (blkB x).length := by unfold blkB; have := nums_pos x.inn; simp only [List.length_append]; omega
theorem fn_pos (x : Fn) : 0 < (fnB x).length := by unfold fnB; have := nums_pos x.params; simp only [List.length_append]; omega
theorem ty_pos (x : Ty) : 0 < (tyB x).length := by unfold tyB; have := nums_pos x.sh; simp only [List.length_append]; omega
theorem shp_pos (x : Shp) : 0 < (shB x).length := by unfold shB; have := nums_pos x.fs; simp only [List.length_append]; omega
theorem text_pos (x : List UInt8) : 0 < (textB x).length := by unfold textB; have := numB_pos x.length; simp only [List.length_append]; omega
theorem blk_fw {b : Blk} (ok : b.ok) (hp : ∀ x ∈ b.code, plainN x = true) : Fw B (blockR B) b (blkB b) := by
  intro pre post e
  unfold blkB at e
  rw [List.append_assoc] at e
  unfold blockR
  rw [nums_fw ok.1 _ _ e]
  rw [← List.append_assoc] at e
  simp only
  rw [some_fw ok.2.1 (fun x _ => ins_pos x) (fun x hx => ins_fw (ok.2.2 x hx) (hp x hx)) _ _ e]
  simp [blkB]
theorem fn_fw {f : Fn} (ok : f.ok) (hp : ∀ b ∈ f.blocks, ∀ x ∈ b.code, plainN x = true) : Fw B (functionR B) f (fnB f) := by
  intro pre post e
  obtain ⟨o1, o2, o3, o4, o5⟩ := ok
  unfold fnB at e
  simp only [List.append_assoc] at e
  unfold functionR
  rw [nums_fw o1 _ _ e]
  rw [← List.append_assoc] at e
  simp only
  rw [num_fw o2 e false]
  rw [← List.append_assoc] at e
  simp only
  rw [num_fw o3 e false]
  rw [← List.append_assoc] at e
  simp only
  rw [some_fw o4 (fun x _ => blk_pos x) (fun x hx => blk_fw (o5 x hx) (hp x hx)) _ _ e]
  simp [fnB]
theorem check_plain {m : Img} (h : checkN m = 0) : ∀ f ∈ m.fns, ∀ b ∈ f.blocks, ∀ x ∈ b.code, plainN x = true := by
  intro f hf b hb x hx
  unfold checkN at h
  split at h
  · omega
  · split at h
    · omega
    · rename_i q
      cases hp : plainN x with
      | true => rfl
      | false => exact absurd (List.any_eq_true.2 ⟨f, hf, List.any_eq_true.2 ⟨b, hb, List.any_eq_true.2 ⟨x, hx, by unfold notPlain; rw [hp]; rfl⟩⟩⟩) q
theorem image_fw {m : Img} (ok : m.ok) (hc : checkN m = 0) {post : List Nat} (e : B = bytesI m ++ post) : imageR B = (m, ⟨(bytesI m).length, false⟩) := by
  have hp := check_plain hc
  obtain ⟨o1, o2, o3, o4, o5, o6, o7⟩ := ok
  unfold bytesI at e
  simp only [List.append_assoc] at e
  unfold imageR
  rw [show (⟨4, false⟩ : RS) = ⟨headB.length, false⟩ from rfl, some_fw o1.1 (fun x _ => ty_pos x) (fun x hx => ty_fw (o1.2 x hx)) _ _ e]
  rw [← List.append_assoc] at e
  simp only
  rw [some_fw o2.1 (fun x _ => shp_pos x) (fun x hx => shp_fw (o2.2 x hx)) _ _ e]
  rw [← List.append_assoc] at e
  simp only
  rw [some_fw o3.1 (fun x _ => text_pos x) (fun x hx => text_fw (o3.2 x hx)) _ _ e]
  rw [← List.append_assoc] at e
  simp only
  rw [some_fw o4.1 (fun x _ => text_pos x) (fun x hx => text_fw (o4.2 x hx)) _ _ e]
  rw [← List.append_assoc] at e
  simp only
  rw [some_fw o5.1 (fun x _ => fn_pos x) (fun x hx => fn_fw (o5.2 x hx) (hp x hx)) _ _ e]
  rw [← List.append_assoc] at e
  simp only
  rw [num_fw o6 e false]
  rw [← List.append_assoc] at e
  simp only
  rw [num_fw o7 e false]
  simp only [bytesI, List.append_assoc]
theorem head_ok {l : List Nat} (h : B = headB ++ l) : noHead B = false := by
  subst h
  unfold noHead
  simp [headB]
  exact decide_eq_false (by omega)
theorem decode_fw {m : Img} (ok : m.ok) (hc : checkN m = 0) : decodeN (bytesI m) = (m, 0) := by
  unfold decodeN
  rw [head_ok (by unfold bytesI; simp only [List.append_assoc]; rfl), image_fw ok hc (by rw [List.append_nil])]
  simp [badEnd, hc]
/-! ### What is read was written -/
def Bk {α : Type} (B : List Nat) (dec : RS → α × RS) (enc : α → List Nat) : Prop :=
  ∀ s, s.pos ≤ B.length → (dec s).2.pos ≤ B.length ∧ ((dec s).2.bad = false → s.bad = false ∧ B.drop s.pos = enc (dec s).1 ++ B.drop (dec s).2.pos)
theorem cut_pre : ∀ (l : List Nat) (k : Nat) (t : List Nat), cut l k = some t → l = t ++ l.drop t.length
  | [], k, t, h => by cases h
  | d :: l, 0, t, h => by cases h
  | d :: l, k + 1, t, h => by
    rw [cut] at h
    split at h
    · injection h with h; subst h; simp
    · cases hc : cut l k with
      | none => rw [hc] at h; cases h
      | some t' =>
        rw [hc] at h
        injection h with h; subst h
        have := cut_pre l k t' hc
        simp only [List.cons_append, List.length_cons, List.drop_succ_cons]
        rw [← this]
theorem long_bk : Bk B (longR B) numB := by
  intro s hs
  refine ⟨(longR_facts B s hs).2.2, fun hb => ?_⟩
  unfold longR at hb ⊢
  cases hd : decS B s.pos with
  | mk n r =>
    obtain ⟨a, ok⟩ := r
    rw [hd] at hb
    cases ok with
    | false => simp at hb
    | true =>
      have hf := decS_facts hd
      refine ⟨hb, ?_⟩
      show B.drop s.pos = numB n ++ B.drop a.toNat
      unfold decS at hd
      split at hd
      · cases hd
      · cases hc : cut (B.drop (s.pos : Int).toNat) 10 with
        | none => rw [hc] at hd; cases hd
        | some t =>
          rw [hc] at hd
          simp only at hd
          split at hd
          · rename_i hv
            injection hd with h1 h2; injection h2 with h2 h3
            have hp := cut_pre _ _ _ hc
            rw [Int.toNat_natCast, List.drop_drop] at hp
            have ea : a.toNat = s.pos + t.length := by omega
            rw [ea, ← h1]
            unfold numB
            rw [zig_unz, hv.1]
            exact hp
          · cases hd
theorem count_bk {s : RS} (hs : s.pos ≤ B.length) (hb : (countR B s).2.bad = false) : s.bad = false ∧ (countR B s).2.pos + (countR B s).1 ≤ B.length ∧ B.drop s.pos = numB (countR B s).1 ++ B.drop (countR B s).2.pos := by
  have hf := (countR_facts B s hs).2
  have hl := long_bk (B := B) s hs
  unfold countR at hb hf ⊢
  simp only at hb hf ⊢
  have hb' := hb
  unfold countBad at hb'
  simp only [Bool.or_eq_false_iff, decide_eq_false_iff_not] at hb'
  obtain ⟨h1, h3⟩ := hl.2 hb'.1
  rw [if_neg (by rw [hb]; simp)] at hf ⊢
  refine ⟨h1, hf, ?_⟩
  have : (((longR B s).1.toNat : Nat) : Int) = (longR B s).1 := by omega
  rw [this]; exact h3
theorem u8_nat {l : List Nat} (h : ∀ d ∈ l, d < 256) : (l.map UInt8.ofNat).map (·.toNat) = l := by
  rw [List.map_map]
  conv => rhs; rw [← List.map_id l]
  apply List.map_congr_left
  intro c hc
  have := h c hc
  simp only [Function.comp, UInt8.toNat_ofNat', id]
  omega
theorem text_bk (lt : ∀ d ∈ B, d < 256) : Bk B (textR B) textB := by
  intro s hs
  refine ⟨(countR_facts B s hs).2, fun hb => ?_⟩
  unfold textR at hb ⊢
  obtain ⟨h1, h2, h3⟩ := count_bk hs hb
  refine ⟨h1, ?_⟩
  simp only
  unfold textB
  have hl : ((B.drop (countR B s).2.pos).take (countR B s).1).length = (countR B s).1 := by rw [List.length_take, List.length_drop]; omega
  rw [List.length_map, hl, u8_nat fun d hd => lt d (List.mem_of_mem_drop (List.mem_of_mem_take hd)), h3, List.append_assoc]
  congr 1
  rw [← List.drop_drop, List.take_append_drop]
section
variable {α : Type} {enc : α → List Nat} {dec : RS → α × RS}
theorem steps_bk (hd : Bk B dec enc) : ∀ (n : Nat) (s : RS) (acc : List α), s.pos ≤ B.length → (stepsR dec n s acc).2.pos ≤ B.length ∧ ((stepsR dec n s acc).2.bad = false → s.bad = false ∧
    ∃ l, (stepsR dec n s acc).1 = acc ++ l ∧ l.length = n ∧ B.drop s.pos = l.flatMap enc ++ B.drop (stepsR dec n s acc).2.pos)
  | 0, s, acc, hs => ⟨hs, fun hb => ⟨hb, [], by simp [stepsR], rfl, by simp [stepsR]⟩⟩
  | n + 1, s, acc, hs => by
    rw [stepsR]
    by_cases q : s.bad = true
    · rw [if_pos q]; exact ⟨hs, fun hb => absurd q (by rw [hb]; simp)⟩
    · rw [if_neg q]
      obtain ⟨h1, h2⟩ := hd s hs
      obtain ⟨g1, g2⟩ := steps_bk hd n (dec s).2 (acc ++ [(dec s).1]) h1
      refine ⟨g1, fun hb => ?_⟩
      obtain ⟨k1, l, k2, k3, k4⟩ := g2 hb
      refine ⟨by simpa using q, (dec s).1 :: l, by rw [k2]; simp, by simp [k3], ?_⟩
      rw [List.flatMap_cons, (h2 k1).2, k4, List.append_assoc]
theorem some_bk (hd : Bk B dec enc) : Bk B (someR B dec) (manyB enc) := by
  intro s hs
  unfold someR
  have hc := countR_facts B s hs
  obtain ⟨h1, h2⟩ := steps_bk hd (countR B s).1 (countR B s).2 [] (by omega)
  refine ⟨h1, fun hb => ?_⟩
  obtain ⟨k1, l, k2, k3, k4⟩ := h2 hb
  obtain ⟨g1, g2, g3⟩ := count_bk hs k1
  refine ⟨g1, ?_⟩
  rw [k2, List.nil_append]
  unfold manyB
  rw [k3, g3, k4, List.append_assoc]
end
theorem nums_bk : Bk B (numsR B) numsB := some_bk long_bk
theorem ty_bk : Bk B (kindR B) tyB := by
  intro s hs
  unfold kindR
  simp only
  obtain ⟨g1, g2⟩ := long_bk (B := B) s hs
  obtain ⟨h1, h2⟩ := nums_bk (B := B) ⟨(longR B s).2.pos, ((longR B s).2.bad || decide ((longR B s).1 < 0)) || decide (1 < (longR B s).1)⟩ g1
  refine ⟨h1, fun hb => ?_⟩
  obtain ⟨k1, k2⟩ := h2 hb
  simp only [Bool.or_eq_false_iff, decide_eq_false_iff_not] at k1
  obtain ⟨j1, j2⟩ := g2 k1.1.1
  refine ⟨j1, ?_⟩
  unfold tyB
  simp only
  have e : (if decide ((longR B s).1 = 1) = true then (1 : Int) else 0) = (longR B s).1 := by
    by_cases q : (longR B s).1 = 1
    · rw [q]; rfl
    · rw [if_neg (by simpa using q)]; omega
  rw [e, j2, k2, List.append_assoc]
theorem shp_bk (lt : ∀ d ∈ B, d < 256) : Bk B (shapeR B) shB := by
  intro s hs
  unfold shapeR
  simp only
  obtain ⟨a1, a2⟩ := long_bk (B := B) s hs
  obtain ⟨b1, b2⟩ := nums_bk (B := B) _ a1
  obtain ⟨c1, c2⟩ := text_bk lt _ b1
  refine ⟨c1, fun hb => ?_⟩
  obtain ⟨c3, c4⟩ := c2 hb
  obtain ⟨b3, b4⟩ := b2 c3
  obtain ⟨a3, a4⟩ := a2 b3
  refine ⟨a3, ?_⟩
  unfold shB
  rw [a4, b4, c4]; simp only [List.append_assoc]
def knownF (c : UInt8) : Prop := c = 78 ∨ c = 68 ∨ c = 65 ∨ c = 66 ∨ c = 67 ∨ c = 76 ∨ c = 77 ∨ c = 108
theorem fld_bk {c : UInt8} (y : Ins) (s : RS) (hs : s.pos ≤ B.length) : (fldR B (y, s) c).2.pos ≤ B.length ∧ ((fldR B (y, s) c).2.bad = false → s.bad = false ∧ B.drop s.pos = fldB (fldR B (y, s) c).1 c ++ B.drop (fldR B (y, s) c).2.pos) := by
  obtain ⟨a1, a2⟩ := long_bk (B := B) s hs
  obtain ⟨b1, b2⟩ := nums_bk (B := B) s hs
  unfold fldR fldB
  simp only
  by_cases c0 : c = 78
  · simp only [c0, if_true]; exact ⟨a1, a2⟩
  by_cases c1 : c = 68
  · simp only [c0, c1, if_true, if_false]; exact ⟨a1, a2⟩
  by_cases c2 : c = 65
  · simp only [c0, c1, c2, if_true, if_false]; exact ⟨a1, a2⟩
  by_cases c3 : c = 66
  · simp only [c0, c1, c2, c3, if_true, if_false]; exact ⟨a1, a2⟩
  by_cases c4 : c = 67
  · simp only [c0, c1, c2, c3, c4, if_true, if_false]; exact ⟨a1, a2⟩
  by_cases c5 : c = 76
  · simp only [c0, c1, c2, c3, c4, c5, if_true, if_false]; exact ⟨b1, b2⟩
  by_cases c6 : c = 77
  · simp only [c0, c1, c2, c3, c4, c5, c6, if_true, if_false]; exact ⟨b1, b2⟩
  simp only [c0, c1, c2, c3, c4, c5, c6, if_true, if_false]; exact ⟨b1, b2⟩
theorem fld_keep {c c' : UInt8} (h : knownF c) (h' : knownF c') (hn : c' ≠ c) (q : Ins × RS) : fldB (fldR B q c').1 c = fldB q.1 c ∧ (fldR B q c').1.op = q.1.op := by
  unfold knownF at h h'
  rcases h with rfl | rfl | rfl | rfl | rfl | rfl | rfl | rfl <;> rcases h' with rfl | rfl | rfl | rfl | rfl | rfl | rfl | rfl <;> first | exact absurd rfl hn | exact ⟨rfl, rfl⟩
theorem fld_op (c' : UInt8) (q : Ins × RS) : (fldR B q c').1.op = q.1.op := by
  unfold fldR
  simp only
  repeat' split
  all_goals rfl
theorem flds_op : ∀ (u : List UInt8) (q : Ins × RS), (u.foldl (fldR B) q).1.op = q.1.op
  | [], q => rfl
  | c :: u, q => by rw [List.foldl_cons, flds_op u, fld_op]
theorem flds_keep {c : UInt8} (h : knownF c) : ∀ (u : List UInt8) (q : Ins × RS), (∀ d ∈ u, knownF d) → c ∉ u → fldB (u.foldl (fldR B) q).1 c = fldB q.1 c
  | [], q, _, _ => rfl
  | d :: u, q, hu, hc => by
    rw [List.foldl_cons, flds_keep h u _ (fun e he => hu e (by simp [he])) fun e => hc (by simp [e]), (fld_keep h (hu d (by simp)) (fun e => hc (by simp [e])) q).1]
theorem flds_bk : ∀ (u : List UInt8) (y : Ins) (s : RS), (∀ d ∈ u, knownF d) → u.Nodup → s.pos ≤ B.length → (u.foldl (fldR B) (y, s)).2.pos ≤ B.length ∧ ((u.foldl (fldR B) (y, s)).2.bad = false → s.bad = false ∧
    B.drop s.pos = u.flatMap (fldB (u.foldl (fldR B) (y, s)).1) ++ B.drop (u.foldl (fldR B) (y, s)).2.pos)
  | [], y, s, _, _, hs => ⟨hs, fun hb => ⟨hb, by simp⟩⟩
  | c :: u, y, s, hu, hn, hs => by
    rw [List.foldl_cons]
    obtain ⟨a1, a2⟩ := fld_bk (c := c) y s hs
    rw [List.nodup_cons] at hn
    obtain ⟨b1, b2⟩ := flds_bk u (fldR B (y, s) c).1 (fldR B (y, s) c).2 (fun e he => hu e (by simp [he])) hn.2 a1
    refine ⟨b1, fun hb => ?_⟩
    obtain ⟨b3, b4⟩ := b2 hb
    obtain ⟨a3, a4⟩ := a2 b3
    refine ⟨a3, ?_⟩
    rw [List.flatMap_cons, flds_keep (hu c (by simp)) u _ (fun e he => hu e (by simp [he])) hn.1, a4, b4, List.append_assoc]
theorem uses_known (op : Int) : (∀ d ∈ usesN op, knownF d) ∧ (usesN op).Nodup := by
  unfold knownF
  rcases op_cases op with q | q
  · rcases q with rfl | rfl | rfl | rfl | rfl | rfl | rfl | rfl | rfl | rfl | rfl | rfl | rfl | rfl | rfl | rfl | rfl | rfl | rfl | rfl | rfl | rfl | rfl | rfl <;> decide
  · rw [usesN_out q]; decide
theorem ins_bk : Bk B (instrR B) insB := by
  intro s hs
  unfold instrR
  simp only
  obtain ⟨a1, a2⟩ := long_bk (B := B) s hs
  obtain ⟨u1, u2⟩ := uses_known (longR B s).1
  obtain ⟨b1, b2⟩ := flds_bk (B := B) (usesN (longR B s).1) (insZ (longR B s).1) ⟨(longR B s).2.pos, (longR B s).2.bad || decide (usesN (longR B s).1 = [])⟩ u1 u2 a1
  refine ⟨b1, fun hb => ?_⟩
  obtain ⟨b3, b4⟩ := b2 hb
  simp only [Bool.or_eq_false_iff] at b3
  obtain ⟨a3, a4⟩ := a2 b3.1
  refine ⟨a3, ?_⟩
  unfold insB
  rw [flds_op, a4, b4]
  simp only [insZ, List.append_assoc]
theorem blk_bk : Bk B (blockR B) blkB := by
  intro s hs
  unfold blockR
  simp only
  obtain ⟨a1, a2⟩ := nums_bk (B := B) s hs
  obtain ⟨b1, b2⟩ := some_bk (B := B) ins_bk _ a1
  refine ⟨b1, fun hb => ?_⟩
  obtain ⟨b3, b4⟩ := b2 hb
  obtain ⟨a3, a4⟩ := a2 b3
  refine ⟨a3, ?_⟩
  unfold blkB
  rw [a4, b4]; simp only [List.append_assoc]
theorem fn_bk : Bk B (functionR B) fnB := by
  intro s hs
  unfold functionR
  simp only
  obtain ⟨a1, a2⟩ := nums_bk (B := B) s hs
  obtain ⟨b1, b2⟩ := long_bk (B := B) _ a1
  obtain ⟨c1, c2⟩ := long_bk (B := B) _ b1
  obtain ⟨d1, d2⟩ := some_bk (B := B) blk_bk _ c1
  refine ⟨d1, fun hb => ?_⟩
  obtain ⟨d3, d4⟩ := d2 hb
  obtain ⟨c3, c4⟩ := c2 d3
  obtain ⟨b3, b4⟩ := b2 c3
  obtain ⟨a3, a4⟩ := a2 b3
  refine ⟨a3, ?_⟩
  unfold fnB
  rw [a4, b4, c4, d4]; simp only [List.append_assoc]
theorem image_bk (lt : ∀ d ∈ B, d < 256) (hB : 4 ≤ B.length) : (imageR B).2.pos ≤ B.length ∧ ((imageR B).2.bad = false → headB ++ B.drop 4 = bytesI (imageR B).1 ++ B.drop (imageR B).2.pos) := by
  unfold imageR
  simp only
  obtain ⟨a1, a2⟩ := some_bk (B := B) ty_bk ⟨4, false⟩ hB
  obtain ⟨b1, b2⟩ := some_bk (B := B) (shp_bk lt) _ a1
  obtain ⟨c1, c2⟩ := some_bk (B := B) (text_bk lt) _ b1
  obtain ⟨d1, d2⟩ := some_bk (B := B) (text_bk lt) _ c1
  obtain ⟨e1, e2⟩ := some_bk (B := B) fn_bk _ d1
  obtain ⟨f1, f2⟩ := long_bk (B := B) _ e1
  obtain ⟨g1, g2⟩ := long_bk (B := B) _ f1
  refine ⟨g1, fun hb => ?_⟩
  obtain ⟨g3, g4⟩ := g2 hb
  obtain ⟨f3, f4⟩ := f2 g3
  obtain ⟨e3, e4⟩ := e2 f3
  obtain ⟨d3, d4⟩ := d2 e3
  obtain ⟨c3, c4⟩ := c2 d3
  obtain ⟨b3, b4⟩ := b2 c3
  obtain ⟨a3, a4⟩ := a2 b3
  unfold bytesI
  rw [a4, b4, c4, d4, e4, f4, g4]; simp only [List.append_assoc]
theorem decode_bk (lt : ∀ d ∈ B, d < 256) (h : (decodeN B).2 = 0) : bytesI (decodeN B).1 = B ∧ checkN (decodeN B).1 = 0 := by
  unfold decodeN at h ⊢
  cases hh : noHead B with
  | true => rw [hh] at h; simp at h
  | false =>
    rw [hh] at h
    cases hb : badEnd B (imageR B) with
    | true => rw [hb] at h; simp at h
    | false =>
      have hd : 4 ≤ B.length ∧ headB ++ B.drop 4 = B := by
        unfold noHead at hh
        simp only [Bool.or_eq_false_iff, decide_eq_false_iff_not] at hh
        have e : B.take 4 = headB := by
          have := congrArg (List.map fun c : UInt8 => c.toNat) (Classical.not_not.1 hh.2)
          rw [u8_nat fun d hd => lt d (List.mem_of_mem_take hd)] at this
          rw [this]; rfl
        exact ⟨by omega, by rw [← e, List.take_append_drop]⟩
      unfold badEnd at hb
      simp only [Bool.or_eq_false_iff, decide_eq_false_iff_not] at hb
      have := (image_bk lt hd.1).2 hb.1.1
      rw [hd.2, List.drop_of_length_le (by omega), List.append_nil] at this
      exact ⟨this.symm, Classical.not_not.1 hb.2⟩
theorem decode_or (B : List Nat) : (decodeN B).2 = 0 ∨ decodeN B = (imgZ, 20) := by
  unfold decodeN
  repeat' split
  all_goals simp
end Go.Proofs.YtdljelicbnjfjaaGreat.X
set_option linter.unusedVariables false
set_option linter.unusedSimpArgs false
set_option maxRecDepth 20000
namespace Go.Proofs.YtdljelicbnjfjaaGreat.X
open Go Go.RowKit
def longT (B : List Nat) (s : RS) : Int × RS := if s.bad then (0, s) else longR B s
def countT (B : List Nat) (s : RS) : Nat × RS :=
  let r := longT B s
  if r.1 < 0 ∨ (B.length : Int) - r.2.pos < r.1 then (0, ⟨r.2.pos, true⟩) else (r.1.toNat, r.2)
def textT (B : List Nat) (s : RS) : List UInt8 × RS := let r := countT B s; (((B.drop r.2.pos).take r.1).map UInt8.ofNat, ⟨r.2.pos + r.1, r.2.bad⟩)
def repT {α : Type} (dec : RS → α × RS) : Nat → RS → List α → List α × RS
  | 0, s, acc => (acc, s)
  | n + 1, s, acc => repT dec n (dec s).2 (acc ++ [(dec s).1])
def whileT {α : Type} (dec : RS → α × RS) : Nat → RS → List α → List α × RS
  | 0, s, acc => (acc, s)
  | n + 1, s, acc => if s.bad then (acc, s) else whileT dec n (dec s).2 (acc ++ [(dec s).1])
def numsT (B : List Nat) (s : RS) : List Int × RS := repT (longT B) (countT B s).1 (countT B s).2 []
def someT {α : Type} (B : List Nat) (dec : RS → α × RS) (s : RS) : List α × RS := whileT dec (countT B s).1 (countT B s).2 []
def kindT (B : List Nat) (s : RS) : Ty × RS :=
  let r := longT B s
  let q := numsT B r.2
  (⟨decide (r.1 = 1), q.1⟩, q.2)
def shapeT (B : List Nat) (s : RS) : Shp × RS :=
  let a := longT B s
  let b := numsT B a.2
  let c := textT B b.2
  (⟨a.1, b.1, c.1⟩, c.2)
def fldT (B : List Nat) (q : Ins × RS) (c : UInt8) : Ins × RS :=
  let x := q.1
  let n := longT B q.2
  let l := numsT B q.2
  if c = 68 then ({ x with d := n.1 }, n.2) else if c = 65 then ({ x with a := n.1 }, n.2) else if c = 66 then ({ x with b := n.1 }, n.2) else if c = 67 then ({ x with c := n.1 }, n.2) else if c = 78 then ({ x with n := n.1 }, n.2) else
  if c = 76 then ({ x with l := l.1 }, l.2) else if c = 77 then ({ x with m := l.1 }, l.2) else ({ x with live := l.1 }, l.2)
def instrT (B : List Nat) (s : RS) : Ins × RS :=
  let a := longT B s
  (usesN a.1).foldl (fldT B) (insZ a.1, ⟨a.2.pos, a.2.bad || decide (usesN a.1 = [])⟩)
def blockT (B : List Nat) (s : RS) : Blk × RS :=
  let a := numsT B s
  let b := someT B (instrT B) a.2
  (⟨a.1, b.1⟩, b.2)
def functionT (B : List Nat) (s : RS) : Fn × RS :=
  let a := numsT B s
  let b := longT B a.2
  let c := longT B b.2
  let d := someT B (blockT B) c.2
  (⟨a.1, b.1, c.1, d.1⟩, d.2)
def imageT (B : List Nat) : Img × RS :=
  let a := someT B (kindT B) ⟨4, false⟩
  let b := someT B (shapeT B) a.2
  let c := someT B (textT B) b.2
  let d := someT B (textT B) c.2
  let e := someT B (functionT B) d.2
  let f := longT B e.2
  let g := longT B f.2
  (⟨a.1, b.1, c.1, d.1, e.1, f.1, g.1⟩, g.2)
def badT (B : List Nat) (r : Img × RS) : Bool := (r.2.bad || decide (checkN r.1 ≠ 0)) || decide (bytesI r.1 ≠ B)
def decodeT (B : List Nat) : Img × Int := if B.length < 4 then (imgZ, 20) else if badT B (imageT B) then (imgZ, 20) else ((imageT B).1, 0)
variable {B : List Nat}
theorem longT_facts (B : List Nat) (s : RS) (hs : s.pos ≤ B.length) : rg (longT B s).1 ∧ s.pos ≤ (longT B s).2.pos ∧ (longT B s).2.pos ≤ B.length := by
  unfold longT
  split
  · exact ⟨rg0, Nat.le_refl _, hs⟩
  · exact longR_facts B s hs
theorem countT_facts (B : List Nat) (s : RS) (hs : s.pos ≤ B.length) : s.pos ≤ (countT B s).2.pos ∧ (countT B s).2.pos + (countT B s).1 ≤ B.length := by
  have := longT_facts B s hs
  unfold countT
  simp only
  split
  · exact ⟨this.2.1, this.2.2⟩
  · rename_i q
    exact ⟨this.2.1, by simp only; omega⟩
/-! ### What the code's reader reads, is read -/
def Sim {α : Type} (dec decT : RS → α × RS) : Prop := ∀ s, (dec s).2.bad = false → s.bad = false ∧ decT s = dec s
theorem long_nb {s : RS} (h : (longR B s).2.bad = false) : s.bad = false := by
  unfold longR at h
  cases hd : decS B s.pos with
  | mk n r =>
    obtain ⟨a, ok⟩ := r
    rw [hd] at h
    cases ok with
    | true => exact h
    | false => simp at h
theorem long_sim : Sim (longR B) (longT B) := fun s h => by
  have := long_nb h
  exact ⟨this, by unfold longT; rw [this]; rfl⟩
theorem count_sim {s : RS} (h : (countR B s).2.bad = false) : s.bad = false ∧ countT B s = countR B s := by
  have hb := h
  unfold countR at h
  simp only at h
  have hb2 := h
  unfold countBad at h
  simp only [Bool.or_eq_false_iff, decide_eq_false_iff_not] at h
  obtain ⟨s1, s2⟩ := long_sim _ h.1
  refine ⟨s1, ?_⟩
  unfold countT countR
  simp only
  rw [s2, if_neg (by omega), hb2]
  simp only [Bool.false_eq_true, if_false]
  rw [show (longR B s).2 = ⟨(longR B s).2.pos, false⟩ from by rw [← h.1]]
theorem text_sim : Sim (textR B) (textT B) := fun s h => by
  obtain ⟨s1, s2⟩ := count_sim (B := B) (s := s) h
  exact ⟨s1, by unfold textT textR; rw [s2]⟩
section
variable {α : Type} {dec decT : RS → α × RS}
theorem steps_nb : ∀ (n : Nat) (s : RS) (acc : List α), (stepsR dec n s acc).2.bad = false → s.bad = false
  | 0, s, acc, h => h
  | n + 1, s, acc, h => by
    rw [stepsR] at h
    cases hb : s.bad with
    | false => rfl
    | true => rw [hb, if_pos rfl] at h; rw [hb] at h; cases h
theorem rep_sim (hd : Sim dec decT) : ∀ (n : Nat) (s : RS) (acc : List α), (stepsR dec n s acc).2.bad = false → repT decT n s acc = stepsR dec n s acc
  | 0, s, acc, h => rfl
  | n + 1, s, acc, h => by
    have hb := steps_nb _ _ _ h
    rw [stepsR, hb, if_neg (by decide)] at h ⊢
    rw [repT, (hd s (steps_nb _ _ _ h)).2]
    exact rep_sim hd n _ _ h
theorem while_sim (hd : Sim dec decT) : ∀ (n : Nat) (s : RS) (acc : List α), (stepsR dec n s acc).2.bad = false → whileT decT n s acc = stepsR dec n s acc
  | 0, s, acc, h => rfl
  | n + 1, s, acc, h => by
    have hb := steps_nb _ _ _ h
    rw [stepsR, hb, if_neg (by decide)] at h ⊢
    rw [whileT, hb, if_neg (by decide), (hd s (steps_nb _ _ _ h)).2]
    exact while_sim hd n _ _ h
theorem some_sim (hd : Sim dec decT) : Sim (someR B dec) (someT B decT) := fun s h => by
  unfold someR at h
  obtain ⟨s1, s2⟩ := count_sim (B := B) (steps_nb _ _ _ h)
  refine ⟨s1, ?_⟩
  unfold someT someR
  rw [s2, while_sim hd _ _ _ h]
theorem nums_sim : Sim (numsR B) (numsT B) := fun s h => by
  unfold numsR someR at h
  obtain ⟨s1, s2⟩ := count_sim (B := B) (steps_nb _ _ _ h)
  refine ⟨s1, ?_⟩
  unfold numsT numsR someR
  rw [s2, rep_sim long_sim _ _ _ h]
end
theorem kind_sim : Sim (kindR B) (kindT B) := fun s h => by
  unfold kindR at h
  simp only at h
  obtain ⟨a1, a2⟩ := nums_sim _ h
  simp only [Bool.or_eq_false_iff, decide_eq_false_iff_not] at a1
  obtain ⟨b1, b2⟩ := long_sim _ a1.1.1
  refine ⟨b1, ?_⟩
  have e : (⟨(longR B s).2.pos, ((longR B s).2.bad || decide ((longR B s).1 < 0)) || decide (1 < (longR B s).1)⟩ : RS) = (longR B s).2 := by
    rw [a1.1.1, decide_eq_false a1.1.2, decide_eq_false a1.2]
    show (⟨(longR B s).2.pos, false⟩ : RS) = _
    rw [← a1.1.1]
  rw [e] at a2
  unfold kindT kindR
  simp only
  rw [b2, e, a2]
theorem shape_sim : Sim (shapeR B) (shapeT B) := fun s h => by
  unfold shapeR at h
  simp only at h
  obtain ⟨c1, c2⟩ := text_sim _ h
  obtain ⟨b1, b2⟩ := nums_sim _ c1
  obtain ⟨a1, a2⟩ := long_sim _ b1
  refine ⟨a1, ?_⟩
  unfold shapeT shapeR
  simp only
  rw [a2, b2, c2]
theorem fld_sim {c : UInt8} {q : Ins × RS} (h : (fldR B q c).2.bad = false) : q.2.bad = false ∧ fldT B q c = fldR B q c := by
  unfold fldR at h
  unfold fldT fldR
  simp only at h ⊢
  by_cases c0 : c = 78
  · subst c0
    rw [if_pos rfl] at h
    obtain ⟨a1, a2⟩ := long_sim _ h
    exact ⟨a1, by rw [a2]; rfl⟩
  by_cases c1 : c = 68
  · subst c1
    obtain ⟨a1, a2⟩ := long_sim (B := B) q.2 h
    exact ⟨a1, by rw [a2]; rfl⟩
  by_cases c2 : c = 65
  · subst c2
    obtain ⟨a1, a2⟩ := long_sim (B := B) q.2 h
    exact ⟨a1, by rw [a2]; rfl⟩
  by_cases c3 : c = 66
  · subst c3
    obtain ⟨a1, a2⟩ := long_sim (B := B) q.2 h
    exact ⟨a1, by rw [a2]; rfl⟩
  by_cases c4 : c = 67
  · subst c4
    obtain ⟨a1, a2⟩ := long_sim (B := B) q.2 h
    exact ⟨a1, by rw [a2]; rfl⟩
  by_cases c5 : c = 76
  · subst c5
    obtain ⟨a1, a2⟩ := nums_sim (B := B) q.2 h
    exact ⟨a1, by rw [a2]; rfl⟩
  by_cases c6 : c = 77
  · subst c6
    obtain ⟨a1, a2⟩ := nums_sim (B := B) q.2 h
    exact ⟨a1, by rw [a2]; rfl⟩
  simp only [c0, c1, c2, c3, c4, c5, c6, if_false] at h ⊢
  obtain ⟨a1, a2⟩ := nums_sim (B := B) q.2 h
  exact ⟨a1, by rw [a2]⟩
theorem flds_sim : ∀ (u : List UInt8) (q : Ins × RS), (u.foldl (fldR B) q).2.bad = false → q.2.bad = false ∧ u.foldl (fldT B) q = u.foldl (fldR B) q
  | [], q, h => ⟨h, rfl⟩
  | c :: u, q, h => by
    rw [List.foldl_cons] at h
    obtain ⟨a1, a2⟩ := flds_sim u _ h
    obtain ⟨b1, b2⟩ := fld_sim a1
    exact ⟨b1, by rw [List.foldl_cons, List.foldl_cons, b2, a2]⟩
theorem instr_sim : Sim (instrR B) (instrT B) := fun s h => by
  unfold instrR at h
  simp only at h
  obtain ⟨a1, a2⟩ := flds_sim _ _ h
  simp only [Bool.or_eq_false_iff] at a1
  obtain ⟨b1, b2⟩ := long_sim _ a1.1
  refine ⟨b1, ?_⟩
  unfold instrT instrR
  simp only
  rw [b2, a2]
theorem block_sim : Sim (blockR B) (blockT B) := fun s h => by
  unfold blockR at h
  simp only at h
  obtain ⟨b1, b2⟩ := some_sim (B := B) instr_sim _ h
  obtain ⟨a1, a2⟩ := nums_sim _ b1
  refine ⟨a1, ?_⟩
  unfold blockT blockR
  simp only
  rw [a2, b2]
theorem function_sim : Sim (functionR B) (functionT B) := fun s h => by
  unfold functionR at h
  simp only at h
  obtain ⟨d1, d2⟩ := some_sim (B := B) block_sim _ h
  obtain ⟨c1, c2⟩ := long_sim _ d1
  obtain ⟨b1, b2⟩ := long_sim _ c1
  obtain ⟨a1, a2⟩ := nums_sim _ b1
  refine ⟨a1, ?_⟩
  unfold functionT functionR
  simp only
  rw [a2, b2, c2, d2]
theorem image_sim (h : (imageR B).2.bad = false) : imageT B = imageR B := by
  unfold imageR at h
  simp only at h
  obtain ⟨g1, g2⟩ := long_sim _ h
  obtain ⟨f1, f2⟩ := long_sim _ g1
  obtain ⟨e1, e2⟩ := some_sim (B := B) function_sim _ f1
  obtain ⟨d1, d2⟩ := some_sim (B := B) text_sim _ e1
  obtain ⟨c1, c2⟩ := some_sim (B := B) text_sim _ d1
  obtain ⟨b1, b2⟩ := some_sim (B := B) shape_sim _ c1
  obtain ⟨a1, a2⟩ := some_sim (B := B) kind_sim _ b1
  unfold imageT imageR
  simp only
  rw [a2, b2, c2, d2, e2, f2, g2]
theorem decode_same (lt : ∀ d ∈ B, d < 256) (okT : (imageT B).1.ok) : decodeT B = decodeN B := by
  rcases decode_or B with h0 | h0
  · -- the code's takes it
    obtain ⟨e1, e2⟩ := decode_bk lt h0
    have hd := h0
    unfold decodeN at h0 e1 e2 ⊢
    cases hh : noHead B with
    | true => rw [hh] at h0; simp at h0
    | false =>
      rw [hh] at h0 e1 e2
      cases hb : badEnd B (imageR B) with
      | true => rw [hb] at h0; simp at h0
      | false =>
        rw [hb] at e1 e2
        simp only [Bool.false_eq_true, if_false] at e1 e2 ⊢
        have hn : (imageR B).2.bad = false := by
          unfold badEnd at hb
          simp only [Bool.or_eq_false_iff] at hb
          exact hb.1.1
        have es := image_sim hn
        have h4 : ¬ B.length < 4 := by
          unfold noHead at hh
          simp only [Bool.or_eq_false_iff, decide_eq_false_iff_not] at hh; omega
        unfold decodeT
        rw [if_neg h4, es]
        have : badT B (imageR B) = false := by
          unfold badT
          rw [hn, e1, e2]; simp
        rw [this]; rfl
  · rw [h0]
    unfold decodeT
    split
    · rfl
    · cases hb : badT B (imageT B) with
      | true => rfl
      | false =>
        unfold badT at hb
        simp only [Bool.or_eq_false_iff, decide_eq_false_iff_not, Classical.not_not] at hb
        have := decode_fw okT hb.1.2
        rw [hb.2, h0] at this
        have := congrArg (fun p : Img × Int => p.2) this
        simp at this
end Go.Proofs.YtdljelicbnjfjaaGreat.X
set_option linter.unusedVariables false
set_option linter.unusedSimpArgs false
set_option maxRecDepth 20000
namespace Go.Proofs.YtdljelicbnjfjaaGreat.X
open Go Go.RowKit
theorem checkZ : checkN imgZ = 0 := by rfl
theorem numB0 : numB 0 = [0] := putL_small (by decide)
theorem bytesZ : bytesI imgZ = [66, 69, 76, 49, 0, 0, 0, 0, 0, 0, 0] := by simp [bytesI, imgZ, manyB, numB0, headB]
theorem decZ : decodeN (bytesI imgZ) = (imgZ, 0) := decode_fw imgZ_ok checkZ
theorem decS1 : decodeN [66, 69, 76] = (imgZ, 20) := by rfl
section
variable {h : H}
theorem imgR.shape {m : Img} {c : List AV} (r : imgR h m c) : c.length = 7 ∧ c[5]? = some (.int .i64 m.main) ∧ c[6]? = some (.int .i64 m.exn) := by
  obtain ⟨_, _, _, _, _, rfl, _⟩ := r; exact ⟨rfl, rfl, rfl⟩
theorem imgbox_r {m : Img} {c : List AV} {n : Nat} {zs : List AV} (r : imgR h m c) (hz : zs.length = n) (hn : n = 7) (lz : leaves zs = true) {K : AV → H → Prop}
    (hK : ∀ d h', Fr [] h h' → h.get d = none → h'.get d = some (.live c 28 true) → h'.read d 0 7 = some c → K (.ptr d 0) h') : boxA h zs 28 fun x h => memA (stA h n x (.agg c)) .undef fun _ h => K x h := by
  subst hn
  have hc := r.shape.1
  refine box_r lz fun d hd => ?_
  rw [copy_st hc hz r.leaves, memA_some]
  exact hK d _ ((Fr.refl _ _).set' hd) hd (H.get_same ..) (H.read_eq (H.get_same ..) (by omega) (by rw [List.drop_zero, List.take_of_length_le (by omega)]))
theorem putL_lt (x : Nat) : ∀ d ∈ putL x, d < 256 := by
  induction x using putL.induct with
  | case1 x h => rw [putL, if_pos h]; simp; omega
  | case2 x h ih =>
    rw [putL, if_neg h]
    intro d hd
    rcases List.mem_cons.1 hd with rfl | hd
    · omega
    · exact ih d hd
theorem numB_lt (n : Int) : ∀ d ∈ numB n, d < 256 := putL_lt _
theorem manyB_lt {α : Type} {e : α → List Nat} (h : ∀ x, ∀ d ∈ e x, d < 256) (l : List α) : ∀ d ∈ manyB e l, d < 256 := by
  intro d hd
  rcases List.mem_append.1 hd with hd | hd
  · exact numB_lt _ d hd
  · obtain ⟨x, _, hx⟩ := List.mem_flatMap.1 hd
    exact h x d hx
theorem app_lt {a b : List Nat} (ha : ∀ d ∈ a, d < 256) (hb : ∀ d ∈ b, d < 256) : ∀ d ∈ a ++ b, d < 256 := fun d hd => (List.mem_append.1 hd).elim (ha d) (hb d)
theorem textB_lt (s : List UInt8) : ∀ d ∈ textB s, d < 256 := app_lt (numB_lt _) fun d hd => by
  obtain ⟨c, _, rfl⟩ := List.mem_map.1 hd
  exact UInt8.toNat_lt c
theorem numsB_lt (l : List Int) : ∀ d ∈ numsB l, d < 256 := manyB_lt numB_lt l
theorem fldB_lt (x : Ins) (c : UInt8) : ∀ d ∈ fldB x c, d < 256 := by
  unfold fldB
  repeat' split
  all_goals first | exact numB_lt _ | exact numsB_lt _
theorem insB_lt (x : Ins) : ∀ d ∈ insB x, d < 256 := app_lt (numB_lt _) fun d hd => by
  obtain ⟨c, _, hx⟩ := List.mem_flatMap.1 hd
  exact fldB_lt x c d hx
theorem bytes_lt (m : Img) : ∀ d ∈ bytesI m, d < 256 := by
  unfold bytesI
  refine app_lt (app_lt (app_lt (app_lt (app_lt (app_lt (app_lt (by decide) (manyB_lt ?_ _)) (manyB_lt ?_ _)) (manyB_lt textB_lt _)) (manyB_lt textB_lt _)) (manyB_lt ?_ _)) (numB_lt _)) (numB_lt _)
  · exact fun t => app_lt (numB_lt _) (numsB_lt _)
  · exact fun t => app_lt (app_lt (numB_lt _) (numsB_lt _)) (textB_lt _)
  · exact fun f => app_lt (app_lt (app_lt (numsB_lt _) (numB_lt _)) (numB_lt _)) (manyB_lt (fun b => app_lt (numsB_lt _) (manyB_lt insB_lt _)) _)
theorem ext2 {a b : AV} {h : H} {K : AV → AV → H → Prop} : (valA (extA (.tup [a, b]) 0) h fun x h => valA (extA (.tup [a, b]) 1) h fun y h => K x y h) = K a b h := by
  rw [show extA (.tup [a, b]) 0 = some a from rfl, valA_some, show extA (.tup [a, b]) 1 = some b from rfl, valA_some]
theorem lives_c {K : AV → H → Prop} (hK : ∀ h', Fr [] h h' → K (.bool true) h') : C 16 [] h K := by
  refine run16 ?_
  unfold sh16
  rw [show buildA (fillV [AV.nilsl, AV.nilsl, AV.nilsl, AV.nilsl, AV.nilsl, AV.int .i64 0, AV.int .i64 0] []) = some (.agg [AV.nilsl, AV.nilsl, AV.nilsl, AV.nilsl, AV.nilsl, AV.int .i64 0, AV.int .i64 0]) from rfl, valA_some]
  refine encode_c (imgZ_r h) imgZ_ok (by rw [bytesZ]; decide) (fun q => absurd checkZ q) fun _ v h1 f1 w1 => ?_
  rw [ext2]
  show mkslA h1 5 3 (fillV [(.int .u8 0), (.int .u8 0), (.int .u8 0)] [(0, 1, (.int .u8 66)), (1, 1, (.int .u8 69)), (2, 1, (.int .u8 76))]) _
  refine ⟨rfl, fun p hp => ?_⟩
  have gp : (h1.set p (.live (bc [66, 69, 76]) 5 true)).get p = some (.live (bc [66, 69, 76]) 5 true) := H.get_same ..
  have fp : Fr [] h1 (h1.set p (.live (bc [66, 69, 76]) 5 true)) := (Fr.refl _ _).set' hp
  change valA (keepA (h1.set p (.live (bc [66, 69, 76]) 5 true)) (.sl p 0 3 (.exact 3))) (h1.set p (.live (bc [66, 69, 76]) 5 true)) _
  have w2 := w1.row.fr fp
  have f2 := f1.trans fp
  generalize h1.set p (.live (bc [66, 69, 76]) 5 true) = h2 at *
  rw [show keepA h2 (.sl p 0 3 (.exact 3)) = some (.sl p 0 3 (.exact 3)) by simp only [keepA, gp]; rfl, valA_some]
  have rp : Row h2 (.sl p 0 3 (.exact 3)) [66, 69, 76].length 1 (bc [66, 69, 76]) := ⟨rfl, .inr ⟨p, 0, _, rfl, rfl, H.read_eq gp (by decide) rfl⟩⟩
  refine decode_c rp (by decide) (by decide) fun h3 c f3 ri _ => ?_
  rw [decS1] at ri ⊢
  rw [ext2]
  refine imgbox_r ri rfl rfl rfl fun d h4 f4 _ _ _ => ?_
  have w4 := (w2.fr f3).fr f4
  refine decode_c w4 (bytes_lt _) (by rw [bytesZ]; decide) fun h5 c f5 ri _ => ?_
  rw [decZ] at ri ⊢
  rw [ext2]
  refine imgbox_r ri rfl rfl rfl fun d h6 f6 hd gd rd => ?_
  have w6 := (w4.fr f5).fr f6
  have e1 := w6.b2s
  have e2 : (bytesI imgZ).map UInt8.ofNat = [66, 69, 76, 49, 0, 0, 0, 0, 0, 0, 0] := by rw [bytesZ]; rfl
  rw [e2] at e1
  have c5 : h6.cell d 5 = some (.int .i64 0) := by rw [cell_of gd]; exact ri.shape.2.1
  have u19 : usesN 19 = [65, 66, 67] := rfl
  have ff := ((((f2.trans f3).trans f4).trans f5).trans f6)
  simp only [go_sem, reduceIte, Nat.reduceAdd, Nat.reduceSub, Nat.reduceMul, Nat.reducePow, Nat.reduceLT, Nat.reduceLeDiff, Nat.reduceEqDiff, Int.reduceAdd, Int.reduceSub, Int.reduceMul, Int.reduceNeg, Int.reducePow, Int.reduceLT, Int.reduceLE, Int.reduceEq, Int.reduceNe, Int.reduceToNat, Int.toNat_natCast, Nat.zero_add, Nat.add_zero, Nat.mul_one, Nat.one_mul, Bool.not_true, Bool.not_false, ne_eq, not_true_eq_false, not_false_eq_true, Bool.false_eq_true, e1, c5, uses_c, u19]
  rw [show buildA (fillV [AV.int .i64 0, .int .i64 0, .int .i64 0, .int .i64 0, .int .i64 0, .int .i64 0, .nilsl, .nilsl, .nilsl] [(0, 1, AV.int .i64 18), (2, 1, AV.int .i64 3)]) = some (.agg (insC ⟨18, 0, 3, 0, 0, 0, [], [], []⟩ .nilsl .nilsl .nilsl)) from rfl, valA_some]
  refine plain_c ⟨_, _, _, rfl, Row.nil .., Row.nil .., Row.nil ..⟩ fun h7 f7 => ?_
  rw [show plainN ⟨18, 0, 3, 0, 0, 0, [], [], []⟩ = true from rfl]
  simp only [go_sem, reduceIte, Nat.reduceAdd, Nat.reduceSub, Nat.reduceMul, Nat.reducePow, Nat.reduceLT, Nat.reduceLeDiff, Nat.reduceEqDiff, Int.reduceAdd, Int.reduceSub, Int.reduceMul, Int.reduceNeg, Int.reducePow, Int.reduceLT, Int.reduceLE, Int.reduceEq, Int.reduceNe, Int.reduceToNat, Int.toNat_natCast, Nat.zero_add, Nat.add_zero, Nat.mul_one, Nat.one_mul, Bool.not_true, Bool.not_false, ne_eq, not_true_eq_false, not_false_eq_true, Bool.false_eq_true]
  rw [show buildA (fillV [AV.int .i64 0, .int .i64 0, .int .i64 0, .int .i64 0, .int .i64 0, .int .i64 0, .nilsl, .nilsl, .nilsl] [(0, 1, AV.int .i64 18), (2, 1, AV.int .i64 3), (1, 1, AV.int .i64 1)]) = some (.agg (insC ⟨18, 1, 3, 0, 0, 0, [], [], []⟩ .nilsl .nilsl .nilsl)) from rfl, valA_some]
  refine plain_c ⟨_, _, _, rfl, Row.nil .., Row.nil .., Row.nil ..⟩ fun h8 f8 => ?_
  rw [show plainN ⟨18, 1, 3, 0, 0, 0, [], [], []⟩ = false from rfl]
  simp only [go_sem, reduceIte, Nat.reduceAdd, Nat.reduceSub, Nat.reduceMul, Nat.reducePow, Nat.reduceLT, Nat.reduceLeDiff, Nat.reduceEqDiff, Int.reduceAdd, Int.reduceSub, Int.reduceMul, Int.reduceNeg, Int.reducePow, Int.reduceLT, Int.reduceLE, Int.reduceEq, Int.reduceNe, Int.reduceToNat, Int.toNat_natCast, Nat.zero_add, Nat.add_zero, Nat.mul_one, Nat.one_mul, Bool.not_true, Bool.not_false, ne_eq, not_true_eq_false, not_false_eq_true, Bool.false_eq_true]
  exact hK h8 ((ff.trans f7).trans f8)
end
end Go.Proofs.YtdljelicbnjfjaaGreat.X
set_option linter.unusedVariables false
set_option linter.unusedSimpArgs false
set_option maxRecDepth 20000
namespace Go.Proofs.YtdljelicbnjfjaaGreat.X
open Go Go.RowKit
def FrB (h h' : H) : Prop := ∀ c cs e w, e ≠ 5 → h.get c = some (.live cs e w) → h'.get c = some (.live cs e w)
theorem FrB.trans {h h1 h2 : H} (f : FrB h h1) (g : FrB h1 h2) : FrB h h2 := fun c cs e w he x => g c cs e w he (f c cs e w he x)
theorem Fr.frb {h h' : H} (f : Fr [] h h') : FrB h h' := fun c _ _ _ _ x => f c _ (by simp) x
theorem FrB.refl (h : H) : FrB h h := fun _ _ _ _ _ x => x
structure V (h0 h : H) (v : AV) (L : List Nat) : Prop where
  ws : WS h0 h v L
  fr : Fr [] h0 h
section
variable {h0 h h' : H} {v : AV} {L : List Nat}
theorem V.keep (w : V h0 h v L) (f : Fr [] h h') : V h0 h' v L := ⟨w.ws.fr f, w.fr.trans f⟩
theorem WS.ne (s : WS h0 h v L) {c e : Nat} {cs : List AV} {w : Bool} (he : e ≠ 5) (hg : h.get c = some (.live cs e w)) : ∀ n p, v ≠ .sl c 0 n p := by
  intro n p q
  rcases s with s | ⟨m, q1, _, q3⟩
  · rcases s.2 with ⟨_, z⟩ | ⟨b, z1, _, z3⟩
    · rw [q] at z; cases z
    · rw [q] at z1; injection z1 with z1 _; subst z1
      rw [hg] at z3; injection z3 with z3; injection z3 with _ z3 _; exact he z3
  · rw [q] at q1; injection q1 with q1 _; subst q1
    rw [hg] at q3; injection q3 with q3; injection q3 with _ q3 _; exact he q3
theorem app_w (w : V h0 h v L) {y : AV} {D : List Nat} (hs : srcA h 1 y = some (D.length, bc D)) (hm : (L ++ D).length ≤ most) {K : AV → H → Prop} (hK : ∀ v' h', V h0 h' v' (L ++ D) → FrB h h' → K v' h') : appendA h 5 1 1 v y K := by
  rw [List.length_append] at hm
  exact wapp_c w.ws w.fr hs hm fun v' h' s f fk _ => hK v' h' ⟨s, f⟩ fun c cs e x he hg => fk c _ hg (w.ws.ne he hg)
theorem rnum_w (w : V h0 h v L) {n : Int} (hn : rg n) (hm : (L ++ numB n).length ≤ most) {K : AV → H → Prop} (hK : ∀ v' h', V h0 h' v' (L ++ numB n) → FrB h h' → K v' h') : C 92 [v, .int .i64 n] h K := by
  refine run92 ?_
  unfold sh92
  refine rput_c hn.1 hn.2 fun v1 h1 o1 f1 => ?_
  exact app_w (w.keep f1) (D := numB n) o1.row.src hm fun v' h' w' f' => hK v' h' w' (f1.frb.trans f')
theorem rtext_w (w : V h0 h v L) {s : List UInt8} (hl : s.length ≤ reachBytes) (hm : (L ++ textB s).length ≤ most) {K : AV → H → Prop} (hK : ∀ v' h', V h0 h' v' (L ++ textB s) → FrB h h' → K v' h') : C 94 [v, .str s] h K := by
  refine run94 ?_
  unfold sh94
  unfold textB at hm hK
  rw [← List.append_assoc] at hm
  rw [show lenA true (.str s) = some (.int .i64 s.length) from rfl, valA_some]
  refine rnum_w w (rg_nat hl) (by simp only [List.length_append] at hm ⊢; omega) fun v1 h1 w1 f1 => ?_
  refine s2b_r fun m hmm => ?_
  have fm : Fr [] h1 (h1.set m (.live (s.map fun c => AV.int .u8 c.toNat) 5 true)) := (Fr.refl _ _).set' hmm
  have e : (s.map fun c => AV.int .u8 c.toNat) = bc (s.map (·.toNat)) := by simp [bc]
  have hs : srcA (h1.set m (.live (s.map fun c => AV.int .u8 c.toNat) 5 true)) 1 (.sl m 0 s.length (.more 1)) = some ((s.map (·.toNat)).length, bc (s.map (·.toNat))) := by
    simp only [srcA]
    rw [H.read_eq (H.get_same ..) (by simp) (by rw [List.drop_zero, List.take_of_length_le (by simp)]), e]
    simp
  refine app_w (w1.keep fm) hs hm fun v' h' w' f' => hK v' h' (by rw [← List.append_assoc]; exact w') ((f1.trans fm.frb).trans f')
theorem acc_r {α : Type} {esz ty : Nat} {zs : List AV} {lv : AV} {l : List α} {Rel : H → α → List AV → Prop} (hleaf : ∀ {h : H} {x c}, Rel h x c → leaves c = true) (hz : zs.length = esz) (lz : leaves zs = true)
    (r : RowOf h0 esz (Rel h0) lv l) (hl : l.length ≤ reachBytes) {Inv : Nat → AV → H → Prop} {a0 : AV} (hi : Inv 0 a0 h) (hfr : ∀ i a h, Inv i a h → Fr [] h0 h) (hkeep : ∀ i a h h', Inv i a h → Fr [] h h' → Inv i a h')
    {J : AV → H → Prop} {BODY : (List AV → H → Prop) → AV → AV → AV → H → Prop}
    (hJ : ∀ a h2, Inv l.length a h2 → J a h2)
    (hB : ∀ (N : List AV → H → Prop) (i : Nat) x a, l[i]? = some x → IntKind.i64.wrap ((i : Int) + 1) = ((i + 1 : Nat) : Int) → ∀ h1 d c, Inv i a h1 → h1.get d = some (.live c ty true) → Rel h0 x c → c.length = esz →
      (∀ a' h2, Inv (i + 1) a' h2 → N [a', .int .i64 ((i + 1 : Nat) : Int)] h2) → BODY N a (.int .i64 i) (.ptr d 0) h1) :
    loopA (fun N l' h => argA l' 0 fun a => argA l' 1 fun t51 => valA (binOp .lss .num t51 (.int .i64 l.length)) h fun t52 h => condA t52
      (valA (iaA esz lv t51) h fun t53 h => valA (ldA h (some esz) t53) h fun t54 h => boxA h zs ty fun d h => memA (stA h esz d t54) .undef fun _ h => BODY N a t51 d h) (J a h)) [a0, .int .i64 0] h := by
  have hr : reachBytes ≤ 4611686018427387903 := by decide
  refine loop_r (l.length + 1) (fun k ls h2 => ∃ (i : Nat) (a : AV), ls = [a, .int .i64 i] ∧ i ≤ l.length ∧ Inv i a h2 ∧ k = l.length + 1 - i) ⟨0, a0, rfl, by omega, hi, rfl⟩ ?_
  rintro k ls h2 ⟨i, a, rfl, hi, ha, rfl⟩
  by_cases q : (i : Int) < l.length
  · have hi' : i < l.length := by omega
    obtain ⟨x, hx⟩ : ∃ x, l[i]? = some x := ⟨l[i], by simp [hi']⟩
    obtain ⟨b, o, c, e1, e2, e3, e4, e5⟩ := (r.mono (hfr _ _ _ ha) fun _ _ _ z => z).el hx
    have en : IntKind.i64.wrap ((i : Int) + 1) = ((i + 1 : Nat) : Int) := by rw [i64_id (by omega) (by omega)]; rfl
    simp only [argA_0, argA_1, b_lss, valA_some, q, decide_true, condA_t, e1, ldA_read e4]
    refine box_r lz fun d hdd => ?_
    rw [copy_st e3 hz (hleaf e2), memA_some]
    have fd : Fr [] h2 (h2.set d (.live c ty true)) := (Fr.refl _ _).set' hdd
    exact hB _ i x a hx en _ d c (hkeep _ _ _ _ ha fd) (H.get_same ..) e2 e3 fun a' h3 ia => ⟨l.length + 1 - (i + 1), by omega, i + 1, a', rfl, by omega, ia, rfl⟩
  · have : i = l.length := by omega
    subst this
    simp only [argA_0, argA_1, b_lss, valA_some, q, decide_false, condA_f]
    exact hJ a h2 ha
theorem accj_r {α : Type} {esz ty : Nat} {zs : List AV} {lv : AV} {l : List α} {Rel : H → α → List AV → Prop} (hleaf : ∀ {h : H} {x c}, Rel h x c → leaves c = true) (hz : zs.length = esz) (lz : leaves zs = true)
    (r : RowOf h0 esz (Rel h0) lv l) (hl : l.length ≤ reachBytes) {Inv : Nat → AV → H → Prop} {a0 : AV} (hi : Inv 0 a0 h) (hfr : ∀ i a h, Inv i a h → Fr [] h0 h) (hkeep : ∀ i a h h', Inv i a h → Fr [] h h' → Inv i a h')
    {J : AV → H → Prop} {BODY : (AV → H → Prop) → AV → AV → AV → H → Prop}
    (hJ : ∀ a h2, Inv l.length a h2 → J a h2)
    (hB : ∀ (N : AV → H → Prop) (i : Nat) x a, l[i]? = some x → IntKind.i64.wrap ((i : Int) + 1) = ((i + 1 : Nat) : Int) → ∀ h1 d c, Inv i a h1 → h1.get d = some (.live c ty true) → Rel h0 x c → c.length = esz →
      (∀ a' h2, Inv (i + 1) a' h2 → N a' h2) → BODY N a (.int .i64 i) (.ptr d 0) h1) :
    loopA (fun N l' h => argA l' 0 fun a => argA l' 1 fun t51 => valA (binOp .lss .num t51 (.int .i64 l.length)) h fun t52 h => condA t52
      (joinA (fun (b : AV) (h : H) => valA (binOp .add .num t51 (.int .i64 1)) h fun t40 h => N [b, t40] h) fun N => valA (iaA esz lv t51) h fun t53 h => valA (ldA h (some esz) t53) h fun t54 h => boxA h zs ty fun d h => memA (stA h esz d t54) .undef fun _ h => BODY N a t51 d h) (J a h)) [a0, .int .i64 0] h := by
  have hr : reachBytes ≤ 4611686018427387903 := by decide
  refine loop_r (l.length + 1) (fun k ls h2 => ∃ (i : Nat) (a : AV), ls = [a, .int .i64 i] ∧ i ≤ l.length ∧ Inv i a h2 ∧ k = l.length + 1 - i) ⟨0, a0, rfl, by omega, hi, rfl⟩ ?_
  rintro k ls h2 ⟨i, a, rfl, hi, ha, rfl⟩
  by_cases q : (i : Int) < l.length
  · have hi' : i < l.length := by omega
    obtain ⟨x, hx⟩ : ∃ x, l[i]? = some x := ⟨l[i], by simp [hi']⟩
    obtain ⟨b, o, c, e1, e2, e3, e4, e5⟩ := (r.mono (hfr _ _ _ ha) fun _ _ _ z => z).el hx
    have en : IntKind.i64.wrap ((i : Int) + 1) = ((i + 1 : Nat) : Int) := by rw [i64_id (by omega) (by omega)]; rfl
    simp only [argA_0, argA_1, b_lss, valA_some, q, decide_true, condA_t, joinA, e1, ldA_read e4]
    refine box_r lz fun d hdd => ?_
    rw [copy_st e3 hz (hleaf e2), memA_some]
    have fd : Fr [] h2 (h2.set d (.live c ty true)) := (Fr.refl _ _).set' hdd
    exact hB _ i x a hx en _ d c (hkeep _ _ _ _ ha fd) (H.get_same ..) e2 e3 fun a' h3 ia => by
      rw [b_add, en, valA_some]
      exact ⟨l.length + 1 - (i + 1), by omega, i + 1, a', rfl, by omega, ia, rfl⟩
  · have : i = l.length := by omega
    subst this
    simp only [argA_0, argA_1, b_lss, valA_some, q, decide_false, condA_f]
    exact hJ a h2 ha
theorem acc1_r {α : Type} {lv : AV} {l : List α} {val : α → AV} (r : Row h0 lv l.length 1 (l.map val)) (hl : l.length ≤ reachBytes) {Inv : Nat → AV → H → Prop} {a0 : AV} (hi : Inv 0 a0 h) (hfr : ∀ i a h, Inv i a h → Fr [] h0 h)
    {J : AV → H → Prop} {BODY : (List AV → H → Prop) → AV → AV → AV → H → Prop}
    (hJ : ∀ a h2, Inv l.length a h2 → J a h2)
    (hB : ∀ (N : List AV → H → Prop) (i : Nat) x a, l[i]? = some x → IntKind.i64.wrap ((i : Int) + 1) = ((i + 1 : Nat) : Int) → ∀ h1, Inv i a h1 → (∀ a' h2, Inv (i + 1) a' h2 → N [a', .int .i64 ((i + 1 : Nat) : Int)] h2) → BODY N a (.int .i64 i) (val x) h1) :
    loopA (fun N l' h => argA l' 0 fun a => argA l' 1 fun t51 => valA (binOp .lss .num t51 (.int .i64 l.length)) h fun t52 h => condA t52
      (valA (iaA 1 lv t51) h fun t53 h => valA (ldA h none t53) h fun t54 h => BODY N a t51 t54 h) (J a h)) [a0, .int .i64 0] h := by
  have hr : reachBytes ≤ 4611686018427387903 := by decide
  refine loop_r (l.length + 1) (fun k ls h2 => ∃ (i : Nat) (a : AV), ls = [a, .int .i64 i] ∧ i ≤ l.length ∧ Inv i a h2 ∧ k = l.length + 1 - i) ⟨0, a0, rfl, by omega, hi, rfl⟩ ?_
  rintro k ls h2 ⟨i, a, rfl, hi, ha, rfl⟩
  by_cases q : (i : Int) < l.length
  · have hi' : i < l.length := by omega
    obtain ⟨x, hx⟩ : ∃ x, l[i]? = some x := ⟨l[i], by simp [hi']⟩
    obtain ⟨b, o, e1, e2⟩ := (r.fr (hfr _ _ _ ha)).at (i := i) (x := val x) (by omega) q (by rw [Int.toNat_natCast, List.getElem?_map, hx]; rfl)
    have en : IntKind.i64.wrap ((i : Int) + 1) = ((i + 1 : Nat) : Int) := by rw [i64_id (by omega) (by omega)]; rfl
    simp only [argA_0, argA_1, b_lss, valA_some, q, decide_true, condA_t, e1, ldA_n, e2]
    exact hB _ i x a hx en _ ha fun a' h3 ia => ⟨l.length + 1 - (i + 1), by omega, i + 1, a', rfl, by omega, ia, rfl⟩
  · have : i = l.length := by omega
    subst this
    simp only [argA_0, argA_1, b_lss, valA_some, q, decide_false, condA_f]
    exact hJ a h2 ha
theorem part_le {α : Type} (e : α → List Nat) {l : List α} {i : Nat} {x : α} (hx : l[i]? = some x) {L : List Nat} (hm : (L ++ l.flatMap e).length ≤ most) : ((L ++ (l.take i).flatMap e) ++ e x).length ≤ most := by
  have h1 := flat_take_le e l (i + 1)
  rw [flat_succ e hx, List.length_append] at h1
  simp only [List.length_append] at hm ⊢; omega
theorem rnums_w (w : V h0 h v L) {hb : H} {lv : AV} {l : List Int} (r : Row hb lv l.length 1 (ic l)) (hf : Fr [] hb h0) (ok : rgs l) (hm : (L ++ numsB l).length ≤ most) {K : AV → H → Prop} (hK : ∀ v' h', V h0 h' v' (L ++ numsB l) → FrB h h' → K v' h') : C 93 [v, lv] h K := by
  refine run93 ?_
  unfold sh93
  unfold numsB manyB at hm hK
  rw [← List.append_assoc] at hm
  rw [r.len, valA_some]
  refine rnum_w w (rg_nat ok.1) (by simp only [List.length_append] at hm ⊢; omega) fun v1 h1 w1 f1 => ?_
  refine join_r (fun (J : AV → H → Prop) => ∀ v' h', V h0 h' v' (L ++ numB l.length ++ l.flatMap numB) → FrB h h' → J v' h') (fun v' h' w' f' => hK v' h' (by rw [← List.append_assoc]; exact w') f') fun J hJ => ?_
  rw [valA_some]
  refine acc1_r (h0 := h0) (r.fr hf) ok.1 (Inv := fun i a h2 => V h0 h2 a (L ++ numB l.length ++ (l.take i).flatMap numB) ∧ FrB h h2) ⟨by simpa using w1, f1⟩ (fun i a h i1 => i1.1.fr) (fun a h2 ⟨i1, i2⟩ => ?_) ?_
  · rw [List.take_length] at i1; exact hJ a h2 i1 i2
  · rintro N i x a hx en h2 ⟨i1, i2⟩ hN
    have hb := part_le numB hx hm
    refine rnum_w i1 (ok.2 x (List.mem_of_getElem? hx)) hb fun v3 h3 w3 f3 => ?_
    rw [b_add, en, valA_some]
    exact hN v3 h3 ⟨by rw [flat_succ numB hx, ← List.append_assoc]; exact w3, i2.trans f3⟩
theorem rinstr_w (w : V h0 h v L) {hb : H} {x : Ins} {c : List AV} (r : insR hb x c) (hf : Fr [] hb h0) (ok : x.ok) (hm : (L ++ insB x).length ≤ most) {K : AV → H → Prop} (hK : ∀ v' h', V h0 h' v' (L ++ insB x) → FrB h h' → K v' h') : C 95 [v, .agg c] h K := by
  refine run95 ?_
  have hl := r.leaves
  obtain ⟨vl, vm, vv, rfl, q1, q2, q3⟩ := r
  have ok' := ok
  obtain ⟨⟨o1, o2, o3, o4, o5, o6⟩, o7, o8, o9⟩ := ok
  have ec : ∀ cs : List AV, (AV.agg cs).cells = cs := fun _ => rfl
  unfold sh95
  rw [ec]
  refine box_r hl fun d hd => ?_
  have fd : Fr [] h (h.set d (.live (insC x vl vm vv) 55 true)) := (Fr.refl _ _).set' hd
  have gd : (h.set d (.live (insC x vl vm vv) 55 true)).get d = some (.live (insC x vl vm vv) 55 true) := H.get_same ..
  have w1 := w.keep fd
  have fw := fd.frb
  generalize h.set d (.live (insC x vl vm vv) 55 true) = h1 at *
  unfold insB at hm hK
  have cd : ∀ {h2 : H}, h2.get d = some (.live (insC x vl vm vv) 55 true) → ∀ o, h2.cell d o = [AV.int .i64 x.op, .int .i64 x.d, .int .i64 x.a, .int .i64 x.b, .int .i64 x.c, .int .i64 x.n, vl, vm, vv][o]? := fun q o => cell_of q o
  refine fld_r (v := .int .i64 x.op) (by rw [cd gd]; rfl) ?_
  rw [← List.append_assoc] at hm
  refine rnum_w w1 o1 (by simp only [List.length_append] at hm ⊢; omega) fun v2 h2 w2 f2 => ?_
  have gd2 := f2 d _ _ _ (by decide) gd
  refine fld_r (v := .int .i64 x.op) (by rw [cd gd2]; rfl) ?_
  refine ruses_c x.op fun h3 f3 => ?_
  have gd3 := f3 d _ (by simp) gd2
  have w3 := w2.keep f3
  have hu := usesN_len x.op
  have hr : reachBytes ≤ 4611686018427387903 := by decide
  have fw3 := (fw.trans f2).trans f3.frb
  generalize usesN x.op = u at *
  refine join_r (fun (J : AV → H → Prop) => ∀ v' h', V h0 h' v' (L ++ numB x.op ++ u.flatMap (fldB x)) → FrB h h' → J v' h') (fun v' h' w' f' => hK v' h' (by rw [← List.append_assoc]; exact w') f') fun J hJ => ?_
  refine loop_r (u.length + 1) (fun k ls h4 => ∃ (i : Nat) (a : AV), ls = [a, .int .i64 i] ∧ i ≤ u.length ∧ V h0 h4 a (L ++ numB x.op ++ (u.take i).flatMap (fldB x)) ∧ FrB h h4 ∧ h4.get d = some (.live (insC x vl vm vv) 55 true) ∧ k = u.length + 1 - i)
    ⟨0, v2, rfl, by omega, by simpa using w3, fw3, gd3, rfl⟩ ?_
  rintro k ls h4 ⟨i, a, rfl, hi, w4, f4, gd4, rfl⟩
  have hlen : lenA true (.str u) = some (.int .i64 u.length) := rfl
  by_cases q : (i : Int) < u.length
  · have hi' : i < u.length := by omega
    obtain ⟨c, hc⟩ : ∃ c, u[i]? = some c := ⟨u[i], by simp [hi']⟩
    have hix : ixStrA (.str u) (.int .i64 i) = some (.int .u8 c.toNat) := by
      have : (0 : Int) ≤ i := by omega
      simp only [ixStrA, this, if_true, Int.toNat_natCast, hc]
    have en : IntKind.i64.wrap ((i : Int) + 1) = ((i + 1 : Nat) : Int) := by rw [i64_id (by omega) (by omega)]; rfl
    have hb := part_le (fldB x) hc hm
    have done : ∀ v5 h5, V h0 h5 v5 (L ++ numB x.op ++ (u.take i).flatMap (fldB x) ++ fldB x c) → FrB h4 h5 → ∃ n', n' < u.length + 1 - i ∧ ∃ (i' : Nat) (a : AV), [v5, AV.int .i64 ((i + 1 : Nat) : Int)] = [a, .int .i64 i'] ∧ i' ≤ u.length ∧ V h0 h5 a (L ++ numB x.op ++ (u.take i').flatMap (fldB x)) ∧ FrB h h5 ∧
        h5.get d = some (.live (insC x vl vm vv) 55 true) ∧ n' = u.length + 1 - i' := fun v5 h5 w5 f5 =>
      ⟨u.length + 1 - (i + 1), by omega, i + 1, v5, rfl, by omega, by rw [flat_succ (fldB x) hc, ← List.append_assoc]; exact w5, f4.trans f5, f5 d _ _ _ (by decide) gd4, rfl⟩
    have fn : ∀ k : UInt8, ¬ c = k → ¬ ((c.toNat : Nat) : Int) = (k.toNat : Nat) := fun k e q => e (UInt8.toNat_inj.1 (by omega))
    by_cases c0 : c = 68
    · subst c0
      have t : ((UInt8.toNat 68 : Nat) : Int) = 68 := rfl
      have e : fldB x 68 = numB x.d := rfl
      rw [e] at hb done
      simp only [joinA, go_sem, reduceIte, Nat.reduceAdd, Nat.reduceSub, Nat.reduceMul, Nat.reducePow, Nat.reduceLT, Nat.reduceLeDiff, Nat.reduceEqDiff, Int.reduceAdd, Int.reduceSub, Int.reduceMul, Int.reduceNeg, Int.reducePow, Int.reduceLT, Int.reduceLE, Int.reduceEq, Int.reduceNe, Int.reduceToNat, Int.toNat_natCast, Nat.zero_add, Nat.add_zero, Nat.mul_one, Nat.one_mul, Bool.not_true, Bool.not_false, ne_eq, not_true_eq_false, not_false_eq_true, Bool.false_eq_true, q, hlen, hix, t, cd gd4]
      refine rnum_w w4 o2 hb fun v5 h5 w5 f5 => ?_
      simp only [go_sem, reduceIte, Nat.reduceAdd, Nat.reduceSub, Nat.reduceMul, Nat.reducePow, Nat.reduceLT, Nat.reduceLeDiff, Nat.reduceEqDiff, Int.reduceAdd, Int.reduceSub, Int.reduceMul, Int.reduceNeg, Int.reducePow, Int.reduceLT, Int.reduceLE, Int.reduceEq, Int.reduceNe, Int.reduceToNat, Int.toNat_natCast, Nat.zero_add, Nat.add_zero, Nat.mul_one, Nat.one_mul, Bool.not_true, Bool.not_false, ne_eq, not_true_eq_false, not_false_eq_true, Bool.false_eq_true, en]
      exact done v5 h5 w5 f5
    have n0 : ¬ ((c.toNat : Nat) : Int) = 68 := fn 68 c0
    by_cases c1 : c = 65
    · subst c1
      have t : ((UInt8.toNat 65 : Nat) : Int) = 65 := rfl
      have e : fldB x 65 = numB x.a := rfl
      rw [e] at hb done
      simp only [joinA, go_sem, reduceIte, Nat.reduceAdd, Nat.reduceSub, Nat.reduceMul, Nat.reducePow, Nat.reduceLT, Nat.reduceLeDiff, Nat.reduceEqDiff, Int.reduceAdd, Int.reduceSub, Int.reduceMul, Int.reduceNeg, Int.reducePow, Int.reduceLT, Int.reduceLE, Int.reduceEq, Int.reduceNe, Int.reduceToNat, Int.toNat_natCast, Nat.zero_add, Nat.add_zero, Nat.mul_one, Nat.one_mul, Bool.not_true, Bool.not_false, ne_eq, not_true_eq_false, not_false_eq_true, Bool.false_eq_true, q, hlen, hix, t, cd gd4]
      refine rnum_w w4 o3 hb fun v5 h5 w5 f5 => ?_
      simp only [go_sem, reduceIte, Nat.reduceAdd, Nat.reduceSub, Nat.reduceMul, Nat.reducePow, Nat.reduceLT, Nat.reduceLeDiff, Nat.reduceEqDiff, Int.reduceAdd, Int.reduceSub, Int.reduceMul, Int.reduceNeg, Int.reducePow, Int.reduceLT, Int.reduceLE, Int.reduceEq, Int.reduceNe, Int.reduceToNat, Int.toNat_natCast, Nat.zero_add, Nat.add_zero, Nat.mul_one, Nat.one_mul, Bool.not_true, Bool.not_false, ne_eq, not_true_eq_false, not_false_eq_true, Bool.false_eq_true, en]
      exact done v5 h5 w5 f5
    have n1 : ¬ ((c.toNat : Nat) : Int) = 65 := fn 65 c1
    by_cases c2 : c = 66
    · subst c2
      have t : ((UInt8.toNat 66 : Nat) : Int) = 66 := rfl
      have e : fldB x 66 = numB x.b := rfl
      rw [e] at hb done
      simp only [joinA, go_sem, reduceIte, Nat.reduceAdd, Nat.reduceSub, Nat.reduceMul, Nat.reducePow, Nat.reduceLT, Nat.reduceLeDiff, Nat.reduceEqDiff, Int.reduceAdd, Int.reduceSub, Int.reduceMul, Int.reduceNeg, Int.reducePow, Int.reduceLT, Int.reduceLE, Int.reduceEq, Int.reduceNe, Int.reduceToNat, Int.toNat_natCast, Nat.zero_add, Nat.add_zero, Nat.mul_one, Nat.one_mul, Bool.not_true, Bool.not_false, ne_eq, not_true_eq_false, not_false_eq_true, Bool.false_eq_true, q, hlen, hix, t, cd gd4]
      refine rnum_w w4 o4 hb fun v5 h5 w5 f5 => ?_
      simp only [go_sem, reduceIte, Nat.reduceAdd, Nat.reduceSub, Nat.reduceMul, Nat.reducePow, Nat.reduceLT, Nat.reduceLeDiff, Nat.reduceEqDiff, Int.reduceAdd, Int.reduceSub, Int.reduceMul, Int.reduceNeg, Int.reducePow, Int.reduceLT, Int.reduceLE, Int.reduceEq, Int.reduceNe, Int.reduceToNat, Int.toNat_natCast, Nat.zero_add, Nat.add_zero, Nat.mul_one, Nat.one_mul, Bool.not_true, Bool.not_false, ne_eq, not_true_eq_false, not_false_eq_true, Bool.false_eq_true, en]
      exact done v5 h5 w5 f5
    have n2 : ¬ ((c.toNat : Nat) : Int) = 66 := fn 66 c2
    by_cases c3 : c = 67
    · subst c3
      have t : ((UInt8.toNat 67 : Nat) : Int) = 67 := rfl
      have e : fldB x 67 = numB x.c := rfl
      rw [e] at hb done
      simp only [joinA, go_sem, reduceIte, Nat.reduceAdd, Nat.reduceSub, Nat.reduceMul, Nat.reducePow, Nat.reduceLT, Nat.reduceLeDiff, Nat.reduceEqDiff, Int.reduceAdd, Int.reduceSub, Int.reduceMul, Int.reduceNeg, Int.reducePow, Int.reduceLT, Int.reduceLE, Int.reduceEq, Int.reduceNe, Int.reduceToNat, Int.toNat_natCast, Nat.zero_add, Nat.add_zero, Nat.mul_one, Nat.one_mul, Bool.not_true, Bool.not_false, ne_eq, not_true_eq_false, not_false_eq_true, Bool.false_eq_true, q, hlen, hix, t, cd gd4]
      refine rnum_w w4 o5 hb fun v5 h5 w5 f5 => ?_
      simp only [go_sem, reduceIte, Nat.reduceAdd, Nat.reduceSub, Nat.reduceMul, Nat.reducePow, Nat.reduceLT, Nat.reduceLeDiff, Nat.reduceEqDiff, Int.reduceAdd, Int.reduceSub, Int.reduceMul, Int.reduceNeg, Int.reducePow, Int.reduceLT, Int.reduceLE, Int.reduceEq, Int.reduceNe, Int.reduceToNat, Int.toNat_natCast, Nat.zero_add, Nat.add_zero, Nat.mul_one, Nat.one_mul, Bool.not_true, Bool.not_false, ne_eq, not_true_eq_false, not_false_eq_true, Bool.false_eq_true, en]
      exact done v5 h5 w5 f5
    have n3 : ¬ ((c.toNat : Nat) : Int) = 67 := fn 67 c3
    by_cases c4 : c = 78
    · subst c4
      have t : ((UInt8.toNat 78 : Nat) : Int) = 78 := rfl
      have e : fldB x 78 = numB x.n := rfl
      rw [e] at hb done
      simp only [joinA, go_sem, reduceIte, Nat.reduceAdd, Nat.reduceSub, Nat.reduceMul, Nat.reducePow, Nat.reduceLT, Nat.reduceLeDiff, Nat.reduceEqDiff, Int.reduceAdd, Int.reduceSub, Int.reduceMul, Int.reduceNeg, Int.reducePow, Int.reduceLT, Int.reduceLE, Int.reduceEq, Int.reduceNe, Int.reduceToNat, Int.toNat_natCast, Nat.zero_add, Nat.add_zero, Nat.mul_one, Nat.one_mul, Bool.not_true, Bool.not_false, ne_eq, not_true_eq_false, not_false_eq_true, Bool.false_eq_true, q, hlen, hix, t, cd gd4]
      refine rput_c o6.1 o6.2 fun v1 h5 p5 f5 => ?_
      refine app_w (w4.keep f5) (D := numB x.n) p5.row.src hb fun v6 h6 w6 f6 => ?_
      simp only [go_sem, reduceIte, Nat.reduceAdd, Nat.reduceSub, Nat.reduceMul, Nat.reducePow, Nat.reduceLT, Nat.reduceLeDiff, Nat.reduceEqDiff, Int.reduceAdd, Int.reduceSub, Int.reduceMul, Int.reduceNeg, Int.reducePow, Int.reduceLT, Int.reduceLE, Int.reduceEq, Int.reduceNe, Int.reduceToNat, Int.toNat_natCast, Nat.zero_add, Nat.add_zero, Nat.mul_one, Nat.one_mul, Bool.not_true, Bool.not_false, ne_eq, not_true_eq_false, not_false_eq_true, Bool.false_eq_true, en]
      exact done v6 h6 w6 (f5.frb.trans f6)
    have n4 : ¬ ((c.toNat : Nat) : Int) = 78 := fn 78 c4
    by_cases c5 : c = 76
    · subst c5
      have t : ((UInt8.toNat 76 : Nat) : Int) = 76 := rfl
      have e : fldB x 76 = numsB x.l := rfl
      rw [e] at hb done
      simp only [joinA, go_sem, reduceIte, Nat.reduceAdd, Nat.reduceSub, Nat.reduceMul, Nat.reducePow, Nat.reduceLT, Nat.reduceLeDiff, Nat.reduceEqDiff, Int.reduceAdd, Int.reduceSub, Int.reduceMul, Int.reduceNeg, Int.reducePow, Int.reduceLT, Int.reduceLE, Int.reduceEq, Int.reduceNe, Int.reduceToNat, Int.toNat_natCast, Nat.zero_add, Nat.add_zero, Nat.mul_one, Nat.one_mul, Bool.not_true, Bool.not_false, ne_eq, not_true_eq_false, not_false_eq_true, Bool.false_eq_true, q, hlen, hix, t, cd gd4]
      refine rnums_w w4 q1 hf o7 hb fun v5 h5 w5 f5 => ?_
      simp only [go_sem, reduceIte, Nat.reduceAdd, Nat.reduceSub, Nat.reduceMul, Nat.reducePow, Nat.reduceLT, Nat.reduceLeDiff, Nat.reduceEqDiff, Int.reduceAdd, Int.reduceSub, Int.reduceMul, Int.reduceNeg, Int.reducePow, Int.reduceLT, Int.reduceLE, Int.reduceEq, Int.reduceNe, Int.reduceToNat, Int.toNat_natCast, Nat.zero_add, Nat.add_zero, Nat.mul_one, Nat.one_mul, Bool.not_true, Bool.not_false, ne_eq, not_true_eq_false, not_false_eq_true, Bool.false_eq_true, en]
      exact done v5 h5 w5 f5
    have n5 : ¬ ((c.toNat : Nat) : Int) = 76 := fn 76 c5
    by_cases c6 : c = 77
    · subst c6
      have t : ((UInt8.toNat 77 : Nat) : Int) = 77 := rfl
      have e : fldB x 77 = numsB x.m := rfl
      rw [e] at hb done
      simp only [joinA, go_sem, reduceIte, Nat.reduceAdd, Nat.reduceSub, Nat.reduceMul, Nat.reducePow, Nat.reduceLT, Nat.reduceLeDiff, Nat.reduceEqDiff, Int.reduceAdd, Int.reduceSub, Int.reduceMul, Int.reduceNeg, Int.reducePow, Int.reduceLT, Int.reduceLE, Int.reduceEq, Int.reduceNe, Int.reduceToNat, Int.toNat_natCast, Nat.zero_add, Nat.add_zero, Nat.mul_one, Nat.one_mul, Bool.not_true, Bool.not_false, ne_eq, not_true_eq_false, not_false_eq_true, Bool.false_eq_true, q, hlen, hix, t, cd gd4]
      refine rnums_w w4 q2 hf o8 hb fun v5 h5 w5 f5 => ?_
      simp only [go_sem, reduceIte, Nat.reduceAdd, Nat.reduceSub, Nat.reduceMul, Nat.reducePow, Nat.reduceLT, Nat.reduceLeDiff, Nat.reduceEqDiff, Int.reduceAdd, Int.reduceSub, Int.reduceMul, Int.reduceNeg, Int.reducePow, Int.reduceLT, Int.reduceLE, Int.reduceEq, Int.reduceNe, Int.reduceToNat, Int.toNat_natCast, Nat.zero_add, Nat.add_zero, Nat.mul_one, Nat.one_mul, Bool.not_true, Bool.not_false, ne_eq, not_true_eq_false, not_false_eq_true, Bool.false_eq_true, en]
      exact done v5 h5 w5 f5
    have n6 : ¬ ((c.toNat : Nat) : Int) = 77 := fn 77 c6
    have e : fldB x c = numsB x.live := by unfold fldB; rw [if_neg c4, if_neg c0, if_neg c1, if_neg c2, if_neg c3, if_neg c5, if_neg c6]
    rw [e] at hb done
    simp only [joinA, go_sem, reduceIte, Nat.reduceAdd, Nat.reduceSub, Nat.reduceMul, Nat.reducePow, Nat.reduceLT, Nat.reduceLeDiff, Nat.reduceEqDiff, Int.reduceAdd, Int.reduceSub, Int.reduceMul, Int.reduceNeg, Int.reducePow, Int.reduceLT, Int.reduceLE, Int.reduceEq, Int.reduceNe, Int.reduceToNat, Int.toNat_natCast, Nat.zero_add, Nat.add_zero, Nat.mul_one, Nat.one_mul, Bool.not_true, Bool.not_false, ne_eq, not_true_eq_false, not_false_eq_true, Bool.false_eq_true, q, hlen, hix, n0, n1, n2, n3, n4, n5, n6, cd gd4]
    refine rnums_w w4 q3 hf o9 hb fun v5 h5 w5 f5 => ?_
    simp only [go_sem, reduceIte, Nat.reduceAdd, Nat.reduceSub, Nat.reduceMul, Nat.reducePow, Nat.reduceLT, Nat.reduceLeDiff, Nat.reduceEqDiff, Int.reduceAdd, Int.reduceSub, Int.reduceMul, Int.reduceNeg, Int.reducePow, Int.reduceLT, Int.reduceLE, Int.reduceEq, Int.reduceNe, Int.reduceToNat, Int.toNat_natCast, Nat.zero_add, Nat.add_zero, Nat.mul_one, Nat.one_mul, Bool.not_true, Bool.not_false, ne_eq, not_true_eq_false, not_false_eq_true, Bool.false_eq_true, en]
    exact done v5 h5 w5 f5
  · have : u.take i = u := List.take_of_length_le (by omega)
    rw [this] at w4
    simp only [go_sem, reduceIte, Nat.reduceAdd, Nat.reduceSub, Nat.reduceMul, Nat.reducePow, Nat.reduceLT, Nat.reduceLeDiff, Nat.reduceEqDiff, Int.reduceAdd, Int.reduceSub, Int.reduceMul, Int.reduceNeg, Int.reducePow, Int.reduceLT, Int.reduceLE, Int.reduceEq, Int.reduceNe, Int.reduceToNat, Int.toNat_natCast, Nat.zero_add, Nat.add_zero, Nat.mul_one, Nat.one_mul, Bool.not_true, Bool.not_false, ne_eq, not_true_eq_false, not_false_eq_true, Bool.false_eq_true, q, hlen]
    exact hJ a h4 w4 f4
end
end Go.Proofs.YtdljelicbnjfjaaGreat.X
set_option linter.unusedVariables false
set_option linter.unusedSimpArgs false
set_option maxRecDepth 20000
namespace Go.Proofs.YtdljelicbnjfjaaGreat.X
open Go Go.RowKit
section
variable {h : H}
theorem le_l {a b : List Nat} {n : Nat} (h : (a ++ b).length ≤ n) : a.length ≤ n := by rw [List.length_append] at h; omega
theorem le_a {a b c : List Nat} {n : Nat} (h : (a ++ (b ++ c)).length ≤ n) : (a ++ b).length ≤ n := by simp only [List.length_append] at h ⊢; omega
theorem le_m {α : Type} {e : α → List Nat} {l : List α} {L : List Nat} {n : Nat} (h : (L ++ manyB e l).length ≤ n) : (L ++ numB l.length).length ≤ n ∧ (L ++ numB l.length ++ l.flatMap e).length ≤ n := by
  unfold manyB at h; simp only [List.length_append] at h ⊢; omega
set_option maxHeartbeats 1000000 in
theorem bytes_w {m : Img} {c : List AV} (r : imgR h m c) (ok : m.ok) (hm : (bytesI m).length ≤ most) {K : AV → H → Prop} (hK : ∀ v h', V h h' v (bytesI m) → K v h') : C 49 [.agg c] h K := by
  refine run49 ?_
  have hl := r.leaves
  have ec : (AV.agg c).cells = c := rfl
  obtain ⟨vt, vs, vx, vn, vf, rfl, r1, r2, r3, r4, r5⟩ := r
  obtain ⟨⟨k1, k1'⟩, ⟨k2, k2'⟩, ⟨k3, k3'⟩, ⟨k4, k4'⟩, ⟨k5, k5'⟩, k6, k7⟩ := ok
  unfold sh49
  rw [ec]
  refine box_r hl fun b hb => ?_
  have f0 : Fr [] h (h.set b (.live [vt, vs, vx, vn, vf, .int .i64 m.main, .int .i64 m.exn] 28 true)) := (Fr.refl _ _).set' hb
  have gb : (h.set b (.live [vt, vs, vx, vn, vf, .int .i64 m.main, .int .i64 m.exn] 28 true)).get b = some (.live [vt, vs, vx, vn, vf, .int .i64 m.main, .int .i64 m.exn] 28 true) := H.get_same ..
  generalize h.set b (.live [vt, vs, vx, vn, vf, .int .i64 m.main, .int .i64 m.exn] 28 true) = h1 at *
  refine lit_head fun p hp => ?_
  have gp : (h1.set p (.live (bc headB) 5 true)).get p = some (.live (bc headB) 5 true) := H.get_same ..
  have ek : keepA (h1.set p (.live (bc headB) 5 true)) (.sl p 0 4 (.exact 4)) = some (.sl p 0 4 (.exact 4)) := by simp only [keepA, gp]; rfl
  rw [ek, valA_some]
  have fp : Fr [] h1 (h1.set p (.live (bc headB) 5 true)) := (Fr.refl _ _).set' hp
  have w2 : V h (h1.set p (.live (bc headB) 5 true)) (.sl p 0 4 (.exact 4)) headB := ⟨.inr ⟨p, rfl, f0.free hp, gp⟩, f0.trans fp⟩
  have f2 := fp.frb
  generalize h1.set p (.live (bc headB) 5 true) = h2 at *
  have cb : ∀ {h5 : H}, FrB h1 h5 → ∀ o v, ([vt, vs, vx, vn, vf, AV.int .i64 m.main, .int .i64 m.exn] : List AV)[o]? = some v → h5.cell b o = some v := fun f o v e => by rw [cell_of (f b _ _ _ (by decide) gb)]; exact e
  unfold bytesI at hm hK
  simp only [List.append_assoc] at hm
  have m1 := le_m (le_a hm)
  rw [← List.append_assoc] at hm
  have m2 := le_m (le_a hm)
  rw [← List.append_assoc] at hm
  have m3 := le_m (le_a hm)
  rw [← List.append_assoc] at hm
  have m4 := le_m (le_a hm)
  rw [← List.append_assoc] at hm
  have m5 := le_m (le_a hm)
  rw [← List.append_assoc] at hm
  have m6 := le_a hm
  rw [← List.append_assoc] at hm
  refine fld_r (cb f2 0 _ rfl) ?_
  rw [r1.len, valA_some]
  refine rnum_w w2 (rg_nat k1) m1.1 fun v3 h3 w3 f3 => ?_
  have f3 := f2.trans f3
  refine join_r (fun (J : AV → H → Prop) => ∀ v h', V h h' v (headB ++ manyB tyB m.types) → FrB h1 h' → J v h') ?_ fun J hJ => ?_
  · intro v h' w f
    refine fld_r (cb f 1 _ rfl) ?_
    rw [r2.len, valA_some]
    refine rnum_w w (rg_nat k2) m2.1 fun v3 h3 w3 f3 => ?_
    have f3 := f.trans f3
    refine join_r (fun (J : AV → H → Prop) => ∀ v h', V h h' v (headB ++ manyB tyB m.types ++ manyB shB m.shapes) → FrB h1 h' → J v h') ?_ fun J hJ => ?_
    · intro v h' w f
      refine fld_r (cb f 2 _ rfl) ?_
      rw [r3.len, valA_some]
      refine rnum_w w (rg_nat k3) m3.1 fun v3 h3 w3 f3 => ?_
      have f3 := f.trans f3
      refine join_r (fun (J : AV → H → Prop) => ∀ v h', V h h' v (headB ++ manyB tyB m.types ++ manyB shB m.shapes ++ manyB textB m.strs) → FrB h1 h' → J v h') ?_ fun J hJ => ?_
      · intro v h' w f
        refine fld_r (cb f 3 _ rfl) ?_
        rw [r4.len, valA_some]
        refine rnum_w w (rg_nat k4) m4.1 fun v3 h3 w3 f3 => ?_
        have f3 := f.trans f3
        refine join_r (fun (J : AV → H → Prop) => ∀ v h', V h h' v (headB ++ manyB tyB m.types ++ manyB shB m.shapes ++ manyB textB m.strs ++ manyB textB m.names) → FrB h1 h' → J v h') ?_ fun J hJ => ?_
        · intro v h' w f
          refine fld_r (cb f 4 _ rfl) ?_
          rw [r5.len, valA_some]
          refine rnum_w w (rg_nat k5) m5.1 fun v3 h3 w3 f3 => ?_
          have f3 := f.trans f3
          refine join_r (fun (J : AV → H → Prop) => ∀ v h', V h h' v (headB ++ manyB tyB m.types ++ manyB shB m.shapes ++ manyB textB m.strs ++ manyB textB m.names ++ manyB fnB m.fns) → FrB h1 h' → J v h') ?_ fun J hJ => ?_
          · intro v h' w f
            have c6 := cb f 6 _ rfl
            refine fld_r (cb f 5 _ rfl) ?_
            refine fld_r c6 ?_
            refine rnum_w w k6 m6 fun v4 h4 w4 f4 => ?_
            simp only [go_sem, reduceIte, Nat.reduceAdd, Nat.reduceSub, Nat.reduceMul, Nat.reducePow, Nat.reduceLT, Nat.reduceLeDiff, Nat.reduceEqDiff, Int.reduceAdd, Int.reduceSub, Int.reduceMul, Int.reduceNeg, Int.reducePow, Int.reduceLT, Int.reduceLE, Int.reduceEq, Int.reduceNe, Int.reduceToNat, Int.toNat_natCast, Nat.zero_add, Nat.add_zero, Nat.mul_one, Nat.one_mul, Bool.not_true, Bool.not_false, ne_eq, not_true_eq_false, not_false_eq_true, Bool.false_eq_true, cb (f.trans f4) 6 _ rfl]
            refine rnum_w w4 k7 hm fun v5 h5 w5 f5 => ?_
            exact hK v5 h5 w5
          · refine fld_r (cb f3 4 _ rfl) ?_
            rw [r5.len, valA_some]
            refine accj_r (h0 := h) (esz := 4) (ty := 39) (zs := [.nilsl, .int .i64 0, .int .i64 0, .nilsl]) (Rel := fnR) (fun r => fnR.leaves r) rfl rfl r5 k5 (Inv := fun i a h2 => V h h2 a (headB ++ manyB tyB m.types ++ manyB shB m.shapes ++ manyB textB m.strs ++ manyB textB m.names ++ numB m.fns.length ++ (m.fns.take i).flatMap fnB) ∧ FrB h1 h2) ⟨by simpa using w3, f3⟩ (fun i a h i1 => i1.1.fr) (fun i a h h' i1 f => ⟨i1.1.keep f, i1.2.trans f.frb⟩) (fun a h2 ⟨i1, i2⟩ => ?_) ?_
            · rw [List.take_length, List.append_assoc] at i1; exact hJ a h2 i1 i2
            · rintro N i x a hx en h4 d c ⟨i1, i2⟩ gd re hc hN
              have hb := part_le fnB hx m5.2
              obtain ⟨vp, vb, rfl, q1, q2⟩ := re
              obtain ⟨o1, o2, o3, o4, o5⟩ := k5' x (List.mem_of_getElem? hx)
              have cd : ∀ {h5 : H}, FrB h4 h5 → ∀ o w, ([vp, AV.int .i64 x.result, .int .i64 x.slots, vb] : List AV)[o]? = some w → h5.cell d o = some w := fun f o w e => by rw [cell_of (f d _ _ _ (by decide) gd)]; exact e
              have hN : ∀ a' h2, V h h2 a' (headB ++ manyB tyB m.types ++ manyB shB m.shapes ++ manyB textB m.strs ++ manyB textB m.names ++ numB m.fns.length ++ (m.fns.take i).flatMap fnB ++ fnB x) → FrB h1 h2 → N a' h2 := fun a' h2 z1 z2 => hN a' h2 ⟨by rw [flat_succ fnB hx, ← List.append_assoc]; exact z1, z2⟩
              generalize headB ++ manyB tyB m.types ++ manyB shB m.shapes ++ manyB textB m.strs ++ manyB textB m.names ++ numB m.fns.length ++ (m.fns.take i).flatMap fnB = L0 at *
              unfold fnB at hb hN
              simp only [← List.append_assoc] at hb hN
              have mb := le_m hb
              refine fld_r (cd (FrB.refl _) 0 _ rfl) ?_
              refine fld_r (cd (FrB.refl _) 1 _ rfl) ?_
              refine fld_r (cd (FrB.refl _) 2 _ rfl) ?_
              refine fld_r (cd (FrB.refl _) 3 _ rfl) ?_
              refine rnums_w i1 q1 (Fr.refl _ _) o1 (le_l (le_l (le_l hb))) fun v5 h5 w5 f5 => ?_
              have c1 := cd f5 1 _ rfl
              have c2 := cd f5 2 _ rfl
              have c3 := cd f5 3 _ rfl
              simp only [faA_p, valA_some, Nat.zero_add, ldA_n, c1, c2, c3, againK_t]
              refine rnum_w w5 o2 (le_l (le_l hb)) fun v6 h6 w6 f6 => ?_
              have f56 := f5.trans f6
              have c2 := cd f56 2 _ rfl
              have c3 := cd f56 3 _ rfl
              simp only [faA_p, valA_some, Nat.zero_add, ldA_n, c2, c3, againK_t]
              refine rnum_w w6 o3 (le_l hb) fun v7 h7 w7 f7 => ?_
              have f57 := f56.trans f7
              have c3 := cd f57 3 _ rfl
              simp only [faA_p, valA_some, Nat.zero_add, ldA_n, c3, againK_t]
              rw [q2.len, valA_some]
              refine rnum_w w7 (rg_nat o4) mb.1 fun v8 h8 w8 f8 => ?_
              have f58 := f57.trans f8
              have c3 := cd f58 3 _ rfl
              rw [c3, valA_some, q2.len, valA_some]
              have i28 := i2.trans f58
              refine accj_r (h0 := h) (esz := 2) (ty := 42) (zs := [.nilsl, .nilsl]) (Rel := blkR) (fun r => blkR.leaves r) rfl rfl q2 o4 (Inv := fun i a h2 => V h h2 a (L0 ++ numsB x.params ++ numB x.result ++ numB x.slots ++ numB x.blocks.length ++ (x.blocks.take i).flatMap blkB) ∧ FrB h1 h2) ⟨by simpa using w8, i28⟩ (fun i a h i1 => i1.1.fr) (fun i a h h' i1 f => ⟨i1.1.keep f, i1.2.trans f.frb⟩) (fun a h2 ⟨i1, i2⟩ => ?_) ?_
              · rw [List.take_length, List.append_assoc] at i1; exact hN a h2 i1 i2
              · rintro N i y a hy en h4 d c ⟨i1, i2⟩ gd re hc hN
                have hb := part_le blkB hy mb.2
                obtain ⟨vi, vc, rfl, p1, p2⟩ := re
                obtain ⟨u1, u2, u3⟩ := o5 y (List.mem_of_getElem? hy)
                have cd : ∀ {h5 : H}, FrB h4 h5 → ∀ o w, ([vi, vc] : List AV)[o]? = some w → h5.cell d o = some w := fun f o w e => by rw [cell_of (f d _ _ _ (by decide) gd)]; exact e
                have hN : ∀ a' h2, V h h2 a' (L0 ++ numsB x.params ++ numB x.result ++ numB x.slots ++ numB x.blocks.length ++ (x.blocks.take i).flatMap blkB ++ blkB y) → FrB h1 h2 → N a' h2 := fun a' h2 z1 z2 => hN a' h2 ⟨by rw [flat_succ blkB hy, ← List.append_assoc]; exact z1, z2⟩
                generalize L0 ++ numsB x.params ++ numB x.result ++ numB x.slots ++ numB x.blocks.length ++ (x.blocks.take i).flatMap blkB = L1 at *
                unfold blkB at hb hN
                simp only [← List.append_assoc] at hb hN
                have mc := le_m hb
                refine fld_r (cd (FrB.refl _) 0 _ rfl) ?_
                refine fld_r (cd (FrB.refl _) 1 _ rfl) ?_
                refine rnums_w i1 p1 (Fr.refl _ _) u1 (le_l hb) fun v5 h5 w5 f5 => ?_
                have c1 := cd f5 1 _ rfl
                simp only [faA_p, valA_some, Nat.zero_add, ldA_n, c1, againK_t]
                rw [p2.len, valA_some]
                refine rnum_w w5 (rg_nat u2) mc.1 fun v6 h6 w6 f6 => ?_
                have f56 := f5.trans f6
                rw [cd f56 1 _ rfl, valA_some, p2.len, valA_some]
                have i26 := i2.trans f56
                refine acc_r (h0 := h) (esz := 9) (ty := 55) (zs := [.int .i64 0, .int .i64 0, .int .i64 0, .int .i64 0, .int .i64 0, .int .i64 0, .nilsl, .nilsl, .nilsl]) (Rel := insR) (fun r => insR.leaves r) rfl rfl p2 u2 (Inv := fun i a h2 => V h h2 a (L1 ++ numsB y.inn ++ numB y.code.length ++ (y.code.take i).flatMap insB) ∧ FrB h1 h2) ⟨by simpa using w6, i26⟩ (fun i a h i1 => i1.1.fr) (fun i a h h' i1 f => ⟨i1.1.keep f, i1.2.trans f.frb⟩) (fun a h2 ⟨i1, i2⟩ => ?_) ?_
                · rw [List.take_length, List.append_assoc] at i1; exact hN a h2 i1 i2
                · rintro N i z a hz en h4 d c ⟨i1, i2⟩ gd re hc hN
                  have hb := part_le insB hz mc.2
                  rw [ldA_read (H.read_eq gd (by omega) (by rw [List.drop_zero, List.take_of_length_le (by omega)])), valA_some]
                  refine rinstr_w i1 re (Fr.refl _ _) (u3 z (List.mem_of_getElem? hz)) hb fun v5 h5 w5 f5 => ?_
                  rw [b_add, en, valA_some]
                  exact hN v5 h5 ⟨by rw [flat_succ insB hz, ← List.append_assoc]; exact w5, i2.trans f5⟩
        · refine fld_r (cb f3 3 _ rfl) ?_
          rw [r4.len, valA_some]
          refine acc1_r (h0 := h) (strs_row r4) k4 (Inv := fun i a h2 => V h h2 a (headB ++ manyB tyB m.types ++ manyB shB m.shapes ++ manyB textB m.strs ++ numB m.names.length ++ (m.names.take i).flatMap textB) ∧ FrB h1 h2) ⟨by simpa using w3, f3⟩ (fun i a h i1 => i1.1.fr) (fun a h2 ⟨i1, i2⟩ => ?_) ?_
          · rw [List.take_length, List.append_assoc] at i1; exact hJ a h2 i1 i2
          · rintro N i x a hx en h4 ⟨i1, i2⟩ hN
            have hb := part_le textB hx m4.2
            refine rtext_w i1 (k4' x (List.mem_of_getElem? hx)) hb fun v5 h5 w5 f5 => ?_
            rw [b_add, en, valA_some]
            exact hN v5 h5 ⟨by rw [flat_succ textB hx, ← List.append_assoc]; exact w5, i2.trans f5⟩
      · refine fld_r (cb f3 2 _ rfl) ?_
        rw [r3.len, valA_some]
        refine acc1_r (h0 := h) (strs_row r3) k3 (Inv := fun i a h2 => V h h2 a (headB ++ manyB tyB m.types ++ manyB shB m.shapes ++ numB m.strs.length ++ (m.strs.take i).flatMap textB) ∧ FrB h1 h2) ⟨by simpa using w3, f3⟩ (fun i a h i1 => i1.1.fr) (fun a h2 ⟨i1, i2⟩ => ?_) ?_
        · rw [List.take_length, List.append_assoc] at i1; exact hJ a h2 i1 i2
        · rintro N i x a hx en h4 ⟨i1, i2⟩ hN
          have hb := part_le textB hx m3.2
          refine rtext_w i1 (k3' x (List.mem_of_getElem? hx)) hb fun v5 h5 w5 f5 => ?_
          rw [b_add, en, valA_some]
          exact hN v5 h5 ⟨by rw [flat_succ textB hx, ← List.append_assoc]; exact w5, i2.trans f5⟩
    · refine fld_r (cb f3 1 _ rfl) ?_
      rw [r2.len, valA_some]
      refine acc_r (h0 := h) (esz := 3) (ty := 61) (zs := [.int .i64 0, .nilsl, .str []]) (Rel := shR) (fun r => shR.leaves r) rfl rfl r2 k2 (Inv := fun i a h2 => V h h2 a (headB ++ manyB tyB m.types ++ numB m.shapes.length ++ (m.shapes.take i).flatMap shB) ∧ FrB h1 h2) ⟨by simpa using w3, f3⟩ (fun i a h i1 => i1.1.fr) (fun i a h h' i1 f => ⟨i1.1.keep f, i1.2.trans f.frb⟩) (fun a h2 ⟨i1, i2⟩ => ?_) ?_
      · rw [List.take_length, List.append_assoc] at i1; exact hJ a h2 i1 i2
      · rintro N i x a hx en h4 d c ⟨i1, i2⟩ gd re hc hN
        have hb := part_le shB hx m2.2
        obtain ⟨v, rfl, rr⟩ := re
        obtain ⟨o1, o2, o3⟩ := k2' x (List.mem_of_getElem? hx)
        have cd : ∀ {h5 : H}, FrB h4 h5 → ∀ o w, ([AV.int .i64 x.kind, v, .str x.name] : List AV)[o]? = some w → h5.cell d o = some w := fun f o w e => by rw [cell_of (f d _ _ _ (by decide) gd)]; exact e
        unfold shB at hb
        simp only [← List.append_assoc] at hb
        refine fld_r (cd (FrB.refl _) 0 _ rfl) ?_
        refine fld_r (cd (FrB.refl _) 1 _ rfl) ?_
        refine fld_r (cd (FrB.refl _) 2 _ rfl) ?_
        refine rnum_w i1 o1 (le_l (le_l hb)) fun v5 h5 w5 f5 => ?_
        simp only [go_sem, reduceIte, Nat.reduceAdd, Nat.reduceSub, Nat.reduceMul, Nat.reducePow, Nat.reduceLT, Nat.reduceLeDiff, Nat.reduceEqDiff, Int.reduceAdd, Int.reduceSub, Int.reduceMul, Int.reduceNeg, Int.reducePow, Int.reduceLT, Int.reduceLE, Int.reduceEq, Int.reduceNe, Int.reduceToNat, Int.toNat_natCast, Nat.zero_add, Nat.add_zero, Nat.mul_one, Nat.one_mul, Bool.not_true, Bool.not_false, ne_eq, not_true_eq_false, not_false_eq_true, Bool.false_eq_true, cd f5 1 _ rfl, cd f5 2 _ rfl]
        refine rnums_w w5 rr (Fr.refl _ _) o2 (le_l hb) fun v6 h6 w6 f6 => ?_
        simp only [go_sem, reduceIte, Nat.reduceAdd, Nat.reduceSub, Nat.reduceMul, Nat.reducePow, Nat.reduceLT, Nat.reduceLeDiff, Nat.reduceEqDiff, Int.reduceAdd, Int.reduceSub, Int.reduceMul, Int.reduceNeg, Int.reducePow, Int.reduceLT, Int.reduceLE, Int.reduceEq, Int.reduceNe, Int.reduceToNat, Int.toNat_natCast, Nat.zero_add, Nat.add_zero, Nat.mul_one, Nat.one_mul, Bool.not_true, Bool.not_false, ne_eq, not_true_eq_false, not_false_eq_true, Bool.false_eq_true, cd (f5.trans f6) 2 _ rfl]
        refine rtext_w w6 o3 hb fun v7 h7 w7 f7 => ?_
        simp only [go_sem, reduceIte, Nat.reduceAdd, Nat.reduceSub, Nat.reduceMul, Nat.reducePow, Nat.reduceLT, Nat.reduceLeDiff, Nat.reduceEqDiff, Int.reduceAdd, Int.reduceSub, Int.reduceMul, Int.reduceNeg, Int.reducePow, Int.reduceLT, Int.reduceLE, Int.reduceEq, Int.reduceNe, Int.reduceToNat, Int.toNat_natCast, Nat.zero_add, Nat.add_zero, Nat.mul_one, Nat.one_mul, Bool.not_true, Bool.not_false, ne_eq, not_true_eq_false, not_false_eq_true, Bool.false_eq_true, en]
        refine hN v7 h7 ⟨?_, ((i2.trans f5).trans f6).trans f7⟩
        rw [flat_succ shB hx, show shB x = numB x.kind ++ numsB x.fs ++ textB x.name from rfl]; simp only [List.append_assoc] at w7 ⊢; exact w7
  · refine fld_r (cb f3 0 _ rfl) ?_
    rw [r1.len, valA_some]
    refine acc_r (h0 := h) (esz := 2) (ty := 46) (zs := [.bool false, .nilsl]) (Rel := tyR) (fun r => tyR.leaves r) rfl rfl r1 k1 (Inv := fun i a h2 => V h h2 a (headB ++ numB m.types.length ++ (m.types.take i).flatMap tyB) ∧ FrB h1 h2) ⟨by simpa using w3, f3⟩ (fun i a h i1 => i1.1.fr) (fun i a h h' i1 f => ⟨i1.1.keep f, i1.2.trans f.frb⟩) (fun a h2 ⟨i1, i2⟩ => ?_) ?_
    · rw [List.take_length, List.append_assoc] at i1; exact hJ a h2 i1 i2
    · rintro N i x a hx en h4 d c ⟨i1, i2⟩ gd re hc hN
      have hb := part_le tyB hx m1.2
      obtain ⟨v, rfl, rr⟩ := re
      have cd : ∀ {h5 : H}, FrB h4 h5 → ∀ o w, ([AV.bool x.imm, v] : List AV)[o]? = some w → h5.cell d o = some w := fun f o w e => by rw [cell_of (f d _ _ _ (by decide) gd)]; exact e
      have c0 := cd (FrB.refl _) 0 _ rfl
      have c1 := cd (FrB.refl _) 1 _ rfl
      unfold tyB at hb
      rw [← List.append_assoc] at hb
      have st : ∀ n : Int, n = (if x.imm then 1 else 0) → valA (faA 1 (.ptr d 0)) h4 fun t37 h => valA (ldA h none t37) h fun t38 h => C 92 [a, .int .i64 n] h fun t36 h => againK (valA (ldA h none t37) h (fun v _ => v = t38)) <| C 93 [t36, t38] h fun t39 h => valA (binOp .add .num (.int .i64 i) (.int .i64 1)) h fun t40 h => N [t39, t40] h := by
        rintro n rfl
        simp only [go_sem, reduceIte, Nat.reduceAdd, Nat.reduceSub, Nat.reduceMul, Nat.reducePow, Nat.reduceLT, Nat.reduceLeDiff, Nat.reduceEqDiff, Int.reduceAdd, Int.reduceSub, Int.reduceMul, Int.reduceNeg, Int.reducePow, Int.reduceLT, Int.reduceLE, Int.reduceEq, Int.reduceNe, Int.reduceToNat, Int.toNat_natCast, Nat.zero_add, Nat.add_zero, Nat.mul_one, Nat.one_mul, Bool.not_true, Bool.not_false, ne_eq, not_true_eq_false, not_false_eq_true, Bool.false_eq_true, c1]
        refine rnum_w i1 (by unfold rg; split <;> omega) (le_l hb) fun v5 h5 w5 f5 => ?_
        simp only [go_sem, reduceIte, Nat.reduceAdd, Nat.reduceSub, Nat.reduceMul, Nat.reducePow, Nat.reduceLT, Nat.reduceLeDiff, Nat.reduceEqDiff, Int.reduceAdd, Int.reduceSub, Int.reduceMul, Int.reduceNeg, Int.reducePow, Int.reduceLT, Int.reduceLE, Int.reduceEq, Int.reduceNe, Int.reduceToNat, Int.toNat_natCast, Nat.zero_add, Nat.add_zero, Nat.mul_one, Nat.one_mul, Bool.not_true, Bool.not_false, ne_eq, not_true_eq_false, not_false_eq_true, Bool.false_eq_true, cd f5 1 _ rfl]
        refine rnums_w w5 rr (Fr.refl _ _) (k1' x (List.mem_of_getElem? hx)) hb fun v6 h6 w6 f6 => ?_
        simp only [go_sem, reduceIte, Nat.reduceAdd, Nat.reduceSub, Nat.reduceMul, Nat.reducePow, Nat.reduceLT, Nat.reduceLeDiff, Nat.reduceEqDiff, Int.reduceAdd, Int.reduceSub, Int.reduceMul, Int.reduceNeg, Int.reducePow, Int.reduceLT, Int.reduceLE, Int.reduceEq, Int.reduceNe, Int.reduceToNat, Int.toNat_natCast, Nat.zero_add, Nat.add_zero, Nat.mul_one, Nat.one_mul, Bool.not_true, Bool.not_false, ne_eq, not_true_eq_false, not_false_eq_true, Bool.false_eq_true, en]
        refine hN v6 h6 ⟨?_, (i2.trans f5).trans f6⟩
        rw [flat_succ tyB hx, show tyB x = numB (if x.imm then 1 else 0) ++ numsB x.sh from rfl]; simp only [List.append_assoc] at w6 ⊢; exact w6
      cases hi : x.imm with
      | true => rw [hi] at c0; simp only [joinA, faA_p, valA_some, ldA_n, Nat.zero_add, c0, condA_t]; exact st 1 (by rw [hi]; rfl)
      | false => rw [hi] at c0; simp only [joinA, faA_p, valA_some, ldA_n, Nat.zero_add, c0, condA_f]; exact st 0 (by rw [hi]; rfl)
end
end Go.Proofs.YtdljelicbnjfjaaGreat.X
set_option linter.unusedVariables false
set_option linter.unusedSimpArgs false
set_option maxRecDepth 20000
namespace Go.Proofs.YtdljelicbnjfjaaGreat.X
open Go Go.RowKit
def sumN {α : Type} (w : α → Nat) (l : List α) : Nat := (l.map w).sum
theorem sum_succ {α : Type} (w : α → Nat) {l : List α} {i : Nat} {x : α} (h : l[i]? = some x) : sumN w (l.take (i + 1)) = sumN w (l.take i) + w x := by
  unfold sumN
  rw [List.take_add_one, h, List.map_append, List.sum_append]; simp
section
variable {h : H}
def Cnt {α : Type} (h0 : H) (n0 : Int) (w : α → Nat) (l : List α) (i : Nat) (a : AV) (h : H) : Prop := ∃ n : Int, a = .int .i64 n ∧ n = n0 - (sumN w (l.take i) : Nat) ∧ -4503599627370496 ≤ n ∧ n0 ≤ 40000 ∧ Fr [] h0 h
theorem Cnt.zero {α : Type} {h0 : H} {n0 : Int} {w : α → Nat} {l : List α} (h1 : -4503599627370496 ≤ n0) (h2 : n0 ≤ 40000) (f : Fr [] h0 h) : Cnt h0 n0 w l 0 (.int .i64 n0) h := ⟨n0, rfl, by simp [sumN], h1, h2, f⟩
theorem Cnt.fin {α : Type} {h0 : H} {n0 : Int} {w : α → Nat} {l : List α} {a : AV} (c : Cnt h0 n0 w l l.length a h) : ∃ n : Int, a = .int .i64 n ∧ n = n0 - (sumN w l : Nat) ∧ -4503599627370496 ≤ n ∧ n ≤ 40000 ∧ Fr [] h0 h := by
  obtain ⟨n, h1, h2, h3, h4, h5⟩ := c
  rw [List.take_length] at h2
  exact ⟨n, h1, h2, h3, by omega, h5⟩
theorem Cnt.succ {α : Type} {h0 : H} {n0 : Int} {w : α → Nat} {l : List α} {i : Nat} {x : α} (hx : l[i]? = some x) {n : Int} (hn : n = n0 - (sumN w (l.take i) : Nat)) {n' : Int} (hn' : n' = n - (w x : Nat)) (h1 : -4503599627370496 ≤ n') (h2 : n0 ≤ 40000) (f : Fr [] h0 h) : Cnt h0 n0 w l (i + 1) (.int .i64 n') h :=
  ⟨n', rfl, by rw [sum_succ w hx]; omega, h1, h2, f⟩
theorem Cnt.keep {α : Type} {h0 h' : H} {n0 : Int} {w : α → Nat} {l : List α} {i : Nat} {a : AV} (c : Cnt h0 n0 w l i a h) (f : Fr [] h h') : Cnt h0 n0 w l i a h' := by
  obtain ⟨n, h1, h2, h3, h4, h5⟩ := c
  exact ⟨n, h1, h2, h3, h4, h5.trans f⟩
theorem Cnt.fr {α : Type} {h0 : H} {n0 : Int} {w : α → Nat} {l : List α} {i : Nat} {a : AV} (c : Cnt h0 n0 w l i a h) : Fr [] h0 h := by
  obtain ⟨n, h1, h2, h3, h4, h5⟩ := c; exact h5
end
end Go.Proofs.YtdljelicbnjfjaaGreat.X
