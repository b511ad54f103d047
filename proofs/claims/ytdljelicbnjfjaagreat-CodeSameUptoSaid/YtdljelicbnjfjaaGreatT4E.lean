/- What the law law4 needs: texts of one's own, put together; functions' contracts and plain facts. -/
import Derived.Test.YtdljelicbnjfjaaGreatT4D
set_option linter.unusedVariables false
set_option linter.unusedSimpArgs false
set_option maxRecDepth 20000
namespace Go.Proofs.YtdljelicbnjfjaaGreat.X
open Go Go.RowKit
/-! ### What is written is read -/
/-- Such bytes are read as x, wherever they stand. -/
def Fw {α : Type} (B : List Nat) (dec : RS → α × RS) (x : α) (bs : List Nat) : Prop := ∀ pre post, B = pre ++ (bs ++ post) → dec ⟨pre.length, false⟩ = (x, ⟨(pre ++ bs).length, false⟩)
theorem putL_pos (x : Nat) : 0 < (putL x).length := by rw [putL]; split <;> simp
theorem numB_pos (n : Int) : 0 < (numB n).length := putL_pos _
variable {B : List Nat}
theorem drop_pre {pre l : List Nat} (h : B = pre ++ l) : B.drop pre.length = l := by rw [h, List.drop_left]
theorem num_fw {n : Int} (hn : rg n) {pre post : List Nat} (h : B = pre ++ (numB n ++ post)) (b : Bool) : longR B ⟨pre.length, b⟩ = (n, ⟨(pre ++ numB n).length, b⟩) := by
  have hz := zig_lt hn.1 hn.2
  have hp := numB_pos n
  have hd : decS B (pre.length : Nat) = (n, ((pre.length : Nat) : Int) + ((numB n).length : Nat), true) := by
    have := decS_good (L := B) (a := (pre.length : Nat)) (t := putL (zig n)) (by omega) (by rw [h]; simp only [List.length_append]; omega)
      (by rw [Int.toNat_natCast, drop_pre h]; exact cut_putL _ _ 10 (putL_len64 hz)) ⟨by rw [val_putL], by rw [val_putL]; exact hz⟩
    rw [this, val_putL, unz_zig]; rfl
  unfold longR
  rw [hd]
  simp only [List.length_append]
  congr 1
theorem long_fw {n : Int} (hn : rg n) : Fw B (longR B) n (numB n) := fun _ _ h => num_fw hn h false
theorem rg_nat {k : Nat} (h : k ≤ reachBytes) : rg (k : Nat) := by
  have : reachBytes ≤ 9223372036854775807 := by decide
  unfold rg; omega
theorem count_fw {k : Nat} (hk : k ≤ reachBytes) {pre post : List Nat} (h : B = pre ++ (numB k ++ post)) (hp : k ≤ post.length) : countR B ⟨pre.length, false⟩ = (k, ⟨(pre ++ numB k).length, false⟩) := by
  unfold countR
  rw [num_fw (rg_nat hk) h false]
  have hb : countBad B (((k : Nat) : Int), ⟨(pre ++ numB k).length, false⟩) = false := by
    unfold countBad
    have : B.length = (pre ++ numB k).length + post.length := by rw [h]; simp only [List.length_append]; omega
    simp only [Bool.false_or, Bool.or_eq_false_iff, decide_eq_false_iff_not]
    omega
  simp only [hb]
  rfl
theorem nat_u8 (s : List UInt8) : (s.map (·.toNat)).map UInt8.ofNat = s := by
  rw [List.map_map]
  conv => rhs; rw [← List.map_id s]
  apply List.map_congr_left
  intro c _
  simp
theorem text_fw {s : List UInt8} (hs : s.length ≤ reachBytes) : Fw B (textR B) s (textB s) := by
  intro pre post h
  unfold textB at h
  rw [List.append_assoc] at h
  unfold textR
  rw [count_fw hs h (by simp)]
  simp only
  rw [drop_pre (pre := pre ++ numB s.length) (l := s.map (·.toNat) ++ post) (by rw [h, List.append_assoc])]
  have : (s.map (·.toNat) ++ post).take s.length = s.map (·.toNat) := by
    rw [List.take_append, List.take_of_length_le (by simp)]; simp
  rw [this, nat_u8]
  simp only [textB, List.length_append, List.length_map, Nat.add_assoc]
section
variable {α : Type} {enc : α → List Nat} {dec : RS → α × RS}
theorem steps_fw : ∀ (l acc : List α), (∀ x ∈ l, Fw B dec x (enc x)) → ∀ pre post, B = pre ++ (l.flatMap enc ++ post) → stepsR dec l.length ⟨pre.length, false⟩ acc = (acc ++ l, ⟨(pre ++ l.flatMap enc).length, false⟩)
  | [], acc, _, pre, post, _ => by simp [stepsR]
  | x :: l, acc, hd, pre, post, h => by
    rw [List.flatMap_cons, List.append_assoc] at h
    rw [List.length_cons, stepsR, if_neg (by simp), hd x (by simp) pre _ h]
    have := steps_fw l (acc ++ [x]) (fun y hy => hd y (by simp [hy])) (pre ++ enc x) post (by rw [h, List.append_assoc])
    simp only
    rw [this]
    simp
theorem flat_len_ge {l : List α} (h : ∀ x ∈ l, 0 < (enc x).length) : l.length ≤ (l.flatMap enc).length := by
  induction l with
  | nil => simp
  | cons x l ih =>
    have h1 := h x (by simp)
    have h2 := ih fun y hy => h y (by simp [hy])
    rw [List.flatMap_cons, List.length_append, List.length_cons]; omega
theorem some_fw {l : List α} (hl : l.length ≤ reachBytes) (hp : ∀ x ∈ l, 0 < (enc x).length) (hd : ∀ x ∈ l, Fw B dec x (enc x)) : Fw B (someR B dec) l (manyB enc l) := by
  intro pre post h
  unfold manyB at h
  rw [List.append_assoc] at h
  unfold someR
  have := flat_len_ge hp
  rw [count_fw hl h (by simp only [List.length_append]; omega)]
  simp only
  rw [steps_fw l [] hd (pre ++ numB l.length) post (by rw [h, List.append_assoc])]
  simp [manyB]
end
theorem nums_fw {l : List Int} (h : rgs l) : Fw B (numsR B) l (numsB l) := some_fw h.1 (fun x _ => numB_pos x) fun x hx => long_fw (h.2 x hx)
theorem ty_fw {t : Ty} (h : t.ok) : Fw B (kindR B) t (tyB t) := by
  intro pre post e
  unfold tyB at e
  rw [List.append_assoc] at e
  have hn : rg (if t.imm then 1 else 0) := by unfold rg; split <;> omega
  unfold kindR
  rw [num_fw hn e false]
  have hb : ((false || decide ((if t.imm then (1 : Int) else 0) < 0)) || decide ((1 : Int) < (if t.imm then (1 : Int) else 0))) = false := by cases t.imm <;> decide
  simp only [hb]
  rw [nums_fw h (pre ++ numB (if t.imm then 1 else 0)) post (by rw [e, List.append_assoc])]
  obtain ⟨imm, sh⟩ := t
  cases imm <;> simp [tyB]
theorem shp_fw {s : Shp} (h : s.ok) : Fw B (shapeR B) s (shB s) := by
  intro pre post e
  unfold shB at e
  simp only [List.append_assoc] at e
  unfold shapeR
  rw [num_fw h.1 e false]
  simp only
  rw [← List.append_assoc] at e
  rw [nums_fw h.2.1 _ _ e]
  simp only
  rw [← List.append_assoc] at e
  rw [text_fw h.2.2 _ _ e]
  simp [shB]
/-- A field is put over. -/
def setF (x y : Ins) (c : UInt8) : Ins :=
  if c = 78 then { y with n := x.n } else if c = 68 then { y with d := x.d } else if c = 65 then { y with a := x.a } else if c = 66 then { y with b := x.b } else if c = 67 then { y with c := x.c } else
  if c = 76 then { y with l := x.l } else if c = 77 then { y with m := x.m } else { y with live := x.live }
theorem fld_fw {x : Ins} (ok : x.ok) (y : Ins) (c : UInt8) {pre post : List Nat} (e : B = pre ++ (fldB x c ++ post)) : fldR B (y, ⟨pre.length, false⟩) c = (setF x y c, ⟨(pre ++ fldB x c).length, false⟩) := by
  obtain ⟨⟨o1, o2, o3, o4, o5, o6⟩, o7, o8, o9⟩ := ok
  unfold fldB at e ⊢
  unfold fldR setF
  by_cases c0 : c = 78
  · simp only [c0, if_true] at e ⊢; rw [long_fw o6 _ _ e]
  by_cases c1 : c = 68
  · simp only [c0, c1, if_true, if_false] at e ⊢; rw [long_fw o2 _ _ e]; simp
  by_cases c2 : c = 65
  · simp only [c0, c1, c2, if_true, if_false] at e ⊢; rw [long_fw o3 _ _ e]; simp
  by_cases c3 : c = 66
  · simp only [c0, c1, c2, c3, if_true, if_false] at e ⊢; rw [long_fw o4 _ _ e]; simp
  by_cases c4 : c = 67
  · simp only [c0, c1, c2, c3, c4, if_true, if_false] at e ⊢; rw [long_fw o5 _ _ e]; simp
  by_cases c5 : c = 76
  · simp only [c0, c1, c2, c3, c4, c5, if_true, if_false] at e ⊢; rw [nums_fw o7 _ _ e]; simp
  by_cases c6 : c = 77
  · simp only [c0, c1, c2, c3, c4, c5, c6, if_true, if_false] at e ⊢; rw [nums_fw o8 _ _ e]; simp
  simp only [c0, c1, c2, c3, c4, c5, c6, if_true, if_false] at e ⊢; rw [nums_fw o9 _ _ e]
theorem flds_fw {x : Ins} (ok : x.ok) : ∀ (u : List UInt8) (y : Ins) (pre post : List Nat), B = pre ++ (u.flatMap (fldB x) ++ post) → u.foldl (fldR B) (y, ⟨pre.length, false⟩) = (u.foldl (setF x) y, ⟨(pre ++ u.flatMap (fldB x)).length, false⟩)
  | [], y, pre, post, _ => by simp
  | c :: u, y, pre, post, e => by
    rw [List.flatMap_cons, List.append_assoc] at e
    rw [List.foldl_cons, List.foldl_cons, fld_fw ok y c e, flds_fw ok u _ _ post (by rw [e, List.append_assoc])]
    simp
theorem set_plain {x : Ins} (h : plainN x = true) : (usesN x.op).foldl (setF x) (insZ x.op) = x ∧ usesN x.op ≠ [] := by
  obtain ⟨op, d, a, b, c, n, l, m, live⟩ := x
  unfold plainN at h
  simp only at h
  rcases op_cases op with q | q
  · rcases q with rfl | rfl | rfl | rfl | rfl | rfl | rfl | rfl | rfl | rfl | rfl | rfl | rfl | rfl | rfl | rfl | rfl | rfl | rfl | rfl | rfl | rfl | rfl | rfl <;>
      simp [usesN, usesL, hasL] at h <;> simp [usesN, usesL, setF, insZ, h]
  · rw [usesN_out q] at h; simp at h
theorem ins_fw {x : Ins} (ok : x.ok) (hp : plainN x = true) : Fw B (instrR B) x (insB x) := by
  intro pre post e
  unfold insB at e
  rw [List.append_assoc] at e
  obtain ⟨h1, h2⟩ := set_plain hp
  unfold instrR
  rw [num_fw ok.1.1 e false]
  simp only [h2, decide_false, Bool.or_false]
  rw [flds_fw ok _ _ _ post (by rw [e, List.append_assoc]), h1]
  simp [insB]
theorem nums_pos (l : List Int) : 0 < (numsB l).length := by unfold numsB manyB; have := numB_pos l.length; simp only [List.length_append]; omega
theorem ins_pos (x : Ins) : 0 < (insB x).length := by unfold insB; have := numB_pos x.op; simp only [List.length_append]; omega
theorem blk_pos (x : Blk) : 0 < (blkB x).length := by unfold blkB; have := nums_pos x.inn; simp only [List.length_append]; omega
theorem fn_pos (x : Fn) : 0 < (fnB x).length := by unfold fnB; have := nums_pos x.params; simp only [List.length_append]; omega
theorem ty_pos (x : Ty) : 0 < (tyB x).length := by unfold tyB; have := nums_pos x.sh; simp only [List.length_append]; omega
theorem shp_pos (x : Shp) : 0 < (shB x).length := by unfold shB; have := nums_pos x.fs; simp only [List.length_append]; omega
theorem text_pos (x : List UInt8) : 0 < (textB x).length := by unfold textB; have := numB_pos x.length; simp only [List.length_append]; omega
theorem blk_fw {b : Blk} (ok : b.ok) (hp : ∀ x ∈ b.code, plainN x = true) : Fw B (blockR B) b (blkB b) := by
  intro pre post e
  unfold blkB at e
  rw [List.append_assoc] at e
  unfold blockR
  rw [nums_fw ok.1 _ _ e]
  rw [← List.append_assoc] at e
  simp only
  rw [some_fw ok.2.1 (fun x _ => ins_pos x) (fun x hx => ins_fw (ok.2.2 x hx) (hp x hx)) _ _ e]
  simp [blkB]
theorem fn_fw {f : Fn} (ok : f.ok) (hp : ∀ b ∈ f.blocks, ∀ x ∈ b.code, plainN x = true) : Fw B (functionR B) f (fnB f) := by
  intro pre post e
  obtain ⟨o1, o2, o3, o4, o5⟩ := ok
  unfold fnB at e
  simp only [List.append_assoc] at e
  unfold functionR
  rw [nums_fw o1 _ _ e]
  rw [← List.append_assoc] at e
  simp only
  rw [num_fw o2 e false]
  rw [← List.append_assoc] at e
  simp only
  rw [num_fw o3 e false]
  rw [← List.append_assoc] at e
  simp only
  rw [some_fw o4 (fun x _ => blk_pos x) (fun x hx => blk_fw (o5 x hx) (hp x hx)) _ _ e]
  simp [fnB]
theorem check_plain {m : Img} (h : checkN m = 0) : ∀ f ∈ m.fns, ∀ b ∈ f.blocks, ∀ x ∈ b.code, plainN x = true := by
  intro f hf b hb x hx
  unfold checkN at h
  split at h
  · omega
  · split at h
    · omega
    · rename_i q
      cases hp : plainN x with
      | true => rfl
      | false => exact absurd (List.any_eq_true.2 ⟨f, hf, List.any_eq_true.2 ⟨b, hb, List.any_eq_true.2 ⟨x, hx, by unfold notPlain; rw [hp]; rfl⟩⟩⟩) q
theorem image_fw {m : Img} (ok : m.ok) (hc : checkN m = 0) {post : List Nat} (e : B = bytesI m ++ post) : imageR B = (m, ⟨(bytesI m).length, false⟩) := by
  have hp := check_plain hc
  obtain ⟨o1, o2, o3, o4, o5, o6, o7⟩ := ok
  unfold bytesI at e
  simp only [List.append_assoc] at e
  unfold imageR
  rw [show (⟨4, false⟩ : RS) = ⟨headB.length, false⟩ from rfl, some_fw o1.1 (fun x _ => ty_pos x) (fun x hx => ty_fw (o1.2 x hx)) _ _ e]
  rw [← List.append_assoc] at e
  simp only
  rw [some_fw o2.1 (fun x _ => shp_pos x) (fun x hx => shp_fw (o2.2 x hx)) _ _ e]
  rw [← List.append_assoc] at e
  simp only
  rw [some_fw o3.1 (fun x _ => text_pos x) (fun x hx => text_fw (o3.2 x hx)) _ _ e]
  rw [← List.append_assoc] at e
  simp only
  rw [some_fw o4.1 (fun x _ => text_pos x) (fun x hx => text_fw (o4.2 x hx)) _ _ e]
  rw [← List.append_assoc] at e
  simp only
  rw [some_fw o5.1 (fun x _ => fn_pos x) (fun x hx => fn_fw (o5.2 x hx) (hp x hx)) _ _ e]
  rw [← List.append_assoc] at e
  simp only
  rw [num_fw o6 e false]
  rw [← List.append_assoc] at e
  simp only
  rw [num_fw o7 e false]
  simp only [bytesI, List.append_assoc]
theorem head_ok {l : List Nat} (h : B = headB ++ l) : noHead B = false := by
  subst h
  unfold noHead
  simp [headB]
  exact decide_eq_false (by omega)
theorem decode_fw {m : Img} (ok : m.ok) (hc : checkN m = 0) : decodeN (bytesI m) = (m, 0) := by
  unfold decodeN
  rw [head_ok (by unfold bytesI; simp only [List.append_assoc]; rfl), image_fw ok hc (by rw [List.append_nil])]
  simp [badEnd, hc]
end Go.Proofs.YtdljelicbnjfjaaGreat.X
set_option linter.unusedVariables false
set_option linter.unusedSimpArgs false
set_option maxRecDepth 20000
namespace Go.Proofs.YtdljelicbnjfjaaGreat.X
open Go Go.RowKit
def shI : Sh := .st [.int .i64, .int .i64, .int .i64, .int .i64, .int .i64, .int .i64, .sl (.int .i64), .sl (.int .i64), .sl (.int .i64)]
def shBl : Sh := .st [.sl (.int .i64), .sl shI]
def shF : Sh := .st [.sl (.int .i64), .int .i64, .int .i64, .sl shBl]
def shS : Sh := .st [.int .i64, .sl (.int .i64), .str]
def shT : Sh := .st [.bool, .sl (.int .i64)]
def shM : Sh := .st [.sl shT, .sl shS, .sl .str, .sl .str, .sl shF, .int .i64, .int .i64]
section
variable {h : H} {l : List AV}
theorem liesL_nil (hl : LiesL h [] l) : l = [] := by simpa only [LiesL] using hl
theorem liesL_cons {s : Sh} {ss : List Sh} (hl : LiesL h (s :: ss) l) : ∃ l1 l2, l = l1 ++ l2 ∧ Lies h s l1 ∧ LiesL h ss l2 := by simpa only [LiesL] using hl
theorem lies_num (hl : Lies h (.int .i64) l) : ∃ n, l = [.int .i64 n] ∧ rg n := by
  obtain ⟨n, rfl, q, q'⟩ := lies_i64 hl
  exact ⟨n, rfl, by unfold rg; omega⟩
theorem lies_nums (hl : Lies h (.sl (.int .i64)) l) : ∃ v L, l = [v] ∧ Row h v L.length 1 (ic L) ∧ rgs L := by
  obtain ⟨v, L, q1, q2, q3, q4⟩ := lies_ints hl
  exact ⟨v, L, q1, q2, q4, q3⟩
theorem lies_text (hl : Lies h .str l) : ∃ s : List UInt8, l = [.str s] ∧ s.length ≤ reachBytes := by simpa only [Lies] using hl
theorem lies_rows {α : Type} {s : Sh} {esz : Nat} {Rel : α → List AV → Prop} {P : α → Prop} (hE : ∀ c, Lies h s c → ∃ x, Rel x c ∧ P x ∧ c.length = esz) (hl : Lies h (.sl s) l) :
    ∃ v xs, l = [v] ∧ RowOf h esz Rel v xs ∧ xs.length ≤ reachBytes ∧ ∀ x ∈ xs, P x := by
  simp only [Lies] at hl
  rcases hl with rfl | ⟨b, ei, css, rfl, hb, hm, hcs⟩
  · exact ⟨.nilsl, [], rfl, RowOf.nil _ _ _, by simp, by simp⟩
  · obtain ⟨xs, h1, h2, h3, h4⟩ : ∃ xs : List α, css.length = xs.length ∧ (∀ (i : Nat) (x : α) (c : List AV), xs[i]? = some x → css[i]? = some c → Rel x c) ∧ (∀ c ∈ css, c.length = esz) ∧ ∀ x ∈ xs, P x := by
      clear hb hm
      induction css with
      | nil => exact ⟨[], rfl, by simp, by simp, by simp⟩
      | cons c css ih =>
        obtain ⟨xs, i1, i2, i3, i4⟩ := ih fun c hc => hcs c (by simp [hc])
        obtain ⟨x, j1, j2, j3⟩ := hE c (hcs c (by simp))
        refine ⟨x :: xs, by simp [i1], ?_, ?_, ?_⟩
        · intro i y d hy hd
          cases i with
          | zero => simp at hy hd; subst hy; subst hd; exact j1
          | succ i => exact i2 i y d (by simpa using hy) (by simpa using hd)
        · intro d hd
          rcases List.mem_cons.1 hd with rfl | hd
          · exact j3
          · exact i3 d hd
        · intro y hy
          rcases List.mem_cons.1 hy with rfl | hy
          · exact j2
          · exact i4 y hy
    have hfl := flat_len h3
    refine ⟨_, xs, rfl, ⟨css, h1, h2, h3, by rw [hfl, h1], .inr ⟨b, 0, .any, by rw [h1], rfl, ?_⟩⟩, by omega, h4⟩
    refine H.read_eq hb (by rw [hfl, h1]; omega) ?_
    rw [List.drop_zero, List.take_of_length_le (by rw [hfl, h1]; omega)]
theorem lies_ty (hl : Lies h shT l) : ∃ x, tyR h x l ∧ x.ok ∧ l.length = 2 := by
  unfold shT at hl; simp only [Lies] at hl
  obtain ⟨_, _, rfl, h1, hl⟩ := liesL_cons hl
  obtain ⟨_, _, rfl, h2, hl⟩ := liesL_cons hl
  obtain rfl := liesL_nil hl
  obtain ⟨b, rfl⟩ := lies_bool h1
  obtain ⟨v, L, rfl, r, o⟩ := lies_nums h2
  exact ⟨⟨b, L⟩, ⟨v, rfl, r⟩, o, rfl⟩
theorem lies_shape (hl : Lies h shS l) : ∃ x, shR h x l ∧ x.ok ∧ l.length = 3 := by
  unfold shS at hl; simp only [Lies] at hl
  obtain ⟨_, _, rfl, h1, hl⟩ := liesL_cons hl
  obtain ⟨_, _, rfl, h2, hl⟩ := liesL_cons hl
  obtain ⟨_, _, rfl, h3, hl⟩ := liesL_cons hl
  obtain rfl := liesL_nil hl
  obtain ⟨n, rfl, o1⟩ := lies_num h1
  obtain ⟨v, L, rfl, r, o⟩ := lies_nums h2
  obtain ⟨s, rfl, o3⟩ := lies_text h3
  exact ⟨⟨n, L, s⟩, ⟨v, rfl, r⟩, ⟨o1, o, o3⟩, rfl⟩
theorem lies_instr (hl : Lies h shI l) : ∃ x, insR h x l ∧ x.ok ∧ l.length = 9 := by
  unfold shI at hl; simp only [Lies] at hl
  obtain ⟨_, _, rfl, h1, hl⟩ := liesL_cons hl
  obtain ⟨_, _, rfl, h2, hl⟩ := liesL_cons hl
  obtain ⟨_, _, rfl, h3, hl⟩ := liesL_cons hl
  obtain ⟨_, _, rfl, h4, hl⟩ := liesL_cons hl
  obtain ⟨_, _, rfl, h5, hl⟩ := liesL_cons hl
  obtain ⟨_, _, rfl, h6, hl⟩ := liesL_cons hl
  obtain ⟨_, _, rfl, h7, hl⟩ := liesL_cons hl
  obtain ⟨_, _, rfl, h8, hl⟩ := liesL_cons hl
  obtain ⟨_, _, rfl, h9, hl⟩ := liesL_cons hl
  obtain rfl := liesL_nil hl
  obtain ⟨n1, rfl, o1⟩ := lies_num h1
  obtain ⟨n2, rfl, o2⟩ := lies_num h2
  obtain ⟨n3, rfl, o3⟩ := lies_num h3
  obtain ⟨n4, rfl, o4⟩ := lies_num h4
  obtain ⟨n5, rfl, o5⟩ := lies_num h5
  obtain ⟨n6, rfl, o6⟩ := lies_num h6
  obtain ⟨v7, L7, rfl, r7, o7⟩ := lies_nums h7
  obtain ⟨v8, L8, rfl, r8, o8⟩ := lies_nums h8
  obtain ⟨v9, L9, rfl, r9, o9⟩ := lies_nums h9
  exact ⟨⟨n1, n2, n3, n4, n5, n6, L7, L8, L9⟩, ⟨v7, v8, v9, rfl, r7, r8, r9⟩, ⟨⟨o1, o2, o3, o4, o5, o6⟩, o7, o8, o9⟩, rfl⟩
theorem lies_blk (hl : Lies h shBl l) : ∃ x, blkR h x l ∧ x.ok ∧ l.length = 2 := by
  unfold shBl at hl; simp only [Lies] at hl
  obtain ⟨_, _, rfl, h1, hl⟩ := liesL_cons hl
  obtain ⟨_, _, rfl, h2, hl⟩ := liesL_cons hl
  obtain rfl := liesL_nil hl
  obtain ⟨v, L, rfl, r, o⟩ := lies_nums h1
  obtain ⟨v2, L2, rfl, r2, o2⟩ := lies_rows (fun c => lies_instr) h2
  exact ⟨⟨L, L2⟩, ⟨v, v2, rfl, r, r2⟩, ⟨o, o2⟩, rfl⟩
theorem lies_fn (hl : Lies h shF l) : ∃ x, fnR h x l ∧ x.ok ∧ l.length = 4 := by
  unfold shF at hl; simp only [Lies] at hl
  obtain ⟨_, _, rfl, h1, hl⟩ := liesL_cons hl
  obtain ⟨_, _, rfl, h2, hl⟩ := liesL_cons hl
  obtain ⟨_, _, rfl, h3, hl⟩ := liesL_cons hl
  obtain ⟨_, _, rfl, h4, hl⟩ := liesL_cons hl
  obtain rfl := liesL_nil hl
  obtain ⟨v, L, rfl, r, o⟩ := lies_nums h1
  obtain ⟨n2, rfl, o2⟩ := lies_num h2
  obtain ⟨n3, rfl, o3⟩ := lies_num h3
  obtain ⟨v2, L2, rfl, r2, o4⟩ := lies_rows (fun c => lies_blk) h4
  exact ⟨⟨L, n2, n3, L2⟩, ⟨v, v2, rfl, r, r2⟩, ⟨o, o2, o3, o4⟩, rfl⟩
theorem lies_img (hl : Lies h shM l) : ∃ m, imgR h m l ∧ m.ok := by
  unfold shM at hl; simp only [Lies] at hl
  obtain ⟨_, _, rfl, h1, hl⟩ := liesL_cons hl
  obtain ⟨_, _, rfl, h2, hl⟩ := liesL_cons hl
  obtain ⟨_, _, rfl, h3, hl⟩ := liesL_cons hl
  obtain ⟨_, _, rfl, h4, hl⟩ := liesL_cons hl
  obtain ⟨_, _, rfl, h5, hl⟩ := liesL_cons hl
  obtain ⟨_, _, rfl, h6, hl⟩ := liesL_cons hl
  obtain ⟨_, _, rfl, h7, hl⟩ := liesL_cons hl
  obtain rfl := liesL_nil hl
  have hs : ∀ c, Lies h .str c → ∃ x, stR x c ∧ x.length ≤ reachBytes ∧ c.length = 1 := fun c hc => by
    obtain ⟨s, rfl, o⟩ := lies_text hc
    exact ⟨s, rfl, o, rfl⟩
  obtain ⟨v1, L1, rfl, r1, o1⟩ := lies_rows (fun c => lies_ty) h1
  obtain ⟨v2, L2, rfl, r2, o2⟩ := lies_rows (fun c => lies_shape) h2
  obtain ⟨v3, L3, rfl, r3, o3⟩ := lies_rows hs h3
  obtain ⟨v4, L4, rfl, r4, o4⟩ := lies_rows hs h4
  obtain ⟨v5, L5, rfl, r5, o5⟩ := lies_rows (fun c => lies_fn) h5
  obtain ⟨n6, rfl, o6⟩ := lies_num h6
  obtain ⟨n7, rfl, o7⟩ := lies_num h7
  exact ⟨⟨L1, L2, L3, L4, L5, n6, n7⟩, ⟨v1, v2, v3, v4, v5, rfl, r1, r2, r3, r4, r5⟩, ⟨o1, o2, o3, o4, o5, o6, o7⟩⟩
end
theorem checkZ : checkN imgZ = 0 := by rfl
theorem numB0 : numB 0 = [0] := putL_small (by decide)
theorem bytesZ : bytesI imgZ = [66, 69, 76, 49, 0, 0, 0, 0, 0, 0, 0] := by simp [bytesI, imgZ, manyB, numB0, headB]
theorem decZ : decodeN (bytesI imgZ) = (imgZ, 0) := decode_fw imgZ_ok checkZ
theorem decS1 : decodeN [66, 69, 76] = (imgZ, 20) := by rfl
section
variable {h : H}
theorem imgR.shape {m : Img} {c : List AV} (r : imgR h m c) : c.length = 7 ∧ c[5]? = some (.int .i64 m.main) ∧ c[6]? = some (.int .i64 m.exn) := by
  obtain ⟨_, _, _, _, _, rfl, _⟩ := r; exact ⟨rfl, rfl, rfl⟩
/-- An image that is put into a box of its own. -/
theorem imgbox_r {m : Img} {c : List AV} {n : Nat} {zs : List AV} (r : imgR h m c) (hz : zs.length = n) (hn : n = 7) (lz : leaves zs = true) {K : AV → H → Prop}
    (hK : ∀ d h', Fr [] h h' → h.get d = none → h'.get d = some (.live c 28 true) → h'.read d 0 7 = some c → K (.ptr d 0) h') : boxA h zs 28 fun x h => memA (stA h n x (.agg c)) .undef fun _ h => K x h := by
  subst hn
  have hc := r.shape.1
  refine box_r lz fun d hd => ?_
  rw [copy_st hc hz r.leaves, memA_some]
  exact hK d _ ((Fr.refl _ _).set' hd) hd (H.get_same ..) (H.read_eq (H.get_same ..) (by omega) (by rw [List.drop_zero, List.take_of_length_le (by omega)]))
theorem putL_lt (x : Nat) : ∀ d ∈ putL x, d < 256 := by
  induction x using putL.induct with
  | case1 x h => rw [putL, if_pos h]; simp; omega
  | case2 x h ih =>
    rw [putL, if_neg h]
    intro d hd
    rcases List.mem_cons.1 hd with rfl | hd
    · omega
    · exact ih d hd
theorem numB_lt (n : Int) : ∀ d ∈ numB n, d < 256 := putL_lt _
theorem manyB_lt {α : Type} {e : α → List Nat} (h : ∀ x, ∀ d ∈ e x, d < 256) (l : List α) : ∀ d ∈ manyB e l, d < 256 := by
  intro d hd
  rcases List.mem_append.1 hd with hd | hd
  · exact numB_lt _ d hd
  · obtain ⟨x, _, hx⟩ := List.mem_flatMap.1 hd
    exact h x d hx
theorem app_lt {a b : List Nat} (ha : ∀ d ∈ a, d < 256) (hb : ∀ d ∈ b, d < 256) : ∀ d ∈ a ++ b, d < 256 := fun d hd => (List.mem_append.1 hd).elim (ha d) (hb d)
theorem textB_lt (s : List UInt8) : ∀ d ∈ textB s, d < 256 := app_lt (numB_lt _) fun d hd => by
  obtain ⟨c, _, rfl⟩ := List.mem_map.1 hd
  exact UInt8.toNat_lt c
theorem numsB_lt (l : List Int) : ∀ d ∈ numsB l, d < 256 := manyB_lt numB_lt l
theorem fldB_lt (x : Ins) (c : UInt8) : ∀ d ∈ fldB x c, d < 256 := by
  unfold fldB
  repeat' split
  all_goals first | exact numB_lt _ | exact numsB_lt _
theorem insB_lt (x : Ins) : ∀ d ∈ insB x, d < 256 := app_lt (numB_lt _) fun d hd => by
  obtain ⟨c, _, hx⟩ := List.mem_flatMap.1 hd
  exact fldB_lt x c d hx
theorem bytes_lt (m : Img) : ∀ d ∈ bytesI m, d < 256 := by
  unfold bytesI
  refine app_lt (app_lt (app_lt (app_lt (app_lt (app_lt (app_lt (by decide) (manyB_lt ?_ _)) (manyB_lt ?_ _)) (manyB_lt textB_lt _)) (manyB_lt textB_lt _)) (manyB_lt ?_ _)) (numB_lt _)) (numB_lt _)
  · exact fun t => app_lt (numB_lt _) (numsB_lt _)
  · exact fun t => app_lt (app_lt (numB_lt _) (numsB_lt _)) (textB_lt _)
  · exact fun f => app_lt (app_lt (app_lt (numsB_lt _) (numB_lt _)) (numB_lt _)) (manyB_lt (fun b => app_lt (numsB_lt _) (manyB_lt insB_lt _)) _)
theorem ext2 {a b : AV} {h : H} {K : AV → AV → H → Prop} : (valA (extA (.tup [a, b]) 0) h fun x h => valA (extA (.tup [a, b]) 1) h fun y h => K x y h) = K a b h := by
  rw [show extA (.tup [a, b]) 0 = some a from rfl, valA_some, show extA (.tup [a, b]) 1 = some b from rfl, valA_some]
theorem lives_c {K : AV → H → Prop} (hK : ∀ h', Fr [] h h' → K (.bool true) h') : C 16 [] h K := by
  refine run16 ?_
  unfold sh16
  rw [show buildA (fillV [AV.nilsl, AV.nilsl, AV.nilsl, AV.nilsl, AV.nilsl, AV.int .i64 0, AV.int .i64 0] []) = some (.agg [AV.nilsl, AV.nilsl, AV.nilsl, AV.nilsl, AV.nilsl, AV.int .i64 0, AV.int .i64 0]) from rfl, valA_some]
  refine encode_c (imgZ_r h) imgZ_ok (by rw [bytesZ]; decide) (fun q => absurd checkZ q) fun _ v h1 f1 w1 => ?_
  rw [ext2]
  show mkslA h1 5 3 (fillV [(.int .u8 0), (.int .u8 0), (.int .u8 0)] [(0, 1, (.int .u8 66)), (1, 1, (.int .u8 69)), (2, 1, (.int .u8 76))]) _
  refine ⟨rfl, fun p hp => ?_⟩
  have gp : (h1.set p (.live (bc [66, 69, 76]) 5 true)).get p = some (.live (bc [66, 69, 76]) 5 true) := H.get_same ..
  have fp : Fr [] h1 (h1.set p (.live (bc [66, 69, 76]) 5 true)) := (Fr.refl _ _).set' hp
  change valA (keepA (h1.set p (.live (bc [66, 69, 76]) 5 true)) (.sl p 0 3 (.exact 3))) (h1.set p (.live (bc [66, 69, 76]) 5 true)) _
  have w2 := w1.row.fr fp
  have f2 := f1.trans fp
  generalize h1.set p (.live (bc [66, 69, 76]) 5 true) = h2 at *
  rw [show keepA h2 (.sl p 0 3 (.exact 3)) = some (.sl p 0 3 (.exact 3)) by simp only [keepA, gp]; rfl, valA_some]
  have rp : Row h2 (.sl p 0 3 (.exact 3)) [66, 69, 76].length 1 (bc [66, 69, 76]) := ⟨rfl, .inr ⟨p, 0, _, rfl, rfl, H.read_eq gp (by decide) rfl⟩⟩
  refine decode_c rp (by decide) (by decide) fun h3 c f3 ri _ => ?_
  rw [decS1] at ri ⊢
  rw [ext2]
  refine imgbox_r ri rfl rfl rfl fun d h4 f4 _ _ _ => ?_
  have w4 := (w2.fr f3).fr f4
  refine decode_c w4 (bytes_lt _) (by rw [bytesZ]; decide) fun h5 c f5 ri _ => ?_
  rw [decZ] at ri ⊢
  rw [ext2]
  refine imgbox_r ri rfl rfl rfl fun d h6 f6 hd gd rd => ?_
  have w6 := (w4.fr f5).fr f6
  have e1 := w6.b2s
  have e2 : (bytesI imgZ).map UInt8.ofNat = [66, 69, 76, 49, 0, 0, 0, 0, 0, 0, 0] := by rw [bytesZ]; rfl
  rw [e2] at e1
  have c5 : h6.cell d 5 = some (.int .i64 0) := by rw [cell_of gd]; exact ri.shape.2.1
  have u19 : usesN 19 = [65, 66, 67] := rfl
  have ff := ((((f2.trans f3).trans f4).trans f5).trans f6)
  simp only [go_sem, reduceIte, Nat.reduceAdd, Nat.reduceSub, Nat.reduceMul, Nat.reducePow, Nat.reduceLT, Nat.reduceLeDiff, Nat.reduceEqDiff, Int.reduceAdd, Int.reduceSub, Int.reduceMul, Int.reduceNeg, Int.reducePow, Int.reduceLT, Int.reduceLE, Int.reduceEq, Int.reduceNe, Int.reduceToNat, Int.toNat_natCast, Nat.zero_add, Nat.add_zero, Nat.mul_one, Nat.one_mul, Bool.not_true, Bool.not_false, ne_eq, not_true_eq_false, not_false_eq_true, Bool.false_eq_true, e1, c5, uses_c, u19]
  rw [show buildA (fillV [AV.int .i64 0, .int .i64 0, .int .i64 0, .int .i64 0, .int .i64 0, .int .i64 0, .nilsl, .nilsl, .nilsl] [(0, 1, AV.int .i64 18), (2, 1, AV.int .i64 3)]) = some (.agg (insC ⟨18, 0, 3, 0, 0, 0, [], [], []⟩ .nilsl .nilsl .nilsl)) from rfl, valA_some]
  refine plain_c ⟨_, _, _, rfl, Row.nil .., Row.nil .., Row.nil ..⟩ fun h7 f7 => ?_
  rw [show plainN ⟨18, 0, 3, 0, 0, 0, [], [], []⟩ = true from rfl]
  simp only [go_sem, reduceIte, Nat.reduceAdd, Nat.reduceSub, Nat.reduceMul, Nat.reducePow, Nat.reduceLT, Nat.reduceLeDiff, Nat.reduceEqDiff, Int.reduceAdd, Int.reduceSub, Int.reduceMul, Int.reduceNeg, Int.reducePow, Int.reduceLT, Int.reduceLE, Int.reduceEq, Int.reduceNe, Int.reduceToNat, Int.toNat_natCast, Nat.zero_add, Nat.add_zero, Nat.mul_one, Nat.one_mul, Bool.not_true, Bool.not_false, ne_eq, not_true_eq_false, not_false_eq_true, Bool.false_eq_true]
  rw [show buildA (fillV [AV.int .i64 0, .int .i64 0, .int .i64 0, .int .i64 0, .int .i64 0, .int .i64 0, .nilsl, .nilsl, .nilsl] [(0, 1, AV.int .i64 18), (2, 1, AV.int .i64 3), (1, 1, AV.int .i64 1)]) = some (.agg (insC ⟨18, 1, 3, 0, 0, 0, [], [], []⟩ .nilsl .nilsl .nilsl)) from rfl, valA_some]
  refine plain_c ⟨_, _, _, rfl, Row.nil .., Row.nil .., Row.nil ..⟩ fun h8 f8 => ?_
  rw [show plainN ⟨18, 1, 3, 0, 0, 0, [], [], []⟩ = false from rfl]
  simp only [go_sem, reduceIte, Nat.reduceAdd, Nat.reduceSub, Nat.reduceMul, Nat.reducePow, Nat.reduceLT, Nat.reduceLeDiff, Nat.reduceEqDiff, Int.reduceAdd, Int.reduceSub, Int.reduceMul, Int.reduceNeg, Int.reducePow, Int.reduceLT, Int.reduceLE, Int.reduceEq, Int.reduceNe, Int.reduceToNat, Int.toNat_natCast, Nat.zero_add, Nat.add_zero, Nat.mul_one, Nat.one_mul, Bool.not_true, Bool.not_false, ne_eq, not_true_eq_false, not_false_eq_true, Bool.false_eq_true]
  exact hK h8 ((ff.trans f7).trans f8)
end
end Go.Proofs.YtdljelicbnjfjaaGreat.X
set_option linter.unusedVariables false
set_option linter.unusedSimpArgs false
set_option maxRecDepth 20000
namespace Go.Proofs.YtdljelicbnjfjaaGreat.X
open Go Go.RowKit
/-- All blocks but those of bytes stay. -/
def FrB (h h' : H) : Prop := ∀ c cs e w, e ≠ 5 → h.get c = some (.live cs e w) → h'.get c = some (.live cs e w)
theorem FrB.trans {h h1 h2 : H} (f : FrB h h1) (g : FrB h1 h2) : FrB h h2 := fun c cs e w he x => g c cs e w he (f c cs e w he x)
theorem Fr.frb {h h' : H} (f : Fr [] h h') : FrB h h' := fun c _ _ _ _ x => f c _ (by simp) x
theorem FrB.refl (h : H) : FrB h h := fun _ _ _ _ _ x => x
/-- Bytes so far. -/
structure V (h0 h : H) (v : AV) (L : List Nat) : Prop where
  ws : WS h0 h v L
  fr : Fr [] h0 h
section
variable {h0 h h' : H} {v : AV} {L : List Nat}
theorem V.keep (w : V h0 h v L) (f : Fr [] h h') : V h0 h' v L := ⟨w.ws.fr f, w.fr.trans f⟩
theorem WS.ne (s : WS h0 h v L) {c e : Nat} {cs : List AV} {w : Bool} (he : e ≠ 5) (hg : h.get c = some (.live cs e w)) : ∀ n p, v ≠ .sl c 0 n p := by
  intro n p q
  rcases s with s | ⟨m, q1, _, q3⟩
  · rcases s.2 with ⟨_, z⟩ | ⟨b, z1, _, z3⟩
    · rw [q] at z; cases z
    · rw [q] at z1; injection z1 with z1 _; subst z1
      rw [hg] at z3; injection z3 with z3; injection z3 with _ z3 _; exact he z3
  · rw [q] at q1; injection q1 with q1 _; subst q1
    rw [hg] at q3; injection q3 with q3; injection q3 with _ q3 _; exact he q3
theorem app_w (w : V h0 h v L) {y : AV} {D : List Nat} (hs : srcA h 1 y = some (D.length, bc D)) (hm : (L ++ D).length ≤ most) {K : AV → H → Prop} (hK : ∀ v' h', V h0 h' v' (L ++ D) → FrB h h' → K v' h') : appendA h 5 1 1 v y K := by
  rw [List.length_append] at hm
  exact wapp_c w.ws w.fr hs hm fun v' h' s f fk _ => hK v' h' ⟨s, f⟩ fun c cs e x he hg => fk c _ hg (w.ws.ne he hg)
theorem rnum_w (w : V h0 h v L) {n : Int} (hn : rg n) (hm : (L ++ numB n).length ≤ most) {K : AV → H → Prop} (hK : ∀ v' h', V h0 h' v' (L ++ numB n) → FrB h h' → K v' h') : C 92 [v, .int .i64 n] h K := by
  refine run92 ?_
  unfold sh92
  refine rput_c hn.1 hn.2 fun v1 h1 o1 f1 => ?_
  exact app_w (w.keep f1) (D := numB n) o1.row.src hm fun v' h' w' f' => hK v' h' w' (f1.frb.trans f')
theorem rtext_w (w : V h0 h v L) {s : List UInt8} (hl : s.length ≤ reachBytes) (hm : (L ++ textB s).length ≤ most) {K : AV → H → Prop} (hK : ∀ v' h', V h0 h' v' (L ++ textB s) → FrB h h' → K v' h') : C 94 [v, .str s] h K := by
  refine run94 ?_
  unfold sh94
  unfold textB at hm hK
  rw [← List.append_assoc] at hm
  rw [show lenA true (.str s) = some (.int .i64 s.length) from rfl, valA_some]
  refine rnum_w w (rg_nat hl) (by simp only [List.length_append] at hm ⊢; omega) fun v1 h1 w1 f1 => ?_
  refine s2b_r fun m hmm => ?_
  have fm : Fr [] h1 (h1.set m (.live (s.map fun c => AV.int .u8 c.toNat) 5 true)) := (Fr.refl _ _).set' hmm
  have e : (s.map fun c => AV.int .u8 c.toNat) = bc (s.map (·.toNat)) := by simp [bc]
  have hs : srcA (h1.set m (.live (s.map fun c => AV.int .u8 c.toNat) 5 true)) 1 (.sl m 0 s.length (.more 1)) = some ((s.map (·.toNat)).length, bc (s.map (·.toNat))) := by
    simp only [srcA]
    rw [H.read_eq (H.get_same ..) (by simp) (by rw [List.drop_zero, List.take_of_length_le (by simp)]), e]
    simp
  refine app_w (w1.keep fm) hs hm fun v' h' w' f' => hK v' h' (by rw [← List.append_assoc]; exact w') ((f1.trans fm.frb).trans f')
/-- A row whose elements are taken one by one; something is counted, or written. -/
theorem acc_r {α : Type} {esz ty : Nat} {zs : List AV} {lv : AV} {l : List α} {Rel : H → α → List AV → Prop} (hleaf : ∀ {h : H} {x c}, Rel h x c → leaves c = true) (hz : zs.length = esz) (lz : leaves zs = true)
    (r : RowOf h0 esz (Rel h0) lv l) (hl : l.length ≤ reachBytes) {Inv : Nat → AV → H → Prop} {a0 : AV} (hi : Inv 0 a0 h) (hfr : ∀ i a h, Inv i a h → Fr [] h0 h) (hkeep : ∀ i a h h', Inv i a h → Fr [] h h' → Inv i a h')
    {J : AV → H → Prop} {BODY : (List AV → H → Prop) → AV → AV → AV → H → Prop}
    (hJ : ∀ a h2, Inv l.length a h2 → J a h2)
    (hB : ∀ (N : List AV → H → Prop) (i : Nat) x a, l[i]? = some x → IntKind.i64.wrap ((i : Int) + 1) = ((i + 1 : Nat) : Int) → ∀ h1 d c, Inv i a h1 → h1.get d = some (.live c ty true) → Rel h0 x c → c.length = esz →
      (∀ a' h2, Inv (i + 1) a' h2 → N [a', .int .i64 ((i + 1 : Nat) : Int)] h2) → BODY N a (.int .i64 i) (.ptr d 0) h1) :
    loopA (fun N l' h => argA l' 0 fun a => argA l' 1 fun t51 => valA (binOp .lss .num t51 (.int .i64 l.length)) h fun t52 h => condA t52
      (valA (iaA esz lv t51) h fun t53 h => valA (ldA h (some esz) t53) h fun t54 h => boxA h zs ty fun d h => memA (stA h esz d t54) .undef fun _ h => BODY N a t51 d h) (J a h)) [a0, .int .i64 0] h := by
  have hr : reachBytes ≤ 4611686018427387903 := by decide
  refine loop_r (l.length + 1) (fun k ls h2 => ∃ (i : Nat) (a : AV), ls = [a, .int .i64 i] ∧ i ≤ l.length ∧ Inv i a h2 ∧ k = l.length + 1 - i) ⟨0, a0, rfl, by omega, hi, rfl⟩ ?_
  rintro k ls h2 ⟨i, a, rfl, hi, ha, rfl⟩
  by_cases q : (i : Int) < l.length
  · have hi' : i < l.length := by omega
    obtain ⟨x, hx⟩ : ∃ x, l[i]? = some x := ⟨l[i], by simp [hi']⟩
    obtain ⟨b, o, c, e1, e2, e3, e4, e5⟩ := (r.mono (hfr _ _ _ ha) fun _ _ _ z => z).el hx
    have en : IntKind.i64.wrap ((i : Int) + 1) = ((i + 1 : Nat) : Int) := by rw [i64_id (by omega) (by omega)]; rfl
    simp only [argA_0, argA_1, b_lss, valA_some, q, decide_true, condA_t, e1, ldA_read e4]
    refine box_r lz fun d hdd => ?_
    rw [copy_st e3 hz (hleaf e2), memA_some]
    have fd : Fr [] h2 (h2.set d (.live c ty true)) := (Fr.refl _ _).set' hdd
    exact hB _ i x a hx en _ d c (hkeep _ _ _ _ ha fd) (H.get_same ..) e2 e3 fun a' h3 ia => ⟨l.length + 1 - (i + 1), by omega, i + 1, a', rfl, by omega, ia, rfl⟩
  · have : i = l.length := by omega
    subst this
    simp only [argA_0, argA_1, b_lss, valA_some, q, decide_false, condA_f]
    exact hJ a h2 ha
theorem accj_r {α : Type} {esz ty : Nat} {zs : List AV} {lv : AV} {l : List α} {Rel : H → α → List AV → Prop} (hleaf : ∀ {h : H} {x c}, Rel h x c → leaves c = true) (hz : zs.length = esz) (lz : leaves zs = true)
    (r : RowOf h0 esz (Rel h0) lv l) (hl : l.length ≤ reachBytes) {Inv : Nat → AV → H → Prop} {a0 : AV} (hi : Inv 0 a0 h) (hfr : ∀ i a h, Inv i a h → Fr [] h0 h) (hkeep : ∀ i a h h', Inv i a h → Fr [] h h' → Inv i a h')
    {J : AV → H → Prop} {BODY : (AV → H → Prop) → AV → AV → AV → H → Prop}
    (hJ : ∀ a h2, Inv l.length a h2 → J a h2)
    (hB : ∀ (N : AV → H → Prop) (i : Nat) x a, l[i]? = some x → IntKind.i64.wrap ((i : Int) + 1) = ((i + 1 : Nat) : Int) → ∀ h1 d c, Inv i a h1 → h1.get d = some (.live c ty true) → Rel h0 x c → c.length = esz →
      (∀ a' h2, Inv (i + 1) a' h2 → N a' h2) → BODY N a (.int .i64 i) (.ptr d 0) h1) :
    loopA (fun N l' h => argA l' 0 fun a => argA l' 1 fun t51 => valA (binOp .lss .num t51 (.int .i64 l.length)) h fun t52 h => condA t52
      (joinA (fun (b : AV) (h : H) => valA (binOp .add .num t51 (.int .i64 1)) h fun t40 h => N [b, t40] h) fun N => valA (iaA esz lv t51) h fun t53 h => valA (ldA h (some esz) t53) h fun t54 h => boxA h zs ty fun d h => memA (stA h esz d t54) .undef fun _ h => BODY N a t51 d h) (J a h)) [a0, .int .i64 0] h := by
  have hr : reachBytes ≤ 4611686018427387903 := by decide
  refine loop_r (l.length + 1) (fun k ls h2 => ∃ (i : Nat) (a : AV), ls = [a, .int .i64 i] ∧ i ≤ l.length ∧ Inv i a h2 ∧ k = l.length + 1 - i) ⟨0, a0, rfl, by omega, hi, rfl⟩ ?_
  rintro k ls h2 ⟨i, a, rfl, hi, ha, rfl⟩
  by_cases q : (i : Int) < l.length
  · have hi' : i < l.length := by omega
    obtain ⟨x, hx⟩ : ∃ x, l[i]? = some x := ⟨l[i], by simp [hi']⟩
    obtain ⟨b, o, c, e1, e2, e3, e4, e5⟩ := (r.mono (hfr _ _ _ ha) fun _ _ _ z => z).el hx
    have en : IntKind.i64.wrap ((i : Int) + 1) = ((i + 1 : Nat) : Int) := by rw [i64_id (by omega) (by omega)]; rfl
    simp only [argA_0, argA_1, b_lss, valA_some, q, decide_true, condA_t, joinA, e1, ldA_read e4]
    refine box_r lz fun d hdd => ?_
    rw [copy_st e3 hz (hleaf e2), memA_some]
    have fd : Fr [] h2 (h2.set d (.live c ty true)) := (Fr.refl _ _).set' hdd
    exact hB _ i x a hx en _ d c (hkeep _ _ _ _ ha fd) (H.get_same ..) e2 e3 fun a' h3 ia => by
      rw [b_add, en, valA_some]
      exact ⟨l.length + 1 - (i + 1), by omega, i + 1, a', rfl, by omega, ia, rfl⟩
  · have : i = l.length := by omega
    subst this
    simp only [argA_0, argA_1, b_lss, valA_some, q, decide_false, condA_f]
    exact hJ a h2 ha
theorem acc1_r {α : Type} {lv : AV} {l : List α} {val : α → AV} (r : Row h0 lv l.length 1 (l.map val)) (hl : l.length ≤ reachBytes) {Inv : Nat → AV → H → Prop} {a0 : AV} (hi : Inv 0 a0 h) (hfr : ∀ i a h, Inv i a h → Fr [] h0 h)
    {J : AV → H → Prop} {BODY : (List AV → H → Prop) → AV → AV → AV → H → Prop}
    (hJ : ∀ a h2, Inv l.length a h2 → J a h2)
    (hB : ∀ (N : List AV → H → Prop) (i : Nat) x a, l[i]? = some x → IntKind.i64.wrap ((i : Int) + 1) = ((i + 1 : Nat) : Int) → ∀ h1, Inv i a h1 → (∀ a' h2, Inv (i + 1) a' h2 → N [a', .int .i64 ((i + 1 : Nat) : Int)] h2) → BODY N a (.int .i64 i) (val x) h1) :
    loopA (fun N l' h => argA l' 0 fun a => argA l' 1 fun t51 => valA (binOp .lss .num t51 (.int .i64 l.length)) h fun t52 h => condA t52
      (valA (iaA 1 lv t51) h fun t53 h => valA (ldA h none t53) h fun t54 h => BODY N a t51 t54 h) (J a h)) [a0, .int .i64 0] h := by
  have hr : reachBytes ≤ 4611686018427387903 := by decide
  refine loop_r (l.length + 1) (fun k ls h2 => ∃ (i : Nat) (a : AV), ls = [a, .int .i64 i] ∧ i ≤ l.length ∧ Inv i a h2 ∧ k = l.length + 1 - i) ⟨0, a0, rfl, by omega, hi, rfl⟩ ?_
  rintro k ls h2 ⟨i, a, rfl, hi, ha, rfl⟩
  by_cases q : (i : Int) < l.length
  · have hi' : i < l.length := by omega
    obtain ⟨x, hx⟩ : ∃ x, l[i]? = some x := ⟨l[i], by simp [hi']⟩
    obtain ⟨b, o, e1, e2⟩ := (r.fr (hfr _ _ _ ha)).at (i := i) (x := val x) (by omega) q (by rw [Int.toNat_natCast, List.getElem?_map, hx]; rfl)
    have en : IntKind.i64.wrap ((i : Int) + 1) = ((i + 1 : Nat) : Int) := by rw [i64_id (by omega) (by omega)]; rfl
    simp only [argA_0, argA_1, b_lss, valA_some, q, decide_true, condA_t, e1, ldA_n, e2]
    exact hB _ i x a hx en _ ha fun a' h3 ia => ⟨l.length + 1 - (i + 1), by omega, i + 1, a', rfl, by omega, ia, rfl⟩
  · have : i = l.length := by omega
    subst this
    simp only [argA_0, argA_1, b_lss, valA_some, q, decide_false, condA_f]
    exact hJ a h2 ha
theorem part_le {α : Type} (e : α → List Nat) {l : List α} {i : Nat} {x : α} (hx : l[i]? = some x) {L : List Nat} (hm : (L ++ l.flatMap e).length ≤ most) : ((L ++ (l.take i).flatMap e) ++ e x).length ≤ most := by
  have h1 := flat_take_le e l (i + 1)
  rw [flat_succ e hx, List.length_append] at h1
  simp only [List.length_append] at hm ⊢; omega
theorem rnums_w (w : V h0 h v L) {hb : H} {lv : AV} {l : List Int} (r : Row hb lv l.length 1 (ic l)) (hf : Fr [] hb h0) (ok : rgs l) (hm : (L ++ numsB l).length ≤ most) {K : AV → H → Prop} (hK : ∀ v' h', V h0 h' v' (L ++ numsB l) → FrB h h' → K v' h') : C 93 [v, lv] h K := by
  refine run93 ?_
  unfold sh93
  unfold numsB manyB at hm hK
  rw [← List.append_assoc] at hm
  rw [r.len, valA_some]
  refine rnum_w w (rg_nat ok.1) (by simp only [List.length_append] at hm ⊢; omega) fun v1 h1 w1 f1 => ?_
  refine join_r (fun (J : AV → H → Prop) => ∀ v' h', V h0 h' v' (L ++ numB l.length ++ l.flatMap numB) → FrB h h' → J v' h') (fun v' h' w' f' => hK v' h' (by rw [← List.append_assoc]; exact w') f') fun J hJ => ?_
  rw [valA_some]
  refine acc1_r (h0 := h0) (r.fr hf) ok.1 (Inv := fun i a h2 => V h0 h2 a (L ++ numB l.length ++ (l.take i).flatMap numB) ∧ FrB h h2) ⟨by simpa using w1, f1⟩ (fun i a h i1 => i1.1.fr) (fun a h2 ⟨i1, i2⟩ => ?_) ?_
  · rw [List.take_length] at i1; exact hJ a h2 i1 i2
  · rintro N i x a hx en h2 ⟨i1, i2⟩ hN
    have hb := part_le numB hx hm
    refine rnum_w i1 (ok.2 x (List.mem_of_getElem? hx)) hb fun v3 h3 w3 f3 => ?_
    rw [b_add, en, valA_some]
    exact hN v3 h3 ⟨by rw [flat_succ numB hx, ← List.append_assoc]; exact w3, i2.trans f3⟩
theorem rinstr_w (w : V h0 h v L) {hb : H} {x : Ins} {c : List AV} (r : insR hb x c) (hf : Fr [] hb h0) (ok : x.ok) (hm : (L ++ insB x).length ≤ most) {K : AV → H → Prop} (hK : ∀ v' h', V h0 h' v' (L ++ insB x) → FrB h h' → K v' h') : C 95 [v, .agg c] h K := by
  refine run95 ?_
  have hl := r.leaves
  obtain ⟨vl, vm, vv, rfl, q1, q2, q3⟩ := r
  have ok' := ok
  obtain ⟨⟨o1, o2, o3, o4, o5, o6⟩, o7, o8, o9⟩ := ok
  have ec : ∀ cs : List AV, (AV.agg cs).cells = cs := fun _ => rfl
  unfold sh95
  rw [ec]
  refine box_r hl fun d hd => ?_
  have fd : Fr [] h (h.set d (.live (insC x vl vm vv) 55 true)) := (Fr.refl _ _).set' hd
  have gd : (h.set d (.live (insC x vl vm vv) 55 true)).get d = some (.live (insC x vl vm vv) 55 true) := H.get_same ..
  have w1 := w.keep fd
  have fw := fd.frb
  generalize h.set d (.live (insC x vl vm vv) 55 true) = h1 at *
  unfold insB at hm hK
  have cd : ∀ {h2 : H}, h2.get d = some (.live (insC x vl vm vv) 55 true) → ∀ o, h2.cell d o = [AV.int .i64 x.op, .int .i64 x.d, .int .i64 x.a, .int .i64 x.b, .int .i64 x.c, .int .i64 x.n, vl, vm, vv][o]? := fun q o => cell_of q o
  refine fld_r (v := .int .i64 x.op) (by rw [cd gd]; rfl) ?_
  rw [← List.append_assoc] at hm
  refine rnum_w w1 o1 (by simp only [List.length_append] at hm ⊢; omega) fun v2 h2 w2 f2 => ?_
  have gd2 := f2 d _ _ _ (by decide) gd
  refine fld_r (v := .int .i64 x.op) (by rw [cd gd2]; rfl) ?_
  refine ruses_c x.op fun h3 f3 => ?_
  have gd3 := f3 d _ (by simp) gd2
  have w3 := w2.keep f3
  have hu := usesN_len x.op
  have hr : reachBytes ≤ 4611686018427387903 := by decide
  have fw3 := (fw.trans f2).trans f3.frb
  generalize usesN x.op = u at *
  refine join_r (fun (J : AV → H → Prop) => ∀ v' h', V h0 h' v' (L ++ numB x.op ++ u.flatMap (fldB x)) → FrB h h' → J v' h') (fun v' h' w' f' => hK v' h' (by rw [← List.append_assoc]; exact w') f') fun J hJ => ?_
  refine loop_r (u.length + 1) (fun k ls h4 => ∃ (i : Nat) (a : AV), ls = [a, .int .i64 i] ∧ i ≤ u.length ∧ V h0 h4 a (L ++ numB x.op ++ (u.take i).flatMap (fldB x)) ∧ FrB h h4 ∧ h4.get d = some (.live (insC x vl vm vv) 55 true) ∧ k = u.length + 1 - i)
    ⟨0, v2, rfl, by omega, by simpa using w3, fw3, gd3, rfl⟩ ?_
  rintro k ls h4 ⟨i, a, rfl, hi, w4, f4, gd4, rfl⟩
  have hlen : lenA true (.str u) = some (.int .i64 u.length) := rfl
  by_cases q : (i : Int) < u.length
  · have hi' : i < u.length := by omega
    obtain ⟨c, hc⟩ : ∃ c, u[i]? = some c := ⟨u[i], by simp [hi']⟩
    have hix : ixStrA (.str u) (.int .i64 i) = some (.int .u8 c.toNat) := by
      have : (0 : Int) ≤ i := by omega
      simp only [ixStrA, this, if_true, Int.toNat_natCast, hc]
    have en : IntKind.i64.wrap ((i : Int) + 1) = ((i + 1 : Nat) : Int) := by rw [i64_id (by omega) (by omega)]; rfl
    have hb := part_le (fldB x) hc hm
    have done : ∀ v5 h5, V h0 h5 v5 (L ++ numB x.op ++ (u.take i).flatMap (fldB x) ++ fldB x c) → FrB h4 h5 → ∃ n', n' < u.length + 1 - i ∧ ∃ (i' : Nat) (a : AV), [v5, AV.int .i64 ((i + 1 : Nat) : Int)] = [a, .int .i64 i'] ∧ i' ≤ u.length ∧ V h0 h5 a (L ++ numB x.op ++ (u.take i').flatMap (fldB x)) ∧ FrB h h5 ∧
        h5.get d = some (.live (insC x vl vm vv) 55 true) ∧ n' = u.length + 1 - i' := fun v5 h5 w5 f5 =>
      ⟨u.length + 1 - (i + 1), by omega, i + 1, v5, rfl, by omega, by rw [flat_succ (fldB x) hc, ← List.append_assoc]; exact w5, f4.trans f5, f5 d _ _ _ (by decide) gd4, rfl⟩
    have fn : ∀ k : UInt8, ¬ c = k → ¬ ((c.toNat : Nat) : Int) = (k.toNat : Nat) := fun k e q => e (UInt8.toNat_inj.1 (by omega))
    by_cases c0 : c = 68
    · subst c0
      have t : ((UInt8.toNat 68 : Nat) : Int) = 68 := rfl
      have e : fldB x 68 = numB x.d := rfl
      rw [e] at hb done
      simp only [joinA, go_sem, reduceIte, Nat.reduceAdd, Nat.reduceSub, Nat.reduceMul, Nat.reducePow, Nat.reduceLT, Nat.reduceLeDiff, Nat.reduceEqDiff, Int.reduceAdd, Int.reduceSub, Int.reduceMul, Int.reduceNeg, Int.reducePow, Int.reduceLT, Int.reduceLE, Int.reduceEq, Int.reduceNe, Int.reduceToNat, Int.toNat_natCast, Nat.zero_add, Nat.add_zero, Nat.mul_one, Nat.one_mul, Bool.not_true, Bool.not_false, ne_eq, not_true_eq_false, not_false_eq_true, Bool.false_eq_true, q, hlen, hix, t, cd gd4]
      refine rnum_w w4 o2 hb fun v5 h5 w5 f5 => ?_
      simp only [go_sem, reduceIte, Nat.reduceAdd, Nat.reduceSub, Nat.reduceMul, Nat.reducePow, Nat.reduceLT, Nat.reduceLeDiff, Nat.reduceEqDiff, Int.reduceAdd, Int.reduceSub, Int.reduceMul, Int.reduceNeg, Int.reducePow, Int.reduceLT, Int.reduceLE, Int.reduceEq, Int.reduceNe, Int.reduceToNat, Int.toNat_natCast, Nat.zero_add, Nat.add_zero, Nat.mul_one, Nat.one_mul, Bool.not_true, Bool.not_false, ne_eq, not_true_eq_false, not_false_eq_true, Bool.false_eq_true, en]
      exact done v5 h5 w5 f5
    have n0 : ¬ ((c.toNat : Nat) : Int) = 68 := fn 68 c0
    by_cases c1 : c = 65
    · subst c1
      have t : ((UInt8.toNat 65 : Nat) : Int) = 65 := rfl
      have e : fldB x 65 = numB x.a := rfl
      rw [e] at hb done
      simp only [joinA, go_sem, reduceIte, Nat.reduceAdd, Nat.reduceSub, Nat.reduceMul, Nat.reducePow, Nat.reduceLT, Nat.reduceLeDiff, Nat.reduceEqDiff, Int.reduceAdd, Int.reduceSub, Int.reduceMul, Int.reduceNeg, Int.reducePow, Int.reduceLT, Int.reduceLE, Int.reduceEq, Int.reduceNe, Int.reduceToNat, Int.toNat_natCast, Nat.zero_add, Nat.add_zero, Nat.mul_one, Nat.one_mul, Bool.not_true, Bool.not_false, ne_eq, not_true_eq_false, not_false_eq_true, Bool.false_eq_true, q, hlen, hix, t, cd gd4]
      refine rnum_w w4 o3 hb fun v5 h5 w5 f5 => ?_
      simp only [go_sem, reduceIte, Nat.reduceAdd, Nat.reduceSub, Nat.reduceMul, Nat.reducePow, Nat.reduceLT, Nat.reduceLeDiff, Nat.reduceEqDiff, Int.reduceAdd, Int.reduceSub, Int.reduceMul, Int.reduceNeg, Int.reducePow, Int.reduceLT, Int.reduceLE, Int.reduceEq, Int.reduceNe, Int.reduceToNat, Int.toNat_natCast, Nat.zero_add, Nat.add_zero, Nat.mul_one, Nat.one_mul, Bool.not_true, Bool.not_false, ne_eq, not_true_eq_false, not_false_eq_true, Bool.false_eq_true, en]
      exact done v5 h5 w5 f5
    have n1 : ¬ ((c.toNat : Nat) : Int) = 65 := fn 65 c1
    by_cases c2 : c = 66
    · subst c2
      have t : ((UInt8.toNat 66 : Nat) : Int) = 66 := rfl
      have e : fldB x 66 = numB x.b := rfl
      rw [e] at hb done
      simp only [joinA, go_sem, reduceIte, Nat.reduceAdd, Nat.reduceSub, Nat.reduceMul, Nat.reducePow, Nat.reduceLT, Nat.reduceLeDiff, Nat.reduceEqDiff, Int.reduceAdd, Int.reduceSub, Int.reduceMul, Int.reduceNeg, Int.reducePow, Int.reduceLT, Int.reduceLE, Int.reduceEq, Int.reduceNe, Int.reduceToNat, Int.toNat_natCast, Nat.zero_add, Nat.add_zero, Nat.mul_one, Nat.one_mul, Bool.not_true, Bool.not_false, ne_eq, not_true_eq_false, not_false_eq_true, Bool.false_eq_true, q, hlen, hix, t, cd gd4]
      refine rnum_w w4 o4 hb fun v5 h5 w5 f5 => ?_
      simp only [go_sem, reduceIte, Nat.reduceAdd, Nat.reduceSub, Nat.reduceMul, Nat.reducePow, Nat.reduceLT, Nat.reduceLeDiff, Nat.reduceEqDiff, Int.reduceAdd, Int.reduceSub, Int.reduceMul, Int.reduceNeg, Int.reducePow, Int.reduceLT, Int.reduceLE, Int.reduceEq, Int.reduceNe, Int.reduceToNat, Int.toNat_natCast, Nat.zero_add, Nat.add_zero, Nat.mul_one, Nat.one_mul, Bool.not_true, Bool.not_false, ne_eq, not_true_eq_false, not_false_eq_true, Bool.false_eq_true, en]
      exact done v5 h5 w5 f5
    have n2 : ¬ ((c.toNat : Nat) : Int) = 66 := fn 66 c2
    by_cases c3 : c = 67
    · subst c3
      have t : ((UInt8.toNat 67 : Nat) : Int) = 67 := rfl
      have e : fldB x 67 = numB x.c := rfl
      rw [e] at hb done
      simp only [joinA, go_sem, reduceIte, Nat.reduceAdd, Nat.reduceSub, Nat.reduceMul, Nat.reducePow, Nat.reduceLT, Nat.reduceLeDiff, Nat.reduceEqDiff, Int.reduceAdd, Int.reduceSub, Int.reduceMul, Int.reduceNeg, Int.reducePow, Int.reduceLT, Int.reduceLE, Int.reduceEq, Int.reduceNe, Int.reduceToNat, Int.toNat_natCast, Nat.zero_add, Nat.add_zero, Nat.mul_one, Nat.one_mul, Bool.not_true, Bool.not_false, ne_eq, not_true_eq_false, not_false_eq_true, Bool.false_eq_true, q, hlen, hix, t, cd gd4]
      refine rnum_w w4 o5 hb fun v5 h5 w5 f5 => ?_
      simp only [go_sem, reduceIte, Nat.reduceAdd, Nat.reduceSub, Nat.reduceMul, Nat.reducePow, Nat.reduceLT, Nat.reduceLeDiff, Nat.reduceEqDiff, Int.reduceAdd, Int.reduceSub, Int.reduceMul, Int.reduceNeg, Int.reducePow, Int.reduceLT, Int.reduceLE, Int.reduceEq, Int.reduceNe, Int.reduceToNat, Int.toNat_natCast, Nat.zero_add, Nat.add_zero, Nat.mul_one, Nat.one_mul, Bool.not_true, Bool.not_false, ne_eq, not_true_eq_false, not_false_eq_true, Bool.false_eq_true, en]
      exact done v5 h5 w5 f5
    have n3 : ¬ ((c.toNat : Nat) : Int) = 67 := fn 67 c3
    by_cases c4 : c = 78
    · subst c4
      have t : ((UInt8.toNat 78 : Nat) : Int) = 78 := rfl
      have e : fldB x 78 = numB x.n := rfl
      rw [e] at hb done
      simp only [joinA, go_sem, reduceIte, Nat.reduceAdd, Nat.reduceSub, Nat.reduceMul, Nat.reducePow, Nat.reduceLT, Nat.reduceLeDiff, Nat.reduceEqDiff, Int.reduceAdd, Int.reduceSub, Int.reduceMul, Int.reduceNeg, Int.reducePow, Int.reduceLT, Int.reduceLE, Int.reduceEq, Int.reduceNe, Int.reduceToNat, Int.toNat_natCast, Nat.zero_add, Nat.add_zero, Nat.mul_one, Nat.one_mul, Bool.not_true, Bool.not_false, ne_eq, not_true_eq_false, not_false_eq_true, Bool.false_eq_true, q, hlen, hix, t, cd gd4]
      refine rput_c o6.1 o6.2 fun v1 h5 p5 f5 => ?_
      refine app_w (w4.keep f5) (D := numB x.n) p5.row.src hb fun v6 h6 w6 f6 => ?_
      simp only [go_sem, reduceIte, Nat.reduceAdd, Nat.reduceSub, Nat.reduceMul, Nat.reducePow, Nat.reduceLT, Nat.reduceLeDiff, Nat.reduceEqDiff, Int.reduceAdd, Int.reduceSub, Int.reduceMul, Int.reduceNeg, Int.reducePow, Int.reduceLT, Int.reduceLE, Int.reduceEq, Int.reduceNe, Int.reduceToNat, Int.toNat_natCast, Nat.zero_add, Nat.add_zero, Nat.mul_one, Nat.one_mul, Bool.not_true, Bool.not_false, ne_eq, not_true_eq_false, not_false_eq_true, Bool.false_eq_true, en]
      exact done v6 h6 w6 (f5.frb.trans f6)
    have n4 : ¬ ((c.toNat : Nat) : Int) = 78 := fn 78 c4
    by_cases c5 : c = 76
    · subst c5
      have t : ((UInt8.toNat 76 : Nat) : Int) = 76 := rfl
      have e : fldB x 76 = numsB x.l := rfl
      rw [e] at hb done
      simp only [joinA, go_sem, reduceIte, Nat.reduceAdd, Nat.reduceSub, Nat.reduceMul, Nat.reducePow, Nat.reduceLT, Nat.reduceLeDiff, Nat.reduceEqDiff, Int.reduceAdd, Int.reduceSub, Int.reduceMul, Int.reduceNeg, Int.reducePow, Int.reduceLT, Int.reduceLE, Int.reduceEq, Int.reduceNe, Int.reduceToNat, Int.toNat_natCast, Nat.zero_add, Nat.add_zero, Nat.mul_one, Nat.one_mul, Bool.not_true, Bool.not_false, ne_eq, not_true_eq_false, not_false_eq_true, Bool.false_eq_true, q, hlen, hix, t, cd gd4]
      refine rnums_w w4 q1 hf o7 hb fun v5 h5 w5 f5 => ?_
      simp only [go_sem, reduceIte, Nat.reduceAdd, Nat.reduceSub, Nat.reduceMul, Nat.reducePow, Nat.reduceLT, Nat.reduceLeDiff, Nat.reduceEqDiff, Int.reduceAdd, Int.reduceSub, Int.reduceMul, Int.reduceNeg, Int.reducePow, Int.reduceLT, Int.reduceLE, Int.reduceEq, Int.reduceNe, Int.reduceToNat, Int.toNat_natCast, Nat.zero_add, Nat.add_zero, Nat.mul_one, Nat.one_mul, Bool.not_true, Bool.not_false, ne_eq, not_true_eq_false, not_false_eq_true, Bool.false_eq_true, en]
      exact done v5 h5 w5 f5
    have n5 : ¬ ((c.toNat : Nat) : Int) = 76 := fn 76 c5
    by_cases c6 : c = 77
    · subst c6
      have t : ((UInt8.toNat 77 : Nat) : Int) = 77 := rfl
      have e : fldB x 77 = numsB x.m := rfl
      rw [e] at hb done
      simp only [joinA, go_sem, reduceIte, Nat.reduceAdd, Nat.reduceSub, Nat.reduceMul, Nat.reducePow, Nat.reduceLT, Nat.reduceLeDiff, Nat.reduceEqDiff, Int.reduceAdd, Int.reduceSub, Int.reduceMul, Int.reduceNeg, Int.reducePow, Int.reduceLT, Int.reduceLE, Int.reduceEq, Int.reduceNe, Int.reduceToNat, Int.toNat_natCast, Nat.zero_add, Nat.add_zero, Nat.mul_one, Nat.one_mul, Bool.not_true, Bool.not_false, ne_eq, not_true_eq_false, not_false_eq_true, Bool.false_eq_true, q, hlen, hix, t, cd gd4]
      refine rnums_w w4 q2 hf o8 hb fun v5 h5 w5 f5 => ?_
      simp only [go_sem, reduceIte, Nat.reduceAdd, Nat.reduceSub, Nat.reduceMul, Nat.reducePow, Nat.reduceLT, Nat.reduceLeDiff, Nat.reduceEqDiff, Int.reduceAdd, Int.reduceSub, Int.reduceMul, Int.reduceNeg, Int.reducePow, Int.reduceLT, Int.reduceLE, Int.reduceEq, Int.reduceNe, Int.reduceToNat, Int.toNat_natCast, Nat.zero_add, Nat.add_zero, Nat.mul_one, Nat.one_mul, Bool.not_true, Bool.not_false, ne_eq, not_true_eq_false, not_false_eq_true, Bool.false_eq_true, en]
      exact done v5 h5 w5 f5
    have n6 : ¬ ((c.toNat : Nat) : Int) = 77 := fn 77 c6
    have e : fldB x c = numsB x.live := by unfold fldB; rw [if_neg c4, if_neg c0, if_neg c1, if_neg c2, if_neg c3, if_neg c5, if_neg c6]
    rw [e] at hb done
    simp only [joinA, go_sem, reduceIte, Nat.reduceAdd, Nat.reduceSub, Nat.reduceMul, Nat.reducePow, Nat.reduceLT, Nat.reduceLeDiff, Nat.reduceEqDiff, Int.reduceAdd, Int.reduceSub, Int.reduceMul, Int.reduceNeg, Int.reducePow, Int.reduceLT, Int.reduceLE, Int.reduceEq, Int.reduceNe, Int.reduceToNat, Int.toNat_natCast, Nat.zero_add, Nat.add_zero, Nat.mul_one, Nat.one_mul, Bool.not_true, Bool.not_false, ne_eq, not_true_eq_false, not_false_eq_true, Bool.false_eq_true, q, hlen, hix, n0, n1, n2, n3, n4, n5, n6, cd gd4]
    refine rnums_w w4 q3 hf o9 hb fun v5 h5 w5 f5 => ?_
    simp only [go_sem, reduceIte, Nat.reduceAdd, Nat.reduceSub, Nat.reduceMul, Nat.reducePow, Nat.reduceLT, Nat.reduceLeDiff, Nat.reduceEqDiff, Int.reduceAdd, Int.reduceSub, Int.reduceMul, Int.reduceNeg, Int.reducePow, Int.reduceLT, Int.reduceLE, Int.reduceEq, Int.reduceNe, Int.reduceToNat, Int.toNat_natCast, Nat.zero_add, Nat.add_zero, Nat.mul_one, Nat.one_mul, Bool.not_true, Bool.not_false, ne_eq, not_true_eq_false, not_false_eq_true, Bool.false_eq_true, en]
    exact done v5 h5 w5 f5
  · have : u.take i = u := List.take_of_length_le (by omega)
    rw [this] at w4
    simp only [go_sem, reduceIte, Nat.reduceAdd, Nat.reduceSub, Nat.reduceMul, Nat.reducePow, Nat.reduceLT, Nat.reduceLeDiff, Nat.reduceEqDiff, Int.reduceAdd, Int.reduceSub, Int.reduceMul, Int.reduceNeg, Int.reducePow, Int.reduceLT, Int.reduceLE, Int.reduceEq, Int.reduceNe, Int.reduceToNat, Int.toNat_natCast, Nat.zero_add, Nat.add_zero, Nat.mul_one, Nat.one_mul, Bool.not_true, Bool.not_false, ne_eq, not_true_eq_false, not_false_eq_true, Bool.false_eq_true, q, hlen]
    exact hJ a h4 w4 f4
end
end Go.Proofs.YtdljelicbnjfjaaGreat.X
set_option linter.unusedVariables false
set_option linter.unusedSimpArgs false
set_option maxRecDepth 20000
namespace Go.Proofs.YtdljelicbnjfjaaGreat.X
open Go Go.RowKit
section
variable {h : H}
theorem le_l {a b : List Nat} {n : Nat} (h : (a ++ b).length ≤ n) : a.length ≤ n := by rw [List.length_append] at h; omega
theorem le_a {a b c : List Nat} {n : Nat} (h : (a ++ (b ++ c)).length ≤ n) : (a ++ b).length ≤ n := by simp only [List.length_append] at h ⊢; omega
theorem le_m {α : Type} {e : α → List Nat} {l : List α} {L : List Nat} {n : Nat} (h : (L ++ manyB e l).length ≤ n) : (L ++ numB l.length).length ≤ n ∧ (L ++ numB l.length ++ l.flatMap e).length ≤ n := by
  unfold manyB at h; simp only [List.length_append] at h ⊢; omega
set_option maxHeartbeats 1000000 in
theorem bytes_w {m : Img} {c : List AV} (r : imgR h m c) (ok : m.ok) (hm : (bytesI m).length ≤ most) {K : AV → H → Prop} (hK : ∀ v h', V h h' v (bytesI m) → K v h') : C 49 [.agg c] h K := by
  refine run49 ?_
  have hl := r.leaves
  have ec : (AV.agg c).cells = c := rfl
  obtain ⟨vt, vs, vx, vn, vf, rfl, r1, r2, r3, r4, r5⟩ := r
  obtain ⟨⟨k1, k1'⟩, ⟨k2, k2'⟩, ⟨k3, k3'⟩, ⟨k4, k4'⟩, ⟨k5, k5'⟩, k6, k7⟩ := ok
  unfold sh49
  rw [ec]
  refine box_r hl fun b hb => ?_
  have f0 : Fr [] h (h.set b (.live [vt, vs, vx, vn, vf, .int .i64 m.main, .int .i64 m.exn] 28 true)) := (Fr.refl _ _).set' hb
  have gb : (h.set b (.live [vt, vs, vx, vn, vf, .int .i64 m.main, .int .i64 m.exn] 28 true)).get b = some (.live [vt, vs, vx, vn, vf, .int .i64 m.main, .int .i64 m.exn] 28 true) := H.get_same ..
  generalize h.set b (.live [vt, vs, vx, vn, vf, .int .i64 m.main, .int .i64 m.exn] 28 true) = h1 at *
  refine lit_head fun p hp => ?_
  have gp : (h1.set p (.live (bc headB) 5 true)).get p = some (.live (bc headB) 5 true) := H.get_same ..
  have ek : keepA (h1.set p (.live (bc headB) 5 true)) (.sl p 0 4 (.exact 4)) = some (.sl p 0 4 (.exact 4)) := by simp only [keepA, gp]; rfl
  rw [ek, valA_some]
  have fp : Fr [] h1 (h1.set p (.live (bc headB) 5 true)) := (Fr.refl _ _).set' hp
  have w2 : V h (h1.set p (.live (bc headB) 5 true)) (.sl p 0 4 (.exact 4)) headB := ⟨.inr ⟨p, rfl, f0.free hp, gp⟩, f0.trans fp⟩
  have f2 := fp.frb
  generalize h1.set p (.live (bc headB) 5 true) = h2 at *
  have cb : ∀ {h5 : H}, FrB h1 h5 → ∀ o v, ([vt, vs, vx, vn, vf, AV.int .i64 m.main, .int .i64 m.exn] : List AV)[o]? = some v → h5.cell b o = some v := fun f o v e => by rw [cell_of (f b _ _ _ (by decide) gb)]; exact e
  unfold bytesI at hm hK
  simp only [List.append_assoc] at hm
  have m1 := le_m (le_a hm)
  rw [← List.append_assoc] at hm
  have m2 := le_m (le_a hm)
  rw [← List.append_assoc] at hm
  have m3 := le_m (le_a hm)
  rw [← List.append_assoc] at hm
  have m4 := le_m (le_a hm)
  rw [← List.append_assoc] at hm
  have m5 := le_m (le_a hm)
  rw [← List.append_assoc] at hm
  have m6 := le_a hm
  rw [← List.append_assoc] at hm
  refine fld_r (cb f2 0 _ rfl) ?_
  rw [r1.len, valA_some]
  refine rnum_w w2 (rg_nat k1) m1.1 fun v3 h3 w3 f3 => ?_
  have f3 := f2.trans f3
  refine join_r (fun (J : AV → H → Prop) => ∀ v h', V h h' v (headB ++ manyB tyB m.types) → FrB h1 h' → J v h') ?_ fun J hJ => ?_
  · intro v h' w f
    refine fld_r (cb f 1 _ rfl) ?_
    rw [r2.len, valA_some]
    refine rnum_w w (rg_nat k2) m2.1 fun v3 h3 w3 f3 => ?_
    have f3 := f.trans f3
    refine join_r (fun (J : AV → H → Prop) => ∀ v h', V h h' v (headB ++ manyB tyB m.types ++ manyB shB m.shapes) → FrB h1 h' → J v h') ?_ fun J hJ => ?_
    · intro v h' w f
      refine fld_r (cb f 2 _ rfl) ?_
      rw [r3.len, valA_some]
      refine rnum_w w (rg_nat k3) m3.1 fun v3 h3 w3 f3 => ?_
      have f3 := f.trans f3
      refine join_r (fun (J : AV → H → Prop) => ∀ v h', V h h' v (headB ++ manyB tyB m.types ++ manyB shB m.shapes ++ manyB textB m.strs) → FrB h1 h' → J v h') ?_ fun J hJ => ?_
      · intro v h' w f
        refine fld_r (cb f 3 _ rfl) ?_
        rw [r4.len, valA_some]
        refine rnum_w w (rg_nat k4) m4.1 fun v3 h3 w3 f3 => ?_
        have f3 := f.trans f3
        refine join_r (fun (J : AV → H → Prop) => ∀ v h', V h h' v (headB ++ manyB tyB m.types ++ manyB shB m.shapes ++ manyB textB m.strs ++ manyB textB m.names) → FrB h1 h' → J v h') ?_ fun J hJ => ?_
        · intro v h' w f
          refine fld_r (cb f 4 _ rfl) ?_
          rw [r5.len, valA_some]
          refine rnum_w w (rg_nat k5) m5.1 fun v3 h3 w3 f3 => ?_
          have f3 := f.trans f3
          refine join_r (fun (J : AV → H → Prop) => ∀ v h', V h h' v (headB ++ manyB tyB m.types ++ manyB shB m.shapes ++ manyB textB m.strs ++ manyB textB m.names ++ manyB fnB m.fns) → FrB h1 h' → J v h') ?_ fun J hJ => ?_
          · intro v h' w f
            have c6 := cb f 6 _ rfl
            refine fld_r (cb f 5 _ rfl) ?_
            refine fld_r c6 ?_
            refine rnum_w w k6 m6 fun v4 h4 w4 f4 => ?_
            simp only [go_sem, reduceIte, Nat.reduceAdd, Nat.reduceSub, Nat.reduceMul, Nat.reducePow, Nat.reduceLT, Nat.reduceLeDiff, Nat.reduceEqDiff, Int.reduceAdd, Int.reduceSub, Int.reduceMul, Int.reduceNeg, Int.reducePow, Int.reduceLT, Int.reduceLE, Int.reduceEq, Int.reduceNe, Int.reduceToNat, Int.toNat_natCast, Nat.zero_add, Nat.add_zero, Nat.mul_one, Nat.one_mul, Bool.not_true, Bool.not_false, ne_eq, not_true_eq_false, not_false_eq_true, Bool.false_eq_true, cb (f.trans f4) 6 _ rfl]
            refine rnum_w w4 k7 hm fun v5 h5 w5 f5 => ?_
            exact hK v5 h5 w5
          · refine fld_r (cb f3 4 _ rfl) ?_
            rw [r5.len, valA_some]
            refine accj_r (h0 := h) (esz := 4) (ty := 39) (zs := [.nilsl, .int .i64 0, .int .i64 0, .nilsl]) (Rel := fnR) (fun r => fnR.leaves r) rfl rfl r5 k5 (Inv := fun i a h2 => V h h2 a (headB ++ manyB tyB m.types ++ manyB shB m.shapes ++ manyB textB m.strs ++ manyB textB m.names ++ numB m.fns.length ++ (m.fns.take i).flatMap fnB) ∧ FrB h1 h2) ⟨by simpa using w3, f3⟩ (fun i a h i1 => i1.1.fr) (fun i a h h' i1 f => ⟨i1.1.keep f, i1.2.trans f.frb⟩) (fun a h2 ⟨i1, i2⟩ => ?_) ?_
            · rw [List.take_length, List.append_assoc] at i1; exact hJ a h2 i1 i2
            · rintro N i x a hx en h4 d c ⟨i1, i2⟩ gd re hc hN
              have hb := part_le fnB hx m5.2
              obtain ⟨vp, vb, rfl, q1, q2⟩ := re
              obtain ⟨o1, o2, o3, o4, o5⟩ := k5' x (List.mem_of_getElem? hx)
              have cd : ∀ {h5 : H}, FrB h4 h5 → ∀ o w, ([vp, AV.int .i64 x.result, .int .i64 x.slots, vb] : List AV)[o]? = some w → h5.cell d o = some w := fun f o w e => by rw [cell_of (f d _ _ _ (by decide) gd)]; exact e
              have hN : ∀ a' h2, V h h2 a' (headB ++ manyB tyB m.types ++ manyB shB m.shapes ++ manyB textB m.strs ++ manyB textB m.names ++ numB m.fns.length ++ (m.fns.take i).flatMap fnB ++ fnB x) → FrB h1 h2 → N a' h2 := fun a' h2 z1 z2 => hN a' h2 ⟨by rw [flat_succ fnB hx, ← List.append_assoc]; exact z1, z2⟩
              generalize headB ++ manyB tyB m.types ++ manyB shB m.shapes ++ manyB textB m.strs ++ manyB textB m.names ++ numB m.fns.length ++ (m.fns.take i).flatMap fnB = L0 at *
              unfold fnB at hb hN
              simp only [← List.append_assoc] at hb hN
              have mb := le_m hb
              refine fld_r (cd (FrB.refl _) 0 _ rfl) ?_
              refine fld_r (cd (FrB.refl _) 1 _ rfl) ?_
              refine fld_r (cd (FrB.refl _) 2 _ rfl) ?_
              refine fld_r (cd (FrB.refl _) 3 _ rfl) ?_
              refine rnums_w i1 q1 (Fr.refl _ _) o1 (le_l (le_l (le_l hb))) fun v5 h5 w5 f5 => ?_
              have c1 := cd f5 1 _ rfl
              have c2 := cd f5 2 _ rfl
              have c3 := cd f5 3 _ rfl
              simp only [faA_p, valA_some, Nat.zero_add, ldA_n, c1, c2, c3, againK_t]
              refine rnum_w w5 o2 (le_l (le_l hb)) fun v6 h6 w6 f6 => ?_
              have f56 := f5.trans f6
              have c2 := cd f56 2 _ rfl
              have c3 := cd f56 3 _ rfl
              simp only [faA_p, valA_some, Nat.zero_add, ldA_n, c2, c3, againK_t]
              refine rnum_w w6 o3 (le_l hb) fun v7 h7 w7 f7 => ?_
              have f57 := f56.trans f7
              have c3 := cd f57 3 _ rfl
              simp only [faA_p, valA_some, Nat.zero_add, ldA_n, c3, againK_t]
              rw [q2.len, valA_some]
              refine rnum_w w7 (rg_nat o4) mb.1 fun v8 h8 w8 f8 => ?_
              have f58 := f57.trans f8
              have c3 := cd f58 3 _ rfl
              rw [c3, valA_some, q2.len, valA_some]
              have i28 := i2.trans f58
              refine accj_r (h0 := h) (esz := 2) (ty := 42) (zs := [.nilsl, .nilsl]) (Rel := blkR) (fun r => blkR.leaves r) rfl rfl q2 o4 (Inv := fun i a h2 => V h h2 a (L0 ++ numsB x.params ++ numB x.result ++ numB x.slots ++ numB x.blocks.length ++ (x.blocks.take i).flatMap blkB) ∧ FrB h1 h2) ⟨by simpa using w8, i28⟩ (fun i a h i1 => i1.1.fr) (fun i a h h' i1 f => ⟨i1.1.keep f, i1.2.trans f.frb⟩) (fun a h2 ⟨i1, i2⟩ => ?_) ?_
              · rw [List.take_length, List.append_assoc] at i1; exact hN a h2 i1 i2
              · rintro N i y a hy en h4 d c ⟨i1, i2⟩ gd re hc hN
                have hb := part_le blkB hy mb.2
                obtain ⟨vi, vc, rfl, p1, p2⟩ := re
                obtain ⟨u1, u2, u3⟩ := o5 y (List.mem_of_getElem? hy)
                have cd : ∀ {h5 : H}, FrB h4 h5 → ∀ o w, ([vi, vc] : List AV)[o]? = some w → h5.cell d o = some w := fun f o w e => by rw [cell_of (f d _ _ _ (by decide) gd)]; exact e
                have hN : ∀ a' h2, V h h2 a' (L0 ++ numsB x.params ++ numB x.result ++ numB x.slots ++ numB x.blocks.length ++ (x.blocks.take i).flatMap blkB ++ blkB y) → FrB h1 h2 → N a' h2 := fun a' h2 z1 z2 => hN a' h2 ⟨by rw [flat_succ blkB hy, ← List.append_assoc]; exact z1, z2⟩
                generalize L0 ++ numsB x.params ++ numB x.result ++ numB x.slots ++ numB x.blocks.length ++ (x.blocks.take i).flatMap blkB = L1 at *
                unfold blkB at hb hN
                simp only [← List.append_assoc] at hb hN
                have mc := le_m hb
                refine fld_r (cd (FrB.refl _) 0 _ rfl) ?_
                refine fld_r (cd (FrB.refl _) 1 _ rfl) ?_
                refine rnums_w i1 p1 (Fr.refl _ _) u1 (le_l hb) fun v5 h5 w5 f5 => ?_
                have c1 := cd f5 1 _ rfl
                simp only [faA_p, valA_some, Nat.zero_add, ldA_n, c1, againK_t]
                rw [p2.len, valA_some]
                refine rnum_w w5 (rg_nat u2) mc.1 fun v6 h6 w6 f6 => ?_
                have f56 := f5.trans f6
                rw [cd f56 1 _ rfl, valA_some, p2.len, valA_some]
                have i26 := i2.trans f56
                refine acc_r (h0 := h) (esz := 9) (ty := 55) (zs := [.int .i64 0, .int .i64 0, .int .i64 0, .int .i64 0, .int .i64 0, .int .i64 0, .nilsl, .nilsl, .nilsl]) (Rel := insR) (fun r => insR.leaves r) rfl rfl p2 u2 (Inv := fun i a h2 => V h h2 a (L1 ++ numsB y.inn ++ numB y.code.length ++ (y.code.take i).flatMap insB) ∧ FrB h1 h2) ⟨by simpa using w6, i26⟩ (fun i a h i1 => i1.1.fr) (fun i a h h' i1 f => ⟨i1.1.keep f, i1.2.trans f.frb⟩) (fun a h2 ⟨i1, i2⟩ => ?_) ?_
                · rw [List.take_length, List.append_assoc] at i1; exact hN a h2 i1 i2
                · rintro N i z a hz en h4 d c ⟨i1, i2⟩ gd re hc hN
                  have hb := part_le insB hz mc.2
                  rw [ldA_read (H.read_eq gd (by omega) (by rw [List.drop_zero, List.take_of_length_le (by omega)])), valA_some]
                  refine rinstr_w i1 re (Fr.refl _ _) (u3 z (List.mem_of_getElem? hz)) hb fun v5 h5 w5 f5 => ?_
                  rw [b_add, en, valA_some]
                  exact hN v5 h5 ⟨by rw [flat_succ insB hz, ← List.append_assoc]; exact w5, i2.trans f5⟩
        · refine fld_r (cb f3 3 _ rfl) ?_
          rw [r4.len, valA_some]
          refine acc1_r (h0 := h) (strs_row r4) k4 (Inv := fun i a h2 => V h h2 a (headB ++ manyB tyB m.types ++ manyB shB m.shapes ++ manyB textB m.strs ++ numB m.names.length ++ (m.names.take i).flatMap textB) ∧ FrB h1 h2) ⟨by simpa using w3, f3⟩ (fun i a h i1 => i1.1.fr) (fun a h2 ⟨i1, i2⟩ => ?_) ?_
          · rw [List.take_length, List.append_assoc] at i1; exact hJ a h2 i1 i2
          · rintro N i x a hx en h4 ⟨i1, i2⟩ hN
            have hb := part_le textB hx m4.2
            refine rtext_w i1 (k4' x (List.mem_of_getElem? hx)) hb fun v5 h5 w5 f5 => ?_
            rw [b_add, en, valA_some]
            exact hN v5 h5 ⟨by rw [flat_succ textB hx, ← List.append_assoc]; exact w5, i2.trans f5⟩
      · refine fld_r (cb f3 2 _ rfl) ?_
        rw [r3.len, valA_some]
        refine acc1_r (h0 := h) (strs_row r3) k3 (Inv := fun i a h2 => V h h2 a (headB ++ manyB tyB m.types ++ manyB shB m.shapes ++ numB m.strs.length ++ (m.strs.take i).flatMap textB) ∧ FrB h1 h2) ⟨by simpa using w3, f3⟩ (fun i a h i1 => i1.1.fr) (fun a h2 ⟨i1, i2⟩ => ?_) ?_
        · rw [List.take_length, List.append_assoc] at i1; exact hJ a h2 i1 i2
        · rintro N i x a hx en h4 ⟨i1, i2⟩ hN
          have hb := part_le textB hx m3.2
          refine rtext_w i1 (k3' x (List.mem_of_getElem? hx)) hb fun v5 h5 w5 f5 => ?_
          rw [b_add, en, valA_some]
          exact hN v5 h5 ⟨by rw [flat_succ textB hx, ← List.append_assoc]; exact w5, i2.trans f5⟩
    · refine fld_r (cb f3 1 _ rfl) ?_
      rw [r2.len, valA_some]
      refine acc_r (h0 := h) (esz := 3) (ty := 61) (zs := [.int .i64 0, .nilsl, .str []]) (Rel := shR) (fun r => shR.leaves r) rfl rfl r2 k2 (Inv := fun i a h2 => V h h2 a (headB ++ manyB tyB m.types ++ numB m.shapes.length ++ (m.shapes.take i).flatMap shB) ∧ FrB h1 h2) ⟨by simpa using w3, f3⟩ (fun i a h i1 => i1.1.fr) (fun i a h h' i1 f => ⟨i1.1.keep f, i1.2.trans f.frb⟩) (fun a h2 ⟨i1, i2⟩ => ?_) ?_
      · rw [List.take_length, List.append_assoc] at i1; exact hJ a h2 i1 i2
      · rintro N i x a hx en h4 d c ⟨i1, i2⟩ gd re hc hN
        have hb := part_le shB hx m2.2
        obtain ⟨v, rfl, rr⟩ := re
        obtain ⟨o1, o2, o3⟩ := k2' x (List.mem_of_getElem? hx)
        have cd : ∀ {h5 : H}, FrB h4 h5 → ∀ o w, ([AV.int .i64 x.kind, v, .str x.name] : List AV)[o]? = some w → h5.cell d o = some w := fun f o w e => by rw [cell_of (f d _ _ _ (by decide) gd)]; exact e
        unfold shB at hb
        simp only [← List.append_assoc] at hb
        refine fld_r (cd (FrB.refl _) 0 _ rfl) ?_
        refine fld_r (cd (FrB.refl _) 1 _ rfl) ?_
        refine fld_r (cd (FrB.refl _) 2 _ rfl) ?_
        refine rnum_w i1 o1 (le_l (le_l hb)) fun v5 h5 w5 f5 => ?_
        simp only [go_sem, reduceIte, Nat.reduceAdd, Nat.reduceSub, Nat.reduceMul, Nat.reducePow, Nat.reduceLT, Nat.reduceLeDiff, Nat.reduceEqDiff, Int.reduceAdd, Int.reduceSub, Int.reduceMul, Int.reduceNeg, Int.reducePow, Int.reduceLT, Int.reduceLE, Int.reduceEq, Int.reduceNe, Int.reduceToNat, Int.toNat_natCast, Nat.zero_add, Nat.add_zero, Nat.mul_one, Nat.one_mul, Bool.not_true, Bool.not_false, ne_eq, not_true_eq_false, not_false_eq_true, Bool.false_eq_true, cd f5 1 _ rfl, cd f5 2 _ rfl]
        refine rnums_w w5 rr (Fr.refl _ _) o2 (le_l hb) fun v6 h6 w6 f6 => ?_
        simp only [go_sem, reduceIte, Nat.reduceAdd, Nat.reduceSub, Nat.reduceMul, Nat.reducePow, Nat.reduceLT, Nat.reduceLeDiff, Nat.reduceEqDiff, Int.reduceAdd, Int.reduceSub, Int.reduceMul, Int.reduceNeg, Int.reducePow, Int.reduceLT, Int.reduceLE, Int.reduceEq, Int.reduceNe, Int.reduceToNat, Int.toNat_natCast, Nat.zero_add, Nat.add_zero, Nat.mul_one, Nat.one_mul, Bool.not_true, Bool.not_false, ne_eq, not_true_eq_false, not_false_eq_true, Bool.false_eq_true, cd (f5.trans f6) 2 _ rfl]
        refine rtext_w w6 o3 hb fun v7 h7 w7 f7 => ?_
        simp only [go_sem, reduceIte, Nat.reduceAdd, Nat.reduceSub, Nat.reduceMul, Nat.reducePow, Nat.reduceLT, Nat.reduceLeDiff, Nat.reduceEqDiff, Int.reduceAdd, Int.reduceSub, Int.reduceMul, Int.reduceNeg, Int.reducePow, Int.reduceLT, Int.reduceLE, Int.reduceEq, Int.reduceNe, Int.reduceToNat, Int.toNat_natCast, Nat.zero_add, Nat.add_zero, Nat.mul_one, Nat.one_mul, Bool.not_true, Bool.not_false, ne_eq, not_true_eq_false, not_false_eq_true, Bool.false_eq_true, en]
        refine hN v7 h7 ⟨?_, ((i2.trans f5).trans f6).trans f7⟩
        rw [flat_succ shB hx, show shB x = numB x.kind ++ numsB x.fs ++ textB x.name from rfl]; simp only [List.append_assoc] at w7 ⊢; exact w7
  · refine fld_r (cb f3 0 _ rfl) ?_
    rw [r1.len, valA_some]
    refine acc_r (h0 := h) (esz := 2) (ty := 46) (zs := [.bool false, .nilsl]) (Rel := tyR) (fun r => tyR.leaves r) rfl rfl r1 k1 (Inv := fun i a h2 => V h h2 a (headB ++ numB m.types.length ++ (m.types.take i).flatMap tyB) ∧ FrB h1 h2) ⟨by simpa using w3, f3⟩ (fun i a h i1 => i1.1.fr) (fun i a h h' i1 f => ⟨i1.1.keep f, i1.2.trans f.frb⟩) (fun a h2 ⟨i1, i2⟩ => ?_) ?_
    · rw [List.take_length, List.append_assoc] at i1; exact hJ a h2 i1 i2
    · rintro N i x a hx en h4 d c ⟨i1, i2⟩ gd re hc hN
      have hb := part_le tyB hx m1.2
      obtain ⟨v, rfl, rr⟩ := re
      have cd : ∀ {h5 : H}, FrB h4 h5 → ∀ o w, ([AV.bool x.imm, v] : List AV)[o]? = some w → h5.cell d o = some w := fun f o w e => by rw [cell_of (f d _ _ _ (by decide) gd)]; exact e
      have c0 := cd (FrB.refl _) 0 _ rfl
      have c1 := cd (FrB.refl _) 1 _ rfl
      unfold tyB at hb
      rw [← List.append_assoc] at hb
      have st : ∀ n : Int, n = (if x.imm then 1 else 0) → valA (faA 1 (.ptr d 0)) h4 fun t37 h => valA (ldA h none t37) h fun t38 h => C 92 [a, .int .i64 n] h fun t36 h => againK (valA (ldA h none t37) h (fun v _ => v = t38)) <| C 93 [t36, t38] h fun t39 h => valA (binOp .add .num (.int .i64 i) (.int .i64 1)) h fun t40 h => N [t39, t40] h := by
        rintro n rfl
        simp only [go_sem, reduceIte, Nat.reduceAdd, Nat.reduceSub, Nat.reduceMul, Nat.reducePow, Nat.reduceLT, Nat.reduceLeDiff, Nat.reduceEqDiff, Int.reduceAdd, Int.reduceSub, Int.reduceMul, Int.reduceNeg, Int.reducePow, Int.reduceLT, Int.reduceLE, Int.reduceEq, Int.reduceNe, Int.reduceToNat, Int.toNat_natCast, Nat.zero_add, Nat.add_zero, Nat.mul_one, Nat.one_mul, Bool.not_true, Bool.not_false, ne_eq, not_true_eq_false, not_false_eq_true, Bool.false_eq_true, c1]
        refine rnum_w i1 (by unfold rg; split <;> omega) (le_l hb) fun v5 h5 w5 f5 => ?_
        simp only [go_sem, reduceIte, Nat.reduceAdd, Nat.reduceSub, Nat.reduceMul, Nat.reducePow, Nat.reduceLT, Nat.reduceLeDiff, Nat.reduceEqDiff, Int.reduceAdd, Int.reduceSub, Int.reduceMul, Int.reduceNeg, Int.reducePow, Int.reduceLT, Int.reduceLE, Int.reduceEq, Int.reduceNe, Int.reduceToNat, Int.toNat_natCast, Nat.zero_add, Nat.add_zero, Nat.mul_one, Nat.one_mul, Bool.not_true, Bool.not_false, ne_eq, not_true_eq_false, not_false_eq_true, Bool.false_eq_true, cd f5 1 _ rfl]
        refine rnums_w w5 rr (Fr.refl _ _) (k1' x (List.mem_of_getElem? hx)) hb fun v6 h6 w6 f6 => ?_
        simp only [go_sem, reduceIte, Nat.reduceAdd, Nat.reduceSub, Nat.reduceMul, Nat.reducePow, Nat.reduceLT, Nat.reduceLeDiff, Nat.reduceEqDiff, Int.reduceAdd, Int.reduceSub, Int.reduceMul, Int.reduceNeg, Int.reducePow, Int.reduceLT, Int.reduceLE, Int.reduceEq, Int.reduceNe, Int.reduceToNat, Int.toNat_natCast, Nat.zero_add, Nat.add_zero, Nat.mul_one, Nat.one_mul, Bool.not_true, Bool.not_false, ne_eq, not_true_eq_false, not_false_eq_true, Bool.false_eq_true, en]
        refine hN v6 h6 ⟨?_, (i2.trans f5).trans f6⟩
        rw [flat_succ tyB hx, show tyB x = numB (if x.imm then 1 else 0) ++ numsB x.sh from rfl]; simp only [List.append_assoc] at w6 ⊢; exact w6
      cases hi : x.imm with
      | true => rw [hi] at c0; simp only [joinA, faA_p, valA_some, ldA_n, Nat.zero_add, c0, condA_t]; exact st 1 (by rw [hi]; rfl)
      | false => rw [hi] at c0; simp only [joinA, faA_p, valA_some, ldA_n, Nat.zero_add, c0, condA_f]; exact st 0 (by rw [hi]; rfl)
end
end Go.Proofs.YtdljelicbnjfjaaGreat.X
set_option linter.unusedVariables false
set_option linter.unusedSimpArgs false
set_option maxRecDepth 20000
namespace Go.Proofs.YtdljelicbnjfjaaGreat.X
open Go Go.RowKit
def sumN {α : Type} (w : α → Nat) (l : List α) : Nat := (l.map w).sum
def wTy (t : Ty) : Nat := t.sh.length
def wShp (s : Shp) : Nat := s.fs.length + s.name.length
def wStr (s : List UInt8) : Nat := s.length
def wIns (x : Ins) : Nat := x.l.length + x.m.length + x.live.length
def wBlk (b : Blk) : Nat := b.inn.length + b.code.length + sumN wIns b.code
def wFn (f : Fn) : Nat := f.params.length + f.blocks.length + sumN wBlk f.blocks
def wImg (m : Img) : Nat := m.types.length + m.shapes.length + m.strs.length + m.names.length + m.fns.length + sumN wTy m.types + sumN wShp m.shapes + sumN wStr (m.strs ++ m.names) + sumN wFn m.fns
theorem sum_succ {α : Type} (w : α → Nat) {l : List α} {i : Nat} {x : α} (h : l[i]? = some x) : sumN w (l.take (i + 1)) = sumN w (l.take i) + w x := by
  unfold sumN
  rw [List.take_add_one, h, List.map_append, List.sum_append]; simp
section
variable {h : H}
theorem app_new {m0 n : Nat} {y : AV} {cs : List AV} (g : h.get m0 = some (.live [] 9 true)) (hs : srcA h 1 y = some (n, cs)) (hc : cs.length = n) (hl : leaves cs = true) (hb : n * 16 ≤ most) {K : AV → H → Prop}
    (h0 : n = 0 → K (.sl m0 0 0 (.exact 0)) h) (hK : ∀ v h', Own h h' 9 1 v n cs → Fr [] h h' → K v h') : appendA h 9 1 16 (.sl m0 0 0 (.exact 0)) y K := by
  unfold appendA
  rw [hs]
  simp only
  by_cases q : n = 0
  · rw [if_pos q]; exact h0 q
  · rw [if_neg q, if_neg (by omega)]
    refine ⟨by omega, ?_⟩
    rw [Nat.zero_mul, show h.read m0 0 0 = some [] from H.read_eq g (by simp) rfl]
    simp only [List.nil_append, Nat.zero_add]
    exact ⟨hl, fun b hb => hK _ _ ⟨by omega, .inr ⟨b, rfl, hb, H.get_same ..⟩⟩ ((Fr.refl _ _).set' hb)⟩
theorem two_rows {vx vn : AV} {l1 l2 : List (List UInt8)} (r1 : Row h vx l1.length 1 (l1.map AV.str)) (r2 : Row h vn l2.length 1 (l2.map AV.str)) (b1 : l1.length ≤ lim) (b2 : l2.length ≤ lim) {P : H → Prop} {K : AV → H → Prop}
    (hP : ∀ h', Fr [] h h' → P h') (hK : ∀ v h', Fr [] h h' → Row h' v (l1 ++ l2).length 1 ((l1 ++ l2).map AV.str) → K v h') :
    mkslA h 9 0 (fillV [] []) fun t70 h => appendA h 9 1 16 t70 vx fun t73 h => againK (P h) <| appendA h 9 1 16 t73 vn fun t76 h => K t76 h := by
  have hs : ∀ l : List (List UInt8), leaves (l.map AV.str) = true := fun l => leaves_map _ (fun _ => rfl) l
  unfold lim at b1 b2
  have hmost : most = 140737488355328 := rfl
  refine ⟨rfl, fun m0 hm0 => ?_⟩
  have f1 : Fr [] h (h.set m0 (.live [] 9 true)) := (Fr.refl _ _).set' hm0
  have g0 : (h.set m0 (.live [] 9 true)).get m0 = some (.live [] 9 true) := H.get_same ..
  change appendA (h.set m0 (.live [] 9 true)) 9 1 16 (.sl m0 0 0 (.exact 0)) vx _
  generalize h.set m0 (.live [] 9 true) = h1 at *
  have r1' := r1.fr f1
  have r2' := r2.fr f1
  refine app_new g0 r1'.src (by simp) (hs _) (by omega) (fun q => ?_) fun v2 h2 o2 f2 => ?_
  · have e1 : l1 = [] := List.eq_nil_of_length_eq_zero q
    subst e1
    rw [show P h1 = True from eq_true (hP h1 f1), againK_t]
    refine app_new g0 r2'.src (by simp) (hs _) (by omega) (fun q => ?_) fun v3 h3 o3 f3 => ?_
    · have e2 : l2 = [] := List.eq_nil_of_length_eq_zero q
      subst e2
      exact hK _ _ f1 ⟨rfl, .inr ⟨m0, 0, _, rfl, rfl, H.read_eq g0 (by simp) rfl⟩⟩
    · exact hK _ _ (f1.trans f3) (by simpa using o3.row)
  · have r2'' := r2'.fr f2
    rw [show P h2 = True from eq_true (hP h2 (f1.trans f2)), againK_t]
    refine append_own o2 r2''.src (by simp) (by decide) (hs _) (hs _) f2 (by omega) fun v3 h3 o3 f3 _ => ?_
    refine hK _ _ (f1.trans f3) ?_
    rw [List.length_append, List.map_append]; exact o3.row
/-- Counted down, so far. -/
def Cnt {α : Type} (h0 : H) (n0 : Int) (w : α → Nat) (l : List α) (i : Nat) (a : AV) (h : H) : Prop := ∃ n : Int, a = .int .i64 n ∧ n = n0 - (sumN w (l.take i) : Nat) ∧ -4503599627370496 ≤ n ∧ n0 ≤ 40000 ∧ Fr [] h0 h
theorem Cnt.zero {α : Type} {h0 : H} {n0 : Int} {w : α → Nat} {l : List α} (h1 : -4503599627370496 ≤ n0) (h2 : n0 ≤ 40000) (f : Fr [] h0 h) : Cnt h0 n0 w l 0 (.int .i64 n0) h := ⟨n0, rfl, by simp [sumN], h1, h2, f⟩
theorem Cnt.fin {α : Type} {h0 : H} {n0 : Int} {w : α → Nat} {l : List α} {a : AV} (c : Cnt h0 n0 w l l.length a h) : ∃ n : Int, a = .int .i64 n ∧ n = n0 - (sumN w l : Nat) ∧ -4503599627370496 ≤ n ∧ n ≤ 40000 ∧ Fr [] h0 h := by
  obtain ⟨n, h1, h2, h3, h4, h5⟩ := c
  rw [List.take_length] at h2
  exact ⟨n, h1, h2, h3, by omega, h5⟩
/-- One step down, or out. -/
theorem down_r {n d : Int} (h1 : -4503599627370496 ≤ n) (h2 : n ≤ 40000) (hd : 0 ≤ d) (hb : d ≤ 4503599627370496) {Y : AV → H → Prop} {out : H → Prop}
    (hX : out h) (hY : 0 ≤ n - d → Y (.int .i64 (n - d)) h) :
    valA (binOp .sub .num (.int .i64 n) (.int .i64 d)) h fun t47 h => valA (binOp .lss .num t47 (.int .i64 0)) h fun t49 h => condA t49 (out h) (Y t47 h) := by
  have e : IntKind.i64.wrap (n - d) = n - d := i64_id (by omega) (by omega)
  rw [b_sub, e, valA_some, b_lss, valA_some]
  by_cases q : n - d < 0
  · rw [decide_eq_true q, condA_t]; exact hX
  · rw [decide_eq_false q, condA_f]
    exact hY (by omega)
theorem Cnt.succ {α : Type} {h0 : H} {n0 : Int} {w : α → Nat} {l : List α} {i : Nat} {x : α} (hx : l[i]? = some x) {n : Int} (hn : n = n0 - (sumN w (l.take i) : Nat)) {n' : Int} (hn' : n' = n - (w x : Nat)) (h1 : -4503599627370496 ≤ n') (h2 : n0 ≤ 40000) (f : Fr [] h0 h) : Cnt h0 n0 w l (i + 1) (.int .i64 n') h :=
  ⟨n', rfl, by rw [sum_succ w hx]; omega, h1, h2, f⟩
theorem Cnt.keep {α : Type} {h0 h' : H} {n0 : Int} {w : α → Nat} {l : List α} {i : Nat} {a : AV} (c : Cnt h0 n0 w l i a h) (f : Fr [] h h') : Cnt h0 n0 w l i a h' := by
  obtain ⟨n, h1, h2, h3, h4, h5⟩ := c
  exact ⟨n, h1, h2, h3, h4, h5.trans f⟩
theorem Cnt.fr {α : Type} {h0 : H} {n0 : Int} {w : α → Nat} {l : List α} {i : Nat} {a : AV} (c : Cnt h0 n0 w l i a h) : Fr [] h0 h := by
  obtain ⟨n, h1, h2, h3, h4, h5⟩ := c; exact h5
theorem reach_47 : reachBytes = 140737488351232 := rfl
set_option maxHeartbeats 1000000 in
theorem light_c {m : Img} {c : List AV} (r : imgR h m c) (ok : m.ok) (b3 : m.strs.length ≤ lim) (b4 : m.names.length ≤ lim) {K : AV → H → Prop} (hK : ∀ h' b, Fr [] h h' → (b = true → wImg m ≤ 40000) → K (.bool b) h') : C 17 [.agg c] h K := by
  refine run17 ?_
  have hl := r.leaves
  have ec : (AV.agg c).cells = c := rfl
  obtain ⟨vt, vs, vx, vn, vf, rfl, r1, r2, r3, r4, r5⟩ := r
  obtain ⟨⟨k1, k1'⟩, ⟨k2, k2'⟩, ⟨k3, k3'⟩, ⟨k4, k4'⟩, ⟨k5, k5'⟩, k6, k7⟩ := ok
  rw [reach_47] at k1 k2 k3 k4 k5
  have reach : ∀ {n : Nat}, n ≤ 140737488351232 → n ≤ reachBytes := fun h => by rw [reach_47]; exact h
  have out : ∀ {h'}, Fr [] h h' → K (.bool false) h' := fun f => hK _ false f (by simp)
  unfold sh17
  rw [ec]
  refine box_r hl fun b hb => ?_
  have f0 : Fr [] h (h.set b (.live [vt, vs, vx, vn, vf, .int .i64 m.main, .int .i64 m.exn] 28 true)) := (Fr.refl _ _).set' hb
  have gb : (h.set b (.live [vt, vs, vx, vn, vf, .int .i64 m.main, .int .i64 m.exn] 28 true)).get b = some (.live [vt, vs, vx, vn, vf, .int .i64 m.main, .int .i64 m.exn] 28 true) := H.get_same ..
  have r1 := r1.mono f0 fun _ _ _ => tyR.fr f0
  have r2 := r2.mono f0 fun _ _ _ => shR.fr f0
  have r3 := r3.mono f0 fun _ _ _ x => x
  have r4 := r4.mono f0 fun _ _ _ x => x
  have r5 := r5.mono f0 fun _ _ _ => fnR.fr f0
  generalize h.set b (.live [vt, vs, vx, vn, vf, .int .i64 m.main, .int .i64 m.exn] 28 true) = h1 at *
  have cb : ∀ {h5 : H}, Fr [] h1 h5 → ∀ o v, ([vt, vs, vx, vn, vf, AV.int .i64 m.main, .int .i64 m.exn] : List AV)[o]? = some v → h5.cell b o = some v := fun f o v e => by rw [cell_of (f b _ (by simp) gb)]; exact e
  have w1 : IntKind.i64.wrap (40000 - (m.types.length : Int)) = 40000 - m.types.length := i64_id (by omega) (by omega)
  have w2 : IntKind.i64.wrap (40000 - (m.types.length : Int) - m.shapes.length) = 40000 - m.types.length - m.shapes.length := i64_id (by omega) (by omega)
  have w3 : IntKind.i64.wrap (40000 - (m.types.length : Int) - m.shapes.length - m.strs.length) = 40000 - m.types.length - m.shapes.length - m.strs.length := i64_id (by omega) (by omega)
  have w4 : IntKind.i64.wrap (40000 - (m.types.length : Int) - m.shapes.length - m.strs.length - m.names.length) = 40000 - m.types.length - m.shapes.length - m.strs.length - m.names.length := i64_id (by omega) (by omega)
  have w5 : IntKind.i64.wrap (40000 - (m.types.length : Int) - m.shapes.length - m.strs.length - m.names.length - m.fns.length) = 40000 - m.types.length - m.shapes.length - m.strs.length - m.names.length - m.fns.length := i64_id (by omega) (by omega)
  have fR := Fr.refl [] h1
  refine fld_r (cb fR 0 _ rfl) ?_
  rw [r1.len, valA_some, b_sub, w1, valA_some]
  refine fld_r (cb fR 1 _ rfl) ?_
  rw [r2.len, valA_some, b_sub, w2, valA_some]
  refine fld_r (cb fR 2 _ rfl) ?_
  rw [r3.len, valA_some, b_sub, w3, valA_some]
  refine fld_r (cb fR 3 _ rfl) ?_
  rw [r4.len, valA_some, b_sub, w4, valA_some]
  refine fld_r (cb fR 4 _ rfl) ?_
  rw [r5.len, valA_some, b_sub, w5, valA_some]
  obtain ⟨n0, hn0⟩ : ∃ n0 : Int, 40000 - (m.types.length : Int) - m.shapes.length - m.strs.length - m.names.length - m.fns.length = n0 := ⟨_, rfl⟩
  rw [hn0]
  refine join_r (fun (J : AV → H → Prop) => ∀ n h', Fr [] h1 h' → n = n0 - (sumN wTy m.types : Nat) → -4503599627370496 ≤ n → n ≤ 40000 → J (.int .i64 n) h') ?_ fun J hJ => ?_
  · intro n h2 f2 e2 e2' e2''
    refine join_r (fun (J : AV → H → Prop) => ∀ n' h', Fr [] h1 h' → n' = n - (sumN wShp m.shapes : Nat) → -4503599627370496 ≤ n' → n' ≤ 40000 → J (.int .i64 n') h') ?_ fun J hJ => ?_
    · intro n3 h3 f3 e3 e3' e3''
      refine join_r (fun (J : AV → H → Prop) => ∀ n' h', Fr [] h1 h' → n' = n3 - (sumN wStr (m.strs ++ m.names) : Nat) → -4503599627370496 ≤ n' → n' ≤ 40000 → J (.int .i64 n') h') ?_ fun J hJ => ?_
      · intro n4 h4 f4 e4 e4' e4''
        refine join_r (fun (J : AV → H → Prop) => ∀ n' h', Fr [] h1 h' → n' = n4 - (sumN wFn m.fns : Nat) → J (.int .i64 n') h') ?_ fun J hJ => ?_
        · intro n5 h5 f5 e5
          rw [b_geq, valA_some]
          refine hK h5 _ (f0.trans f5) fun q => ?_
          have q := of_decide_eq_true q
          unfold wImg; omega
        · refine fld_r (cb f4 4 _ rfl) ?_
          rw [r5.len, valA_some]
          refine accj_r (h0 := h1) (esz := 4) (ty := 39) (zs := [.nilsl, .int .i64 0, .int .i64 0, .nilsl]) (Rel := fnR) (fun r => fnR.leaves r) rfl rfl r5 (reach k5) (Inv := Cnt h1 n4 wFn m.fns) (Cnt.zero e4' e4'' f4) (fun i a h i1 => i1.fr) (fun i a h h' i1 f => i1.keep f) (fun a h2 i1 => ?_) ?_
          · obtain ⟨n, rfl, e, _, _, f⟩ := i1.fin; exact hJ n h2 f e
          · rintro N i x a hx en h5 d c ⟨n, rfl, en1, en2, en3, f5⟩ gd re hc hN
            obtain ⟨vp, vb, rfl, q1, q2⟩ := re
            obtain ⟨o1, o2, o3, o4, o5⟩ := k5' x (List.mem_of_getElem? hx)
            have o1 := o1.1
            rw [reach_47] at o1 o4
            have cd : ∀ {h6 : H}, Fr [] h5 h6 → ∀ o w, ([vp, AV.int .i64 x.result, .int .i64 x.slots, vb] : List AV)[o]? = some w → h6.cell d o = some w := fun f o w e => by rw [cell_of (f d _ (by simp) gd)]; exact e
            have ea : IntKind.i64.wrap ((x.params.length : Int) + x.blocks.length) = x.params.length + x.blocks.length := i64_id (by omega) (by omega)
            refine fld_r (cd (Fr.refl _ _) 0 _ rfl) ?_
            rw [q1.len, valA_some]
            refine fld_r (cd (Fr.refl _ _) 3 _ rfl) ?_
            rw [q2.len, valA_some, b_add, ea, valA_some]
            refine down_r (d := (x.params.length : Int) + x.blocks.length) en2 (by omega) (by omega) (by omega) ?_ fun hge => ?_
            · exact out (f0.trans f5)
            refine fld_r (cd (Fr.refl _ _) 3 _ rfl) ?_
            rw [q2.len, valA_some]
            refine accj_r (h0 := h1) (esz := 2) (ty := 42) (zs := [.nilsl, .nilsl]) (Rel := blkR) (fun r => blkR.leaves r) rfl rfl q2 (reach o4) (Inv := Cnt h1 (n - ((x.params.length : Int) + x.blocks.length)) wBlk x.blocks) (Cnt.zero (by omega) (by omega) f5) (fun i a h i1 => i1.fr) (fun i a h h' i1 f => i1.keep f) (fun a h2 i1 => ?_) ?_
            · obtain ⟨n', rfl, e, e', _, f⟩ := i1.fin
              exact hN _ h2 (Cnt.succ hx en1 (by unfold wFn; omega) e' en3 f)
            · rintro N i y a hy en h6 d c ⟨n, rfl, en1, en2, en3, f6⟩ gd re hc hN
              obtain ⟨vi, vc, rfl, p1, p2⟩ := re
              obtain ⟨u1, u2, u3⟩ := o5 y (List.mem_of_getElem? hy)
              have u1 := u1.1
              rw [reach_47] at u1 u2
              have cd : ∀ {h7 : H}, Fr [] h6 h7 → ∀ o w, ([vi, vc] : List AV)[o]? = some w → h7.cell d o = some w := fun f o w e => by rw [cell_of (f d _ (by simp) gd)]; exact e
              have ea : IntKind.i64.wrap ((y.inn.length : Int) + y.code.length) = y.inn.length + y.code.length := i64_id (by omega) (by omega)
              refine fld_r (cd (Fr.refl _ _) 0 _ rfl) ?_
              rw [p1.len, valA_some]
              refine fld_r (cd (Fr.refl _ _) 1 _ rfl) ?_
              rw [p2.len, valA_some, b_add, ea, valA_some]
              refine down_r (d := (y.inn.length : Int) + y.code.length) en2 (by omega) (by omega) (by omega) ?_ fun hge => ?_
              · exact out (f0.trans f6)
              refine fld_r (cd (Fr.refl _ _) 1 _ rfl) ?_
              rw [p2.len, valA_some]
              refine acc_r (h0 := h1) (esz := 9) (ty := 55) (zs := [.int .i64 0, .int .i64 0, .int .i64 0, .int .i64 0, .int .i64 0, .int .i64 0, .nilsl, .nilsl, .nilsl]) (Rel := insR) (fun r => insR.leaves r) rfl rfl p2 (reach u2) (Inv := Cnt h1 (n - ((y.inn.length : Int) + y.code.length)) wIns y.code) (Cnt.zero (by omega) (by omega) f6) (fun i a h i1 => i1.fr) (fun i a h h' i1 f => i1.keep f) (fun a h2 i1 => ?_) ?_
              · obtain ⟨n', rfl, e, e', _, f⟩ := i1.fin
                exact hN _ h2 (Cnt.succ hy en1 (by unfold wBlk; omega) e' en3 f)
              · rintro N i z a hz en h7 d c ⟨n, rfl, en1, en2, en3, f7⟩ gd re hc hN
                obtain ⟨vl, vm, vv, rfl, z1, z2, z3⟩ := re
                obtain ⟨_, t1, t2, t3⟩ := u3 z (List.mem_of_getElem? hz)
                have t1 := t1.1
                have t2 := t2.1
                have t3 := t3.1
                rw [reach_47] at t1 t2 t3
                have cd : ∀ o w, ([AV.int .i64 z.op, .int .i64 z.d, .int .i64 z.a, .int .i64 z.b, .int .i64 z.c, .int .i64 z.n, vl, vm, vv] : List AV)[o]? = some w → h7.cell d o = some w := fun o w e => by rw [cell_of gd]; exact e
                have ea : IntKind.i64.wrap ((z.l.length : Int) + z.m.length) = z.l.length + z.m.length := i64_id (by omega) (by omega)
                have eb : IntKind.i64.wrap ((z.l.length : Int) + z.m.length + z.live.length) = z.l.length + z.m.length + z.live.length := i64_id (by omega) (by omega)
                refine fld_r (cd 6 _ rfl) ?_
                rw [z1.len, valA_some]
                refine fld_r (cd 7 _ rfl) ?_
                rw [z2.len, valA_some, b_add, ea, valA_some]
                refine fld_r (cd 8 _ rfl) ?_
                rw [z3.len, valA_some, b_add, eb, valA_some]
                refine down_r (d := (z.l.length : Int) + z.m.length + z.live.length) en2 (by omega) (by omega) (by omega) ?_ fun hge => ?_
                · exact out (f0.trans f7)
                rw [b_add, en, valA_some]
                exact hN _ h7 (Cnt.succ hz en1 (by unfold wIns; omega) (by omega) en3 f7)
      · refine fld_r (cb f3 2 _ rfl) ?_
        refine fld_r (cb f3 3 _ rfl) ?_
        refine two_rows ((strs_row r3).fr f3) ((strs_row r4).fr f3) b3 b4 (fun h' f' => ?_) fun v h4 f4 rv => ?_
        · rw [ldA_n, Nat.zero_add, cb (f3.trans f') 3 _ rfl]; rfl
        · rw [rv.len, valA_some]
          have f14 := f3.trans f4
          refine acc1_r (h0 := h4) rv (by rw [reach_47]; unfold lim at b3 b4; simp only [List.length_append]; omega) (Inv := Cnt h4 n3 wStr (m.strs ++ m.names)) (Cnt.zero e3' e3'' (Fr.refl _ _)) (fun i a h i1 => i1.fr) (fun a h2 i1 => ?_) ?_
          · obtain ⟨n, rfl, e, e', e'', f⟩ := i1.fin; exact hJ n h2 (f14.trans f) e e' e''
          · rintro N i x a hx en h5 ⟨n, rfl, en1, en2, en3, f5⟩ hN
            have hx' : x.length ≤ 140737488351232 := by
              rw [← reach_47]
              rcases List.mem_append.1 (List.mem_of_getElem? hx) with q | q
              · exact k3' x q
              · exact k4' x q
            rw [show lenA true (.str x) = some (.int .i64 x.length) from rfl, valA_some]
            refine down_r (d := (x.length : Int)) en2 (by omega) (by omega) (by omega) ?_ fun hge => ?_
            · exact out ((f0.trans f14).trans f5)
            rw [b_add, en, valA_some]
            exact hN _ h5 (Cnt.succ hx en1 rfl (by omega) en3 f5)
    · refine fld_r (cb f2 1 _ rfl) ?_
      rw [r2.len, valA_some]
      refine acc_r (h0 := h1) (esz := 3) (ty := 61) (zs := [.int .i64 0, .nilsl, .str []]) (Rel := shR) (fun r => shR.leaves r) rfl rfl r2 (reach k2) (Inv := Cnt h1 n wShp m.shapes) (Cnt.zero e2' e2'' f2) (fun i a h i1 => i1.fr) (fun i a h h' i1 f => i1.keep f) (fun a h2 i1 => ?_) ?_
      · obtain ⟨n, rfl, e, e', e'', f⟩ := i1.fin; exact hJ n h2 f e e' e''
      · rintro N i x a hx en h5 d c ⟨n, rfl, en1, en2, en3, f5⟩ gd re hc hN
        obtain ⟨v, rfl, rr⟩ := re
        obtain ⟨o1, o2, o3⟩ := k2' x (List.mem_of_getElem? hx)
        have o2 := o2.1
        rw [reach_47] at o2 o3
        have cd : ∀ o w, ([AV.int .i64 x.kind, v, .str x.name] : List AV)[o]? = some w → h5.cell d o = some w := fun o w e => by rw [cell_of gd]; exact e
        have ea : IntKind.i64.wrap ((x.fs.length : Int) + x.name.length) = x.fs.length + x.name.length := i64_id (by omega) (by omega)
        refine fld_r (cd 1 _ rfl) ?_
        rw [rr.len, valA_some]
        refine fld_r (cd 2 _ rfl) ?_
        rw [show lenA true (.str x.name) = some (.int .i64 x.name.length) from rfl, valA_some, b_add, ea, valA_some]
        refine down_r (d := (x.fs.length : Int) + x.name.length) en2 (by omega) (by omega) (by omega) ?_ fun hge => ?_
        · exact out (f0.trans f5)
        rw [b_add, en, valA_some]
        exact hN _ h5 (Cnt.succ hx en1 (by unfold wShp; omega) (by omega) en3 f5)
  · refine fld_r (cb fR 0 _ rfl) ?_
    rw [r1.len, valA_some]
    refine acc_r (h0 := h1) (esz := 2) (ty := 46) (zs := [.bool false, .nilsl]) (Rel := tyR) (fun r => tyR.leaves r) rfl rfl r1 (reach k1) (Inv := Cnt h1 n0 wTy m.types) (Cnt.zero (by omega) (by omega) fR) (fun i a h i1 => i1.fr) (fun i a h h' i1 f => i1.keep f) (fun a h2 i1 => ?_) ?_
    · obtain ⟨n, rfl, e, e', e'', f⟩ := i1.fin; exact hJ n h2 f e e' e''
    · rintro N i x a hx en h5 d c ⟨n, rfl, en1, en2, en3, f5⟩ gd re hc hN
      obtain ⟨v, rfl, rr⟩ := re
      have o2 := (k1' x (List.mem_of_getElem? hx)).1
      rw [reach_47] at o2
      have cd : ∀ o w, ([AV.bool x.imm, v] : List AV)[o]? = some w → h5.cell d o = some w := fun o w e => by rw [cell_of gd]; exact e
      refine fld_r (cd 1 _ rfl) ?_
      rw [rr.len, valA_some]
      refine down_r (d := (x.sh.length : Int)) en2 (by omega) (by omega) (by omega) ?_ fun hge => ?_
      · exact out (f0.trans f5)
      rw [b_add, en, valA_some]
      exact hN _ h5 (Cnt.succ hx en1 (by unfold wTy; omega) (by omega) en3 f5)
end
end Go.Proofs.YtdljelicbnjfjaaGreat.X
set_option linter.unusedVariables false
set_option linter.unusedSimpArgs false
set_option maxRecDepth 20000
namespace Go.Proofs.YtdljelicbnjfjaaGreat.X
open Go Go.RowKit
/-! ### How many bytes -/
theorem num_le {n : Int} (h : rg n) : (numB n).length ≤ 10 := putL_len64 (zig_lt h.1 h.2)
theorem many_le {α : Type} {e : α → List Nat} {w : α → Nat} {l : List α} {C D : Nat} (hl : l.length ≤ reachBytes) (h : ∀ x ∈ l, (e x).length ≤ C + D * w x) : (manyB e l).length ≤ 10 + C * l.length + D * sumN w l := by
  unfold manyB
  have h1 := num_le (rg_nat hl)
  have h2 : (l.flatMap e).length ≤ C * l.length + D * sumN w l := by
    clear hl h1
    induction l with
    | nil => simp [sumN]
    | cons x l ih =>
      have i1 := h x (by simp)
      have i2 := ih fun y hy => h y (by simp [hy])
      have e1 : sumN w (x :: l) = w x + sumN w l := by simp [sumN]
      rw [List.flatMap_cons, List.length_append, List.length_cons, e1, Nat.mul_add, Nat.mul_add]; omega
  rw [List.length_append]; omega
theorem nums_le {l : List Int} (h : rgs l) : (numsB l).length ≤ 10 + 10 * l.length := by
  have := many_le (e := numB) (w := fun _ => 0) (C := 10) (D := 0) h.1 fun x hx => by have := num_le (h.2 x hx); omega
  unfold numsB; omega
theorem text_le {s : List UInt8} (h : s.length ≤ reachBytes) : (textB s).length ≤ 10 + 1 * wStr s := by
  have := num_le (rg_nat h)
  unfold textB wStr; simp only [List.length_append, List.length_map]; omega
theorem ty_le {t : Ty} (h : t.ok) : (tyB t).length ≤ 20 + 10 * wTy t := by
  have := nums_le h
  have := num_le (n := if t.imm then 1 else 0) (by unfold rg; split <;> omega)
  unfold tyB wTy; simp only [List.length_append]; omega
theorem shp_le {s : Shp} (h : s.ok) : (shB s).length ≤ 30 + 10 * wShp s := by
  have := num_le h.1
  have := nums_le h.2.1
  have := text_le h.2.2
  unfold shB wShp; unfold wStr at this; simp only [List.length_append]; omega
theorem fld_le {x : Ins} (h : x.ok) (c : UInt8) : (fldB x c).length ≤ 10 + 10 * wIns x := by
  obtain ⟨⟨o1, o2, o3, o4, o5, o6⟩, o7, o8, o9⟩ := h
  have := num_le o2; have := num_le o3; have := num_le o4; have := num_le o5; have := num_le o6
  have := nums_le o7; have := nums_le o8; have := nums_le o9
  unfold fldB wIns
  repeat' split
  all_goals omega
theorem uses_six (op : Int) : (usesN op).length ≤ 6 := by
  rcases op_cases op with q | q
  · rcases q with rfl | rfl | rfl | rfl | rfl | rfl | rfl | rfl | rfl | rfl | rfl | rfl | rfl | rfl | rfl | rfl | rfl | rfl | rfl | rfl | rfl | rfl | rfl | rfl <;> decide
  · rw [usesN_out q]; decide
theorem flds_le {x : Ins} (h : x.ok) : ∀ u : List UInt8, (u.flatMap (fldB x)).length ≤ u.length * (10 + 10 * wIns x)
  | [] => by simp
  | c :: u => by
    have := flds_le h u
    have := fld_le h c
    rw [List.flatMap_cons, List.length_append, List.length_cons, Nat.add_mul]; omega
theorem ins_le {x : Ins} (h : x.ok) : (insB x).length ≤ 70 + 60 * wIns x := by
  have := num_le h.1.1
  have h2 := flds_le h (usesN x.op)
  have h3 : (usesN x.op).length * (10 + 10 * wIns x) ≤ 6 * (10 + 10 * wIns x) := Nat.mul_le_mul_right _ (uses_six x.op)
  unfold insB; rw [List.length_append]; omega
theorem blk_le {b : Blk} (h : b.ok) : (blkB b).length ≤ 20 + 70 * wBlk b := by
  have := nums_le h.1
  have := many_le (e := insB) (w := wIns) h.2.1 fun x hx => ins_le (h.2.2 x hx)
  unfold blkB wBlk; rw [List.length_append]; omega
theorem fn_le {f : Fn} (h : f.ok) : (fnB f).length ≤ 40 + 70 * wFn f := by
  obtain ⟨o1, o2, o3, o4, o5⟩ := h
  have := nums_le o1
  have := num_le o2
  have := num_le o3
  have := many_le (e := blkB) (w := wBlk) o4 fun x hx => blk_le (o5 x hx)
  unfold fnB wFn; simp only [List.length_append]; omega
theorem sum_app {α : Type} (w : α → Nat) (a b : List α) : sumN w (a ++ b) = sumN w a + sumN w b := by unfold sumN; rw [List.map_append, List.sum_append]
theorem img_le {m : Img} (h : m.ok) : (bytesI m).length ≤ 74 + 70 * wImg m := by
  obtain ⟨⟨k1, k1'⟩, ⟨k2, k2'⟩, ⟨k3, k3'⟩, ⟨k4, k4'⟩, ⟨k5, k5'⟩, k6, k7⟩ := h
  have := many_le (e := tyB) (w := wTy) k1 fun x hx => ty_le (k1' x hx)
  have := many_le (e := shB) (w := wShp) k2 fun x hx => shp_le (k2' x hx)
  have := many_le (e := textB) (w := wStr) k3 fun x hx => text_le (k3' x hx)
  have := many_le (e := textB) (w := wStr) k4 fun x hx => text_le (k4' x hx)
  have := many_le (e := fnB) (w := wFn) k5 fun x hx => fn_le (k5' x hx)
  have := num_le k6
  have := num_le k7
  have e : headB.length = 4 := rfl
  unfold bytesI wImg; rw [sum_app]; simp only [List.length_append, e]; omega
theorem most_47 : most = 140737488355328 := rfl
theorem light_le {m : Img} (h : m.ok) (hl : wImg m ≤ 40000) : (bytesI m).length ≤ most ∧ (bytesI m).length ≤ 2800074 := by
  have := img_le h; rw [most_47]; omega
section
variable {h : H}
theorem short_img {ls : List (List AV)} {l : List AV} {m : Img} (hs : Short lim ls) (hl : l ∈ ls) (r : imgR h m l) : m.strs.length ≤ lim ∧ m.names.length ≤ lim := by
  obtain ⟨vt, vs, vx, vn, vf, rfl, _, _, r3, r4, _⟩ := r
  have one : ∀ {v : AV} {l : List (List UInt8)}, RowOf h 1 stR v l → (v ∈ ([vt, vs, vx, vn, vf, .int .i64 m.main, .int .i64 m.exn] : List AV)) → l.length ≤ lim := by
    intro v l r hv
    obtain ⟨_, _, _, _, r⟩ := r
    rcases r.2 with ⟨q, _⟩ | ⟨b, off, cap, rfl, _, _⟩
    · omega
    · exact hs _ hl b off _ cap hv
  exact ⟨one r3 (by simp), one r4 (by simp)⟩
/-- An image, handed over, in its box. -/
theorem img_box {l : List AV} {m : Img} (r : imgR h m l) {K : AV → H → Prop} (hK : ∀ b h1, Fr [] h h1 → h.get b = none → h1.get b = some (.live l 28 true) → imgR h1 m l → (∀ h2, Fr [] h1 h2 → h2.read b 0 7 = some l) → K (.ptr b 0) h1) : boxA h (AV.cells (.agg l)) 28 K := by
  have hl := r.shape.1
  show boxA h l 28 K
  refine box_r r.leaves fun b hb => ?_
  have f : Fr [] h (h.set b (.live l 28 true)) := (Fr.refl _ _).set' hb
  exact hK b _ f hb (H.get_same ..) (r.fr f) fun h2 f2 => H.read_eq (f2 b _ (by simp) (H.get_same ..)) (by omega) (by rw [List.drop_zero, List.take_of_length_le (by omega)])
end
end Go.Proofs.YtdljelicbnjfjaaGreat.X
