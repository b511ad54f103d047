/- Steps through a plain program: each operation on values that are known; a law by its plain program. -/
import Derived.Test.YtljkkfcokpimkaaXo
import Derived.Attr
set_option linter.unusedVariables false
set_option linter.unusedSimpArgs false
namespace Go.Proofs.Ytljkkfcokpimkaa.X
open Go Go.RowKit

/-! ### Nothing is looked at before what stands ahead of it is known -/
@[congr] theorem valA_congr {o o' : Option AV} {h : H} {K : AV → H → Prop} (e : o = o') : valA o h K = valA o' h K := by rw [e]
@[congr] theorem memA_congr {o o' : Option H} {v : AV} {K : AV → H → Prop} (e : o = o') : memA o v K = memA o' v K := by rw [e]
@[congr] theorem boxA_congr {h : H} {cs cs' : List AV} {e : Nat} {K : AV → H → Prop} (q : cs = cs') : boxA h cs e K = boxA h cs' e K := by rw [q]
@[congr] theorem newA_congr {h : H} {cs cs' : List AV} {e : Nat} {mk : Nat → AV} {K : AV → H → Prop} (q : cs = cs') : newA h cs e mk K = newA h cs' e mk K := by rw [q]
@[congr] theorem appendA_congr {h : H} {e z b : Nat} {x x' y y' : AV} {K : AV → H → Prop} (q : x = x') (q' : y = y') : appendA h e z b x y K = appendA h e z b x' y' K := by rw [q, q']
@[congr] theorem s2bA_congr {h : H} {e : Nat} {x x' : AV} {K : AV → H → Prop} (q : x = x') : s2bA h e x K = s2bA h e x' K := by rw [q]
@[congr] theorem mksA_congr {h : H} {e b : Nat} {z : List AV} {l l' c c' : AV} {K : AV → H → Prop} (q : l = l') (q' : c = c') : mksA h e z b l c K = mksA h e z b l' c' K := by rw [q, q']
@[congr] theorem clearA_congr {h : H} {z : List AV} {x x' : AV} {K : AV → H → Prop} (q : x = x') : clearA h z x K = clearA h z x' K := by rw [q]
@[congr] theorem copyA_congr {h : H} {z : Nat} {x x' y y' : AV} {K : AV → H → Prop} (q : x = x') (q' : y = y') : copyA h z x y K = copyA h z x' y' K := by rw [q, q']
@[congr] theorem mkslA_congr {h : H} {e n : Nat} {o o' : Option (List AV)} {K : AV → H → Prop} (q : o = o') : mkslA h e n o K = mkslA h e n o' K := by rw [q]
@[congr] theorem callvA_congr {C : CallA} {x x' : AV} {a a' : List AV} {h : H} {K : AV → H → Prop} (q : x = x') (q' : a = a') : callvA C x a h K = callvA C x' a' h K := by rw [q, q']
@[congr] theorem callA_congr {tab : Nat → Option IFun} {f : Nat} {a a' : List AV} {h : H} {K : AV → H → Prop} (q : a = a') : callA tab f a h K = callA tab f a' h K := by rw [q]
@[congr] theorem whenA_congr {c c' : AV} {b : Bool} {W : (AV → H → Prop) → Prop} {h : H} {K : AV → H → Prop} (q : c = c') : whenA c b W h K = whenA c' b W h K := by rw [q]
@[congr] theorem whenP_congr {c c' : AV} {b : Bool} {A : Prop} (q : c = c') : whenP c b A = whenP c' b A := by rw [q]
@[congr] theorem condA_congr {c c' : AV} {A B : Prop} (q : c = c') : condA c A B = condA c' A B := by rw [q]
@[congr] theorem joinA_congr {α : Type} {J : α} {B B' : α → Prop} (q : B = B') : joinA J B = joinA J B' := by rw [q]
@[congr] theorem argA_congr {l l' : List AV} {i : Nat} {F : AV → Prop} (q : l = l') : argA l i F = argA l' i F := by rw [q]
@[congr] theorem loopA_congr {F : (List AV → H → Prop) → List AV → H → Prop} {l l' : List AV} {h : H} (q : l = l') : loopA F l h = loopA F l' h := by rw [q]
@[congr] theorem againK_congr {A A' B : Prop} (q : A = A') : againK A B = againK A' B := by rw [q]

/-! ### Steps -/
section
variable {h h' : H} {K : AV → H → Prop} {v w : AV} {A B : Prop} {W : (AV → H → Prop) → Prop}
@[go_sem] theorem valA_some : valA (some v) h K = K v h := id rfl
@[go_sem] theorem valA_none : valA none h K = False := id rfl
@[go_sem] theorem memA_some : memA (some h') v K = K v h' := id rfl
@[go_sem] theorem memA_none : memA none v K = False := id rfl
@[go_sem] theorem argA_0 {l : List AV} {F : AV → Prop} : argA (v :: l) 0 F = F v := id rfl
@[go_sem] theorem argA_1 {a : AV} {l : List AV} {F : AV → Prop} : argA (a :: v :: l) 1 F = F v := id rfl
@[go_sem] theorem argA_2 {a b : AV} {l : List AV} {F : AV → Prop} : argA (a :: b :: v :: l) 2 F = F v := id rfl
@[go_sem] theorem argA_3 {a b c : AV} {l : List AV} {F : AV → Prop} : argA (a :: b :: c :: v :: l) 3 F = F v := id rfl
@[go_sem] theorem argA_4 {a b c d : AV} {l : List AV} {F : AV → Prop} : argA (a :: b :: c :: d :: v :: l) 4 F = F v := id rfl
@[go_sem] theorem argA_5 {a b c d e : AV} {l : List AV} {F : AV → Prop} : argA (a :: b :: c :: d :: e :: v :: l) 5 F = F v := id rfl
@[go_sem] theorem condA_t : condA (.bool true) A B = A := id rfl
@[go_sem] theorem condA_f : condA (.bool false) A B = B := id rfl
@[go_sem] theorem condA_d {p : Prop} [Decidable p] : condA (.bool (decide p)) A B = if p then A else B := by
  by_cases hp : p <;> simp [condA, hp]
theorem condA_b {b : Bool} : condA (.bool b) A B = if b = true then A else B := id rfl
@[go_sem] theorem whenA_tt : whenA (.bool true) true W h K = W K := id rfl
@[go_sem] theorem whenA_ff : whenA (.bool false) false W h K = W K := id rfl
@[go_sem] theorem whenA_tf : whenA (.bool true) false W h K = K .undef h := id rfl
@[go_sem] theorem whenA_ft : whenA (.bool false) true W h K = K .undef h := id rfl
@[go_sem] theorem whenA_u {b : Bool} : whenA .undef b W h K = K .undef h := id rfl
@[go_sem] theorem whenA_dt {p : Prop} [Decidable p] : whenA (.bool (decide p)) true W h K = if p then W K else K .undef h := by
  by_cases hp : p <;> simp [whenA, hp]
@[go_sem] theorem whenA_df {p : Prop} [Decidable p] : whenA (.bool (decide p)) false W h K = if p then K .undef h else W K := by
  by_cases hp : p <;> simp [whenA, hp]
@[go_sem] theorem whenP_tt : whenP (.bool true) true A = A := id rfl
@[go_sem] theorem whenP_ff : whenP (.bool false) false A = A := id rfl
@[go_sem] theorem whenP_tf : whenP (.bool true) false A = True := id rfl
@[go_sem] theorem whenP_ft : whenP (.bool false) true A = True := id rfl
@[go_sem] theorem againK_t : againK True B = B := by simp [againK]
@[go_sem] theorem pickA_b {b : Bool} {x y : AV} : pickA (.bool b) x y = some (if b = true then x else y) := id rfl
@[go_sem] theorem cvA_i {k k' : IntKind} {n : Int} : cvA k (.int k' n) = some (.int k (k.wrap n)) := id rfl
@[go_sem] theorem extA_t {l : List AV} {i : Nat} : extA (.tup l) i = l[i]? := id rfl
@[go_sem] theorem lenA_s {s : List UInt8} : lenA true (.str s) = some (.int .i64 s.length) := id rfl
@[go_sem] theorem lenA_n : lenA false .nilsl = some (.int .i64 0) := id rfl
@[go_sem] theorem lenA_l {b off n : Nat} {c : Cap} : lenA false (.sl b off n c) = some (.int .i64 n) := id rfl
@[go_sem] theorem faA_p {b o off : Nat} : faA off (.ptr b o) = some (.ptr b (o + off)) := id rfl
@[go_sem] theorem fldA_a {cs : List AV} {off : Nat} {n : Option Nat} : fldA off n (.agg cs) = partOf cs off n := id rfl
@[go_sem] theorem partOf_n {cs : List AV} {off : Nat} : partOf cs off none = cs[off]? := id rfl
@[go_sem] theorem partOf_s {cs : List AV} {off n : Nat} : partOf cs off (some n) = if off + n ≤ cs.length then some (.agg ((cs.drop off).take n)) else none := id rfl
@[go_sem] theorem iaA_s {esz b off len : Nat} {c : Cap} {k : IntKind} {n : Int} : iaA esz (.sl b off len c) (.int k n) = if 0 ≤ n ∧ n < len then some (.ptr b (off + n.toNat * esz)) else none := id rfl
@[go_sem] theorem iaArrA_p {len esz b off : Nat} {k : IntKind} {n : Int} : iaArrA len esz (.ptr b off) (.int k n) = if 0 ≤ n ∧ n < len then some (.ptr b (off + n.toNat * esz)) else none := id rfl
@[go_sem] theorem nilcA_p {b off : Nat} : nilcA (.ptr b off) = some (.ptr b off) := id rfl
@[go_sem] theorem ldA_n {b off : Nat} : ldA h none (.ptr b off) = h.cell b off := id rfl
@[go_sem] theorem ldA_s {b off n : Nat} : ldA h (some n) (.ptr b off) = (match h.read b off n with | some cs => some (.agg cs) | none => none) := id rfl
theorem stA_p {b off n : Nat} {y : AV} : stA h n (.ptr b off) y = if y.cells.length = n then h.write b off y.cells else none := id rfl
@[go_sem] theorem buildA_s {l : List AV} : buildA (some l) = some (.agg l) := id rfl
@[go_sem] theorem mnA_1 {x : AV} {l : List AV} : mnA (x :: l) = minInt x l := id rfl
@[go_sem] theorem mxA_1 {x : AV} {l : List AV} : mxA (x :: l) = maxInt x l := id rfl
@[go_sem] theorem minInt_0 {x : AV} : minInt x [] = some x := by cases x <;> rfl
@[go_sem] theorem maxInt_0 {x : AV} : maxInt x [] = some x := by cases x <;> rfl
@[go_sem] theorem minInt_1 {k : IntKind} {x y : Int} {l : List AV} : minInt (.int k x) (.int k y :: l) = minInt (.int k (if y < x then y else x)) l := by simp [minInt]
@[go_sem] theorem maxInt_1 {k : IntKind} {x y : Int} {l : List AV} : maxInt (.int k x) (.int k y :: l) = maxInt (.int k (if x < y then y else x)) l := by simp [maxInt]
@[go_sem] theorem fillV_0 {cs : List AV} : fillV cs [] = some cs := id rfl
theorem fillV_1 {cs : List AV} {off n : Nat} {x : AV} {ps : List (Nat × Nat × AV)} : fillV cs ((off, n, x) :: ps) = if x.cells.length = n ∧ off + n ≤ cs.length ∧ leaves x.cells = true then fillV (overlay cs off x.cells) ps else none := id rfl
theorem mkslA_s {e n : Nat} {cs : List AV} : mkslA h e n (some cs) K = newA h cs e (fun b => .sl b 0 n (.exact n)) K := id rfl
@[go_sem] theorem callvA_f {C : CallA} {f : Nat} {a c args : List AV} : callvA C (.fn f a c) args h K = C f (a ++ args ++ c) h K := id rfl
@[go_sem] theorem sameA_s {s : List UInt8} : sameA (.str s) = some (.str s) := id rfl

attribute [go_sem] if_true if_false decide_true decide_false List.length_cons List.length_nil Option.some.injEq true_and and_true
attribute [go_sem] List.getElem?_cons_zero List.getElem?_cons_succ

/-! ### Numbers -/
variable {k : IntKind} {a b : Int}
@[go_sem] theorem b_add : binOp .add .num (.int k a) (.int k b) = some (.int k (k.wrap (a + b))) := by simp [binOp, intOp]
@[go_sem] theorem b_sub : binOp .sub .num (.int k a) (.int k b) = some (.int k (k.wrap (a - b))) := by simp [binOp, intOp]
@[go_sem] theorem b_mul : binOp .mul .num (.int k a) (.int k b) = some (.int k (k.wrap (a * b))) := by simp [binOp, intOp]
@[go_sem] theorem b_quo (hb : b ≠ 0) : binOp .quo .num (.int k a) (.int k b) = some (.int k (k.wrap (a.tdiv b))) := by simp [binOp, intOp, hb]
@[go_sem] theorem b_rem (hb : b ≠ 0) : binOp .rem .num (.int k a) (.int k b) = some (.int k (a.tmod b)) := by simp [binOp, intOp, hb]
@[go_sem] theorem b_and : binOp .and .num (.int k a) (.int k b) = some (.int k (bits .and k a b)) := by simp [binOp, intOp]
@[go_sem] theorem b_or : binOp .or .num (.int k a) (.int k b) = some (.int k (bits .or k a b)) := by simp [binOp, intOp]
@[go_sem] theorem b_xor : binOp .xor .num (.int k a) (.int k b) = some (.int k (bits .xor k a b)) := by simp [binOp, intOp]
@[go_sem] theorem b_andNot : binOp .andNot .num (.int k a) (.int k b) = some (.int k (bits .andNot k a b)) := by simp [binOp, intOp]
@[go_sem] theorem b_eql : binOp .eql .num (.int k a) (.int k b) = some (.bool (decide (a = b))) := by
  simp only [binOp, intOp, if_true, Option.some.injEq, AV.bool.injEq]; rfl
@[go_sem] theorem b_neq : binOp .neq .num (.int k a) (.int k b) = some (.bool (decide (a ≠ b))) := by
  simp only [binOp, intOp, if_true, Option.some.injEq, AV.bool.injEq]; by_cases h : a = b <;> simp [h]
@[go_sem] theorem b_lss : binOp .lss .num (.int k a) (.int k b) = some (.bool (decide (a < b))) := by simp [binOp, intOp]
@[go_sem] theorem b_leq : binOp .leq .num (.int k a) (.int k b) = some (.bool (decide (a ≤ b))) := by simp [binOp, intOp]
@[go_sem] theorem b_gtr : binOp .gtr .num (.int k a) (.int k b) = some (.bool (decide (b < a))) := by simp [binOp, intOp]
@[go_sem] theorem b_geq : binOp .geq .num (.int k a) (.int k b) = some (.bool (decide (b ≤ a))) := by simp [binOp, intOp]
theorem b_shl {k' : IntKind} (h0 : 0 ≤ b) (h1 : b.toNat ≤ k.bits) : binOp .shl .num (.int k a) (.int k' b) = some (.int k (k.wrap (a * 2 ^ b.toNat))) := by
  have : ¬ b < 0 := by omega
  simp [binOp, shiftOp, this, Nat.min_eq_left h1]
theorem b_shr {k' : IntKind} (h0 : 0 ≤ b) (h1 : b.toNat ≤ k.bits) : binOp .shr .num (.int k a) (.int k' b) = some (.int k (a / 2 ^ b.toNat)) := by
  have : ¬ b < 0 := by omega
  have h2 : (0 : Int) ≤ 2 ^ b.toNat := Int.pow_nonneg (by omega)
  simp [binOp, shiftOp, this, Nat.min_eq_left h1, Int.fdiv_eq_ediv_of_nonneg _ h2]
@[go_sem] theorem b_shl_i64 {k' : IntKind} (h0 : 0 ≤ b) (h1 : b ≤ 64) : binOp .shl .num (.int .i64 a) (.int k' b) = some (.int .i64 (IntKind.i64.wrap (a * 2 ^ b.toNat))) := b_shl h0 (by show _ ≤ 64; omega)
@[go_sem] theorem b_shl_u64 {k' : IntKind} (h0 : 0 ≤ b) (h1 : b ≤ 64) : binOp .shl .num (.int .u64 a) (.int k' b) = some (.int .u64 (IntKind.u64.wrap (a * 2 ^ b.toNat))) := b_shl h0 (by show _ ≤ 64; omega)
@[go_sem] theorem b_shr_i64 {k' : IntKind} (h0 : 0 ≤ b) (h1 : b ≤ 64) : binOp .shr .num (.int .i64 a) (.int k' b) = some (.int .i64 (a / 2 ^ b.toNat)) := b_shr h0 (by show _ ≤ 64; omega)
@[go_sem] theorem b_shr_u64 {k' : IntKind} (h0 : 0 ≤ b) (h1 : b ≤ 64) : binOp .shr .num (.int .u64 a) (.int k' b) = some (.int .u64 (a / 2 ^ b.toNat)) := b_shr h0 (by show _ ≤ 64; omega)
@[go_sem] theorem b_beql {x y : Bool} : binOp .eql .bool (.bool x) (.bool y) = some (.bool (decide (x = y))) := by
  simp only [binOp, eqlOp]; cases x <;> cases y <;> rfl
@[go_sem] theorem b_bneq {x y : Bool} : binOp .neq .bool (.bool x) (.bool y) = some (.bool (decide (x ≠ y))) := by
  simp only [binOp, eqlOp]; cases x <;> cases y <;> rfl
@[go_sem] theorem b_seql {x y : List UInt8} : binOp .eql .num (.str x) (.str y) = some (.bool (decide (x = y))) := by
  simp only [binOp, strOp, Option.some.injEq, AV.bool.injEq]; by_cases h : x = y <;> simp [h]
@[go_sem] theorem b_sneq {x y : List UInt8} : binOp .neq .num (.str x) (.str y) = some (.bool (decide (x ≠ y))) := by
  simp only [binOp, strOp, Option.some.injEq, AV.bool.injEq]; by_cases h : x = y <;> simp [h]
@[go_sem] theorem b_nn : binOp .eql .ptr .nilp .nilp = some (.bool true) := id rfl
@[go_sem] theorem b_pn {b off : Nat} : binOp .eql .ptr (.ptr b off) .nilp = some (.bool false) := id rfl
@[go_sem] theorem b_nn' : binOp .neq .ptr .nilp .nilp = some (.bool false) := id rfl
@[go_sem] theorem b_pn' {b off : Nat} : binOp .neq .ptr (.ptr b off) .nilp = some (.bool true) := id rfl
@[go_sem] theorem u_not {x : Bool} : unOp .not (.bool x) = some (.bool !x) := id rfl
@[go_sem] theorem u_neg : unOp .neg (.int k a) = some (.int k (k.wrap (0 - a))) := id rfl
@[go_sem] theorem u_xor : unOp .xor (.int k a) = some (.int k (bits .xor k (if k.signed then -1 else k.max) a)) := id rfl
end

/-! ### Joins and loops -/
theorem join_r {α : Type} {J : α} {B : α → Prop} (P : α → Prop) (hJ : P J) (hB : ∀ J', P J' → B J') : joinA J B := hB J hJ
theorem loop_r {F : (List AV → H → Prop) → List AV → H → Prop} {l : List AV} {h : H} (n : Nat) (Inv : Nat → List AV → H → Prop) (hi : Inv n l h) (hs : ∀ n l h, Inv n l h → F (fun l' h' => ∃ n', n' < n ∧ Inv n' l' h') l h) : loopA F l h := ⟨n, Inv, hi, hs⟩

/-! ### A law -/
mutual
/-- The cells of a value of such a type, laid. -/
def Lies (h : H) : Sh → List AV → Prop
  | .int k, l => ∃ n, l = [.int k n] ∧ (Lit.int k n).wf = true
  | .bool, l => ∃ b, l = [.bool b]
  | .str, l => ∃ s : List UInt8, l = [.str s] ∧ s.length ≤ reachBytes
  | .sl s, l => l = [.nilsl] ∨ ∃ (b ei : Nat) (css : List (List AV)), l = [.sl b 0 css.length .any] ∧ h.get b = some (.live css.flatten ei false) ∧ css.length ≤ reachBytes ∧ ∀ c ∈ css, Lies h s c
  | .st ss, l => LiesL h ss l
def LiesL (h : H) : List Sh → List AV → Prop
  | [], l => l = []
  | s :: ss, l => ∃ l1 l2, l = l1 ++ l2 ∧ Lies h s l1 ∧ LiesL h ss l2
end
mutual
theorem Sits.lies {bd : Nat} (hbd : bd ≤ reachBytes) {m : Mem} {h : H} (r : ∀ b, m.get b = h.get b) : ∀ (s : Sh) (l : List AV), Sits bd m s l → Lies h s l
  | .int _, _, hl => by simpa only [Sits, Lies] using hl
  | .bool, _, hl => by simpa only [Sits, Lies] using hl
  | .str, _, hl => by
    simp only [Sits] at hl
    simp only [Lies]
    obtain ⟨s, h1, h2⟩ := hl
    exact ⟨s, h1, Nat.le_trans h2 hbd⟩
  | .sl s, l, hl => by
    simp only [Sits] at hl
    simp only [Lies]
    rcases hl with hl | ⟨b, ei, css, h1, h2, h3, h4⟩
    · exact .inl hl
    · exact .inr ⟨b, ei, css, h1, by rw [← r]; exact h2, Nat.le_trans h3 hbd, fun c hc => Sits.lies hbd r s c (h4 c hc)⟩
  | .st ss, l, hl => by
    simp only [Sits] at hl
    simp only [Lies]
    exact SitsL.lies hbd r ss l hl
theorem SitsL.lies {bd : Nat} (hbd : bd ≤ reachBytes) {m : Mem} {h : H} (r : ∀ b, m.get b = h.get b) : ∀ (ss : List Sh) (l : List AV), SitsL bd m ss l → LiesL h ss l
  | [], _, hl => by simpa only [SitsL, LiesL] using hl
  | s :: ss, l, hl => by
    simp only [SitsL] at hl
    simp only [LiesL]
    obtain ⟨l1, l2, h1, h2, h3⟩ := hl
    exact ⟨l1, l2, h1, Sits.lies hbd r s l1 h2, SitsL.lies hbd r ss l2 h3⟩
end
def LiesA (h : H) : List Sh → List (List AV) → Prop
  | [], [] => True
  | s :: ss, l :: ls => Lies h s l ∧ LiesA h ss ls
  | _, _ => False
theorem SitsA.lies {bd : Nat} (hbd : bd ≤ reachBytes) {m : Mem} {h : H} (r : ∀ b, m.get b = h.get b) : ∀ (ss : List Sh) (ls : List (List AV)), SitsA bd m ss ls → LiesA h ss ls
  | [], [], hl => hl
  | [], _ :: _, hl => hl
  | _ :: _, [], hl => hl
  | s :: ss, l :: ls, hl => ⟨Sits.lies hbd r s l hl.1, SitsA.lies hbd r ss ls hl.2⟩
/-- Rows that are no longer than that. -/
def Short (bd : Nat) (ls : List (List AV)) : Prop := ∀ l ∈ ls, ∀ b o n c, AV.sl b o n c ∈ l → n ≤ bd
mutual
theorem Sits.short {bd : Nat} {m : Mem} : ∀ (s : Sh) (l : List AV), Sits bd m s l → ∀ b o n c, AV.sl b o n c ∈ l → n ≤ bd
  | .int _, l, hl, b, o, n, c, h => by simp only [Sits] at hl; obtain ⟨_, rfl, _⟩ := hl; simp at h
  | .bool, l, hl, b, o, n, c, h => by simp only [Sits] at hl; obtain ⟨_, rfl⟩ := hl; simp at h
  | .str, l, hl, b, o, n, c, h => by simp only [Sits] at hl; obtain ⟨_, rfl, _⟩ := hl; simp at h
  | .sl s, l, hl, b, o, n, c, h => by
    simp only [Sits] at hl
    rcases hl with rfl | ⟨b', ei, css, rfl, _, h3, _⟩
    · simp at h
    · simp only [List.mem_singleton] at h; injection h with _ _ h; subst h; exact h3
  | .st ss, l, hl, b, o, n, c, h => by
    simp only [Sits] at hl
    exact SitsL.short ss l hl b o n c h
theorem SitsL.short {bd : Nat} {m : Mem} : ∀ (ss : List Sh) (l : List AV), SitsL bd m ss l → ∀ b o n c, AV.sl b o n c ∈ l → n ≤ bd
  | [], l, hl, b, o, n, c, h => by simp only [SitsL] at hl; subst hl; simp at h
  | s :: ss, l, hl, b, o, n, c, h => by
    simp only [SitsL] at hl
    obtain ⟨l1, l2, rfl, h2, h3⟩ := hl
    rcases List.mem_append.1 h with h | h
    · exact Sits.short s l1 h2 b o n c h
    · exact SitsL.short ss l2 h3 b o n c h
end
theorem SitsA.short {bd : Nat} {m : Mem} : ∀ (ss : List Sh) (ls : List (List AV)), SitsA bd m ss ls → Short bd ls
  | [], [], hl => fun l hl => by cases hl
  | [], _ :: _, hl => hl.elim
  | _ :: _, [], hl => hl.elim
  | s :: ss, l :: ls, hl => fun l' hl' => by
    rcases List.mem_cons.1 hl' with rfl | h
    · exact Sits.short s _ hl.1
    · exact SitsA.short ss ls hl.2 l' h
/-- What a law is told: true. -/
def yes : AV → H → Prop := fun v _ => v = .bool true
section
variable {P : Program} {w : World} {H' : Type} {enc : TypeId × Value → H'}
theorem law_canB {bd : Nat} (hbd : bd ≤ reachBytes) {tab : Nat → Option IFun} (htab : ∀ f i, tab f = some i → okFun P f i = true) (hmix : P.follows .mixedOrders = true) {f : Nat} {ts : List TypeId} (ss : List Sh) (hok : okTs P ts ss = true)
    (contract : ∀ h ls, LiesA h ss ls → Short bd ls → callA tab f (argsOf ss ls) h yes) {r : Reach} {b : Nat} {args : Array Value} {ds : List (DataW H')} {p : List MemPlace}
    (hsz : ∀ k ∈ DataW.weightsEach P ts ds, k ≤ bd) (hA : DataW.TrodAll enc P w 0 (fun _ => true) true ts args.toList ds p) (hval : ∀ (j : Nat) t v, ts[j]? = some t → args.toList[j]? = some v → Value.okWide P w r b t v) :
    Calls P f args w fun e W' => e = .returned (.bool true) ∧ Below w.heap.size w W' := by
  obtain ⟨ρ, m, ls, _, g2, _, g4, g5⟩ := args_laid (base := w.heap.size) ts ss args.toList ds p hok hsz hA hval _ _ (MR_none P w) (fun b cs e own h => by unfold Mem.get T.get at h; cases h)
  have hok : m.ok := fun b hb => by
    cases hg : m.get b with
    | none => rfl
    | some o => have := (g2.dom b o hg).1; omega
  obtain ⟨k, v, m', h', h1, _, _, rfl⟩ := contract ⟨m.get, m.next, hok⟩ ls (SitsA.lies hbd (fun _ => rfl) ss ls g5) (SitsA.short ss ls g5) m ⟨hok, fun _ => rfl⟩
  have := run_sound htab hmix h1 g4 g2
  simp only [Array.toArray_toList] at this
  refine this.mono fun e W' ⟨ρ', u, h1, h2, h3⟩ => ?_
  simp only [VR] at h2
  exact ⟨by rw [h1, h2], h3⟩
theorem law_can {tab : Nat → Option IFun} (htab : ∀ f i, tab f = some i → okFun P f i = true) (hmix : P.follows .mixedOrders = true) {f : Nat} {ts : List TypeId} (ss : List Sh) (hok : okTs P ts ss = true)
    (contract : ∀ h ls, LiesA h ss ls → callA tab f (argsOf ss ls) h yes) {r : Reach} {b : Nat} {args : Array Value} {ds : List (DataW H')} {p : List MemPlace}
    (hsz : (DataW.weightsEach P ts ds).all (· ≤ reachBytes) = true) (hA : DataW.TrodAll enc P w 0 (fun _ => true) true ts args.toList ds p) (hval : ∀ (j : Nat) t v, ts[j]? = some t → args.toList[j]? = some v → Value.okWide P w r b t v) :
    Calls P f args w fun e W' => e = .returned (.bool true) ∧ Below w.heap.size w W' :=
  law_canB (Nat.le_refl _) htab hmix ss hok (fun h ls hl _ => contract h ls hl) (fun k hk => of_decide_eq_true (List.all_eq_true.1 hsz k hk)) hA hval
end
end Go.Proofs.Ytljkkfcokpimkaa.X
