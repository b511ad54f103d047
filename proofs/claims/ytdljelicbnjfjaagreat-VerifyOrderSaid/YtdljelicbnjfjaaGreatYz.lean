/- The same runs, told so that the kernel goes through them quickly: temporaries in a tree, values reckoned at once. -/
import Derived.Test.YtdljelicbnjfjaaGreatYa
set_option linter.unusedVariables false
namespace Go.Proofs.YtdljelicbnjfjaaGreat.X
open Go Go.RowKit

/-! ### At once -/
def frcN {α : Type} (n : Nat) (k : Nat → α) : α := match n with | 0 => k 0 | m + 1 => k (m + 1)
def frcI {α : Type} (i : Int) (k : Int → α) : α := match i with | .ofNat n => frcN n fun n => k (.ofNat n) | .negSucc n => frcN n fun n => k (.negSucc n)
def frcC {α : Type} (c : Cap) (k : Cap → α) : α := match c with | .exact n => frcN n fun n => k (.exact n) | .more n => k (.more n) | .any => k .any
def frc1 {α : Type} (v : AV) (k : AV → α) : α := match v with
  | .int d n => frcI n fun n => k (.int d n)
  | .bool true => k (.bool true)
  | .bool false => k (.bool false)
  | .ptr b o => frcN b fun b => frcN o fun o => k (.ptr b o)
  | .sl b o n c => frcN b fun b => frcN o fun o => frcN n fun n => frcC c fun c => k (.sl b o n c)
  | v => k v
def frcL {α : Type} : List AV → (List AV → α) → α
  | [], k => k []
  | x :: l, k => frc1 x fun x => frcL l fun l => k (x :: l)
def frcA {α : Type} (v : AV) (k : AV → α) : α := match v with
  | .agg l => frcL l fun l => k (.agg l)
  | .fn f x y => frcL x fun x => frcL y fun y => k (.fn f x y)
  | v => frc1 v k
def frcT {α : Type} : List AV → (List AV → α) → α
  | [], k => k []
  | x :: l, k => frcA x fun x => frcT l fun l => k (x :: l)
def frcV {α : Type} (v : AV) (k : AV → α) : α := match v with
  | .tup l => frcT l fun l => k (.tup l)
  | v => frcA v k
theorem frcN_eq {α : Type} (n : Nat) (k : Nat → α) : frcN n k = k n := by cases n <;> rfl
theorem frcI_eq {α : Type} (n : Int) (k : Int → α) : frcI n k = k n := by cases n <;> simp [frcI, frcN_eq]
theorem frcC_eq {α : Type} (n : Cap) (k : Cap → α) : frcC n k = k n := by cases n <;> simp [frcC, frcN_eq]
theorem frc1_eq {α : Type} (v : AV) (k : AV → α) : frc1 v k = k v := by
  cases v <;> simp [frc1, frcI_eq, frcN_eq, frcC_eq]
  rename_i b; cases b <;> rfl
theorem frcL_eq {α : Type} : ∀ (l : List AV) (k : List AV → α), frcL l k = k l
  | [], k => rfl
  | x :: l, k => by rw [frcL, frc1_eq, frcL_eq l]
theorem frcA_eq {α : Type} (v : AV) (k : AV → α) : frcA v k = k v := by
  cases v <;> simp [frcA, frcL_eq, frc1_eq]
theorem frcT_eq {α : Type} : ∀ (l : List AV) (k : List AV → α), frcT l k = k l
  | [], k => rfl
  | x :: l, k => by rw [frcT, frcA_eq, frcT_eq l]
theorem frcV_eq {α : Type} (v : AV) (k : AV → α) : frcV v k = k v := by
  cases v <;> simp [frcV, frcA_eq, frcT_eq]

/-! ### Temporaries -/
inductive TmT where
  | nil
  | node (v : AV) (l r : TmT)
def TmT.get : TmT → Nat → AV
  | .nil, _ => .undef
  | .node v l r, n => cond (Nat.beq n 0) v (cond (Nat.beq (n % 2) 1) (l.get (n / 2)) (r.get (n / 2 - 1)))
def TmT.val : TmT → AV | .nil => .undef | .node v _ _ => v
def TmT.left : TmT → TmT | .nil => .nil | .node _ l _ => l
def TmT.right : TmT → TmT | .nil => .nil | .node _ _ r => r
def TmT.setAt (o : AV) : Nat → TmT → Nat → TmT
  | 0, t, _ => .node o t.left t.right
  | k + 1, t, n => cond (Nat.beq n 0) (.node o t.left t.right) (cond (Nat.beq (n % 2) 1) (.node t.val (TmT.setAt o k t.left (n / 2)) t.right) (.node t.val t.left (TmT.setAt o k t.right (n / 2 - 1))))
/-- The same, at once. -/
def TmT.setK {α : Type} (o : AV) : Nat → TmT → Nat → (TmT → α) → α
  | 0, .nil, _, c => c (.node o .nil .nil)
  | 0, .node _ l r, _, c => c (.node o l r)
  | _ + 1, .nil, 0, c => c (.node o .nil .nil)
  | _ + 1, .node _ l r, 0, c => c (.node o l r)
  | k + 1, .nil, n + 1, c => cond (Nat.beq ((n + 1) % 2) 1) (TmT.setK o k .nil ((n + 1) / 2) fun l => c (.node .undef l .nil)) (TmT.setK o k .nil ((n + 1) / 2 - 1) fun r => c (.node .undef .nil r))
  | k + 1, .node v l r, n + 1, c => cond (Nat.beq ((n + 1) % 2) 1) (TmT.setK o k l ((n + 1) / 2) fun l => c (.node v l r)) (TmT.setK o k r ((n + 1) / 2 - 1) fun r => c (.node v l r))
theorem cond_if {α : Type} (n m : Nat) (a b : α) : cond (Nat.beq n m) a b = if n = m then a else b := by
  by_cases h : n = m
  · subst h; rw [if_pos rfl, show Nat.beq n n = true from Nat.beq_refl n]; rfl
  · rw [if_neg h]
    cases hb : Nat.beq n m with
    | true => exact absurd (Nat.eq_of_beq_eq_true hb) h
    | false => rfl
theorem TmT.get_eq (t : TmT) (n : Nat) : t.get n = if n = 0 then t.val else if n % 2 = 1 then t.left.get (n / 2) else t.right.get (n / 2 - 1) := by
  cases t with
  | nil => simp [TmT.get, TmT.val, TmT.left, TmT.right]
  | node v l r => simp only [TmT.get, cond_if]; rfl
theorem TmT.setAt_get (o : AV) : ∀ (k : Nat) (t : TmT) (n m : Nat), n ≤ k → (TmT.setAt o k t n).get m = if m = n then o else t.get m
  | 0, t, n, m, h => by
    obtain rfl : n = 0 := by omega
    rw [TmT.setAt, TmT.get, TmT.get_eq t m]
    simp only [cond_if]
    split <;> rfl
  | k + 1, t, n, m, h => by
    rw [TmT.setAt]
    simp only [cond_if]
    by_cases hn : n = 0
    · subst hn
      rw [if_pos rfl, TmT.get, TmT.get_eq t m]
      simp only [cond_if]
      split <;> rfl
    · rw [if_neg hn]
      by_cases ho : n % 2 = 1
      · rw [if_pos ho, TmT.get, TmT.get_eq t m]
        simp only [cond_if]
        by_cases hm : m = 0
        · rw [if_pos hm, if_pos hm, if_neg (by omega)]
        · rw [if_neg hm, if_neg hm]
          by_cases hmo : m % 2 = 1
          · rw [if_pos hmo, if_pos hmo, TmT.setAt_get o k _ _ _ (by omega)]
            by_cases e : m = n
            · rw [if_pos e, if_pos (by omega)]
            · rw [if_neg e, if_neg (by omega)]
          · rw [if_neg hmo, if_neg hmo, if_neg (by omega)]
      · rw [if_neg ho, TmT.get, TmT.get_eq t m]
        simp only [cond_if]
        by_cases hm : m = 0
        · rw [if_pos hm, if_pos hm, if_neg (by omega)]
        · rw [if_neg hm, if_neg hm]
          by_cases hmo : m % 2 = 1
          · rw [if_pos hmo, if_pos hmo, if_neg (by omega)]
          · rw [if_neg hmo, if_neg hmo, TmT.setAt_get o k _ _ _ (by omega)]
            by_cases e : m = n
            · rw [if_pos e, if_pos (by omega)]
            · rw [if_neg e, if_neg (by omega)]
theorem TmT.setK_eq {α : Type} (o : AV) : ∀ (k : Nat) (t : TmT) (n : Nat) (c : TmT → α), TmT.setK o k t n c = c (TmT.setAt o k t n)
  | 0, .nil, _, c => rfl
  | 0, .node _ l r, _, c => rfl
  | _ + 1, .nil, 0, c => rfl
  | _ + 1, .node _ l r, 0, c => rfl
  | k + 1, .nil, n + 1, c => by
    rw [TmT.setK, TmT.setAt, TmT.setK_eq o k, TmT.setK_eq o k]
    have : Nat.beq (n + 1) 0 = false := rfl
    rw [this]
    cases Nat.beq ((n + 1) % 2) 1 <;> rfl
  | k + 1, .node v l r, n + 1, c => by
    rw [TmT.setK, TmT.setAt, TmT.setK_eq o k, TmT.setK_eq o k]
    have : Nat.beq (n + 1) 0 = false := rfl
    rw [this]
    cases Nat.beq ((n + 1) % 2) 1 <;> rfl

/-! ### Operations, by operands' values -/
section
variable (g : Opd → AV)
def fillZ : List AV → List (Nat × Nat × Opd) → Option (List AV)
  | cs, [] => some cs
  | cs, (off, n, x) :: ps =>
    let vs := (g x).cells
    if vs.length = n ∧ off + n ≤ cs.length ∧ leaves vs = true then fillZ (overlay cs off vs) ps else none
end
def zPick (c a b : AV) (m : Mem) : Option (AV × Mem) := match c with | .bool t => some (if t then a else b, m) | _ => none
def zMksl (o : Option (List AV)) (m : Mem) (base : Nat) (s : Option Nat) (e len : Nat) : Option (AV × Mem) := match o with | some cs => newRow m base s cs e fun b => .sl b 0 len (.exact len) | none => none
def zLd (x : AV) (m : Mem) : Option (AV × Mem) := match x with
  | .ptr b off => match m.read b off 1 with | some [v] => some (v, m) | _ => none
  | _ => none
def zLds (n : Nat) (x : AV) (m : Mem) : Option (AV × Mem) := match x with
  | .ptr b off => match m.read b off n with | some cs => some (.agg cs, m) | none => none
  | _ => none
def zSt (n : Nat) (x y : AV) (m : Mem) : Option (AV × Mem) := match x with
  | .ptr b off => let vs := y.cells; if vs.length = n then match m.write b off vs with | some m' => some (.undef, m') | none => none else none
  | _ => none
def zNilc (x : AV) (m : Mem) : Option (AV × Mem) := match x with | .ptr b off => some (.ptr b off, m) | .fn f a c => some (.fn f a c, m) | _ => none
def zToInt (k : IntKind) (x : AV) (m : Mem) : Option (AV × Mem) := match x with | .int _ n => some (.int k (k.wrap n), m) | _ => none
def zSame (x : AV) (m : Mem) : Option (AV × Mem) := match x with | .str s => some (.str s, m) | _ => none
def zKeep (x : AV) (m : Mem) : Option (AV × Mem) := match x with | .sl b off len c => (match m.get b with | some (.live _ _ true) => if 0 < len then some (.sl b off len c, m) else none | _ => none) | _ => none
def zB2s (x : AV) (m : Mem) : Option (AV × Mem) := match x with
  | .nilsl => some (.str [], m)
  | .sl b off len _ => match m.read b off len with | some cs => pureOp ((bytesOf cs).map .str) m | none => none
  | _ => none
def zS2b (x : AV) (m : Mem) (base : Nat) (s : Option Nat) (e : Nat) : Option (AV × Mem) := match x with
  | .str l => newRow m base s (l.map fun c => .int .u8 c.toNat) e fun b => .sl b 0 l.length (.more 1)
  | _ => none
def zMks (len cap : AV) (m : Mem) (base : Nat) (s : Option Nat) (e : Nat) (zero : List AV) (bytes : Nat) : Option (AV × Mem) := match natOf len, natOf cap with
  | some l, some c => if l ≤ c ∧ c * bytes ≤ most ∧ c < 9223372036854775808 then newRow m base s (repCells zero c) e fun b => .sl b 0 l (.exact c) else none
  | _, _ => none
def zFa (off : Nat) (x : AV) (m : Mem) : Option (AV × Mem) := match x with | .ptr b o => some (.ptr b (o + off), m) | _ => none
def zFld (off : Nat) (n : Option Nat) (x : AV) (m : Mem) : Option (AV × Mem) := match x with | .agg cs => pureOp (partOf cs off n) m | _ => none
def zIa (esz : Nat) (x i : AV) (m : Mem) : Option (AV × Mem) := match x, i with
  | .sl b off len _, .int _ n => if 0 ≤ n ∧ n < len then some (.ptr b (off + n.toNat * esz), m) else none
  | _, _ => none
def zIaA (len esz : Nat) (x i : AV) (m : Mem) : Option (AV × Mem) := match x, i with
  | .ptr b off, .int _ n => if 0 ≤ n ∧ n < len then some (.ptr b (off + n.toNat * esz), m) else none
  | _, _ => none
def zIx (x i : AV) (m : Mem) : Option (AV × Mem) := match x, i with
  | .str s, .int _ n => if 0 ≤ n then match s[n.toNat]? with | some c => some (.int .u8 c.toNat, m) | none => none else none
  | _, _ => none
def zIxA (len esz : Nat) (k : Option Nat) (x i : AV) (m : Mem) : Option (AV × Mem) := match x, i with
  | .agg cs, .int _ n => if 0 ≤ n ∧ n < len then pureOp (partOf cs (n.toNat * esz) k) m else none
  | _, _ => none
def zExt (x : AV) (i : Nat) (m : Mem) : Option (AV × Mem) := match x with | .tup l => pureOp l[i]? m | _ => none
def zCallv (call : CallF) (x : AV) (args : List AV) (m : Mem) : Option (AV × Mem) := match x with | .fn f first cap => call f (first ++ args ++ cap) m | _ => none
def zClear (zero : List AV) (x : AV) (m : Mem) : Option (AV × Mem) := match x with
  | .nilsl => some (.undef, m)
  | .sl b off len _ => if len = 0 then some (.undef, m) else match m.write b off (repCells zero len) with | some m' => some (.undef, m') | none => none
  | _ => none
def zCopy (esz : Nat) (x y : AV) (m : Mem) : Option (AV × Mem) := match x, srcCells m esz y with
  | .nilsl, some _ => some (.int .i64 0, m)
  | .sl b off len _, some (n, cs) => if min n len = 0 then some (.int .i64 0, m) else match m.write b off (cs.take (min n len * esz)) with | some m' => some (.int .i64 (min n len : Nat), m') | none => none
  | _, _ => none
def zLenS (x : AV) (m : Mem) : Option (AV × Mem) := match x with
  | .str s => some (.int .i64 s.length, m)
  | _ => none
def zLen (x : AV) (m : Mem) : Option (AV × Mem) := match x with
  | .nilsl => some (.int .i64 0, m)
  | .sl _ _ n _ => some (.int .i64 n, m)
  | _ => none
def zCap (x : AV) (m : Mem) : Option (AV × Mem) := match x with
  | .nilsl => some (.int .i64 0, m)
  | .sl _ _ _ (.exact c) => some (.int .i64 c, m)
  | _ => none
def zMn (l : List AV) (m : Mem) : Option (AV × Mem) := match l with | x :: l => pureOp (minInt x l) m | [] => none
def zMx (l : List AV) (m : Mem) : Option (AV × Mem) := match l with | x :: l => pureOp (maxInt x l) m | [] => none
def zCv (c : Conv) (x : AV) (m : Mem) (base : Nat) (s : Option Nat) : Option (AV × Mem) := match c with
  | .toInt k => zToInt k x m
  | .same => zSame x m
  | .keep => zKeep x m
  | .b2s => zB2s x m
  | .s2b e => zS2b x m base s e
def zLd' (n : Option Nat) (x : AV) (m : Mem) : Option (AV × Mem) := match n with | none => zLd x m | some n => zLds n x m
def zIa' (a : Option Nat) (esz : Nat) (x i : AV) (m : Mem) : Option (AV × Mem) := match a with | none => zIa esz x i m | some len => zIaA len esz x i m
def zIx' (a : Option (Nat × Nat × Option Nat)) (x i : AV) (m : Mem) : Option (AV × Mem) := match a with | none => zIx x i m | some (len, esz, k) => zIxA len esz k x i m
def evOpZ (call : CallF) (base : Nat) (g : Opd → AV) (m : Mem) : IOp → Option (AV × Mem)
  | .mv x => some (g x, m)
  | .pick c a b => zPick (g c) (g a) (g b) m
  | .al s e zero => newRow m base s zero e fun b => .ptr b 0
  | .bx s e x => newRow m base s (g x).cells e fun b => .ptr b 0
  | .build tpl ps => pureOp ((fillZ g tpl ps).map .agg) m
  | .mksl s e tpl len ps => zMksl (fillZ g tpl ps) m base s e len
  | .ld n x => zLd' n (g x) m
  | .st n x y => zSt n (g x) (g y) m
  | .nilc x => zNilc (g x) m
  | .bin op kd x y => pureOp (binOp op kd (g x) (g y)) m
  | .un op x => pureOp (unOp op (g x)) m
  | .cv s c x => zCv c (g x) m base s
  | .mkf f first cap => some (.fn f (first.map g) (cap.map g), m)
  | .mks s e zero bytes len cap => zMks (g len) (g cap) m base s e zero bytes
  | .sli k x lo hi mx => pureOp (sliceOp k (g x) (lo.map g) (hi.map g) (mx.map g)) m
  | .fa off x => zFa off (g x) m
  | .fld off n x => zFld off n (g x) m
  | .ia a esz x i => zIa' a esz (g x) (g i) m
  | .ix a x i => zIx' a (g x) (g i) m
  | .ext x i => zExt (g x) i m
  | .call f args => call f (args.map g) m
  | .callv x args => zCallv call (g x) (args.map g) m
  | .app e esz bytes _ x y => appendOp m e esz bytes (g x) (g y)
  | .grow e esz bytes zero x n => growOp m e esz bytes zero (g x) (g n)
  | .clear zero x => zClear zero (g x) m
  | .copy esz x y => zCopy esz (g x) (g y) m
  | .len str x => cond str (zLenS (g x) m) (zLen (g x) m)
  | .cap x => zCap (g x) m
  | .mn xs => zMn (xs.map g) m
  | .mx xs => zMx (xs.map g) m
theorem fillZ_eq (tm : List AV) : ∀ (ps : List (Nat × Nat × Opd)) (cs : List AV), fillZ (fun x => x.eval tm) cs ps = fillParts tm cs ps
  | [], cs => rfl
  | (off, n, x) :: ps, cs => by simp only [fillZ, fillParts, fillZ_eq tm ps]
theorem evOpZ_eq (call : CallF) (base : Nat) (tm : List AV) (m : Mem) (op : IOp) : evOpZ call base (fun x => x.eval tm) m op = evOp call base tm m op := by
  cases op
  case ld n x => cases n <;> rfl
  case cv s c x => cases c <;> rfl
  case ia a e x i => cases a <;> rfl
  case ix a x i => rcases a with _ | ⟨_, _, _⟩ <;> rfl
  case len b x => cases b <;> rfl
  case build => simp only [evOpZ, evOp, fillZ_eq]
  case mksl => simp only [evOpZ, evOp, fillZ_eq, zMksl]; rfl
  all_goals rfl
end Go.Proofs.YtdljelicbnjfjaaGreat.X
