/- A plain machine for programs of one goroutine: values, memory, operations, code, calls; no proof about the model. -/
import Derived.Laws.Entries
import Derived.Below
set_option linter.unusedVariables false
set_option linter.unusedSimpArgs false
namespace Go.Proofs.Ytljkkfcokpimkaa.X
open Go

/-- How much room a slice has: just so much; up to the end of its own row, which may be longer than is known; nobody knows. -/
inductive Cap where
  | exact (n : Nat)
  | more (esz : Nat)
  | any
  deriving DecidableEq

/-- Values. -/
inductive AV where
  | undef
  | int (k : IntKind) (n : Int)
  | bool (b : Bool)
  | str (s : List UInt8)
  | ptr (b off : Nat)
  | nilp
  | sl (b off len : Nat) (cap : Cap)
  | nilsl
  | fn (f : Nat) (first captured : List AV)
  | nilfn
  | agg (l : List AV)
  | tup (l : List AV)

mutual
/-- The same value, told by looking. -/
def AV.same : AV → AV → Bool
  | .undef, .undef => true
  | .int k n, .int k' n' => decide (k = k') && decide (n = n')
  | .bool b, .bool b' => b == b'
  | .str s, .str s' => decide (s = s')
  | .ptr b o, .ptr b' o' => decide (b = b') && decide (o = o')
  | .nilp, .nilp => true
  | .sl b o n c, .sl b' o' n' c' => decide (b = b') && decide (o = o') && decide (n = n') && decide (c = c')
  | .nilsl, .nilsl => true
  | .nilfn, .nilfn => true
  | .agg l, .agg l' => AV.sames l l'
  | .fn f x y, .fn f' x' y' => decide (f = f') && AV.sames x x' && AV.sames y y'
  | .tup l, .tup l' => AV.sames l l'
  | _, _ => false
def AV.sames : List AV → List AV → Bool
  | [], [] => true
  | x :: l, y :: l' => AV.same x y && AV.sames l l'
  | _, _ => false
end

mutual
theorem AV.same_eq : ∀ x y : AV, AV.same x y = true → x = y
  | .undef, y => by cases y <;> simp [AV.same]
  | .int .., y => by cases y <;> simp [AV.same]
  | .bool _, y => by cases y <;> simp [AV.same]
  | .str _, y => by cases y <;> simp [AV.same]
  | .ptr .., y => by cases y <;> simp [AV.same]
  | .nilp, y => by cases y <;> simp [AV.same]
  | .sl .., y => by cases y <;> simp [AV.same] <;> intros <;> simp_all
  | .nilsl, y => by cases y <;> simp [AV.same]
  | .nilfn, y => by cases y <;> simp [AV.same]
  | .agg l, y => by
    cases y <;> simp [AV.same]
    exact AV.sames_eq l _
  | .tup l, y => by
    cases y <;> simp [AV.same]
    exact AV.sames_eq l _
  | .fn f a b, y => by
    cases y <;> simp [AV.same]
    exact fun h1 h2 h3 => ⟨h1, AV.sames_eq a _ h2, AV.sames_eq b _ h3⟩
theorem AV.sames_eq : ∀ x y : List AV, AV.sames x y = true → x = y
  | [], y => by cases y <;> simp [AV.sames]
  | a :: l, y => by
    cases y <;> simp [AV.sames]
    exact fun h1 h2 => ⟨AV.same_eq a _ h1, AV.sames_eq l _ h2⟩
end

/-- A value of one cell. -/
def AV.leaf : AV → Bool
  | .undef | .agg _ | .tup _ => false
  | _ => true
def leaves : List AV → Bool
  | [] => true
  | v :: l => v.leaf && leaves l
/-- The cells that a value takes. -/
def AV.cells : AV → List AV
  | .agg l => l
  | v => [v]

/-! ### Memory: a tree of blocks -/
inductive Obj where
  | live (cells : List AV) (e : Nat) (own : Bool)
  | dead

inductive T where
  | nil
  | node (v : Option Obj) (l r : T)

def T.get : T → Nat → Option Obj
  | .nil, _ => none
  | .node v l r, n => if n = 0 then v else if n % 2 = 1 then l.get (n / 2) else r.get (n / 2 - 1)
def T.val : T → Option Obj | .nil => none | .node v _ _ => v
def T.left : T → T | .nil => .nil | .node _ l _ => l
def T.right : T → T | .nil => .nil | .node _ _ r => r
def T.setAt (o : Obj) : Nat → T → Nat → T
  | 0, t, _ => .node (some o) t.left t.right
  | k + 1, t, n => if n = 0 then .node (some o) t.left t.right else if n % 2 = 1 then .node t.val (T.setAt o k t.left (n / 2)) t.right else .node t.val t.left (T.setAt o k t.right (n / 2 - 1))
def T.set (t : T) (n : Nat) (o : Obj) : T := T.setAt o n t n

theorem T.get_eq (t : T) (n : Nat) : t.get n = if n = 0 then t.val else if n % 2 = 1 then t.left.get (n / 2) else t.right.get (n / 2 - 1) := by
  cases t with
  | nil => simp [T.get, T.val, T.left, T.right]
  | node v l r => rfl
theorem T.setAt_get (o : Obj) : ∀ (k : Nat) (t : T) (n m : Nat), n ≤ k → (T.setAt o k t n).get m = if m = n then some o else t.get m
  | 0, t, n, m, h => by
    obtain rfl : n = 0 := by omega
    rw [T.setAt, T.get, T.get_eq t m]
    split <;> rfl
  | k + 1, t, n, m, h => by
    rw [T.setAt]
    by_cases hn : n = 0
    · subst hn
      rw [if_pos rfl, T.get, T.get_eq t m]
      split <;> rfl
    · rw [if_neg hn]
      by_cases ho : n % 2 = 1
      · rw [if_pos ho, T.get, T.get_eq t m]
        by_cases hm : m = 0
        · rw [if_pos hm, if_pos hm, if_neg (by omega)]
        · rw [if_neg hm, if_neg hm]
          by_cases hmo : m % 2 = 1
          · rw [if_pos hmo, if_pos hmo, T.setAt_get o k _ _ _ (by omega)]
            by_cases e : m = n
            · rw [if_pos e, if_pos (by omega)]
            · rw [if_neg e, if_neg (by omega)]
          · rw [if_neg hmo, if_neg hmo, if_neg (by omega)]
      · rw [if_neg ho, T.get, T.get_eq t m]
        by_cases hm : m = 0
        · rw [if_pos hm, if_pos hm, if_neg (by omega)]
        · rw [if_neg hm, if_neg hm]
          by_cases hmo : m % 2 = 1
          · rw [if_pos hmo, if_pos hmo, if_neg (by omega)]
          · rw [if_neg hmo, if_neg hmo, T.setAt_get o k _ _ _ (by omega)]
            by_cases e : m = n
            · rw [if_pos e, if_pos (by omega)]
            · rw [if_neg e, if_neg (by omega)]
theorem T.get_set (t : T) (n m : Nat) (o : Obj) : (t.set n o).get m = if m = n then some o else t.get m := T.setAt_get o n t n m (Nat.le_refl _)
theorem T.setAt_fuel (o : Obj) : ∀ (k k' : Nat) (t : T) (n : Nat), n ≤ k → n ≤ k' → T.setAt o k t n = T.setAt o k' t n
  | 0, 0, _, _, _, _ => rfl
  | 0, k' + 1, t, n, h, _ => by
    obtain rfl : n = 0 := by omega
    rw [T.setAt, T.setAt, if_pos rfl]
  | k + 1, 0, t, n, _, h => by
    obtain rfl : n = 0 := by omega
    rw [T.setAt, T.setAt, if_pos rfl]
  | k + 1, k' + 1, t, n, h, h' => by
    rw [T.setAt, T.setAt]
    by_cases hn : n = 0
    · rw [if_pos hn, if_pos hn]
    · rw [if_neg hn, if_neg hn, T.setAt_fuel o k k' _ _ (by omega) (by omega), T.setAt_fuel o k k' t.right (n / 2 - 1) (by omega) (by omega)]
theorem T.setAt_comm (o o' : Obj) : ∀ (k : Nat) (t : T) (n m : Nat), n ≤ k → m ≤ k → n ≠ m → T.setAt o k (T.setAt o' k t m) n = T.setAt o' k (T.setAt o k t n) m
  | 0, _, n, m, h, h', e => by omega
  | k + 1, t, n, m, h, h', e => by
    by_cases hn : n = 0
    · subst hn
      have hm : m ≠ 0 := fun x => e x.symm
      simp only [T.setAt, if_true, if_neg hm]
      split <;> rfl
    · by_cases hm : m = 0
      · subst hm
        simp only [T.setAt, if_true, if_neg hn]
        split <;> rfl
      · simp only [T.setAt, if_neg hn, if_neg hm]
        by_cases ho : n % 2 = 1 <;> by_cases ho' : m % 2 = 1
        · simp only [if_pos ho, if_pos ho', T.val, T.left, T.right]
          rw [T.setAt_comm o o' k _ _ _ (by omega) (by omega) (by omega)]
        · simp only [if_pos ho, if_neg ho', T.val, T.left, T.right]
        · simp only [if_neg ho, if_pos ho', T.val, T.left, T.right]
        · simp only [if_neg ho, if_neg ho', T.val, T.left, T.right]
          rw [T.setAt_comm o o' k _ _ _ (by omega) (by omega) (by omega)]
theorem T.set_comm (t : T) (n m : Nat) (o o' : Obj) (h : n ≠ m) : (t.set m o').set n o = (t.set n o).set m o' := by
  unfold T.set
  rw [T.setAt_fuel o n (max n m) _ _ (Nat.le_refl _) (by omega), T.setAt_fuel o' m (max n m) _ _ (Nat.le_refl _) (by omega),
    T.setAt_fuel o' m (max n m) (T.setAt o n t n) _ (Nat.le_refl _) (by omega), T.setAt_fuel o n (max n m) t _ (Nat.le_refl _) (by omega)]
  exact T.setAt_comm o o' _ t n m (by omega) (by omega) h

structure Mem where
  next : Nat
  t : T

def Mem.get (m : Mem) (b : Nat) : Option Obj := m.t.get b
def Mem.set (m : Mem) (b : Nat) (o : Obj) : Mem := ⟨m.next, m.t.set b o⟩
/-- A new block: the next number, or a number that was kept for it. -/
def Mem.new (m : Mem) (at_ : Option Nat) (cs : List AV) (e : Nat) : Option (Nat × Mem) :=
  if leaves cs then
    match at_ with
    | none => some (m.next, ⟨m.next + 1, m.t.set m.next (.live cs e true)⟩)
    | some b => match m.get b with
      | none => if b < m.next then some (b, m.set b (.live cs e true)) else none
      | some _ => none
  else none
theorem Mem.get_set (m : Mem) (b c : Nat) (o : Obj) : (m.set b o).get c = if c = b then some o else m.get c := T.get_set ..
theorem Mem.set_comm (m : Mem) (b c : Nat) (o o' : Obj) (h : b ≠ c) : (m.set c o').set b o = (m.set b o).set c o' := by
  simp only [Mem.set, T.set_comm _ _ _ _ _ h]

/-- The cells of a block from a place on, if they are all there. -/
def Mem.read (m : Mem) (b off n : Nat) : Option (List AV) :=
  match m.get b with
  | some (.live cs _ _) => if off + n ≤ cs.length then some ((cs.drop off).take n) else none
  | _ => none
/-- New values for some cells of a row. -/
def overlay (cs : List AV) (off : Nat) : List AV → List AV
  | [] => cs
  | v :: vs => overlay (cs.set off v) (off + 1) vs
def Mem.write (m : Mem) (b off : Nat) (vs : List AV) : Option Mem :=
  match m.get b with
  | some (.live cs e true) => if off + vs.length ≤ cs.length ∧ leaves vs = true then some (m.set b (.live (overlay cs off vs) e true)) else none
  | _ => none

/-! ### Operations -/
inductive Opd where
  | t (n : Nat)
  | c (v : AV)

def Opd.eval (tm : List AV) : Opd → AV
  | .t n => tm.getD n .undef
  | .c v => v

inductive Conv where
  | toInt (k : IntKind)
  | same
  | keep
  | b2s
  | s2b (e : Nat)

/-- What an operator is asked of. -/
inductive EK where
  | num
  | bool
  | ptr
  | sl
  | fn
  deriving DecidableEq

inductive SlK where
  | str
  | row (esz : Nat)
  | arr (n esz : Nat)

inductive IOp where
  | mv (x : Opd)
  | pick (c a b : Opd)
  | al (at_ : Option Nat) (e : Nat) (zero : List AV)
  | bx (at_ : Option Nat) (e : Nat) (x : Opd)
  | build (tpl : List AV) (ps : List (Nat × Nat × Opd))
  | mksl (at_ : Option Nat) (e : Nat) (tpl : List AV) (len : Nat) (ps : List (Nat × Nat × Opd))
  | ld (n : Option Nat) (x : Opd)
  | st (n : Nat) (x y : Opd)
  | nilc (x : Opd)
  | bin (op : BinOp) (kd : EK) (x y : Opd)
  | un (op : UnOp) (x : Opd)
  | cv (at_ : Option Nat) (c : Conv) (x : Opd)
  | mkf (f : Nat) (first captured : List Opd)
  | mks (at_ : Option Nat) (e : Nat) (zero : List AV) (bytes : Nat) (len cap : Opd)
  | sli (k : SlK) (x : Opd) (lo hi mx : Option Opd)
  | fa (off : Nat) (x : Opd)
  | fld (off : Nat) (n : Option Nat) (x : Opd)
  | ia (arr : Option Nat) (esz : Nat) (x i : Opd)
  | ix (arr : Option (Nat × Nat × Option Nat)) (x i : Opd)
  | ext (x : Opd) (i : Nat)
  | call (f : Nat) (args : List Opd)
  | callv (x : Opd) (args : List Opd)
  | app (e esz bytes : Nat) (zero : List AV) (x y : Opd)
  | grow (e esz bytes : Nat) (zero : List AV) (x n : Opd)
  | clear (zero : List AV) (x : Opd)
  | copy (esz : Nat) (x y : Opd)
  | len (str : Bool) (x : Opd)
  | cap (x : Opd)
  | mn (xs : List Opd)
  | mx (xs : List Opd)

/-- Reckoning with whole numbers. -/
def intOp (op : BinOp) (k : IntKind) (x y : Int) : Option AV :=
  match op with
  | .add => some (.int k (k.wrap (x + y)))
  | .sub => some (.int k (k.wrap (x - y)))
  | .mul => some (.int k (k.wrap (x * y)))
  | .quo => if y = 0 then none else some (.int k (k.wrap (x.tdiv y)))
  | .rem => if y = 0 then none else some (.int k (x.tmod y))
  | .and => some (.int k (bits .and k x y))
  | .or => some (.int k (bits .or k x y))
  | .xor => some (.int k (bits .xor k x y))
  | .andNot => some (.int k (bits .andNot k x y))
  | .eql => some (.bool (x == y))
  | .neq => some (.bool (x != y))
  | .lss => some (.bool (decide (x < y)))
  | .leq => some (.bool (decide (x ≤ y)))
  | .gtr => some (.bool (decide (x > y)))
  | .geq => some (.bool (decide (x ≥ y)))
  | .shl | .shr => none
def shiftOp (op : BinOp) (k : IntKind) (x y : Int) : Option AV :=
  if y < 0 then none else
  match op with
  | .shl => some (.int k (k.wrap (x * 2 ^ min y.toNat k.bits)))
  | .shr => some (.int k (x.fdiv (2 ^ min y.toNat k.bits)))
  | _ => none
def strOp (op : BinOp) (x y : List UInt8) : Option AV :=
  match op with
  | .add => if x.length + y.length ≤ 9223372036854775807 then some (.str (x ++ y)) else none
  | .eql => some (.bool (x == y))
  | .neq => some (.bool !(x == y))
  | .lss => some (.bool (Op.bytesLess x y))
  | .leq => some (.bool (Op.bytesLess x y || x == y))
  | .gtr => some (.bool !(Op.bytesLess x y || x == y))
  | .geq => some (.bool !(Op.bytesLess x y))
  | _ => none
def eqlOp (op : BinOp) (b : Bool) : Option AV :=
  match op with
  | .eql => some (.bool b)
  | .neq => some (.bool !b)
  | _ => none
def binOp (op : BinOp) (kd : EK) (x y : AV) : Option AV :=
  match kd, x, y with
  | .num, .int k a, .int k' b =>
    match op with
    | .shl | .shr => shiftOp op k a b
    | _ => if k = k' then intOp op k a b else none
  | .num, .str a, .str b => strOp op a b
  | .bool, .bool a, .bool b => eqlOp op (a == b)
  | .ptr, .nilp, .nilp => eqlOp op true
  | .ptr, .nilp, .ptr .. => eqlOp op false
  | .ptr, .ptr .., .nilp => eqlOp op false
  | .sl, .nilsl, .nilsl => eqlOp op true
  | .sl, .nilsl, .sl .. => eqlOp op false
  | .sl, .sl .., .nilsl => eqlOp op false
  | .fn, .nilfn, .nilfn => eqlOp op true
  | .fn, .nilfn, .fn .. => eqlOp op false
  | .fn, .fn .., .nilfn => eqlOp op false
  | _, _, _ => none
def unOp (op : UnOp) (x : AV) : Option AV :=
  match op, x with
  | .neg, .int k n => some (.int k (k.wrap (0 - n)))
  | .xor, .int k n => some (.int k (bits .xor k (if k.signed then -1 else k.max) n))
  | .not, .bool b => some (.bool !b)
  | _, _ => none
/-- Parts laid into a template: place, size, value. -/
def fillParts (tm : List AV) : List AV → List (Nat × Nat × Opd) → Option (List AV)
  | cs, [] => some cs
  | cs, (off, n, x) :: ps =>
    let vs := (x.eval tm).cells
    if vs.length = n ∧ off + n ≤ cs.length ∧ leaves vs = true then fillParts tm (overlay cs off vs) ps else none
def partOf (cs : List AV) (off : Nat) (n : Option Nat) : Option AV :=
  match n with
  | some n => if off + n ≤ cs.length then some (.agg ((cs.drop off).take n)) else none
  | none => cs[off]?
def repCells (zero : List AV) : Nat → List AV
  | 0 => []
  | n + 1 => zero ++ repCells zero n
def natOf : AV → Option Nat
  | .int _ n => if 0 ≤ n then some n.toNat else none
  | _ => none
/-- Is there surely so much room? -/
def within (len : Nat) (cap : Cap) (h : Nat) : Bool := decide (h ≤ len) || match cap with | .exact c => decide (h ≤ c) | _ => false
/-- The room behind a place. -/
def Cap.less (cap : Cap) (l : Nat) : Cap := match cap with | .exact c => .exact (c - l) | .more z => .more z | .any => .any
/-- Are the elements of that many cells? -/
def Cap.fits (cap : Cap) (esz : Nat) : Bool := match cap with | .more z => decide (z = esz) | _ => true
/-- The bounds of a slice expression: low, high; the room that is left, where it is known. -/
def loB : Option AV → Option Nat
  | some v => natOf v
  | none => some 0
def hiB (len : Nat) : Option AV → Option Nat
  | some v => natOf v
  | none => some len
def slBounds (len : Nat) (cap : Cap) (lo hi mx : Option AV) : Option (Nat × Nat × Cap) :=
  match loB lo, hiB len hi, mx with
  | some l, some h, none => if l ≤ h ∧ within len cap h = true then some (l, h, cap.less l) else none
  | some l, some h, some v =>
    match natOf v with
    | some c' => if l ≤ h ∧ h ≤ c' ∧ hi.isSome ∧ within len cap c' = true then some (l, h, .exact (c' - l)) else none
    | none => none
  | _, _, _ => none
def sliceOp (k : SlK) (x : AV) (lo hi mx : Option AV) : Option AV :=
  match k, x with
  | .str, .str s =>
    match mx, slBounds s.length (.exact s.length) lo hi none with
    | none, some (l, h, _) => some (.str ((s.drop l).take (h - l)))
    | _, _ => none
  | .row esz, .sl b off len cap =>
    if cap.fits esz = true then
      match slBounds len cap lo hi mx with
      | some (l, h, c) => some (.sl b (off + l * esz) (h - l) c)
      | none => none
    else none
  | .row _, .nilsl =>
    match slBounds 0 (.exact 0) lo hi mx with
    | some _ => some .nilsl
    | none => none
  | .arr n esz, .ptr b off =>
    match mx, slBounds n (.exact n) lo hi none with
    | none, some (l, h, c) => some (.sl b (off + l * esz) (h - l) c)
    | _, _ => none
  | _, _ => none
/-- The bytes of cells. -/
def bytesOf : List AV → Option (List UInt8)
  | [] => some []
  | .int .u8 n :: l => match bytesOf l with | some r => some (UInt8.ofNat n.toNat :: r) | none => none
  | _ :: _ => none
def minInt : AV → List AV → Option AV
  | x, [] => some x
  | .int k x, .int k' y :: l => if k = k' then minInt (.int k (if y < x then y else x)) l else none
  | _, _ => none
def maxInt : AV → List AV → Option AV
  | x, [] => some x
  | .int k x, .int k' y :: l => if k = k' then maxInt (.int k (if x < y then y else x)) l else none
  | _, _ => none
/-- The cells that an append takes from its second operand, and how many elements these are. -/
def srcCells (m : Mem) (esz : Nat) : AV → Option (Nat × List AV)
  | .nilsl => some (0, [])
  | .sl b off len _ => match m.read b off (len * esz) with | some cs => some (len, cs) | none => none
  | .str s => if esz = 1 then some (s.length, s.map fun c => .int .u8 c.toNat) else none
  | _ => none
/-- As many bytes as a row may take. -/
def most : Nat := 140737488355328
/-- append. -/
def appendOp (m : Mem) (e esz bytes : Nat) (x y : AV) : Option (AV × Mem) :=
  match srcCells m esz y with
  | none => none
  | some (n, cs) =>
    match x with
    | .nilsl =>
      if n = 0 then some (.nilsl, m)
      else if n * bytes ≤ most then match m.new none cs e with | some (b', m') => some (.sl b' 0 n (.more esz), m') | none => none
      else none
    | .sl b off len cap =>
      if n = 0 then some (x, m) else
      match cap with
      | .exact c =>
        if len + n ≤ c then match m.write b (off + len * esz) cs with | some m' => some (.sl b off (len + n) cap, m') | none => none
        else if (len + n) * bytes ≤ most then
          match m.read b off (len * esz) with
          | some old => match m.new none (old ++ cs) e with | some (b', m') => some (.sl b' 0 (len + n) (.more esz), m') | none => none
          | none => none
        else none
      | .more z =>
        match m.get b with
        | some (.live known e' true) =>
          if e' = e ∧ z = esz ∧ (len + n) * bytes ≤ most ∧ off + len * esz ≤ known.length then
            if off + (len + n) * esz ≤ known.length then match m.write b (off + len * esz) cs with | some m' => some (.sl b off (len + n) (.more esz), m') | none => none
            else match (m.set b .dead).new none ((known.drop off).take (len * esz) ++ cs) e with
              | some (b', m') => some (.sl b' 0 (len + n) (.more esz), m')
              | none => none
          else none
        | _ => none
      | .any => none
    | _ => none
/-- append of a row that is made for it: onto nil alone. -/
def growOp (m : Mem) (e esz bytes : Nat) (zero : List AV) (x n : AV) : Option (AV × Mem) :=
  match x, natOf n with
  | .nilsl, some (k + 1) => if (k + 1) * bytes ≤ most then match m.new none (repCells zero (k + 1)) e with | some (b', m') => some (.sl b' 0 (k + 1) (.more esz), m') | none => none else none
  | _, _ => none

abbrev CallF := Nat → List AV → Mem → Option (AV × Mem)

/-- A number kept for a block of this region. -/
def slot (base : Nat) : Option Nat → Option Nat
  | none => none
  | some k => some (base + k)
def newRow (m : Mem) (base : Nat) (at_ : Option Nat) (cs : List AV) (e : Nat) (mk : Nat → AV) : Option (AV × Mem) :=
  match m.new (slot base at_) cs e with
  | some (b, m') => some (mk b, m')
  | none => none
def pureOp (o : Option AV) (m : Mem) : Option (AV × Mem) :=
  match o with
  | some v => some (v, m)
  | none => none

theorem pureOp_some {o : Option AV} {m m' : Mem} {v : AV} (h : pureOp o m = some (v, m')) : o = some v ∧ m' = m := by
  unfold pureOp at h
  split at h
  · injection h with h; injection h with h1 h2; exact ⟨by rw [h1], h2.symm⟩
  · cases h
/-- One operation: its value, and memory behind it. -/
def evOp (call : CallF) (base : Nat) (tm : List AV) (m : Mem) : IOp → Option (AV × Mem)
  | .mv x => some (x.eval tm, m)
  | .pick c a b => match c.eval tm with | .bool t => some (if t then a.eval tm else b.eval tm, m) | _ => none
  | .al s e zero => newRow m base s zero e fun b => .ptr b 0
  | .bx s e x => newRow m base s (x.eval tm).cells e fun b => .ptr b 0
  | .build tpl ps => pureOp ((fillParts tm tpl ps).map .agg) m
  | .mksl s e tpl len ps => match fillParts tm tpl ps with | some cs => newRow m base s cs e fun b => .sl b 0 len (.exact len) | none => none
  | .ld none x => match x.eval tm with
    | .ptr b off => match m.read b off 1 with | some [v] => some (v, m) | _ => none
    | _ => none
  | .ld (some n) x => match x.eval tm with
    | .ptr b off => match m.read b off n with | some cs => some (.agg cs, m) | none => none
    | _ => none
  | .st n x y => match x.eval tm with
    | .ptr b off => let vs := (y.eval tm).cells; if vs.length = n then match m.write b off vs with | some m' => some (.undef, m') | none => none else none
    | _ => none
  | .nilc x => match x.eval tm with | .ptr b off => some (.ptr b off, m) | .fn f a c => some (.fn f a c, m) | _ => none
  | .bin op kd x y => pureOp (binOp op kd (x.eval tm) (y.eval tm)) m
  | .un op x => pureOp (unOp op (x.eval tm)) m
  | .cv _ (.toInt k) x => match x.eval tm with | .int _ n => some (.int k (k.wrap n), m) | _ => none
  | .cv _ .same x => match x.eval tm with | .str s => some (.str s, m) | _ => none
  | .cv _ .keep x => match x.eval tm with | .sl b off len c => (match m.get b with | some (.live _ _ true) => if 0 < len then some (.sl b off len c, m) else none | _ => none) | _ => none
  | .cv _ .b2s x => match x.eval tm with
    | .nilsl => some (.str [], m)
    | .sl b off len _ => match m.read b off len with | some cs => pureOp ((bytesOf cs).map .str) m | none => none
    | _ => none
  | .cv s (.s2b e) x => match x.eval tm with
    | .str l => newRow m base s (l.map fun c => .int .u8 c.toNat) e fun b => .sl b 0 l.length (.more 1)
    | _ => none
  | .mkf f first cap => some (.fn f (first.map (·.eval tm)) (cap.map (·.eval tm)), m)
  | .mks s e zero bytes len cap => match natOf (len.eval tm), natOf (cap.eval tm) with
    | some l, some c => if l ≤ c ∧ c * bytes ≤ most ∧ c < 9223372036854775808 then newRow m base s (repCells zero c) e fun b => .sl b 0 l (.exact c) else none
    | _, _ => none
  | .sli k x lo hi mx => pureOp (sliceOp k (x.eval tm) (lo.map (·.eval tm)) (hi.map (·.eval tm)) (mx.map (·.eval tm))) m
  | .fa off x => match x.eval tm with | .ptr b o => some (.ptr b (o + off), m) | _ => none
  | .fld off n x => match x.eval tm with | .agg cs => pureOp (partOf cs off n) m | _ => none
  | .ia none esz x i => match x.eval tm, i.eval tm with
    | .sl b off len _, .int _ n => if 0 ≤ n ∧ n < len then some (.ptr b (off + n.toNat * esz), m) else none
    | _, _ => none
  | .ia (some len) esz x i => match x.eval tm, i.eval tm with
    | .ptr b off, .int _ n => if 0 ≤ n ∧ n < len then some (.ptr b (off + n.toNat * esz), m) else none
    | _, _ => none
  | .ix none x i => match x.eval tm, i.eval tm with
    | .str s, .int _ n => if 0 ≤ n then match s[n.toNat]? with | some c => some (.int .u8 c.toNat, m) | none => none else none
    | _, _ => none
  | .ix (some (len, esz, k)) x i => match x.eval tm, i.eval tm with
    | .agg cs, .int _ n => if 0 ≤ n ∧ n < len then pureOp (partOf cs (n.toNat * esz) k) m else none
    | _, _ => none
  | .ext x i => match x.eval tm with | .tup l => pureOp l[i]? m | _ => none
  | .call f args => call f (args.map (·.eval tm)) m
  | .callv x args => match x.eval tm with | .fn f first cap => call f (first ++ args.map (·.eval tm) ++ cap) m | _ => none
  | .app e esz bytes _ x y => appendOp m e esz bytes (x.eval tm) (y.eval tm)
  | .grow e esz bytes zero x n => growOp m e esz bytes zero (x.eval tm) (n.eval tm)
  | .clear zero x => match x.eval tm with
    | .nilsl => some (.undef, m)
    | .sl b off len _ => if len = 0 then some (.undef, m) else match m.write b off (repCells zero len) with | some m' => some (.undef, m') | none => none
    | _ => none
  | .copy esz x y => match x.eval tm, srcCells m esz (y.eval tm) with
    | .nilsl, some _ => some (.int .i64 0, m)
    | .sl b off len _, some (n, cs) => if min n len = 0 then some (.int .i64 0, m) else match m.write b off (cs.take (min n len * esz)) with | some m' => some (.int .i64 (min n len : Nat), m') | none => none
    | _, _ => none
  | .len true x => match x.eval tm with
    | .str s => some (.int .i64 s.length, m)
    | _ => none
  | .len false x => match x.eval tm with
    | .nilsl => some (.int .i64 0, m)
    | .sl _ _ n _ => some (.int .i64 n, m)
    | _ => none
  | .cap x => match x.eval tm with
    | .nilsl => some (.int .i64 0, m)
    | .sl _ _ _ (.exact c) => some (.int .i64 c, m)
    | _ => none
  | .mn xs => match xs.map (·.eval tm) with | x :: l => pureOp (minInt x l) m | [] => none
  | .mx xs => match xs.map (·.eval tm) with | x :: l => pureOp (maxInt x l) m | [] => none

/-! ### Code -/
/-- What was read ahead of an operation, to be read again behind it. -/
structure Chk where
  guard : Option (Nat × Bool)
  op : IOp
  dst : Nat

structure Step where
  dst : Option Nat
  guard : Option (Nat × Bool)
  op : IOp
  chk : List Chk

inductive ICode where
  | skip
  | reg (n : Nat) (pi : List Nat) (anc : List (List Nat)) (ops : List Step)
  | seq (a b : ICode)
  | cond (c : Opd) (a b : ICode)
  | block (id : Nat) (c : ICode)
  | loop (c : ICode)
  | exit (id : Nat)
  | ret

structure St where
  tm : List AV
  m : Mem

inductive Ex where
  | norm
  | exit (id : Nat)
  | ret

def put (tm : List AV) (d : Option Nat) (v : AV) : List AV := match d with | some d => tm.set d v | none => tm
def wants (tm : List AV) : Option (Nat × Bool) → Bool
  | none => true
  | some (t, b) => match tm.getD t .undef with | .bool c => c == b | _ => false
/-- What was read is read again as the same. -/
def chkOk (base : Nat) (tm : List AV) (m : Mem) (c : Chk) : Bool :=
  if wants tm c.guard then match evOp (fun _ _ _ => none) base tm m c.op with | some (v, _) => AV.same v (tm.getD c.dst .undef) | none => false else true
def evSteps (call : CallF) (base : Nat) : List Step → St → Option St
  | [], s => some s
  | i :: r, s =>
    if wants s.tm i.guard then
      match evOp call base s.tm s.m i.op with
      | some (v, m') => if i.chk.all (chkOk base s.tm m') then evSteps call base r ⟨put s.tm i.dst v, m'⟩ else none
      | none => none
    else evSteps call base r ⟨put s.tm i.dst .undef, s.m⟩
def loopN (body : St → Option (Ex × St)) : Nat → St → Option (Ex × St)
  | 0, _ => none
  | k + 1, s => match body s with
    | some (.norm, s') => loopN body k s'
    | r => r
def evC (call : CallF) (k : Nat) : ICode → St → Option (Ex × St)
  | .skip, s => some (.norm, s)
  | .reg n _ _ ops, s => match evSteps call s.m.next ops ⟨s.tm, ⟨s.m.next + n, s.m.t⟩⟩ with | some s' => some (.norm, s') | none => none
  | .seq a b, s => match evC call k a s with
    | some (.norm, s') => evC call k b s'
    | r => r
  | .cond c a b, s => match c.eval s.tm with
    | .bool true => evC call k a s
    | .bool false => evC call k b s
    | _ => none
  | .block id c, s => match evC call k c s with
    | some (.exit j, s') => if j = id then some (.norm, s') else some (.exit j, s')
    | r => r
  | .loop c, s => loopN (evC call k c) k s
  | .exit id, s => some (.exit id, s)
  | .ret, s => some (.ret, s)

inductive IRes where
  | tmp (t : Nat)
  | cell (t : Nat) (n : Option Nat)

structure IFun where
  ntmps : Nat
  results : List IRes
  body : ICode

def resOf (tm : List AV) (m : Mem) : IRes → Option AV
  | .tmp t => some (tm.getD t .undef)
  | .cell t n => match evOp (fun _ _ _ => none) 0 tm m (.ld n (.t t)) with | some (v, _) => some v | none => none
def resAll (tm : List AV) (m : Mem) : List IRes → Option (List AV)
  | [] => some []
  | r :: l => match resOf tm m r, resAll tm m l with | some v, some vs => some (v :: vs) | _, _ => none
def pack : List AV → AV
  | [v] => v
  | l => .tup l

inductive FT where
  | nil
  | node (v : Option IFun) (l r : FT)
def FT.get : FT → Nat → Option IFun
  | .nil, _ => none
  | .node v l r, n => if n = 0 then v else if n % 2 = 1 then l.get (n / 2) else r.get (n / 2 - 1)

/-- A call: so deep, and so many rounds of a loop, at most. -/
def evF (P : Nat → Option IFun) : Nat → CallF
  | 0, _, _, _ => none
  | k + 1, f, args, m =>
    match P f with
    | none => none
    | some fn =>
      match evC (evF P k) k fn.body ⟨args ++ List.replicate (fn.ntmps - args.length) .undef, m⟩ with
      | some (.norm, s) | some (.ret, s) => match resAll s.tm s.m fn.results with | some vs => some (pack vs, s.m) | none => none
      | _ => none
end Go.Proofs.Ytljkkfcokpimkaa.X
