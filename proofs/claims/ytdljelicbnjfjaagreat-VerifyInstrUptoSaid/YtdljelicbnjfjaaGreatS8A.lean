/- What the law needs (1): the plain machine, functions' contracts, plain facts; put together out of texts of one's own. -/
import Derived.Laws.Entries
import Derived.Below
import Derived.WalkKit
import Derived.Laws.IdiomCopy
import Derived.Lib.ConvBytes
import Derived.Laws.Small
import Derived.Laws.Cover3
import Derived.Laws.Pointers
import Derived.ChangeKeysEq
import Derived.Great.BuildSlice
import Derived.Laws.Append
import Derived.Laws.AppendOwn
import Derived.Laws.BytesArg
import Derived.Laws.MakeOwn
import Derived.Orders
import Derived.Test.YtdljelicbnjfjaaGreatProg
import Derived.WalkLawsBesides
import Derived.Tactics
import Derived.Tactics2
import Derived.Defers
import Derived.Recover
import Derived.Shelf.Lay
import Derived.Shelf.Sort.Plain
import Derived.Shelf.Slices.In.SortNone
import Derived.Ground.NamesProg
import Derived.Carry
import Derived.ChangeArms
import Derived.DataReads
import Derived.DataElems
import Derived.Attr
import Derived.RowKit
import Derived.Laws.BitsLemmas
import Derived.Test.YtdljelicbnjfjaaGreatRows
import GoSem.ClaimJoined
import Derived.JoinedOf
set_option linter.unusedVariables false
set_option linter.unusedSimpArgs false
set_option maxRecDepth 100000
namespace Go.Proofs.YtdljelicbnjfjaaGreat.X
open Go
inductive Cap where
 | exact (n : Nat)
 | more (esz : Nat)
 | any
 deriving DecidableEq
inductive AV where
 | undef
 | int (k : IntKind) (n : Int)
 | bool (b : Bool)
 | str (s : List UInt8)
 | ptr (b off : Nat)
 | nilp
 | sl (b off len : Nat) (cap : Cap)
 | nilsl
 | fn (f : Nat) (first captured : List AV)
 | nilfn
 | agg (l : List AV)
 | tup (l : List AV)
mutual
/-- The same value,told by looking. -/
def AV.same : AV -> AV -> Bool
 | .undef,.undef=>true
 | .int k n,.int k' n'=>decide (k = k') && decide (n = n')
 | .bool b,.bool b'=>b == b'
 | .str s,.str s'=>decide (s = s')
 | .ptr b o,.ptr b' o'=>decide (b = b') && decide (o = o')
 | .nilp,.nilp=>true
 | .sl b o n c,.sl b' o' n' c'=>decide (b = b') && decide (o = o') && decide (n = n') && decide (c = c')
 | .nilsl,.nilsl=>true
 | .nilfn,.nilfn=>true
 | .agg l,.agg l'=>AV.sames l l'
 | .fn f x y,.fn f' x' y'=>decide (f = f') && AV.sames x x' && AV.sames y y'
 | .tup l,.tup l'=>AV.sames l l'
 | _,_=>false
def AV.sames : List AV -> List AV -> Bool
 | [],[]=>true
 | x :: l,y :: l'=>AV.same x y && AV.sames l l'
 | _,_=>false
end
mutual
theorem AV.same_eq : ∀ x y : AV,AV.same x y = true -> x = y
 | .undef,y=>by cases y <;> simp [AV.same]
 | .int ..,y=>by cases y <;> simp [AV.same]
 | .bool _,y=>by cases y <;> simp [AV.same]
 | .str _,y=>by cases y <;> simp [AV.same]
 | .ptr ..,y=>by cases y <;> simp [AV.same]
 | .nilp,y=>by cases y <;> simp [AV.same]
 | .sl ..,y=>by cases y <;> simp [AV.same] <;> intros <;> simp_all
 | .nilsl,y=>by cases y <;> simp [AV.same]
 | .nilfn,y=>by cases y <;> simp [AV.same]
 | .agg l,y=>by
  cases y <;> simp [AV.same]
  exact AV.sames_eq l _
 | .tup l,y=>by
  cases y <;> simp [AV.same]
  exact AV.sames_eq l _
 | .fn f a b,y=>by
  cases y <;> simp [AV.same]
  exact fun h1 h2 h3=>⟨h1,AV.sames_eq a _ h2,AV.sames_eq b _ h3⟩
theorem AV.sames_eq : ∀ x y : List AV,AV.sames x y = true -> x = y
 | [],y=>by cases y <;> simp [AV.sames]
 | a :: l,y=>by
  cases y <;> simp [AV.sames]
  exact fun h1 h2=>⟨AV.same_eq a _ h1,AV.sames_eq l _ h2⟩
end
def AV.leaf : AV -> Bool
 | .undef | .agg _ | .tup _=>false
 | _=>true
def leaves : List AV -> Bool
 | []=>true
 | v :: l=>v.leaf && leaves l
def AV.cells : AV -> List AV
 | .agg l=>l
 | v=>[v]
inductive Obj where
 | live (cells : List AV) (e : Nat) (own : Bool)
 | dead
inductive T where
 | nil
 | node (v : Option Obj) (l r : T)
def T.get : T -> Nat -> Option Obj
 | .nil,_=>none
 | .node v l r,n=>if n = 0 then v else if n % 2 = 1 then l.get (n / 2) else r.get (n / 2 - 1)
def T.val : T -> Option Obj | .nil=>none | .node v _ _=>v
def T.left : T -> T | .nil=>.nil | .node _ l _=>l
def T.right : T -> T | .nil=>.nil | .node _ _ r=>r
def T.setAt (o : Obj) : Nat -> T -> Nat -> T
 | 0,t,_=>.node (some o) t.left t.right
 | k + 1,t,n=>if n = 0 then .node (some o) t.left t.right else if n % 2 = 1 then .node t.val (T.setAt o k t.left (n / 2)) t.right else .node t.val t.left (T.setAt o k t.right (n / 2 - 1))
def T.set (t : T) (n : Nat) (o : Obj) : T:=T.setAt o n t n
theorem T.get_eq (t : T) (n : Nat) : t.get n = if n = 0 then t.val else if n % 2 = 1 then t.left.get (n / 2) else t.right.get (n / 2 - 1):=by
 cases t with
 | nil=>simp [T.get,T.val,T.left,T.right]
 | node v l r=>rfl
theorem T.setAt_get (o : Obj) : ∀ (k : Nat) (t : T) (n m : Nat),n <= k -> (T.setAt o k t n).get m = if m = n then some o else t.get m
 | 0,t,n,m,h=>by
  obtain rfl : n = 0:=by omega
  rw [T.setAt,T.get,T.get_eq t m]
  split <;> rfl
 | k + 1,t,n,m,h=>by
  rw [T.setAt]
  by_cases hn : n = 0
  ·subst hn
   rw [if_pos rfl,T.get,T.get_eq t m]
   split <;> rfl
  ·rw [if_neg hn]
   by_cases ho : n % 2 = 1
   ·rw [if_pos ho,T.get,T.get_eq t m]
    by_cases hm : m = 0
    ·rw [if_pos hm,if_pos hm,if_neg (by omega)]
    ·rw [if_neg hm,if_neg hm]
     by_cases hmo : m % 2 = 1
     ·rw [if_pos hmo,if_pos hmo,T.setAt_get o k _ _ _ (by omega)]
      by_cases e : m = n
      ·rw [if_pos e,if_pos (by omega)]
      ·rw [if_neg e,if_neg (by omega)]
     ·rw [if_neg hmo,if_neg hmo,if_neg (by omega)]
   ·rw [if_neg ho,T.get,T.get_eq t m]
    by_cases hm : m = 0
    ·rw [if_pos hm,if_pos hm,if_neg (by omega)]
    ·rw [if_neg hm,if_neg hm]
     by_cases hmo : m % 2 = 1
     ·rw [if_pos hmo,if_pos hmo,if_neg (by omega)]
     ·rw [if_neg hmo,if_neg hmo,T.setAt_get o k _ _ _ (by omega)]
      by_cases e : m = n
      ·rw [if_pos e,if_pos (by omega)]
      ·rw [if_neg e,if_neg (by omega)]
theorem T.get_set (t : T) (n m : Nat) (o : Obj) : (t.set n o).get m = if m = n then some o else t.get m:=T.setAt_get o n t n m (Nat.le_refl _)
theorem T.setAt_fuel (o : Obj) : ∀ (k k' : Nat) (t : T) (n : Nat),n <= k -> n <= k' -> T.setAt o k t n = T.setAt o k' t n
 | 0,0,_,_,_,_=>rfl
 | 0,k' + 1,t,n,h,_=>by
  obtain rfl : n = 0:=by omega
  rw [T.setAt,T.setAt,if_pos rfl]
 | k + 1,0,t,n,_,h=>by
  obtain rfl : n = 0:=by omega
  rw [T.setAt,T.setAt,if_pos rfl]
 | k + 1,k' + 1,t,n,h,h'=>by
  rw [T.setAt,T.setAt]
  by_cases hn : n = 0
  ·rw [if_pos hn,if_pos hn]
  ·rw [if_neg hn,if_neg hn,T.setAt_fuel o k k' _ _ (by omega) (by omega),T.setAt_fuel o k k' t.right (n / 2 - 1) (by omega) (by omega)]
theorem T.setAt_comm (o o' : Obj) : ∀ (k : Nat) (t : T) (n m : Nat),n <= k -> m <= k -> n ≠ m -> T.setAt o k (T.setAt o' k t m) n = T.setAt o' k (T.setAt o k t n) m
 | 0,_,n,m,h,h',e=>by omega
 | k + 1,t,n,m,h,h',e=>by
  by_cases hn : n = 0
  ·subst hn
   have hm : m ≠ 0:=fun x=>e x.symm
   simp only [T.setAt,if_true,if_neg hm]
   split <;> rfl
  ·by_cases hm : m = 0
   ·subst hm
    simp only [T.setAt,if_true,if_neg hn]
    split <;> rfl
   ·simp only [T.setAt,if_neg hn,if_neg hm]
    by_cases ho : n % 2 = 1 <;> by_cases ho' : m % 2 = 1
    ·simp only [if_pos ho,if_pos ho',T.val,T.left,T.right]
     rw [T.setAt_comm o o' k _ _ _ (by omega) (by omega) (by omega)]
    ·simp only [if_pos ho,if_neg ho',T.val,T.left,T.right]
    ·simp only [if_neg ho,if_pos ho',T.val,T.left,T.right]
    ·simp only [if_neg ho,if_neg ho',T.val,T.left,T.right]
     rw [T.setAt_comm o o' k _ _ _ (by omega) (by omega) (by omega)]
theorem T.set_comm (t : T) (n m : Nat) (o o' : Obj) (h : n ≠ m) : (t.set m o').set n o = (t.set n o).set m o':=by
 unfold T.set
 rw [T.setAt_fuel o n (max n m) _ _ (Nat.le_refl _) (by omega),T.setAt_fuel o' m (max n m) _ _ (Nat.le_refl _) (by omega),
  T.setAt_fuel o' m (max n m) (T.setAt o n t n) _ (Nat.le_refl _) (by omega),T.setAt_fuel o n (max n m) t _ (Nat.le_refl _) (by omega)]
 exact T.setAt_comm o o' _ t n m (by omega) (by omega) h
structure Mem where
 next : Nat
 t : T
def Mem.get (m : Mem) (b : Nat) : Option Obj:=m.t.get b
def Mem.set (m : Mem) (b : Nat) (o : Obj) : Mem:=⟨m.next,m.t.set b o⟩
def Mem.new (m : Mem) (at_ : Option Nat) (cs : List AV) (e : Nat) : Option (Nat × Mem):=
 if leaves cs then
  match at_ with
  | none=>some (m.next,⟨m.next + 1,m.t.set m.next (.live cs e true)⟩)
  | some b=>match m.get b with
   | none=>if b < m.next then some (b,m.set b (.live cs e true)) else none
   | some _=>none
 else none
theorem Mem.get_set (m : Mem) (b c : Nat) (o : Obj) : (m.set b o).get c = if c = b then some o else m.get c:=T.get_set ..
theorem Mem.set_comm (m : Mem) (b c : Nat) (o o' : Obj) (h : b ≠ c) : (m.set c o').set b o = (m.set b o).set c o':=by
 simp only [Mem.set,T.set_comm _ _ _ _ _ h]
def Mem.read (m : Mem) (b off n : Nat) : Option (List AV):=
 match m.get b with
 | some (.live cs _ _)=>if off + n <= cs.length then some ((cs.drop off).take n) else none
 | _=>none
def overlay (cs : List AV) (off : Nat) : List AV -> List AV
 | []=>cs
 | v :: vs=>overlay (cs.set off v) (off + 1) vs
def Mem.write (m : Mem) (b off : Nat) (vs : List AV) : Option Mem:=
 match m.get b with
 | some (.live cs e true)=>if off + vs.length <= cs.length /\ leaves vs = true then some (m.set b (.live (overlay cs off vs) e true)) else none
 | _=>none
inductive Opd where
 | t (n : Nat)
 | c (v : AV)
def Opd.eval (tm : List AV) : Opd -> AV
 | .t n=>tm.getD n .undef
 | .c v=>v
inductive Conv where
 | toInt (k : IntKind)
 | same
 | keep
 | b2s
 | s2b (e : Nat)
inductive EK where
 | num
 | bool
 | ptr
 | sl
 | fn
 deriving DecidableEq
inductive SlK where
 | str
 | row (esz : Nat)
 | arr (n esz : Nat)
inductive IOp where
 | mv (x : Opd)
 | pick (c a b : Opd)
 | al (at_ : Option Nat) (e : Nat) (zero : List AV)
 | bx (at_ : Option Nat) (e : Nat) (x : Opd)
 | build (tpl : List AV) (ps : List (Nat × Nat × Opd))
 | mksl (at_ : Option Nat) (e : Nat) (tpl : List AV) (len : Nat) (ps : List (Nat × Nat × Opd))
 | ld (n : Option Nat) (x : Opd)
 | st (n : Nat) (x y : Opd)
 | nilc (x : Opd)
 | bin (op : BinOp) (kd : EK) (x y : Opd)
 | un (op : UnOp) (x : Opd)
 | cv (at_ : Option Nat) (c : Conv) (x : Opd)
 | mkf (f : Nat) (first captured : List Opd)
 | mks (at_ : Option Nat) (e : Nat) (zero : List AV) (bytes : Nat) (len cap : Opd)
 | sli (k : SlK) (x : Opd) (lo hi mx : Option Opd)
 | fa (off : Nat) (x : Opd)
 | fld (off : Nat) (n : Option Nat) (x : Opd)
 | ia (arr : Option Nat) (esz : Nat) (x i : Opd)
 | ix (arr : Option (Nat × Nat × Option Nat)) (x i : Opd)
 | ext (x : Opd) (i : Nat)
 | call (f : Nat) (args : List Opd)
 | callv (x : Opd) (args : List Opd)
 | app (e esz bytes : Nat) (zero : List AV) (x y : Opd)
 | grow (e esz bytes : Nat) (zero : List AV) (x n : Opd)
 | clear (zero : List AV) (x : Opd)
 | copy (esz : Nat) (x y : Opd)
 | len (str : Bool) (x : Opd)
 | cap (x : Opd)
 | mn (xs : List Opd)
 | mx (xs : List Opd)
def E5 (op : BinOp) (k : IntKind) (x y : Int) : Option AV:=
 match op with
 | .add=>some (.int k (k.wrap (x + y)))
 | .sub=>some (.int k (k.wrap (x - y)))
 | .mul=>some (.int k (k.wrap (x * y)))
 | .quo=>if y = 0 then none else some (.int k (k.wrap (x.tdiv y)))
 | .rem=>if y = 0 then none else some (.int k (x.tmod y))
 | .and=>some (.int k (bits .and k x y))
 | .or=>some (.int k (bits .or k x y))
 | .xor=>some (.int k (bits .xor k x y))
 | .andNot=>some (.int k (bits .andNot k x y))
 | .eql=>some (.bool (x == y))
 | .neq=>some (.bool (x != y))
 | .lss=>some (.bool (decide (x < y)))
 | .leq=>some (.bool (decide (x <= y)))
 | .gtr=>some (.bool (decide (x > y)))
 | .geq=>some (.bool (decide (x ≥ y)))
 | .shl | .shr=>none
def KW (op : BinOp) (k : IntKind) (x y : Int) : Option AV:=
 if y < 0 then none else
 match op with
 | .shl=>some (.int k (k.wrap (x * 2 ^ min y.toNat k.bits)))
 | .shr=>some (.int k (x.fdiv (2 ^ min y.toNat k.bits)))
 | _=>none
def RM (op : BinOp) (x y : List UInt8) : Option AV:=
 match op with
 | .add=>if x.length + y.length <= 9223372036854775807 then some (.str (x ++ y)) else none
 | .eql=>some (.bool (x == y))
 | .neq=>some (.bool !(x == y))
 | .lss=>some (.bool (Op.bytesLess x y))
 | .leq=>some (.bool (Op.bytesLess x y || x == y))
 | .gtr=>some (.bool !(Op.bytesLess x y || x == y))
 | .geq=>some (.bool !(Op.bytesLess x y))
 | _=>none
def HF (op : BinOp) (b : Bool) : Option AV:=
 match op with
 | .eql=>some (.bool b)
 | .neq=>some (.bool !b)
 | _=>none
def binOp (op : BinOp) (kd : EK) (x y : AV) : Option AV:=
 match kd,x,y with
 | .num,.int k a,.int k' b=>
  match op with
  | .shl | .shr=>KW op k a b
  | _=>if k = k' then E5 op k a b else none
 | .num,.str a,.str b=>RM op a b
 | .bool,.bool a,.bool b=>HF op (a == b)
 | .ptr,.nilp,.nilp=>HF op true
 | .ptr,.nilp,.ptr ..=>HF op false
 | .ptr,.ptr ..,.nilp=>HF op false
 | .sl,.nilsl,.nilsl=>HF op true
 | .sl,.nilsl,.sl ..=>HF op false
 | .sl,.sl ..,.nilsl=>HF op false
 | .fn,.nilfn,.nilfn=>HF op true
 | .fn,.nilfn,.fn ..=>HF op false
 | .fn,.fn ..,.nilfn=>HF op false
 | _,_,_=>none
def unOp (op : UnOp) (x : AV) : Option AV:=
 match op,x with
 | .neg,.int k n=>some (.int k (k.wrap (0 - n)))
 | .xor,.int k n=>some (.int k (bits .xor k (if k.signed then -1 else k.max) n))
 | .not,.bool b=>some (.bool !b)
 | _,_=>none
def B4 (tm : List AV) : List AV -> List (Nat × Nat × Opd) -> Option (List AV)
 | cs,[]=>some cs
 | cs,(off,n,x) :: ps=>
  let vs:=(x.eval tm).cells
  if vs.length = n /\ off + n <= cs.length /\ leaves vs = true then B4 tm (overlay cs off vs) ps else none
def EQ (cs : List AV) (off : Nat) (n : Option Nat) : Option AV:=
 match n with
 | some n=>if off + n <= cs.length then some (.agg ((cs.drop off).take n)) else none
 | none=>cs[off]?
def AW (zero : List AV) : Nat -> List AV
 | 0=>[]
 | n + 1=>zero ++ AW zero n
def DR : AV -> Option Nat
 | .int _ n=>if 0 <= n then some n.toNat else none
 | _=>none
def within (len : Nat) (cap : Cap) (h : Nat) : Bool:=decide (h <= len) || match cap with | .exact c=>decide (h <= c) | _=>false
def Cap.less (cap : Cap) (l : Nat) : Cap:=match cap with | .exact c=>.exact (c - l) | .more z=>.more z | .any=>.any
def Cap.fits (cap : Cap) (esz : Nat) : Bool:=match cap with | .more z=>decide (z = esz) | _=>true
def loB : Option AV -> Option Nat
 | some v=>DR v
 | none=>some 0
def hiB (len : Nat) : Option AV -> Option Nat
 | some v=>DR v
 | none=>some len
def DH (len : Nat) (cap : Cap) (lo hi mx : Option AV) : Option (Nat × Nat × Cap):=
 match loB lo,hiB len hi,mx with
 | some l,some h,none=>if l <= h /\ within len cap h = true then some (l,h,cap.less l) else none
 | some l,some h,some v=>
  match DR v with
  | some c'=>if l <= h /\ h <= c' /\ hi.isSome /\ within len cap c' = true then some (l,h,.exact (c' - l)) else none
  | none=>none
 | _,_,_=>none
def B7 (k : SlK) (x : AV) (lo hi mx : Option AV) : Option AV:=
 match k,x with
 | .str,.str s=>
  match mx,DH s.length (.exact s.length) lo hi none with
  | none,some (l,h,_)=>some (.str ((s.drop l).take (h - l)))
  | _,_=>none
 | .row esz,.sl b off len cap=>
  if cap.fits esz = true then
   match DH len cap lo hi mx with
   | some (l,h,c)=>some (.sl b (off + l * esz) (h - l) c)
   | none=>none
  else none
 | .row _,.nilsl=>
  match DH 0 (.exact 0) lo hi mx with
  | some _=>some .nilsl
  | none=>none
 | .arr n esz,.ptr b off=>
  match mx,DH n (.exact n) lo hi none with
  | none,some (l,h,c)=>some (.sl b (off + l * esz) (h - l) c)
  | _,_=>none
 | _,_=>none
def bytesOf : List AV -> Option (List UInt8)
 | []=>some []
 | .int .u8 n :: l=>match bytesOf l with | some r=>some (UInt8.ofNat n.toNat :: r) | none=>none
 | _ :: _=>none
def ES : AV -> List AV -> Option AV
 | x,[]=>some x
 | .int k x,.int k' y :: l=>if k = k' then ES (.int k (if y < x then y else x)) l else none
 | _,_=>none
def ET : AV -> List AV -> Option AV
 | x,[]=>some x
 | .int k x,.int k' y :: l=>if k = k' then ET (.int k (if x < y then y else x)) l else none
 | _,_=>none
def CZ (m : Mem) (esz : Nat) : AV -> Option (Nat × List AV)
 | .nilsl=>some (0,[])
 | .sl b off len _=>match m.read b off (len * esz) with | some cs=>some (len,cs) | none=>none
 | .str s=>if esz = 1 then some (s.length,s.map fun c=>.int .u8 c.toNat) else none
 | _=>none
def AQ : Nat:=140737488355328
def CR (m : Mem) (e esz bytes : Nat) (x y : AV) : Option (AV × Mem):=
 match CZ m esz y with
 | none=>none
 | some (n,cs)=>
  match x with
  | .nilsl=>
   if n = 0 then some (.nilsl,m)
   else if n * bytes <= AQ then match m.new none cs e with | some (b',m')=>some (.sl b' 0 n (.more esz),m') | none=>none
   else none
  | .sl b off len cap=>
   if n = 0 then some (x,m) else
   match cap with
   | .exact c=>
    if len + n <= c then match m.write b (off + len * esz) cs with | some m'=>some (.sl b off (len + n) cap,m') | none=>none
    else if (len + n) * bytes <= AQ then
     match m.read b off (len * esz) with
     | some old=>match m.new none (old ++ cs) e with | some (b',m')=>some (.sl b' 0 (len + n) (.more esz),m') | none=>none
     | none=>none
    else none
   | .more z=>
    match m.get b with
    | some (.live known e' true)=>
     if e' = e /\ z = esz /\ (len + n) * bytes <= AQ /\ off + len * esz <= known.length then
      if off + (len + n) * esz <= known.length then match m.write b (off + len * esz) cs with | some m'=>some (.sl b off (len + n) (.more esz),m') | none=>none
      else match (m.set b .dead).new none ((known.drop off).take (len * esz) ++ cs) e with
       | some (b',m')=>some (.sl b' 0 (len + n) (.more esz),m')
       | none=>none
     else none
    | _=>none
   | .any=>none
  | _=>none
def KM (m : Mem) (e esz bytes : Nat) (zero : List AV) (x n : AV) : Option (AV × Mem):=
 match x,DR n with
 | .nilsl,some (k + 1)=>if (k + 1) * bytes <= AQ then match m.new none (AW zero (k + 1)) e with | some (b',m')=>some (.sl b' 0 (k + 1) (.more esz),m') | none=>none else none
 | _,_=>none
abbrev BN:=Nat -> List AV -> Mem -> Option (AV × Mem)
def slot (base : Nat) : Option Nat -> Option Nat
 | none=>none
 | some k=>some (base + k)
def newRow (m : Mem) (base : Nat) (at_ : Option Nat) (cs : List AV) (e : Nat) (mk : Nat -> AV) : Option (AV × Mem):=
 match m.new (slot base at_) cs e with
 | some (b,m')=>some (mk b,m')
 | none=>none
def CV (o : Option AV) (m : Mem) : Option (AV × Mem):=
 match o with
 | some v=>some (v,m)
 | none=>none
theorem B6 {o : Option AV} {m m' : Mem} {v : AV} (h : CV o m = some (v,m')) : o = some v /\ m' = m:=by
 unfold CV at h
 split at h
 ·injection h with h; injection h with h1 h2; exact ⟨by rw [h1],h2.symm⟩
 ·cases h
def A1 (call : BN) (base : Nat) (tm : List AV) (m : Mem) : IOp -> Option (AV × Mem)
 | .mv x=>some (x.eval tm,m)
 | .pick c a b=>match c.eval tm with | .bool t=>some (if t then a.eval tm else b.eval tm,m) | _=>none
 | .al s e zero=>newRow m base s zero e fun b=>.ptr b 0
 | .bx s e x=>newRow m base s (x.eval tm).cells e fun b=>.ptr b 0
 | .build tpl ps=>CV ((B4 tm tpl ps).map .agg) m
 | .mksl s e tpl len ps=>match B4 tm tpl ps with | some cs=>newRow m base s cs e fun b=>.sl b 0 len (.exact len) | none=>none
 | .ld none x=>match x.eval tm with
  | .ptr b off=>match m.read b off 1 with | some [v]=>some (v,m) | _=>none
  | _=>none
 | .ld (some n) x=>match x.eval tm with
  | .ptr b off=>match m.read b off n with | some cs=>some (.agg cs,m) | none=>none
  | _=>none
 | .st n x y=>match x.eval tm with
  | .ptr b off=>let vs:=(y.eval tm).cells; if vs.length = n then match m.write b off vs with | some m'=>some (.undef,m') | none=>none else none
  | _=>none
 | .nilc x=>match x.eval tm with | .ptr b off=>some (.ptr b off,m) | .fn f a c=>some (.fn f a c,m) | _=>none
 | .bin op kd x y=>CV (binOp op kd (x.eval tm) (y.eval tm)) m
 | .un op x=>CV (unOp op (x.eval tm)) m
 | .cv _ (.toInt k) x=>match x.eval tm with | .int _ n=>some (.int k (k.wrap n),m) | _=>none
 | .cv _ .same x=>match x.eval tm with | .str s=>some (.str s,m) | _=>none
 | .cv _ .keep x=>match x.eval tm with | .sl b off len c=>(match m.get b with | some (.live _ _ true)=>if 0 < len then some (.sl b off len c,m) else none | _=>none) | _=>none
 | .cv _ .b2s x=>match x.eval tm with
  | .nilsl=>some (.str [],m)
  | .sl b off len _=>match m.read b off len with | some cs=>CV ((bytesOf cs).map .str) m | none=>none
  | _=>none
 | .cv s (.s2b e) x=>match x.eval tm with
  | .str l=>newRow m base s (l.map fun c=>.int .u8 c.toNat) e fun b=>.sl b 0 l.length (.more 1)
  | _=>none
 | .mkf f first cap=>some (.fn f (first.map (·.eval tm)) (cap.map (·.eval tm)),m)
 | .mks s e zero bytes len cap=>match DR (len.eval tm),DR (cap.eval tm) with
  | some l,some c=>if l <= c /\ c * bytes <= AQ /\ c < 9223372036854775808 then newRow m base s (AW zero c) e fun b=>.sl b 0 l (.exact c) else none
  | _,_=>none
 | .sli k x lo hi mx=>CV (B7 k (x.eval tm) (lo.map (·.eval tm)) (hi.map (·.eval tm)) (mx.map (·.eval tm))) m
 | .fa off x=>match x.eval tm with | .ptr b o=>some (.ptr b (o + off),m) | _=>none
 | .fld off n x=>match x.eval tm with | .agg cs=>CV (EQ cs off n) m | _=>none
 | .ia none esz x i=>match x.eval tm,i.eval tm with
  | .sl b off len _,.int _ n=>if 0 <= n /\ n < len then some (.ptr b (off + n.toNat * esz),m) else none
  | _,_=>none
 | .ia (some len) esz x i=>match x.eval tm,i.eval tm with
  | .ptr b off,.int _ n=>if 0 <= n /\ n < len then some (.ptr b (off + n.toNat * esz),m) else none
  | _,_=>none
 | .ix none x i=>match x.eval tm,i.eval tm with
  | .str s,.int _ n=>if 0 <= n then match s[n.toNat]? with | some c=>some (.int .u8 c.toNat,m) | none=>none else none
  | _,_=>none
 | .ix (some (len,esz,k)) x i=>match x.eval tm,i.eval tm with
  | .agg cs,.int _ n=>if 0 <= n /\ n < len then CV (EQ cs (n.toNat * esz) k) m else none
  | _,_=>none
 | .ext x i=>match x.eval tm with | .tup l=>CV l[i]? m | _=>none
 | .call f args=>call f (args.map (·.eval tm)) m
 | .callv x args=>match x.eval tm with | .fn f first cap=>call f (first ++ args.map (·.eval tm) ++ cap) m | _=>none
 | .app e esz bytes _ x y=>CR m e esz bytes (x.eval tm) (y.eval tm)
 | .grow e esz bytes zero x n=>KM m e esz bytes zero (x.eval tm) (n.eval tm)
 | .clear zero x=>match x.eval tm with
  | .nilsl=>some (.undef,m)
  | .sl b off len _=>if len = 0 then some (.undef,m) else match m.write b off (AW zero len) with | some m'=>some (.undef,m') | none=>none
  | _=>none
 | .copy esz x y=>match x.eval tm,CZ m esz (y.eval tm) with
  | .nilsl,some _=>some (.int .i64 0,m)
  | .sl b off len _,some (n,cs)=>if min n len = 0 then some (.int .i64 0,m) else match m.write b off (cs.take (min n len * esz)) with | some m'=>some (.int .i64 (min n len : Nat),m') | none=>none
  | _,_=>none
 | .len true x=>match x.eval tm with
  | .str s=>some (.int .i64 s.length,m)
  | _=>none
 | .len false x=>match x.eval tm with
  | .nilsl=>some (.int .i64 0,m)
  | .sl _ _ n _=>some (.int .i64 n,m)
  | _=>none
 | .cap x=>match x.eval tm with
  | .nilsl=>some (.int .i64 0,m)
  | .sl _ _ _ (.exact c)=>some (.int .i64 c,m)
  | _=>none
 | .mn xs=>match xs.map (·.eval tm) with | x :: l=>CV (ES x l) m | []=>none
 | .mx xs=>match xs.map (·.eval tm) with | x :: l=>CV (ET x l) m | []=>none
structure Chk where
 guard : Option (Nat × Bool)
 op : IOp
 dst : Nat
structure Step where
 dst : Option Nat
 guard : Option (Nat × Bool)
 op : IOp
 chk : List Chk
inductive D1 where
 | skip
 | reg (n : Nat) (pi : List Nat) (anc : List (List Nat)) (ops : List Step)
 | seq (a b : D1)
 | cond (c : Opd) (a b : D1)
 | block (id : Nat) (c : D1)
 | loop (c : D1)
 | exit (id : Nat)
 | ret
structure St where
 tm : List AV
 m : Mem
inductive Ex where
 | norm
 | exit (id : Nat)
 | ret
def put (tm : List AV) (d : Option Nat) (v : AV) : List AV:=match d with | some d=>tm.set d v | none=>tm
def CA (tm : List AV) : Option (Nat × Bool) -> Bool
 | none=>true
 | some (t,b)=>match tm.getD t .undef with | .bool c=>c == b | _=>false
def D6 (base : Nat) (tm : List AV) (m : Mem) (c : Chk) : Bool:=
 if CA tm c.guard then match A1 (fun _ _ _=>none) base tm m c.op with | some (v,_)=>AV.same v (tm.getD c.dst .undef) | none=>false else true
def A9 (call : BN) (base : Nat) : List Step -> St -> Option St
 | [],s=>some s
 | i :: r,s=>
  if CA s.tm i.guard then
   match A1 call base s.tm s.m i.op with
   | some (v,m')=>if i.chk.all (D6 base s.tm m') then A9 call base r ⟨put s.tm i.dst v,m'⟩ else none
   | none=>none
  else A9 call base r ⟨put s.tm i.dst .undef,s.m⟩
def D9 (body : St -> Option (Ex × St)) : Nat -> St -> Option (Ex × St)
 | 0,_=>none
 | k + 1,s=>match body s with
  | some (.norm,s')=>D9 body k s'
  | r=>r
def evC (call : BN) (k : Nat) : D1 -> St -> Option (Ex × St)
 | .skip,s=>some (.norm,s)
 | .reg n _ _ ops,s=>match A9 call s.m.next ops ⟨s.tm,⟨s.m.next + n,s.m.t⟩⟩ with | some s'=>some (.norm,s') | none=>none
 | .seq a b,s=>match evC call k a s with
  | some (.norm,s')=>evC call k b s'
  | r=>r
 | .cond c a b,s=>match c.eval s.tm with
  | .bool true=>evC call k a s
  | .bool false=>evC call k b s
  | _=>none
 | .block id c,s=>match evC call k c s with
  | some (.exit j,s')=>if j = id then some (.norm,s') else some (.exit j,s')
  | r=>r
 | .loop c,s=>D9 (evC call k c) k s
 | .exit id,s=>some (.exit id,s)
 | .ret,s=>some (.ret,s)
inductive LN where
 | tmp (t : Nat)
 | cell (t : Nat) (n : Option Nat)
structure AN where
 ntmps : Nat
 results : List LN
 body : D1
def KX (tm : List AV) (m : Mem) : LN -> Option AV
 | .tmp t=>some (tm.getD t .undef)
 | .cell t n=>match A1 (fun _ _ _=>none) 0 tm m (.ld n (.t t)) with | some (v,_)=>some v | none=>none
def D7 (tm : List AV) (m : Mem) : List LN -> Option (List AV)
 | []=>some []
 | r :: l=>match KX tm m r,D7 tm m l with | some v,some vs=>some (v :: vs) | _,_=>none
def QK : List AV -> AV
 | [v]=>v
 | l=>.tup l
inductive FT where
 | nil
 | node (v : Option AN) (l r : FT)
def FT.get : FT -> Nat -> Option AN
 | .nil,_=>none
 | .node v l r,n=>if n = 0 then v else if n % 2 = 1 then l.get (n / 2) else r.get (n / 2 - 1)
def evF (P : Nat -> Option AN) : Nat -> BN
 | 0,_,_,_=>none
 | k + 1,f,args,m=>
  match P f with
  | none=>none
  | some fn=>
   match evC (evF P k) k fn.body ⟨args ++ List.replicate (fn.ntmps - args.length) .undef,m⟩ with
   | some (.norm,s) | some (.ret,s)=>match D7 s.tm s.m fn.results with | some vs=>some (QK vs,s.m) | none=>none
   | _=>none
end Go.Proofs.YtdljelicbnjfjaaGreat.X
namespace Go.Proofs.YtdljelicbnjfjaaGreat.X
open Go Go.RowKit
structure Reg where
 cb : Nat
 sh : Nat
 size : Nat
 esz : Nat
abbrev Map:=Nat -> Option Reg
def Map.le (ρ ρ' : Map) : Prop:=∀ b r,ρ b = some r -> ρ' b = some r
theorem Map.le_refl (ρ : Map) : ρ.le ρ:=fun _ _ h=>h
theorem Map.le_trans {ρ ρ' ρ'' : Map} (h : ρ.le ρ') (h' : ρ'.le ρ'') : ρ.le ρ'':=fun b r x=>h' b r (h b r x)
def JL (r : Reg) (o n : Nat) (c' : Nat) : Cap -> Prop
 | .exact k=>c' = k /\ n <= k
 | .more z=>z = r.esz /\ r.sh + o + c' * r.esz = r.size /\ n <= c'
 | .any=>n <= c'
def slAt (r : Reg) (o n c' : Nat) (cap : Cap) (a : Addr) : Prop:=a = ⟨r.cb,r.sh + o,none⟩ \/ n = 0 /\ (c' = 0 \/ cap = .any)
mutual
def VR (ρ : Map) : AV -> Value -> Prop
 | .undef,v=>v = .tuple #[]
 | .int k n,v=>v = .int k n
 | .bool b,v=>v = .bool b
 | .str s,v=>v = .string ⟨s.toArray⟩
 | .ptr b o,v=>∃ r,ρ b = some r /\ v = .pointer (some ⟨r.cb,r.sh + o,none⟩)
 | .nilp,v=>v = .pointer none
 | .sl b o n c,v=>∃ r a c',ρ b = some r /\ JL r o n c' c /\ slAt r o n c' c a /\ v = .slice (some a) n c'
 | .nilsl,v=>v = .slice none 0 0
 | .fn f x y,v=>∃ x' y',VRL ρ x x' /\ VRL ρ y y' /\ v = .func (.func f) x'.toArray y'.toArray
 | .nilfn,v=>v = .nilFunc
 | .agg l,v=>∃ l',VRL ρ l l' /\ v = .agg l'.toArray
 | .tup l,v=>∃ l',VRL ρ l l' /\ v = .tuple l'.toArray
def VRL (ρ : Map) : List AV -> List Value -> Prop
 | [],l=>l = []
 | x :: xs,l=>∃ y ys,l = y :: ys /\ VR ρ x y /\ VRL ρ xs ys
end
mutual
theorem VR.mono {ρ ρ' : Map} (h : ρ.le ρ') : ∀ (x : AV) (v : Value),VR ρ x v -> VR ρ' x v
 | .undef,_,hv=>by simpa [VR] using hv
 | .int ..,_,hv=>by simpa [VR] using hv
 | .bool _,_,hv=>by simpa [VR] using hv
 | .str _,_,hv=>by simpa [VR] using hv
 | .nilp,_,hv=>by simpa [VR] using hv
 | .nilsl,_,hv=>by simpa [VR] using hv
 | .nilfn,_,hv=>by simpa [VR] using hv
 | .ptr b o,_,hv=>by
  simp only [VR] at hv ⊢
  obtain ⟨r,h1,h2⟩:=hv
  exact ⟨r,h _ _ h1,h2⟩
 | .sl ..,_,hv=>by
  simp only [VR] at hv ⊢
  obtain ⟨r,a,c',h1,h2⟩:=hv
  exact ⟨r,a,c',h _ _ h1,h2⟩
 | .fn f x y,_,hv=>by
  simp only [VR] at hv ⊢
  obtain ⟨x',y',h1,h2,h3⟩:=hv
  exact ⟨x',y',VRL.mono h x _ h1,VRL.mono h y _ h2,h3⟩
 | .agg l,_,hv=>by
  simp only [VR] at hv ⊢
  obtain ⟨l',h1,h2⟩:=hv
  exact ⟨l',VRL.mono h l _ h1,h2⟩
 | .tup l,_,hv=>by
  simp only [VR] at hv ⊢
  obtain ⟨l',h1,h2⟩:=hv
  exact ⟨l',VRL.mono h l _ h1,h2⟩
theorem VRL.mono {ρ ρ' : Map} (h : ρ.le ρ') : ∀ (x : List AV) (v : List Value),VRL ρ x v -> VRL ρ' x v
 | [],_,hv=>by simpa [VRL] using hv
 | x :: xs,_,hv=>by
  simp only [VRL] at hv ⊢
  obtain ⟨y,ys,h1,h2,h3⟩:=hv
  exact ⟨y,ys,h1,VR.mono h x y h2,VRL.mono h xs ys h3⟩
end
theorem VRL.length {ρ : Map} : ∀ {x : List AV} {v : List Value},VRL ρ x v -> v.length = x.length
 | [],_,h=>by simp [VRL] at h; simp [h]
 | _ :: xs,_,h=>by
  simp only [VRL] at h
  obtain ⟨y,ys,rfl,_,h⟩:=h
  simp [VRL.length h]
theorem VRL.get {ρ : Map} : ∀ {x : List AV} {v : List Value},VRL ρ x v -> ∀ (i : Nat) (a : AV),x[i]? = some a -> ∃ b,v[i]? = some b /\ VR ρ a b
 | [],_,_,i,a,hi=>by simp at hi
 | x :: xs,_,h,i,a,hi=>by
  simp only [VRL] at h
  obtain ⟨y,ys,rfl,hy,h⟩:=h
  cases i with
  | zero=>simp at hi; subst hi; exact ⟨y,rfl,hy⟩
  | succ i=>simpa using VRL.get h i a (by simpa using hi)
theorem VRL.of_get {ρ : Map} : ∀ {x : List AV} {v : List Value},v.length = x.length -> (∀ (i : Nat) (a : AV) (b : Value),x[i]? = some a -> v[i]? = some b -> VR ρ a b) -> VRL ρ x v
 | [],v,hl,_=>by simp [VRL]; exact List.eq_nil_of_length_eq_zero (by simpa using hl)
 | x :: xs,[],hl,_=>by simp at hl
 | x :: xs,y :: ys,hl,h=>by
  simp only [VRL]
  exact ⟨y,ys,rfl,h 0 x y rfl rfl,VRL.of_get (by simpa using hl) (fun i a b h1 h2=>h (i + 1) a b (by simpa using h1) (by simpa using h2))⟩
theorem VRL.append {ρ : Map} {x x' : List AV} {v v' : List Value} (h : VRL ρ x v) (h' : VRL ρ x' v') : VRL ρ (x ++ x') (v ++ v'):=by
 induction x generalizing v with
 | nil=>simp [VRL] at h; subst h; simpa using h'
 | cons a xs ih=>
  simp only [VRL] at h
  obtain ⟨y,ys,rfl,hy,h⟩:=h
  simp only [List.cons_append,VRL]
  exact ⟨y,ys ++ v',rfl,hy,ih h⟩
theorem VRL.take {ρ : Map} (n : Nat) {x : List AV} {v : List Value} (h : VRL ρ x v) : VRL ρ (x.take n) (v.take n):=by
 induction n generalizing x v with
 | zero=>simp [VRL]
 | succ n ih=>
  cases x with
  | nil=>simp [VRL] at h; subst h; simp [VRL]
  | cons a xs=>
   simp only [VRL] at h
   obtain ⟨y,ys,rfl,hy,h⟩:=h
   simp only [List.take_succ_cons,VRL]
   exact ⟨y,_,rfl,hy,ih h⟩
theorem VRL.drop {ρ : Map} (n : Nat) {x : List AV} {v : List Value} (h : VRL ρ x v) : VRL ρ (x.drop n) (v.drop n):=by
 induction n generalizing x v with
 | zero=>simpa using h
 | succ n ih=>
  cases x with
  | nil=>simp [VRL] at h; subst h; simp [VRL]
  | cons a xs=>
   simp only [VRL] at h
   obtain ⟨y,ys,rfl,hy,h⟩:=h
   simpa using ih h
theorem VRL.set {ρ : Map} {x : List AV} {v : List Value} (h : VRL ρ x v) (i : Nat) {a : AV} {b : Value} (hab : VR ρ a b) : VRL ρ (x.set i a) (v.set i b):=by
 induction x generalizing v i with
 | nil=>simp [VRL] at h; subst h; simp [VRL]
 | cons c xs ih=>
  simp only [VRL] at h
  obtain ⟨y,ys,rfl,hy,h⟩:=h
  cases i with
  | zero=>simp only [List.set_cons_zero,VRL]; exact ⟨b,ys,rfl,hab,h⟩
  | succ i=>simp only [List.set_cons_succ,VRL]; exact ⟨y,_,rfl,hy,ih h i⟩
theorem VRL.cons {ρ : Map} {x : AV} {y : Value} {xs : List AV} {ys : List Value} (h : VR ρ x y) (h' : VRL ρ xs ys) : VRL ρ (x :: xs) (y :: ys):=by
 simp only [VRL]; exact ⟨y,ys,rfl,h,h'⟩
theorem VRL.nil' {ρ : Map} : VRL ρ [] []:=by simp [VRL]
theorem VRL.replicate_undef {ρ : Map} (n : Nat) : VRL ρ (List.replicate n .undef) (List.replicate n Go.undef):=by
 induction n with
 | zero=>exact VRL.nil'
 | succ n ih=>simp only [List.replicate_succ]; exact .cons (by simp [VR,Go.undef]) ih
theorem VRL.overlay {ρ : Map} : ∀ {ws : List AV} {us : List Value} {x : List AV} {v : List Value} (off : Nat),VRL ρ ws us -> VRL ρ x v -> ∃ v',VRL ρ (X.overlay x off ws) v' /\ v'.length = v.length /\ ∀ k,v'[k]? = if off <= k /\ k < off + us.length /\ k < v.length then us[k - off]? else v[k]?
 | [],us,x,v,off,hw,hx=>by
  simp [VRL] at hw; subst hw
  exact ⟨v,hx,rfl,fun k=>by rw [if_neg (by simp; omega)]⟩
 | w :: ws,us,x,v,off,hw,hx=>by
  simp only [VRL] at hw
  obtain ⟨u,us,rfl,hu,hw⟩:=hw
  obtain ⟨v',h1,h2,h3⟩:=VRL.overlay (off + 1) hw (hx.set off hu)
  refine ⟨v',h1,by simpa using h2,fun k=>?_⟩
  rw [h3]
  simp only [List.length_set,List.length_cons,List.getElem?_set]
  by_cases e : off = k
  ·subst e
   rw [if_neg (by omega)]
   by_cases hl : off < v.length
   ·simp [hl]
   ·simp [hl]
  ·by_cases hc : off + 1 <= k /\ k < off + 1 + us.length /\ k < v.length
   ·rw [if_pos hc,if_pos (by omega)]
    obtain ⟨j,hj⟩ : ∃ j,k - off = j + 1:=⟨k - off - 1,by omega⟩
    rw [hj,show k - (off + 1) = j by omega]; simp
   ·rw [if_neg hc,if_neg e,if_neg (by omega)]
theorem ER : ∀ (ws x : List AV) (off : Nat),(X.overlay x off ws).length = x.length
 | [],_,_=>rfl
 | w :: ws,x,off=>by rw [X.overlay,ER ws]; simp
theorem G8 : ∀ (ws x : List AV) (off k : Nat),(X.overlay x off ws)[k]? = if off <= k /\ k < off + ws.length /\ k < x.length then ws[k - off]? else x[k]?
 | [],x,off,k=>by rw [X.overlay,if_neg (by simp; omega)]
 | w :: ws,x,off,k=>by
  rw [X.overlay,G8 ws]
  simp only [List.length_set,List.length_cons,List.getElem?_set]
  by_cases e : off = k
  ·subst e
   rw [if_neg (by omega)]
   by_cases hl : off < x.length
   ·simp [hl]
   ·simp [hl]
  ·by_cases hc : off + 1 <= k /\ k < off + 1 + ws.length /\ k < x.length
   ·rw [if_pos hc,if_pos (by omega)]
    obtain ⟨j,hj⟩ : ∃ j,k - off = j + 1:=⟨k - off - 1,by omega⟩
    rw [hj,show k - (off + 1) = j by omega]; simp
   ·rw [if_neg hc,if_neg e,if_neg (by omega)]
theorem GA {ρ : Map} {x : AV} {v : Value} (h : VR ρ x v) (hl : x.leaf = true) : v.oneCell' = true:=by
 cases x <;> simp [AV.leaf] at hl <;> simp only [VR] at h
 case ptr=>obtain ⟨_,_,rfl⟩:=h; rfl
 case sl=>obtain ⟨_,_,_,_,_,_,rfl⟩:=h; rfl
 case fn=>obtain ⟨_,_,_,_,rfl⟩:=h; rfl
 all_goals subst h; rfl
theorem TX {x : AV} (hl : x.leaf = true) : x.cells = [x]:=by cases x <;> simp [AV.leaf] at hl <;> rfl
theorem SF {v : Value} (hl : v.oneCell' = true) : v.cells = #[v]:=by cases v <;> simp [Value.oneCell'] at hl <;> rfl
theorem C9 : ∀ {l : List AV},leaves l = true -> ∀ a ∈ l,a.leaf = true
 | [],_,a,h=>by simp at h
 | x :: l,h,a,ha=>by
  simp only [leaves,Bool.and_eq_true] at h
  rcases List.mem_cons.1 ha with rfl | ha
  ·exact h.1
  ·exact C9 h.2 a ha
theorem DS : ∀ {l : List AV},(∀ a ∈ l,a.leaf = true) -> leaves l = true
 | [],_=>rfl
 | x :: l,h=>by simp only [leaves,Bool.and_eq_true]; exact ⟨h x (by simp),DS fun a ha=>h a (by simp [ha])⟩
def OR (P : Program) (ρ : Map) (base : Nat) (w : World) (r : Reg) : Obj -> Prop
 | .dead=>True
 | .live cs e own=>∃ carr e' fr,w.heap[r.cb]? = some (.cells carr e' fr) /\ r.sh + cs.length <= carr.size /\ leaves cs = true /\
   (∀ (i : Nat) (a : AV),cs[i]? = some a -> ∃ u,carr[r.sh + i]? = some u /\ VR ρ a u) /\
   (own = true -> base <= r.cb /\ e' = e /\ carr.size = r.size /\ r.esz = P.cellsOf e /\ ∀ i,i < carr.size -> (i < fr.1 \/ fr.1 = fr.2))
structure MR (P : Program) (base : Nat) (ρ : Map) (m : Mem) (w : World) : Prop where
 dom : ∀ b o,m.get b = some o -> b < m.next /\ ∃ r,ρ b = some r /\ OR P ρ base w r o
 used : ∀ b r,ρ b = some r -> m.get b ≠ none
 low : base <= w.heap.size
 inj : ∀ b b' cs e o' r r',m.get b = some (.live cs e true) -> m.get b' = some o' -> o' ≠ .dead -> ρ b = some r -> ρ b' = some r' -> r.cb = r'.cb -> b = b'
theorem MR.lt {P : Program} {base : Nat} {ρ : Map} {m : Mem} {w : World} (h : MR P base ρ m w) {b : Nat} {r : Reg} (hb : ρ b = some r) : b < m.next:=by
 have:=h.used b r hb
 obtain ⟨o,ho⟩:=Option.ne_none_iff_exists'.1 this
 exact (h.dom b o ho).1
theorem OR.mono {P : Program} {ρ ρ' : Map} {base : Nat} {w : World} {r : Reg} {o : Obj} (hρ : ρ.le ρ') (h : OR P ρ base w r o) : OR P ρ' base w r o:=by
 cases o with
 | dead=>trivial
 | live cs e own=>
  obtain ⟨carr,e',fr,h1,h2,h3,h4,h5⟩:=h
  exact ⟨carr,e',fr,h1,h2,h3,fun i a ha=>let ⟨u,hu,hv⟩:=h4 i a ha; ⟨u,hu,VR.mono hρ _ _ hv⟩,h5⟩
theorem OR.same {P : Program} {ρ : Map} {base : Nat} {w w' : World} {r : Reg} {o : Obj} (hw : w'.heap[r.cb]? = w.heap[r.cb]?) (h : OR P ρ base w r o) : OR P ρ base w' r o:=by
 cases o with
 | dead=>trivial
 | live cs e own=>
  obtain ⟨carr,e',fr,h1,h⟩:=h
  exact ⟨carr,e',fr,hw.trans h1,h⟩
theorem MR.heap {P : Program} {base : Nat} {ρ : Map} {m : Mem} {w w' : World} (h : MR P base ρ m w) (hw : w'.heap = w.heap) : MR P base ρ m w':=
 ⟨fun b o hb=>let ⟨h1,r,h2,h3⟩:=h.dom b o hb; ⟨h1,r,h2,h3.same (by rw [hw])⟩,h.used,by rw [hw]; exact h.low,h.inj⟩
theorem MR.read {P : Program} {base : Nat} {ρ : Map} {m : Mem} {w : World} (h : MR P base ρ m w) {b off n : Nat} {cs : List AV} (hr : m.read b off n = some cs) :
  ∃ r,ρ b = some r /\ cs.length = n /\ leaves cs = true /\ ∃ us,VRL ρ cs us /\ us.length = n /\ ∀ i u,us[i]? = some u -> w.cell? ⟨r.cb,r.sh + off + i,none⟩ = some u:=by
 unfold Mem.read at hr
 split at hr
 ·rename_i known e own hg
  split at hr
  ·rename_i hle
   injection hr with hr
   obtain ⟨_,r,hρ,carr,e',fr,h1,h2,h3,h4,_⟩:=h.dom b _ hg
   have hlen : cs.length = n:=by rw [<- hr]; simp; omega
   have hget : ∀ i a,cs[i]? = some a -> known[off + i]? = some a:=by
    intro i a ha
    rw [<- hr] at ha
    rw [List.getElem?_take] at ha
    split at ha
    ·rwa [List.getElem?_drop] at ha
    ·cases ha
   refine ⟨r,hρ,hlen,DS fun a ha=>?_,((carr.toList.drop (r.sh + off)).take n),VRL.of_get ?_ ?_,?_,?_⟩
   ·obtain ⟨i,hi⟩:=List.getElem?_of_mem ha
    exact C9 h3 a (List.mem_of_getElem? (hget i a hi))
   ·simp; omega
   ·intro i a u ha hu
    obtain ⟨u',hu',hv⟩:=h4 _ _ (hget i a ha)
    rw [List.getElem?_take] at hu
    split at hu
    ·rw [List.getElem?_drop,Array.getElem?_toList] at hu
     rw [<- Nat.add_assoc] at hu'
     rw [hu] at hu'
     injection hu' with e
     rw [e]; exact hv
    ·cases hu
   ·simp; omega
   ·intro i u hu
    rw [List.getElem?_take] at hu
    split at hu
    ·rw [List.getElem?_drop,Array.getElem?_toList] at hu
     simp [World.cell?,h1,hu]
    ·cases hu
  ·cases hr
 ·cases hr
structure Upd (w w' : World) (b : Nat) (carr' : Array Value) (e : TypeId) (fr : Nat × Nat) : Prop where
 here : w'.heap[b]? = some (.cells carr' e fr)
 else_ : ∀ k,k ≠ b -> w'.heap[k]? = w.heap[k]?
 size : w'.heap.size = w.heap.size
 os : w'.os = w.os
 tape : w'.tape = w.tape
 output : w'.output = w.output
theorem DY (P : Program) (b : Nat) (e : TypeId) (fr : Nat × Nat) : ∀ (vs : List Value) (o i : Nat) (carr : Array Value) (w : World),w.heap[b]? = some (.cells carr e fr) -> o + i + vs.length <= carr.size ->
  (∀ j,j < carr.size -> ¬ (fr.1 <= j /\ j < fr.2)) -> (∀ v ∈ vs,v.oneCell' = true) ->
  ∃ w' carr',(storeCells ⟨b,o,none⟩ vs i).run P w = .ok () w' /\ Upd w w' b carr' e fr /\ carr'.size = carr.size /\ ∀ k,carr'[k]? = if o + i <= k /\ k < o + i + vs.length then vs[k - (o + i)]? else carr[k]?
 | [],o,i,carr,w,h,_,_,_=>⟨w,carr,rfl,⟨h,fun _ _=>rfl,rfl,rfl,rfl,rfl⟩,rfl,fun k=>by rw [if_neg (by simp)]⟩
 | v :: vs,o,i,carr,w,h,hl,hf,h1=>by
  simp only [List.length_cons] at hl
  have hadd : (⟨b,o,none⟩ : Addr).add i = ⟨b,o + i,none⟩:=by unfold Addr.add; split <;> simp_all
  have hc : w.cell? ⟨b,o + i,none⟩ = some carr[o + i]:=by simp [World.cell?,h]
  have hz : w.frozen? ⟨b,o + i,none⟩ = false:=by
   have:=hf (o + i) (by omega)
   simp only [World.frozen?,h,Bool.and_eq_false_iff,decide_eq_false_iff_not]
   by_cases x : fr.1 <= o + i
   ·exact .inr fun y=>this ⟨x,y⟩
   ·exact .inl x
  have hst : (store ((⟨b,o,none⟩ : Addr).add i) v).run P w = .ok () (w.setCell ⟨b,o + i,none⟩ v):=by
   rw [hadd,run_store P w _ v _ (h1 v (by simp))]
   simp [hc,hz]
  have hb : b < w.heap.size:=(Array.getElem?_eq_some_iff.1 h).1
  have h' : (w.setCell ⟨b,o + i,none⟩ v).heap[b]? = some (.cells (carr.setIfInBounds (o + i) v) e fr):=by
   simp only [World.setCell,Array.getElem?_modify,if_true,h,Option.map_some]
   simp
  obtain ⟨w',carr',hr,hu,hs,hk⟩:=DY P b e fr vs o (i + 1) _ _ h' (by simp; omega) (by simpa using hf) (fun u hu=>h1 u (by simp [hu]))
  refine ⟨w',carr',?_,⟨hu.here,fun k hne=>?_,?_,hu.os,hu.tape,hu.output⟩,by simpa using hs,fun k=>?_⟩
  ·rw [storeCells]
   simp only [Sem.run_bind,hst,Result.andThen_ok]
   exact hr
  ·rw [hu.else_ k hne]
   exact Below.heap_setCell _ _ _ _ hne
  ·rw [hu.size]; simp [World.setCell]
  ·rw [hk]
   by_cases c : o + (i + 1) <= k /\ k < o + (i + 1) + vs.length
   ·rw [if_pos c,if_pos (by simp; omega)]
    obtain ⟨j,hj⟩ : ∃ j,k - (o + i) = j + 1:=⟨k - (o + i) - 1,by omega⟩
    rw [hj,show k - (o + (i + 1)) = j by omega]; simp
   ·rw [if_neg c]
    by_cases e' : k = o + i
    ·subst e'
     have hlt : o + i < carr.size:=by omega
     rw [if_pos (by simp)]
     simp [hlt]
    ·rw [if_neg (by simp; omega),Array.getElem?_setIfInBounds_ne (by omega)]
theorem MR.write {P : Program} {base : Nat} {ρ : Map} {m m' : Mem} {w w' : World} (h : MR P base ρ m w) {b off : Nat} {vs : List AV} (hw : m.write b off vs = some m') {us : List Value} (hv : VRL ρ vs us)
  {r : Reg} (hr : ρ b = some r) {carr carr' : Array Value} {e : TypeId} {fr : Nat × Nat} (h0 : w.heap[r.cb]? = some (.cells carr e fr)) (hu : Upd w w' r.cb carr' e fr) (hs : carr'.size = carr.size)
  (hk : ∀ k,carr'[k]? = if r.sh + off <= k /\ k < r.sh + off + us.length then us[k - (r.sh + off)]? else carr[k]?) : MR P base ρ m' w':=by
 unfold Mem.write at hw
 split at hw
 ·rename_i known e0 hg
  split at hw
  ·rename_i hle
   injection hw with hw
   subst hw
   obtain ⟨hlt,r0,hr0,carr0,e',fr',h1,h2,h3,h4,h5⟩:=h.dom b _ hg
   rw [hr] at hr0
   injection hr0 with hr0
   subst hr0
   rw [h0] at h1
   injection h1 with h1
   injection h1 with h1 h1e h1f
   subst h1 h1e h1f
   have hul : us.length = vs.length:=hv.length
   refine ⟨fun b' o' hb'=>?_,fun b' r' hb'=>?_,by rw [hu.size]; exact h.low,fun b1 b2 cs1 e1 o2 r1 r2 g1 g2 nd q1 q2 hcb=>?_⟩
   ·rw [Mem.get_set] at hb'
    split at hb'
    ·rename_i hbb
     subst hbb
     injection hb' with hb'
     subst hb'
     refine ⟨hlt,r,hr,carr',e,fr,hu.here,by rw [ER,hs]; exact h2,?_,?_,fun _=>?_⟩
     ·refine DS fun a ha=>?_
      obtain ⟨i,hi⟩:=List.getElem?_of_mem ha
      rw [G8] at hi
      split at hi
      ·exact C9 hle.2 a (List.mem_of_getElem? hi)
      ·exact C9 h3 a (List.mem_of_getElem? hi)
     ·intro i a ha
      rw [G8] at ha
      rw [hk]
      split at ha
      ·rename_i hc
       rw [if_pos (by omega),show r.sh + i - (r.sh + off) = i - off by omega]
       exact hv.get _ _ ha
      ·rename_i hc
       have hil : i < known.length:=by
        rcases Nat.lt_or_ge i known.length with x | x
        ·exact x
        ·rw [List.getElem?_eq_none x] at ha; cases ha
       rw [if_neg (by omega)]
       exact h4 i a ha
     ·have:=h5 rfl
      exact ⟨this.1,this.2.1,by rw [hs]; exact this.2.2.1,this.2.2.2.1,by rw [hs]; exact this.2.2.2.2⟩
    ·rename_i hbb
     obtain ⟨h6,r',h7,h8⟩:=h.dom b' o' hb'
     refine ⟨h6,r',h7,?_⟩
     cases o' with
     | dead=>trivial
     | live cs' e'' own'=>
      refine h8.same (hu.else_ _ fun hcb=>hbb ?_)
      exact (h.inj b b' known e0 _ r r' hg hb' (by simp) hr h7 hcb.symm).symm
   ·rw [Mem.get_set]
    split
    ·simp
    ·exact h.used b' r' hb'
   ·rw [Mem.get_set] at g1 g2
    have k1 : ∃ cs e,m.get b1 = some (.live cs e true):=by
     split at g1
     ·rename_i x; subst x; exact ⟨_,_,hg⟩
     ·exact ⟨_,_,g1⟩
    have k2 : ∃ o,m.get b2 = some o /\ o ≠ .dead:=by
     split at g2
     ·rename_i x; subst x; exact ⟨_,hg,by simp⟩
     ·exact ⟨_,g2,nd⟩
    obtain ⟨cs3,e3,k1⟩:=k1
    obtain ⟨o3,k2,k3⟩:=k2
    exact h.inj b1 b2 cs3 e3 o3 r1 r2 k1 k2 k3 q1 q2 hcb
  ·cases hw
 ·cases hw
theorem MR.new {P : Program} {base : Nat} {ρ : Map} {m m' : Mem} {w : World} (h : MR P base ρ m w) {at_ : Option Nat} {cs : List AV} {e b : Nat} (hn : m.new at_ cs e = some (b,m')) (carr : Array Value)
  (hl : cs.length <= carr.size) (hv : ∀ (i : Nat) (a : AV),cs[i]? = some a -> ∃ u,carr[i]? = some u /\ VR ρ a u) (fr : Nat × Nat) (hfr : ∀ i,i < carr.size -> (i < fr.1 \/ fr.1 = fr.2)) :
  ∃ ρ',ρ.le ρ' /\ ρ' b = some ⟨w.heap.size,0,carr.size,P.cellsOf e⟩ /\ MR P base ρ' m' (w.alloc (.cells carr e fr)) /\ leaves cs = true:=by
 unfold Mem.new at hn
 split at hn
 case isFalse=>cases hn
 rename_i hlv
 have key : m.get b = none /\ b < m'.next /\ m.next <= m'.next /\ (∀ c,m'.get c = if c = b then some (.live cs e true) else m.get c):=by
  split at hn
  ·injection hn with hn
   injection hn with h1 h2
   subst h1 h2
   refine ⟨?_,Nat.lt_succ_self _,Nat.le_succ _,fun c=>T.get_set ..⟩
   cases hg : m.get m.next with
   | none=>rfl
   | some o=>have:=(h.dom _ _ hg).1; omega
  ·split at hn
   ·rename_i hg
    split at hn
    ·rename_i hlt
     injection hn with hn
     injection hn with h1 h2
     subst h1 h2
     exact ⟨hg,hlt,Nat.le_refl _,fun c=>Mem.get_set ..⟩
    ·cases hn
   ·cases hn
 obtain ⟨hb,hlt,hle,hg⟩:=key
 let ρ' : Map:=fun c=>if c = b then some ⟨w.heap.size,0,carr.size,P.cellsOf e⟩ else ρ c
 have hρb : ρ b = none:=by
  cases hx : ρ b with
  | none=>rfl
  | some r=>exact absurd hb (h.used b r hx)
 have hρ : ρ.le ρ':=by
  intro c r hc
  have : c ≠ b:=fun x=>by rw [x,hρb] at hc; cases hc
  simp [ρ',this,hc]
 have hρ'b : ρ' b = some ⟨w.heap.size,0,carr.size,P.cellsOf e⟩:=by simp [ρ']
 have old : ∀ c r o,ρ c = some r -> m.get c = some o -> o ≠ .dead -> r.cb < w.heap.size:=by
  intro c r o hc ho hd
  obtain ⟨_,r',h1,h2⟩:=h.dom c o ho
  rw [hc] at h1
  injection h1 with h1
  subst h1
  cases o with
  | dead=>exact absurd rfl hd
  | live cs' e'' own'=>
   obtain ⟨carr',_,_,h3,_⟩:=h2
   exact (Array.getElem?_eq_some_iff.1 h3).1
 refine ⟨ρ',hρ,hρ'b,⟨fun c o hc=>?_,fun c r hc=>?_,by simp; exact Nat.le_succ_of_le h.low,fun b1 b2 cs1 e1 o2 r1 r2 g1 g2 nd q1 q2 hcb=>?_⟩,hlv⟩
 ·rw [hg] at hc
  split at hc
  ·rename_i hcb
   subst hcb
   injection hc with hc
   subst hc
   refine ⟨hlt,_,hρ'b,carr,e,fr,by show (w.heap.push _)[w.heap.size]? = _; simp,by simpa using hl,hlv,fun i a ha=>?_,fun _=>⟨h.low,rfl,rfl,rfl,hfr⟩⟩
   obtain ⟨u,hu,hvu⟩:=hv i a ha
   exact ⟨u,by simpa using hu,VR.mono hρ _ _ hvu⟩
  ·obtain ⟨h1,r,h2,h3⟩:=h.dom c o hc
   refine ⟨by omega,r,hρ _ _ h2,?_⟩
   cases o with
   | dead=>trivial
   | live cs' e'' own'=>
    exact (h3.mono hρ).same (Below.heap_alloc _ _ _ (old c r _ h2 hc (by simp)))
 ·rw [hg]
  split
  ·simp
  ·rename_i hcb
   have : ρ c = some r:=by simpa [ρ',hcb] using hc
   exact h.used c r this
 ·rw [hg] at g1 g2
  by_cases x1 : b1 = b
  ·by_cases x2 : b2 = b
   ·rw [x1,x2]
   ·exfalso
    rw [if_neg x2] at g2
    rw [x1,hρ'b] at q1
    injection q1 with q1
    have q2' : ρ b2 = some r2:=by simpa [ρ',x2] using q2
    have:=old b2 r2 o2 q2' g2 nd
    rw [<- hcb,<- q1] at this
    simp at this
  ·rw [if_neg x1] at g1
   have q1' : ρ b1 = some r1:=by simpa [ρ',x1] using q1
   by_cases x2 : b2 = b
   ·exfalso
    rw [x2,hρ'b] at q2
    injection q2 with q2
    have:=old b1 r1 _ q1' g1 (by simp)
    rw [hcb,<- q2] at this
    simp at this
   ·rw [if_neg x2] at g2
    have q2' : ρ b2 = some r2:=by simpa [ρ',x2] using q2
    exact h.inj b1 b2 cs1 e1 o2 r1 r2 g1 g2 nd q1' q2' hcb
mutual
def E6 : AV -> Value -> Bool
 | .int k n,.int k' n'=>decide (k = k') && decide (n = n')
 | .bool b,.bool b'=>b == b'
 | .str s,.string b=>decide (s = b.data.toList)
 | .nilp,.pointer none=>true
 | .nilsl,.slice none n c=>decide (n = 0) && decide (c = 0)
 | .nilfn,.nilFunc=>true
 | .agg l,.agg cs=>cstsOk l cs.toList
 | _,_=>false
def cstsOk : List AV -> List Value -> Bool
 | [],[]=>true
 | x :: l,y :: l'=>E6 x y && cstsOk l l'
 | _,_=>false
end
def BV : Operand -> Opd -> Bool
 | .tmp t,.t t'=>decide (t = t')
 | .const v,.c a=>E6 a v
 | .func f,.c (.fn f' [] [])=>decide (f = f')
 | _,_=>false
def FU : List Operand -> List Opd -> Bool
 | [],[]=>true
 | x :: l,y :: l'=>BV x y && FU l l'
 | _,_=>false
def NV : Option Operand -> Option Opd -> Bool
 | none,none=>true
 | some x,some y=>BV x y
 | _,_=>false
def E8 (P : Program) (e : TypeId) (zs : List AV) : Bool:=
 match P.info? e with
 | some i=>match i.zero with
  | some z=>cstsOk zs z.cells.toList && decide (i.size = z.cells.size)
  | none=>false
 | none=>false
def BX (P : Program) (t : TypeId) (n : Nat) : Bool:=match P.info? t with | some i=>decide (i.size = n) | none=>false
def HI (P : Program) (t : TypeId) (n : Nat) : Bool:=match P.info? t with | some i=>decide (i.bytes = n) | none=>false
def MD (P : Program) (t : TypeId) : Option Bool:=
 match P.underlying t with
 | some (.struct _) | some (.array _ _)=>some true
 | some _=>some false
 | none=>none
def IZ (P : Program) (t : TypeId) (n : Option Nat) : Bool:=
 match MD P t,n with
 | some true,some n=>BX P t n
 | some false,none=>true
 | _,_=>false
def G6 (P : Program) (place : Nat -> Option (Nat × TypeId)) : List (Nat × Operand) -> List (Nat × Nat × Opd) -> Bool
 | [],[]=>true
 | (i,x) :: l,(off,n,x') :: l'=>(match place i with | some (o,t)=>decide (o = off) && BX P t n | none=>false) && BV x x' && G6 P place l l'
 | _,_=>false
def QV (fs : Array Field) (i : Nat) : Option (Nat × TypeId):=match fs[i]? with | some f=>some (f.offset,f.type) | none=>none
def RA (P : Program) (t : TypeId) (ps : List (Nat × Operand)) (ps' : List (Nat × Nat × Opd)) : Bool:=
 match P.underlying t with
 | some (.struct fs)=>fs.toList.all (fun f=>(P.info? f.type).isSome) && G6 P (QV fs) ps ps'
 | some (.array _ e)=>match P.info? e with | some i=>G6 P (fun j=>some (j * i.size,e)) ps ps' | none=>false
 | _=>false
def TR (P : Program) (t : TypeId) (len : Nat) (ps : List (Nat × Operand)) (e : Nat) (tpl : List AV) (len' : Nat) (ps' : List (Nat × Nat × Opd)) : Bool:=
 match P.underlying t with
 | some (.slice e')=>match P.info? e' with
  | some i=>match i.zero with
   | some z=>decide (e' = e) && decide (len = len') && decide (len * i.size <= 2 ^ 24) && decide (tpl.length = len * i.size) &&
     cstsOk tpl (((Array.range (len * i.size)).map (z.cells[· % z.cells.size]!)).toList) && G6 P (fun j=>some (j * i.size,e')) ps ps'
   | none=>false
  | none=>false
 | _=>false
def TY (P : Program) (t : TypeId) (kd : EK) : Bool:=
 match kd,P.underlying t with
 | .num,_=>true
 | .bool,some .bool=>true
 | .ptr,some (.pointer _)=>true
 | .sl,some (.slice _)=>true
 | .fn,some (.func ..)=>true
 | _,_=>false
def FH (P : Program) (s d : TypeId) (c : Conv) : Bool:=
 match c,P.underlying s,P.underlying d with
 | .toInt k,some (.int _),some (.int k')=>decide (k = k')
 | .same,some .string,some .string=>true
 | .keep,some (.slice _),some (.slice e)=>decide (s = d) && (match P.underlying e with | some (.int .u8)=>true | _=>false)
 | .b2s,some (.slice e),some .string=>(match P.underlying e with | some (.int .u8)=>BX P e 1 | _=>false)
 | .s2b e,some .string,some (.slice e')=>decide (e = e') && (match P.underlying e with | some (.int .u8)=>BX P e 1 | _=>false)
 | _,_,_=>false
def FJ (P : Program) (t : TypeId) (k : SlK) : Bool:=
 match k,P.underlying t with
 | .str,some .string=>true
 | .row esz,some (.slice e)=>BX P e esz
 | .arr n esz,some (.array n' e)=>decide (n = n') && BX P e esz
 | _,_=>false
def PH (P : Program) (t : TypeId) (e esz bytes : Nat) (zero : List AV) : Bool:=
 match P.underlying t with
 | some (.slice e')=>decide (e' = e) && BX P e esz && HI P e bytes && E8 P e zero && decide (zero.length = esz) && decide (0 < esz) && decide (0 < bytes)
 | _=>false
def KU (P : Program) (t : TypeId) : Bool:=
 match P.underlying t with
 | some (.slice _) | some .string=>true
 | _=>false
def E0 (P : Program) (f : FuncId) : Bool:=
 match P.funcs[f]? with
 | some fn=>fn.name != "runtime.NumGoroutine" && fn.body.isSome
 | none=>false
def MO (P : Program) (b : Builtin) (ts : Array TypeId) (xs : List Operand) : IOp -> Bool
 | .app e esz bytes zero x y=>decide (b = .append) && (match xs with | [x',y']=>BV x' x && BV y' y && (match ts[0]?,ts[1]? with | some t,some u=>PH P t e esz bytes zero && KU P u | _,_=>false) | _=>false)
 | .grow e esz bytes zero x y=>decide (b = .append) && (match xs with | [x',y']=>BV x' x && BV y' y && (match ts[0]?,ts[1]? with | some t,some u=>PH P t e esz bytes zero && (match P.underlying u with | some (.int _)=>true | _=>false) | _,_=>false) | _=>false)
 | .clear zero x=>decide (b = .clear) && (match xs with | [x']=>BV x' x && (match ts[0]? with | some t=>(match P.underlying t with | some (.slice e)=>E8 P e zero && decide (0 < zero.length) | _=>false) | _=>false) | _=>false)
 | .copy esz x y=>decide (b = .copy) && (match xs with | [x',y']=>BV x' x && BV y' y && (match ts[0]? with | some t=>(match P.underlying t with | some (.slice e)=>BX P e esz && decide (0 < esz) | _=>false) | _=>false) | _=>false)
 | .len str x=>decide (b = .len) && (match xs with | [x']=>BV x' x && (match ts[0]? with | some t=>(match P.underlying t with | some .string=>str | some (.slice _)=>!str | _=>false) | _=>false) | _=>false)
 | .cap x=>decide (b = .cap) && (match xs with | [x']=>BV x' x && (match ts[0]? with | some t=>(match P.underlying t with | some (.slice _)=>true | _=>false) | _=>false) | _=>false)
 | .mn l=>decide (b = .min) && FU xs l
 | .mx l=>decide (b = .max) && FU xs l
 | _=>false
def QM (P : Program) (o : Op) (io : IOp) : Bool:=
 match o,io with
 | .move x,.mv x'=>BV x x'
 | .assign x,.mv x'=>BV x x'
 | .pick c a b,.pick c' a' b'=>BV c c' && BV a a' && BV b b'
 | .alloc e,.al _ e' zs=>decide (e = e') && E8 P e zs
 | .box e x,.bx _ e' x'=>decide (e = e') && BV x x'
 | .build t ps,.build tpl ps'=>E8 P t tpl && RA P t ps.toList ps'
 | .buildSlice t len ps,.mksl _ e tpl len' ps'=>TR P t len ps.toList e tpl len' ps'
 | .load t x,.ld n x'=>IZ P t n && BV x x'
 | .store t a x,.st n a' x'=>BX P t n && BV a a' && BV x x'
 | .nilCheck x,.nilc x'=>BV x x'
 | .binOp op t x y _,.bin op' kd x' y'=>decide (op = op') && TY P t kd && BV x x' && BV y y'
 | .unOp op _ x,.un op' x'=>decide (op = op') && BV x x'
 | .convert s d x,.cv _ c x'=>FH P s d c && BV x x'
 | .makeFunc (.func f) first cap,.mkf f' first' cap'=>decide (f = f') && FU first.toList first' && FU cap.toList cap'
 | .makeSlice t l c,.mks _ e zero bytes l' c'=>BV l l' && BV c c' && (match P.underlying t with | some (.slice e')=>decide (e' = e) && HI P e bytes && E8 P e zero && decide (0 < zero.length) | _=>false)
 | .slice t x lo hi mx,.sli k x' lo' hi' mx'=>FJ P t k && BV x x' && NV lo lo' && NV hi hi' && NV mx mx'
 | .fieldAddr s x i,.fa off x'=>BV x x' && (match P.underlying s with | some (.struct fs)=>(match fs[i]? with | some f=>decide (f.offset = off) && (match P.info? f.type with | some j=>decide (j.size ≠ 0) | none=>false) | none=>false) | _=>false)
 | .field t x i,.fld off n x'=>BV x x' && (match P.underlying t with | some (.struct fs)=>(match fs[i]? with | some f=>decide (f.offset = off) && IZ P f.type n | none=>false) | _=>false)
 | .indexAddr t x i,.ia arr esz x' i'=>BV x x' && BV i i' && (match P.underlying t,arr with | some (.slice e),none=>BX P e esz | some (.array n e),some n'=>decide (n = n') && BX P e esz | _,_=>false)
 | .index t x i,.ix arr x' i'=>BV x x' && BV i i' && (match P.underlying t,arr with | some .string,none=>true | some (.array n e),some (n',esz,k)=>decide (n = n') && BX P e esz && IZ P e k | _,_=>false)
 | .extract x i,.ext x' i'=>decide (i = i') && BV x x'
 | .call c,io=>match c.callee with
  | .builtin b=>MO P b c.argTypes c.args.toList io
  | .value f=>(match io with
   | .call g args=>BV f (.c (.fn g [] [])) && FU c.args.toList args
   | .callv x args=>BV f x && FU c.args.toList args
   | _=>false)
  | .invoke ..=>false
 | _,_=>false
mutual
theorem SY (ρ : Map) : ∀ (a : AV) (v : Value),E6 a v = true -> VR ρ a v
 | .undef,v,h=>by cases v <;> simp [E6] at h
 | .int ..,v,h=>by cases v <;> simp [E6] at h; simp [VR,h]
 | .bool _,v,h=>by cases v <;> simp [E6] at h; simp [VR,h]
 | .str s,v,h=>by
  cases v <;> simp [E6] at h
  simp [VR,h]
 | .ptr ..,v,h=>by cases v <;> simp [E6] at h
 | .nilp,v,h=>by
  cases v with
  | pointer a=>
   cases a with
   | none=>simp [VR]
   | some a=>simp [E6] at h
  | _=>simp [E6] at h
 | .sl ..,v,h=>by cases v <;> simp [E6] at h
 | .nilsl,v,h=>by
  cases v with
  | slice a n c=>
   cases a with
   | none=>
    simp [E6] at h
    simp [VR,h]
   | some a=>simp [E6] at h
  | _=>simp [E6] at h
 | .fn ..,v,h=>by cases v <;> simp [E6] at h
 | .nilfn,v,h=>by cases v <;> simp [E6] at h; simp [VR]
 | .tup _,v,h=>by cases v <;> simp [E6] at h
 | .agg l,v,h=>by
  cases v <;> simp [E6] at h
  rename_i cs
  simp only [VR]
  exact ⟨cs.toList,cstsOk_VRL ρ l _ h,by simp⟩
theorem cstsOk_VRL (ρ : Map) : ∀ (l : List AV) (vs : List Value),cstsOk l vs = true -> VRL ρ l vs
 | [],vs,h=>by cases vs <;> simp [cstsOk] at h; simp [VRL]
 | x :: l,vs,h=>by
  cases vs <;> simp [cstsOk] at h
  exact .cons (SY ρ x _ h.1) (cstsOk_VRL ρ l _ h.2)
end
section
variable {ρ : Map} {tm : List AV} {a : Act} (ht : VRL ρ tm a.tmps.toList)
include ht
theorem BD {x : Operand} {x' : Opd} (h : BV x x' = true) : VR ρ (x'.eval tm) (a.eval x):=by
 cases x <;> cases x' <;> simp only [BV,decide_eq_true_eq,Bool.false_eq_true] at h
 ·rename_i t t'
  subst h
  simp only [Opd.eval,Act.eval]
  cases hx : tm[t]? with
  | none=>
   have e1 : tm.getD t .undef = .undef:=by simp [List.getD_eq_getElem?_getD,hx]
   have hl:=ht.length
   have hx' : tm.length <= t:=List.getElem?_eq_none_iff.1 hx
   have e2 : a.tmps.getD t undef = undef:=by
    rw [Array.getD_eq_getD_getElem?,Array.getElem?_eq_none (by simp at hl; omega)]; rfl
   rw [e1,e2]; simp [VR,Go.undef]
  | some v=>
   obtain ⟨u,hu,hv⟩:=ht.get t v hx
   rw [Array.getElem?_toList] at hu
   have e1 : tm.getD t .undef = v:=by simp [List.getD_eq_getElem?_getD,hx]
   have e2 : a.tmps.getD t undef = u:=by simp [Array.getD_eq_getD_getElem?,hu]
   rw [e1,e2]; exact hv
 ·simp only [Opd.eval,Act.eval]
  exact SY ρ _ _ h
 ·rename_i f v
  cases v with
  | fn f' x y=>
   cases x with
   | nil=>
    cases y with
    | nil=>
     simp at h
     subst h
     simp only [Opd.eval,Act.eval,VR,VRL]
     exact ⟨[],[],rfl,rfl,rfl⟩
    | cons=>simp at h
   | cons=>simp at h
  | _=>simp at h
theorem IJ : ∀ {xs : List Operand} {xs' : List Opd},FU xs xs' = true -> VRL ρ (xs'.map (·.eval tm)) (xs.map a.eval)
 | [],[],_=>by simp [VRL]
 | [],_ :: _,h=>by simp [FU] at h
 | _ :: _,[],h=>by simp [FU] at h
 | x :: l,y :: l',h=>by
  simp [FU] at h
  simp only [List.map_cons]
  exact .cons (BD ht h.1) (IJ h.2)
end
theorem MN {ρ : Map} {x : AV} {v : Value} (h : VR ρ x v) (hl : leaves x.cells = true) : VRL ρ x.cells v.cells.toList:=by
 cases x
 case agg l=>
  simp only [VR] at h
  obtain ⟨l',h1,rfl⟩:=h
  simpa [AV.cells,Value.cells] using h1
 case undef=>simp [AV.cells,leaves,AV.leaf] at hl
 case tup=>simp [AV.cells,leaves,AV.leaf] at hl
 all_goals
  have h1:=GA h (by rfl)
  rw [SF h1,TX (by rfl)]
  exact .cons h .nil'
theorem EM {ρ : Map} {l : List AV} {c : Array Value} (h : VRL ρ l c.toList) : c.size = l.length /\ ∀ (i : Nat) (a : AV),l[i]? = some a -> ∃ u,c[i]? = some u /\ VR ρ a u:=by
 refine ⟨by simpa using h.length,fun i a ha=>?_⟩
 obtain ⟨u,hu,hv⟩:=h.get i a ha
 exact ⟨u,by simpa using hu,hv⟩
theorem BY {P : Program} {t : TypeId} {n : Nat} (h : BX P t n = true) (w : World) : (sizeOf t).run P w = .ok n w:=by
 unfold BX at h
 split at h
 ·rename_i i hi
  simp at h
  rw [run_sizeOf w hi]
  simp [Program.cellsOf,hi,h]
 ·simp at h
theorem F7 {P : Program} {t : TypeId} {n : Nat} (h : BX P t n = true) : P.cellsOf t = n:=by
 unfold BX at h
 split at h
 ·rename_i i hi
  simp at h
  simp [Program.cellsOf,hi,h]
 ·simp at h
theorem E7 {P : Program} {e : TypeId} {zs : List AV} (h : E8 P e zs = true) : ∃ z i,P.info? e = some i /\ i.zero = some z /\ cstsOk zs z.cells.toList = true /\ i.size = z.cells.size /\ ∀ w,(zeroValue e).run P w = .ok z w:=by
 unfold E8 at h
 split at h
 ·rename_i i hi
  split at h
  ·rename_i z hz
   simp at h
   refine ⟨z,i,hi,hz,h.1,h.2,fun w=>?_⟩
   simp [zeroValue,run_typeInfo w hi,hz]
  ·simp at h
 ·simp at h
theorem GF {P : Program} {t : TypeId} {b : Bool} (h : MD P t = some b) (w : World) : (isAgg t).run P w = .ok b w:=by
 unfold MD at h
 cases hu : P.underlying t with
 | none=>simp [hu] at h
 | some d=>
  simp only [hu] at h
  have hr:=run_underlying hu w
  unfold isAgg
  cases d <;> simp at h <;> subst h <;> simp [hr]
theorem G5 (P : Program) (w : World) (a : Addr) : ∀ (us : List Value) (i : Nat) (acc : Array Value),(∀ j u,us[j]? = some u -> w.cell? (a.add (i + j)) = some u) -> (loadCellsFrom a i us.length acc).run P w = .ok (acc ++ us.toArray) w
 | [],i,acc,_=>by simp [loadCellsFrom]
 | u :: us,i,acc,h=>by
  have h0:=h 0 u rfl
  simp only [Nat.add_zero] at h0
  have ih:=G5 P w a us (i + 1) (acc.push u) (fun j v hj=>by
   have:=h (j + 1) v (by simpa using hj)
   rwa [show i + (j + 1) = i + 1 + j by omega] at this)
  simp only [List.length_cons,loadCellsFrom,Sem.run_bind,run_load,h0,Result.andThen_ok]
  rw [ih]
  simp
theorem HL (P : Program) (w : World) (a : Addr) (us : List Value) (h : ∀ j u,us[j]? = some u -> w.cell? (a.add j) = some u) : (loadCells a us.length).run P w = .ok us.toArray w:=by
 have:=G5 P w a us 0 #[] (by simpa using h)
 simpa [loadCells] using this
theorem EC (b o n : Nat) : (⟨b,o,none⟩ : Addr).add n = ⟨b,o + n,none⟩:=by unfold Addr.add; split <;> simp_all
def SRuns (P : Program) (base : Nat) (ρ : Map) (s : Sem Value) (w : World) (v : AV) (m' : Mem) : Prop:=
 ∃ u w' ρ',s.run P w = .ok u w' /\ ρ.le ρ' /\ VR ρ' v u /\ MR P base ρ' m' w' /\ Below base w w'
def ORuns (P : Program) (base : Nat) (ρ : Map) (s : Sem Next) (w : World) (v : AV) (m' : Mem) : Prop:=
 ∃ nx u w' ρ',s.run P w = .ok nx w' /\ (nx = .value u \/ nx = .skip /\ u = undef) /\ ρ.le ρ' /\ VR ρ' v u /\ MR P base ρ' m' w' /\ Below base w w'
theorem SRuns.val {P : Program} {base : Nat} {ρ : Map} {s : Sem Value} {w : World} {v : AV} {m' : Mem} (h : SRuns P base ρ s w v m') : ORuns P base ρ (do pure (.value (<- s))) w v m':=by
 obtain ⟨u,w',ρ',h1,h2⟩:=h
 exact ⟨.value u,u,w',ρ',by simp [h1],.inl rfl,h2⟩
theorem SRuns.same {P : Program} {base : Nat} {ρ : Map} {s : Sem Value} {w : World} {v : AV} {m : Mem} (hm : MR P base ρ m w) (u : Value) (h : s.run P w = .ok u w) (hv : VR ρ v u) : SRuns P base ρ s w v m:=
 ⟨u,w,ρ,h,ρ.le_refl,hv,hm,Below.refl _ _⟩
theorem ORuns.same {P : Program} {base : Nat} {ρ : Map} {s : Sem Next} {w : World} {v : AV} {m : Mem} (hm : MR P base ρ m w) (u : Value) (h : s.run P w = .ok (.value u) w) (hv : VR ρ v u) : ORuns P base ρ s w v m:=
 ⟨_,u,w,ρ,h,.inl rfl,ρ.le_refl,hv,hm,Below.refl _ _⟩
section
variable {P : Program} {base : Nat} {ρ : Map} {m m' : Mem} {w : World} {v : AV}
theorem HA (hm : MR P base ρ m w) {b0 : Nat} {at_ : Option Nat} {cs : List AV} {e : Nat} {mk : Nat -> AV} (hn : newRow m b0 at_ cs e mk = some (v,m')) (carr : Array Value) (hv : VRL ρ cs carr.toList) (u : Value)
  (hmk : ∀ ρ' b,ρ' b = some ⟨w.heap.size,0,carr.size,P.cellsOf e⟩ -> VR ρ' (mk b) u) (s : Sem Value) (hs : s.run P w = .ok u (w.alloc (.cells carr e))) : SRuns P base ρ s w v m':=by
 unfold newRow at hn
 split at hn
 ·rename_i b m1 hnew
  injection hn with hn
  injection hn with h1 h2
  subst h1 h2
  obtain ⟨hsz,hget⟩:=EM hv
  obtain ⟨ρ',h1,h2,h3,_⟩:=hm.new hnew carr (by omega) hget (0,0) (by simp)
  exact ⟨u,_,ρ',hs,h1,hmk ρ' b h2,h3,(Below.refl _ _).alloc hm.low _⟩
 ·cases hn
theorem NX (e : TypeId) (u : Value) : (newVar e u).run P w = .ok ⟨w.heap.size,0,none⟩ (w.alloc (.cells u.cells e)):=by
 simp [newVar,Go.newRow,newObj]; rfl
theorem al_runs (hm : MR P base ρ m w) {b0 : Nat} {at_ : Option Nat} {zs : List AV} {e : Nat} (hz : E8 P e zs = true) (hn : newRow m b0 at_ zs e (fun b=>.ptr b 0) = some (v,m')) : SRuns P base ρ (Instr.alloc e true (.tuple #[])) w v m':=by
 obtain ⟨z,i,_,_,h3,_,h5⟩:=E7 hz
 refine HA hm hn z.cells (cstsOk_VRL ρ _ _ h3) (.pointer (some ⟨w.heap.size,0,none⟩)) (fun ρ' b hb=>?_) _ ?_
 ·simp only [VR]; exact ⟨_,hb,rfl⟩
 ·simp [Instr.alloc,h5,NX]
theorem bx_runs (hm : MR P base ρ m w) {b0 : Nat} {at_ : Option Nat} {x : AV} {u : Value} {e : Nat} (hx : VR ρ x u) (hn : newRow m b0 at_ x.cells e (fun b=>.ptr b 0) = some (v,m')) : SRuns P base ρ (Instr.box e u) w v m':=by
 have hl : leaves x.cells = true:=by
  unfold newRow Mem.new at hn
  cases hl : leaves x.cells
  ·simp [hl] at hn
  ·rfl
 refine HA hm hn u.cells (MN hx hl) (.pointer (some ⟨w.heap.size,0,none⟩)) (fun ρ' b hb=>?_) _ ?_
 ·simp only [VR]; exact ⟨_,hb,rfl⟩
 ·simp [Instr.box,NX]
theorem VG (hm : MR P base ρ m w) {n : Option Nat} {t : TypeId} (ha : IZ P t n = true) {b off : Nat} {cs : List AV} (hr : m.read b off (n.getD 1) = some cs) (hv : v = match n with | some _=>.agg cs | none=>cs.getD 0 .undef) {u : Value} (hx : VR ρ (.ptr b off) u) : SRuns P base ρ (Instr.loadAt t u) w v m:=by
 simp only [VR] at hx
 obtain ⟨r,hρ,rfl⟩:=hx
 obtain ⟨r',hρ',hlen,_,us,hvr,hul,hus⟩:=hm.read hr
 rw [hρ] at hρ'
 injection hρ' with hρ'
 subst hρ'
 have hcell : ∀ j u,us[j]? = some u -> w.cell? ((⟨r.cb,r.sh + off,none⟩ : Addr).add j) = some u:=fun j u hj=>by rw [EC]; exact hus j u hj
 unfold IZ at ha
 cases hagg : MD P t with
 | none=>simp [hagg] at ha
 | some g=>
  cases n with
  | none=>
   cases g <;> simp [hagg] at ha
   simp at hlen hul hv
   obtain ⟨c,rfl⟩:=List.length_eq_one_iff.1 hlen
   obtain ⟨u,rfl⟩:=List.length_eq_one_iff.1 hul
   simp [VRL] at hvr
   have:=hcell 0 u rfl
   simp only [Addr.add_zero'] at this
   refine .same hm u ?_ (by rw [hv]; simpa using hvr)
   simp [Instr.loadAt,Instr.sureAddr,loadVar,GF hagg,this]
  | some k=>
   cases g <;> simp [hagg] at ha
   simp at hlen hul hv
   refine .same hm (.agg us.toArray) ?_ (by rw [hv]; simp only [VR]; exact ⟨us,hvr,rfl⟩)
   have:=HL P w ⟨r.cb,r.sh + off,none⟩ us hcell
   rw [hul] at this
   simp [Instr.loadAt,Instr.sureAddr,loadVar,GF hagg,BY ha,this]
theorem RJ (hm : MR P base ρ m w) {n : Option Nat} {t : TypeId} (ha : IZ P t n = true) {b off : Nat} {cs : List AV} (hr : m.read b off (n.getD 1) = some cs) (hv : v = match n with | some _=>.agg cs | none=>cs.getD 0 .undef) {u : Value} (hx : VR ρ (.ptr b off) u) : ∃ y,(do loadVar t (<- asAddr u) : Sem Value).run P w = .ok y w /\ VR ρ v y:=by
 simp only [VR] at hx
 obtain ⟨r,hρ,rfl⟩:=hx
 obtain ⟨r',hρ',hlen,_,us,hvr,hul,hus⟩:=hm.read hr
 rw [hρ] at hρ'
 injection hρ' with hρ'
 subst hρ'
 have hcell : ∀ j u,us[j]? = some u -> w.cell? ((⟨r.cb,r.sh + off,none⟩ : Addr).add j) = some u:=fun j u hj=>by rw [EC]; exact hus j u hj
 unfold IZ at ha
 cases hagg : MD P t with
 | none=>simp [hagg] at ha
 | some g=>
  cases n with
  | none=>
   cases g <;> simp [hagg] at ha
   simp at hlen hul hv
   obtain ⟨c,rfl⟩:=List.length_eq_one_iff.1 hlen
   obtain ⟨u,rfl⟩:=List.length_eq_one_iff.1 hul
   simp [VRL] at hvr
   have:=hcell 0 u rfl
   simp only [Addr.add_zero'] at this
   refine ⟨u,?_,by rw [hv]; simpa using hvr⟩
   simp [asAddr,loadVar,GF hagg,this]
  | some k=>
   cases g <;> simp [hagg] at ha
   simp at hlen hul hv
   refine ⟨.agg us.toArray,?_,by rw [hv]; simp only [VR]; exact ⟨us,hvr,rfl⟩⟩
   have:=HL P w ⟨r.cb,r.sh + off,none⟩ us hcell
   rw [hul] at this
   simp [asAddr,loadVar,GF hagg,BY ha,this]
theorem GL (hm : MR P base ρ m w) {b off : Nat} {vs : List AV} (hw : m.write b off vs = some m') {us : List Value} (hv : VRL ρ vs us) {r : Reg} (hr : ρ b = some r) :
  ∃ w',(storeCells ⟨r.cb,r.sh + off,none⟩ us).run P w = .ok () w' /\ MR P base ρ m' w' /\ Below base w w':=by
 have hw0:=hw
 unfold Mem.write at hw
 split at hw
 ·rename_i known e0 hg
  split at hw
  ·rename_i hle
   obtain ⟨_,r0,hr0,carr,e',fr,h1,h2,h3,h4,h5⟩:=hm.dom b _ hg
   rw [hr] at hr0
   injection hr0 with hr0
   subst hr0
   have hul:=hv.length
   obtain ⟨hb,he,_,_,hfr⟩:=h5 rfl
   obtain ⟨w',carr',q1,q2,q3,q4⟩:=DY P r.cb e' fr us (r.sh + off) 0 carr w h1 (by omega) (fun j hj=>by have:=hfr j hj; omega) (fun u hu=>by
    obtain ⟨i,hi⟩:=List.getElem?_of_mem hu
    have hlt : i < vs.length:=by
     rcases Nat.lt_or_ge i us.length with x | x
     ·omega
     ·rw [List.getElem?_eq_none x] at hi; cases hi
    obtain ⟨u',hu',hvu⟩:=hv.get i vs[i] (by simp [hlt])
    rw [hi] at hu'
    injection hu' with hu'
    subst hu'
    exact GA hvu (C9 hle.2 _ (by simp)))
   simp only [Nat.add_zero] at q4
   exact ⟨w',q1,hm.write hw0 hv hr h1 q2 q3 q4,⟨q2.os,q2.tape,q2.output,Nat.le_of_eq q2.size.symm,fun k hk=>q2.else_ k (by omega)⟩⟩
  ·cases hw
 ·cases hw
theorem st_runs (hm : MR P base ρ m w) {t : TypeId} {n : Nat} (hn : BX P t n = true) {b off : Nat} {y : AV} {p u : Value} (hp : VR ρ (.ptr b off) p) (hy : VR ρ y u) (hl : y.cells.length = n) (hw : m.write b off y.cells = some m') :
  ∃ w',(Instr.storeAt t p u).run P w = .ok () w' /\ MR P base ρ m' w' /\ Below base w w':=by
 simp only [VR] at hp
 obtain ⟨r,hρ,rfl⟩:=hp
 have hlv : leaves y.cells = true:=by
  unfold Mem.write at hw
  split at hw
  ·split at hw
   ·rename_i h; exact h.2
   ·cases hw
  ·cases hw
 have hc:=MN hy hlv
 obtain ⟨w',h1,h2,h3⟩:=GL hm hw hc hρ
 refine ⟨w',?_,h2,h3⟩
 have hsz : u.cells.size = n:=by rw [(EM hc).1,hl]
 simp [Instr.storeAt,Instr.sureAddr,storeVar,BY hn,hsz,h1]
theorem WI {op : BinOp} {k : IntKind} {x y : Int} (h : E5 op k x y = some v) (hne : op ≠ .shl /\ op ≠ .shr) (t : TypeId) : ∃ u,(Go.binOp op t (.int k x) (.int k y)).run P w = .ok u w /\ ∀ ρ,VR ρ v u:=by
 cases op <;> simp [E5] at h
 case and=>subst h; exact ⟨.int k (bits .and k x y),by simp only [Go.binOp,ne_eq,not_true_eq_false,if_false,intBits_and,Sem.run_pure],fun ρ=>by simp only [VR]⟩
 case or=>subst h; exact ⟨.int k (bits .or k x y),by simp only [Go.binOp,ne_eq,not_true_eq_false,if_false,intBits_or,Sem.run_pure],fun ρ=>by simp only [VR]⟩
 case xor=>subst h; exact ⟨.int k (bits .xor k x y),by simp only [Go.binOp,ne_eq,not_true_eq_false,if_false,intBits_xor,Sem.run_pure],fun ρ=>by simp only [VR]⟩
 case andNot=>subst h; exact ⟨.int k (bits .andNot k x y),by simp only [Go.binOp,ne_eq,not_true_eq_false,if_false,intBits_andNot,Sem.run_pure],fun ρ=>by simp only [VR]⟩
 case quo=>
  obtain ⟨h0,rfl⟩:=h
  exact ⟨_,by simp [Go.binOp,Op.intDiv,h0]; rfl,fun ρ=>by simp [VR]⟩
 case rem=>
  obtain ⟨h0,rfl⟩:=h
  exact ⟨_,by simp [Go.binOp,Op.intDiv,h0]; rfl,fun ρ=>by simp [VR]⟩
 all_goals (subst h; exact ⟨_,by simp only [Go.binOp,ne_eq,not_true_eq_false,if_false,Op.intArith,Op.intCmp,Sem.run_pure]; rfl,fun ρ=>by simp only [VR]⟩)
theorem MT {op : BinOp} {k k' : IntKind} {x y : Int} (h : KW op k x y = some v) (t : TypeId) : ∃ u,(Go.binOp op t (.int k x) (.int k' y)).run P w = .ok u w /\ ∀ ρ,VR ρ v u:=by
 unfold KW at h
 split at h
 ·cases h
 ·rename_i h0
  cases op <;> simp at h <;> subst h
  ·exact ⟨_,by simp [Go.binOp,Op.shift,h0]; rfl,fun ρ=>by simp [VR]⟩
  ·exact ⟨_,by simp [Go.binOp,Op.shift,h0]; rfl,fun ρ=>by simp [VR]⟩
theorem V2 {op : BinOp} {x y : List UInt8} (h : RM op x y = some v) (t : TypeId) : ∃ u,(Go.binOp op t (.string ⟨x.toArray⟩) (.string ⟨y.toArray⟩)).run P w = .ok u w /\ ∀ ρ,VR ρ v u:=by
 have e1 : (⟨x.toArray⟩ : ByteArray).toList = x:=by rw [ByteArray.toList_eq]
 have e2 : (⟨y.toArray⟩ : ByteArray).toList = y:=by rw [ByteArray.toList_eq]
 have s1 : (⟨x.toArray⟩ : ByteArray).size = x.length:=by simp [ByteArray.size]
 have s2 : (⟨y.toArray⟩ : ByteArray).size = y.length:=by simp [ByteArray.size]
 cases op <;> simp [RM] at h
 case add=>
  obtain ⟨h0,rfl⟩:=h
  refine ⟨_,by simp only [Go.binOp,Op.stringOp,s1,s2]; rw [if_neg (by simp [IntKind.max,IntKind.signed,IntKind.bits]; omega)]; rfl,fun ρ=>?_⟩
  simp only [VR]
  congr 1
 all_goals (subst h; exact ⟨_,by simp [Go.binOp,Op.stringOp,e1,e2]; rfl,fun ρ=>by simp [VR]⟩)
theorem DT {op : BinOp} {b : Bool} (h : HF op b = some v) (t : TypeId) (x y : Value) (h1 : Go.binOp .eql t x y = (do pure (.bool (<- Op.equal t x y)))) (h2 : Go.binOp .neq t x y = (do pure (.bool (!(<- Op.equal t x y))))) (he : (Op.equal t x y).run P w = .ok b w) : ∃ u,(Go.binOp op t x y).run P w = .ok u w /\ ∀ ρ,VR ρ v u:=by
 cases op <;> simp [HF] at h
 ·subst h
  exact ⟨.bool b,by rw [h1]; simp only [Sem.run_bind,he,Result.andThen_ok,Sem.run_pure],fun ρ=>by simp only [VR]⟩
 ·subst h
  exact ⟨.bool !b,by rw [h2]; simp only [Sem.run_bind,he,Result.andThen_ok,Sem.run_pure],fun ρ=>by simp only [VR]⟩
theorem SW (d : Nat) (t e : TypeId) (h : P.underlying t = some (.pointer e)) (a : Option Addr) : (Op.equalIn (d + 1) t (.pointer none) (.pointer a)).run P w = .ok a.isNone w /\ (Op.equalIn (d + 1) t (.pointer a) (.pointer none)).run P w = .ok a.isNone w:=by
 cases a <;> simp [Op.equalIn,run_underlying h]
theorem MJ (t e : TypeId) (h : P.underlying t = some (.pointer e)) (a : Option Addr) : (Op.equal t (.pointer none) (.pointer a)).run P w = .ok a.isNone w /\ (Op.equal t (.pointer a) (.pointer none)).run P w = .ok a.isNone w:=SW 9999 t e h a
theorem T8 (d : Nat) (t e : TypeId) (h : P.underlying t = some (.slice e)) (a : Option Addr) (n c : Nat) : (Op.equalIn (d + 1) t (.slice none 0 0) (.slice a n c)).run P w = .ok a.isNone w /\ (Op.equalIn (d + 1) t (.slice a n c) (.slice none 0 0)).run P w = .ok a.isNone w:=by
 cases a <;> simp [Op.equalIn,run_underlying h]
theorem OL (t e : TypeId) (h : P.underlying t = some (.slice e)) (a : Option Addr) (n c : Nat) : (Op.equal t (.slice none 0 0) (.slice a n c)).run P w = .ok a.isNone w /\ (Op.equal t (.slice a n c) (.slice none 0 0)).run P w = .ok a.isNone w:=T8 9999 t e h a n c
theorem T9 (d : Nat) (t : TypeId) (a b : Array TypeId) (c : Bool) (h : P.underlying t = some (.func a b c)) :
  (Op.equalIn (d + 1) t .nilFunc .nilFunc).run P w = .ok true w /\ (∀ f x y,(Op.equalIn (d + 1) t .nilFunc (.func f x y)).run P w = .ok false w) /\ ∀ f x y,(Op.equalIn (d + 1) t (.func f x y) .nilFunc).run P w = .ok false w:=by
 refine ⟨?_,fun f x y=>?_,fun f x y=>?_⟩ <;> simp [Op.equalIn,run_underlying h]
theorem OM (t : TypeId) (a b : Array TypeId) (c : Bool) (h : P.underlying t = some (.func a b c)) :
  (Op.equal t .nilFunc .nilFunc).run P w = .ok true w /\ (∀ f x y,(Op.equal t .nilFunc (.func f x y)).run P w = .ok false w) /\ ∀ f x y,(Op.equal t (.func f x y) .nilFunc).run P w = .ok false w:=T9 9999 t a b c h
theorem T7 (t : TypeId) (h : P.underlying t = some .bool) (a b : Bool) : (Op.equal t (.bool a) (.bool b)).run P w = .ok (a == b) w:=run_equal_bool w t a b h
theorem QY (op : BinOp) (t : TypeId) (x y : Operand) (X : AV) (a b : Value) (hX : X.leaf = true) (hv : VR ρ X a) : (eqGuard op t x y a b).run P w = .ok () w:=by
 cases X <;> simp [AV.leaf] at hX <;> simp only [VR] at hv
 case ptr=>obtain ⟨_,_,rfl⟩:=hv; cases op <;> rfl
 case sl=>obtain ⟨_,_,_,_,_,_,rfl⟩:=hv; cases op <;> rfl
 case fn=>obtain ⟨_,_,_,_,rfl⟩:=hv; cases op <;> rfl
 all_goals (subst hv; cases op <;> rfl)
theorem bin_run {op : BinOp} {kd : EK} {x y : AV} (h : binOp op kd x y = some v) {t : TypeId} (hk : TY P t kd = true) {X Y : Operand} {a b : Value} (hx : VR ρ x a) (hy : VR ρ y b) :
  ∃ u,(do eqGuard op t X Y a b; Go.binOp op t a b : Sem Value).run P w = .ok u w /\ VR ρ v u:=by
 have hl : x.leaf = true:=by
  unfold binOp at h
  split at h <;> first | rfl | cases h
 have hg:=QY (P:=P) (w:=w) op t X Y x a b hl hx
 suffices hs : ∃ u,(Go.binOp op t a b).run P w = .ok u w /\ ∀ ρ,VR ρ v u by
  obtain ⟨u,h1,h2⟩:=hs
  exact ⟨u,by simp [hg,h1],h2 ρ⟩
 unfold binOp at h
 unfold TY at hk
 split at h <;> (try simp only [VR] at hx hy)
 ·subst hx hy
  split at h
  ·exact MT h t
  ·exact MT h t
  ·rename_i n1 n2
   split at h
   ·rename_i hkk
    subst hkk
    exact WI h ⟨fun e=>n1 e,fun e=>n2 e⟩ t
   ·cases h
 ·subst hx hy
  exact V2 h t
 ·subst hx hy
  cases hu : P.underlying t with
  | none=>simp [hu] at hk
  | some d=>
   cases d <;> simp [hu] at hk
   exact DT h t _ _ rfl rfl (T7 t hu _ _)
 ·subst hx hy
  cases hu : P.underlying t with
  | none=>simp [hu] at hk
  | some d=>
   cases d <;> simp [hu] at hk
   exact DT h t _ _ rfl rfl (MJ t _ hu none).1
 ·obtain ⟨r,_,rfl⟩:=hy
  subst hx
  cases hu : P.underlying t with
  | none=>simp [hu] at hk
  | some d=>
   cases d <;> simp [hu] at hk
   exact DT h t _ _ rfl rfl (MJ t _ hu (some _)).1
 ·obtain ⟨r,_,rfl⟩:=hx
  subst hy
  cases hu : P.underlying t with
  | none=>simp [hu] at hk
  | some d=>
   cases d <;> simp [hu] at hk
   exact DT h t _ _ rfl rfl (MJ t _ hu (some _)).2
 ·subst hx hy
  cases hu : P.underlying t with
  | none=>simp [hu] at hk
  | some d=>
   cases d <;> simp [hu] at hk
   exact DT h t _ _ rfl rfl (OL t _ hu none 0 0).1
 ·obtain ⟨_,_,_,_,_,_,rfl⟩:=hy
  subst hx
  cases hu : P.underlying t with
  | none=>simp [hu] at hk
  | some d=>
   cases d <;> simp [hu] at hk
   exact DT h t _ _ rfl rfl (OL t _ hu (some _) _ _).1
 ·obtain ⟨_,_,_,_,_,_,rfl⟩:=hx
  subst hy
  cases hu : P.underlying t with
  | none=>simp [hu] at hk
  | some d=>
   cases d <;> simp [hu] at hk
   exact DT h t _ _ rfl rfl (OL t _ hu (some _) _ _).2
 ·subst hx hy
  cases hu : P.underlying t with
  | none=>simp [hu] at hk
  | some d=>
   cases d <;> simp [hu] at hk
   exact DT h t _ _ rfl rfl (OM t _ _ _ hu).1
 ·obtain ⟨_,_,_,_,rfl⟩:=hy
  subst hx
  cases hu : P.underlying t with
  | none=>simp [hu] at hk
  | some d=>
   cases d <;> simp [hu] at hk
   exact DT h t _ _ rfl rfl ((OM t _ _ _ hu).2.1 _ _ _)
 ·obtain ⟨_,_,_,_,rfl⟩:=hx
  subst hy
  cases hu : P.underlying t with
  | none=>simp [hu] at hk
  | some d=>
   cases d <;> simp [hu] at hk
   exact DT h t _ _ rfl rfl ((OM t _ _ _ hu).2.2 _ _ _)
 ·cases h
theorem un_run {op : UnOp} {x : AV} (h : unOp op x = some v) {a : Value} (hx : VR ρ x a) : ∃ u,(Op.unary op a).run P w = .ok u w /\ VR ρ v u:=by
 unfold unOp at h
 split at h
 ·simp only [VR] at hx; subst hx
  injection h with h; subst h
  exact ⟨_,by simp only [Op.unary,Op.intArith,Sem.run_pure]; rfl,by simp only [VR]⟩
 ·simp only [VR] at hx; subst hx
  injection h with h; subst h
  exact ⟨_,by simp only [Op.unary,intBits_xor,Sem.run_pure]; rfl,by simp only [VR]⟩
 ·simp only [VR] at hx; subst hx
  injection h with h; subst h
  exact ⟨_,by simp only [Op.unary,Sem.run_pure]; rfl,by simp only [VR]⟩
 ·cases h
end
section
variable {P : Program} {base : Nat} {ρ : Map} {m m' : Mem} {w : World} {v : AV}
def I6 (cs : List Value) (off : Nat) : List Value -> List Value
 | []=>cs
 | v :: vs=>I6 (cs.set off v) (off + 1) vs
theorem JE (off : Nat) : ∀ (us : List Value) (k : Nat) (carr : Array Value),((us.zipIdx k).foldl (fun cs (x : Value × Nat)=>cs.setIfInBounds (off + x.2) x.1) carr).toList = I6 carr.toList (off + k) us
 | [],_,_=>rfl
 | u :: us,k,carr=>by
  rw [List.zipIdx_cons,List.foldl_cons,JE off us (k + 1),I6]
  simp [Nat.add_assoc]
theorem K3 {ρ : Map} : ∀ {ws : List AV} {us : List Value} {x : List AV} {v : List Value} (off : Nat),VRL ρ ws us -> VRL ρ x v -> VRL ρ (overlay x off ws) (I6 v off us)
 | [],us,x,v,off,hw,hx=>by
  simp [VRL] at hw; subst hw
  exact hx
 | w :: ws,us,x,v,off,hw,hx=>by
  simp only [VRL] at hw
  obtain ⟨u,us,rfl,hu,hw⟩:=hw
  exact K3 (off + 1) hw (hx.set off hu)
theorem LD {tm : List AV} {a : Act} (ht : VRL ρ tm a.tmps.toList) (place : Nat -> Option (Nat × Nat)) (placeT : Nat -> Option (Nat × TypeId)) (hp : ∀ i o t n,placeT i = some (o,t) -> BX P t n = true -> place i = some (o,n)) :
  ∀ (ps : List (Nat × Operand)) (ps' : List (Nat × Nat × Opd)) (cs : List AV) (carr : Array Value) (cs' : List AV),G6 P placeT ps ps' = true -> VRL ρ cs carr.toList -> B4 tm cs ps' = some cs' ->
   ∃ carr',Instr.fill place carr (ps.map fun x=>(x.1,a.eval x.2)) = some carr' /\ VRL ρ cs' carr'.toList
 | [],[],cs,carr,cs',_,hc,hf=>by
  simp only [B4] at hf
  injection hf with hf
  subst hf
  exact ⟨carr,rfl,hc⟩
 | [],_ :: _,_,_,_,h,_,_=>by simp [G6] at h
 | (i,x) :: ps,[],_,_,_,h,_,_=>by simp [G6] at h
 | (i,x) :: ps,(off,n,x') :: ps',cs,carr,cs',h,hc,hf=>by
  simp only [G6,Bool.and_eq_true] at h
  obtain ⟨⟨h1,h2⟩,h3⟩:=h
  simp only [B4] at hf
  split at hf
  ·rename_i hle
   obtain ⟨e1,e2,e3⟩:=hle
   cases hpl : placeT i with
   | none=>simp [hpl] at h1
   | some q=>
    obtain ⟨o,t⟩:=q
    simp [hpl] at h1
    obtain ⟨rfl,h1⟩:=h1
    have hpi:=hp i o t n hpl h1
    have hx:=BD ht h2
    have hcx:=MN hx e3
    have hsz:=(EM hcx).1
    have hcs:=(EM hc).1
    have hfold : ((a.eval x).cells.zipIdx.foldl (fun cs (y : Value × Nat)=>cs.setIfInBounds (o + y.2) y.1) carr).toList = I6 carr.toList o (a.eval x).cells.toList:=by
     rw [<- Array.foldl_toList,Array.toList_zipIdx]
     exact JE o _ 0 carr
    have ih:=LD ht place placeT hp ps ps' (overlay cs o (x'.eval tm).cells) ((a.eval x).cells.zipIdx.foldl (fun cs (y : Value × Nat)=>cs.setIfInBounds (o + y.2) y.1) carr) cs' h3 (by rw [hfold]; exact K3 o hcx hc) hf
    obtain ⟨carr',h4,h5⟩:=ih
    refine ⟨carr',?_,h5⟩
    simp only [List.map_cons,Instr.fill,hpi]
    rw [if_neg]
    ·exact h4
    ·simp only [Bool.or_eq_true,decide_eq_true_eq,not_or]
     exact ⟨by simp; omega,by omega⟩
  ·cases hf
theorem RY {fs : List Field} (h : fs.all (fun f=>(P.info? f.type).isSome) = true) : fs.mapM (fun f=>(P.info? f.type).map fun i=>(f.offset,i.size)) = some (fs.map fun f=>(f.offset,P.cellsOf f.type)):=by
 induction fs with
 | nil=>rfl
 | cons f fs ih=>
  simp only [List.all_cons,Bool.and_eq_true] at h
  obtain ⟨i,hi⟩:=Option.isSome_iff_exists.1 h.1
  simp [List.mapM_cons,ih h.2,hi,Program.cellsOf]
theorem UJ {tm : List AV} {a : Act} (ht : VRL ρ tm a.tmps.toList) {t : TypeId} {tpl : List AV} (hz : E8 P t tpl = true) {ps : Array (Nat × Operand)} {ps' : List (Nat × Nat × Opd)} (hb : RA P t ps.toList ps' = true) {cs : List AV} (hf : B4 tm tpl ps' = some cs) :
  ∃ u,(Instr.build t (ps.map fun (i,x)=>(i,a.eval x))).run P w = .ok u w /\ VR ρ (.agg cs) u:=by
 obtain ⟨z,i,hi,hzz,hc,hs,hr⟩:=E7 hz
 have hz0:=cstsOk_VRL ρ _ _ hc
 unfold RA at hb
 split at hb
 ·rename_i fs hu
  simp only [Bool.and_eq_true] at hb
  obtain ⟨carr',h1,h2⟩:=LD (P:=P) ht (((fs.toList.map fun f=>(f.offset,P.cellsOf f.type)).toArray)[·]?) (QV fs) (fun j o t n hj hn=>by
   unfold QV at hj
   split at hj
   ·rename_i f hf
    injection hj with hj
    injection hj with h1 h2
    subst h1 h2
    simp [hf,F7 hn]
   ·cases hj) ps.toList ps' tpl z.cells cs hb.2 hz0 hf
  refine ⟨.agg carr',run_build w t _ carr' ?_,by simp only [VR]; exact ⟨carr'.toList,h2,by simp⟩⟩
  unfold Program.built
  simp only [hi,hu,hzz,RY hb.1]
  simpa using h1
 ·rename_i n e hu
  cases hie : P.info? e with
  | none=>simp [hie] at hb
  | some ie=>
   simp only [hie] at hb
   obtain ⟨carr',h1,h2⟩:=LD (P:=P) ht (fun j=>some (j * ie.size,ie.size)) (fun j=>some (j * ie.size,e)) (fun j o t n hj hn=>by
    injection hj with hj
    injection hj with h1 h2
    subst h1 h2
    simp [BX,hie] at hn
    simp [hn]) ps.toList ps' tpl z.cells cs hb hz0 hf
   refine ⟨.agg carr',run_build w t _ carr' ?_,by simp only [VR]; exact ⟨carr'.toList,h2,by simp⟩⟩
   unfold Program.built
   simp only [hi,hu,hzz,hie]
   simpa using h1
 ·cases hb
theorem WA (hm : MR P base ρ m w) {tm : List AV} {a : Act} (ht : VRL ρ tm a.tmps.toList) {t : TypeId} {len len' : Nat} {ps : Array (Nat × Operand)} {e : Nat} {tpl : List AV} {ps' : List (Nat × Nat × Opd)}
  (hb : TR P t len ps.toList e tpl len' ps' = true) {cs : List AV} (hf : B4 tm tpl ps' = some cs) {b0 : Nat} {at_ : Option Nat} (hn : newRow m b0 at_ cs e (fun b=>.sl b 0 len' (.exact len')) = some (v,m')) :
  SRuns P base ρ (Instr.buildSlice t len (ps.map fun (i,x)=>(i,a.eval x))) w v m':=by
 unfold TR at hb
 split at hb
 ·rename_i e' hu
  cases hie : P.info? e' with
  | none=>simp [hie] at hb
  | some ie=>
   cases hz : ie.zero with
   | none=>simp [hie,hz] at hb
   | some z=>
    simp only [hie,hz,Bool.and_eq_true,decide_eq_true_eq] at hb
    obtain ⟨⟨⟨⟨⟨rfl,rfl⟩,h24⟩,htl⟩,hct⟩,hpo⟩:=hb
    have hz0:=cstsOk_VRL ρ _ _ hct
    obtain ⟨carr',h1,h2⟩:=LD (P:=P) ht (fun j=>some (j * ie.size,ie.size)) (fun j=>some (j * ie.size,e')) (fun j o t n hj hn=>by
     injection hj with hj
     injection hj with h1 h2
     subst h1 h2
     simp [BX,hie] at hn
     simp [hn]) ps.toList ps' tpl _ cs hpo hz0 hf
    refine HA hm hn carr' h2 (.slice (some ⟨w.heap.size,0,none⟩) len len) (fun ρ' b hb=>?_) _ ?_
    ·simp only [VR]; exact ⟨_,_,_,hb,⟨rfl,Nat.le_refl _⟩,.inl rfl,rfl⟩
    ·by_cases hpos : len * ie.size = 0
     ·have hzr : ((Array.range (len * ie.size)).map (z.cells[· % z.cells.size]!)) = #[]:=by rw [hpos]; simp
      rw [hzr] at h1
      simp [Instr.buildSlice,run_underlying hu,sizeOf,typeInfo,hie,hpos,Go.newRow,newObj]
      rw [show (Array.map (fun _ : Nat=>(default : Value)) (Array.range 0)) = #[] by simp,h1]
      rfl
     ·exact run_buildSlice w t e' len _ carr' ie z hu hie hz (by omega) hpos (by simpa using h1)
 ·cases hb
theorem RZ {t : TypeId} {n : Option Nat} (ha : IZ P t n = true) {cs : List AV} {off : Nat} (h : EQ cs off n = some v) {us : List Value} (hv : VRL ρ cs us) : ∃ u,(part t us.toArray off).run P w = .ok u w /\ VR ρ v u:=by
 unfold IZ at ha
 cases hagg : MD P t with
 | none=>simp [hagg] at ha
 | some g=>
  cases n with
  | none=>
   cases g <;> simp [hagg] at ha
   simp only [EQ] at h
   obtain ⟨u,hu,hvu⟩:=hv.get _ _ h
   exact ⟨u,by simp [part,GF hagg,hu],hvu⟩
  | some k=>
   cases g <;> simp [hagg] at ha
   simp only [EQ] at h
   split at h
   ·injection h with h
    subst h
    refine ⟨.agg ((us.drop off).take k).toArray,?_,by simp only [VR]; exact ⟨_,(hv.drop off).take k,rfl⟩⟩
    simp [part,GF hagg,BY ha]
   ·cases h
theorem aX {t : TypeId} {i off : Nat} {n : Option Nat} {fs : Array Field} {f : Field} (hu : P.underlying t = some (.struct fs)) (hf : fs[i]? = some f) (ho : f.offset = off) (ha : IZ P f.type n = true) {cs : List AV} (h : EQ cs off n = some v) {u : Value} (hv : VR ρ (.agg cs) u) :
  ∃ u',(Instr.field t u i).run P w = .ok u' w /\ VR ρ v u':=by
 simp only [VR] at hv
 obtain ⟨us,h1,rfl⟩:=hv
 subst ho
 obtain ⟨u',h2,h3⟩:=RZ (w:=w) ha h h1
 exact ⟨u',by simp [Instr.field,run_underlying hu,hf,asAgg,h2],h3⟩
theorem fa_runs {s : TypeId} {i off : Nat} {fs : Array Field} {f : Field} {j : TypeInfo} (hu : P.underlying s = some (.struct fs)) (hf : fs[i]? = some f) (ho : f.offset = off) (hj : P.info? f.type = some j) (h0 : j.size ≠ 0) {b o : Nat} {u : Value} (hv : VR ρ (.ptr b o) u) :
  ∃ u',(Instr.fieldAt s u i).run P w = .ok u' w /\ VR ρ (.ptr b (o + off)) u':=by
 simp only [VR] at hv ⊢
 obtain ⟨r,h1,rfl⟩:=hv
 subst ho
 have hs : ∀ w,(sizeOf f.type).run P w = .ok j.size w:=fun w=>BY (by simp [BX,hj]) w
 refine ⟨_,?_,r,h1,rfl⟩
 simp [Instr.fieldAt,run_underlying hu,hf,Instr.sureAddr,fieldPlace,hs,h0,EC,Nat.add_assoc]
theorem T1 {t e : TypeId} {esz : Nat} (hu : P.underlying t = some (.slice e)) (hs : BX P e esz = true) {b off len : Nat} {cap : Cap} {k : IntKind} {n : Int} (h0 : 0 <= n) (h1 : n < len) {x y : Value} (hx : VR ρ (.sl b off len cap) x) (hy : VR ρ (.int k n) y) :
  ∃ u',(Instr.indexAt t x y).run P w = .ok u' w /\ VR ρ (.ptr b (off + n.toNat * esz)) u':=by
 simp only [VR] at hx hy ⊢
 obtain ⟨r,a,c',q1,q2,q3,rfl⟩:=hx
 subst hy
 rcases q3 with rfl | ⟨q3,_⟩
 ·refine ⟨_,?_,r,q1,rfl⟩
  simp [Instr.indexAt,asIntOf,run_underlying hu,h0,h1,BY hs,EC,Nat.add_assoc]
 ·omega
theorem SO {t e : TypeId} {esz len : Nat} (hu : P.underlying t = some (.array len e)) (hs : BX P e esz = true) {b off : Nat} {k : IntKind} {n : Int} (h0 : 0 <= n) (h1 : n < len) {x y : Value} (hx : VR ρ (.ptr b off) x) (hy : VR ρ (.int k n) y) :
  ∃ u',(Instr.indexAt t x y).run P w = .ok u' w /\ VR ρ (.ptr b (off + n.toNat * esz)) u':=by
 simp only [VR] at hx hy ⊢
 obtain ⟨r,q1,rfl⟩:=hx
 subst hy
 refine ⟨_,?_,r,q1,rfl⟩
 simp [Instr.indexAt,asIntOf,run_underlying hu,h0,h1,BY hs,EC,Nat.add_assoc,Instr.sureAddr]
theorem SH {t : TypeId} (hu : P.underlying t = some .string) {s : List UInt8} {k : IntKind} {n : Int} (h0 : 0 <= n) {c : UInt8} (hc : s[n.toNat]? = some c) {x y : Value} (hx : VR ρ (.str s) x) (hy : VR ρ (.int k n) y) :
  ∃ u',(Instr.index t x y).run P w = .ok u' w /\ VR ρ (.int .u8 c.toNat) u':=by
 simp only [VR] at hx hy ⊢
 subst hx hy
 have hlt : n.toNat < s.length:=by
  rcases Nat.lt_or_ge n.toNat s.length with x | x
  ·exact x
  ·rw [List.getElem?_eq_none x] at hc; cases hc
 have hg : (⟨s.toArray⟩ : ByteArray)[n.toNat]? = some c:=by
  rw [getElem?_pos _ _ (by simpa [ByteArray.size] using hlt)]
  rw [List.getElem?_eq_getElem hlt] at hc
  injection hc with hc
  rw [<- hc]; rfl
 exact ⟨_,by simp [Instr.index,asIntOf,run_underlying hu,h0,hg],rfl⟩
theorem SI {t e : TypeId} {len esz : Nat} {kk : Option Nat} (hu : P.underlying t = some (.array len e)) (hs : BX P e esz = true) (ha : IZ P e kk = true) {cs : List AV} {k : IntKind} {n : Int} (h0 : 0 <= n) (h1 : n < len) (h : EQ cs (n.toNat * esz) kk = some v)
  {x y : Value} (hx : VR ρ (.agg cs) x) (hy : VR ρ (.int k n) y) : ∃ u',(Instr.index t x y).run P w = .ok u' w /\ VR ρ v u':=by
 simp only [VR] at hx hy
 obtain ⟨us,q1,rfl⟩:=hx
 subst hy
 obtain ⟨u',h2,h3⟩:=RZ (w:=w) ha h q1
 exact ⟨u',by simp [Instr.index,asIntOf,run_underlying hu,h0,h1,BY hs,h2],h3⟩
theorem aZ {l : List AV} {i : Nat} (h : l[i]? = some v) {u : Value} (hv : VR ρ (.tup l) u) : ∃ u',(Instr.extract u i).run P w = .ok u' w /\ VR ρ v u':=by
 simp only [VR] at hv
 obtain ⟨us,h1,rfl⟩:=hv
 obtain ⟨u',h2,h3⟩:=h1.get _ _ h
 exact ⟨u',by simp [Instr.extract,h2],h3⟩
theorem H4 {x : AV} {n : Nat} (h : DR x = some n) {u : Value} (hv : VR ρ x u) : ∃ k,u = .int k (n : Int):=by
 unfold DR at h
 split at h
 ·rename_i k z
  split at h
  ·simp only [VR] at hv
   injection h with h
   exact ⟨k,by rw [hv]; congr 1; omega⟩
  ·cases h
 ·cases h
theorem CP {k : IntKind} {n y : Nat} (h : n <= y) (c : BoundsCode) : (Instr.sliceBound (.int k (n : Int)) y c).run P w = .ok n w:=by
 simp [Instr.sliceBound,asIntOf]
 intro h'
 omega
def HM (ρ : Map) : Option AV -> Option Value -> Prop
 | none,none=>True
 | some x,some v=>VR ρ x v
 | _,_=>False
theorem PA {len : Nat} {cap : Cap} {h c' : Nat} (hw : within len cap h = true) {r : Reg} {o : Nat} (hc : JL r o len c' cap) : h <= c':=by
 unfold within at hw
 simp only [Bool.or_eq_true,decide_eq_true_eq] at hw
 cases cap <;> simp [JL] at hc hw <;> omega
theorem F6 {len : Nat} {cap : Cap} {lo hi mx : Option AV} {l h : Nat} {c : Cap} (hb : DH len cap lo hi mx = some (l,h,c)) {lo' hi' mx' : Option Value} (hlo : HM ρ lo lo') (hhi : HM ρ hi hi') (hmx : HM ρ mx mx') {r : Reg} {o c' : Nat} (hc : JL r o len c' cap) (isS : Bool) :
  ∃ m,(Instr.sliceBounds isS len c' lo' hi' mx').run P w = .ok (l,h,m) w /\ l <= h /\ h <= m /\ m <= c' /\ (mx = none -> m = c' /\ c = cap.less l) /\ (mx.isSome = true -> c = .exact (m - l)):=by
 have low : ∀ l h,loB lo = some l -> l <= h -> ∀ cd : BoundsCode,(match lo' with | some v=>Instr.sliceBound v h cd | none=>pure 0).run P w = .ok l w:=by
  intro l h hl hle cd
  cases lo with
  | none=>cases lo' <;> simp [HM] at hlo; simp [loB] at hl; subst hl; rfl
  | some x=>
   cases lo' <;> simp [HM] at hlo
   obtain ⟨k,rfl⟩:=H4 hl hlo
   exact CP hle cd
 unfold DH at hb
 cases hl0 : loB lo with
 | none=>simp [hl0] at hb
 | some l0=>
  cases hh0 : hiB len hi with
  | none=>simp [hl0,hh0] at hb
  | some h0=>
   cases mx with
   | none=>
    simp only [hl0,hh0] at hb
    split at hb
    ·rename_i hle
     injection hb with hb
     injection hb with e1 hb
     injection hb with e2 e3
     subst e1 e2 e3
     have hmx' : mx' = none:=by cases mx' <;> simp [HM] at hmx; rfl
     subst hmx'
     have hhc:=PA hle.2 hc
     refine ⟨c',?_,hle.1,hhc,Nat.le_refl _,fun _=>⟨rfl,rfl⟩,fun x=>by simp at x⟩
     have hlow:=low l0 h0 hl0 hle.1
     cases hi with
     | none=>
      cases hi' <;> simp [HM] at hhi
      simp [hiB] at hh0
      subst hh0
      cases lo' with
      | none=>have:=hlow .sliceB; simp at this; simp [Instr.sliceBounds,this]
      | some lv=>have:=hlow .sliceB; simp at this; simp [Instr.sliceBounds,this]
     | some x=>
      cases hi' <;> simp [HM] at hhi
      obtain ⟨k,rfl⟩:=H4 hh0 hhi
      cases lo' with
      | none=>have:=hlow .sliceB; simp at this; simp [Instr.sliceBounds,CP hhc,this]
      | some lv=>have:=hlow .sliceB; simp at this; simp [Instr.sliceBounds,CP hhc,this]
    ·cases hb
   | some vmx=>
    simp only [hl0,hh0] at hb
    cases hcm : DR vmx with
    | none=>simp [hcm] at hb
    | some cm=>
     simp only [hcm] at hb
     split at hb
     ·rename_i hle
      obtain ⟨e1,e2,e3,e4⟩:=hle
      injection hb with hb
      injection hb with q1 hb
      injection hb with q2 q3
      subst q1 q2 q3
      have hcc:=PA e4 hc
      cases mx' with
      | none=>simp [HM] at hmx
      | some mv=>
       simp only [HM] at hmx
       obtain ⟨km,rfl⟩:=H4 hcm hmx
       cases hi with
       | none=>simp at e3
       | some x=>
        cases hi' <;> simp [HM] at hhi
        obtain ⟨k,rfl⟩:=H4 hh0 hhi
        refine ⟨cm,?_,e1,e2,hcc,fun x=>by simp at x,fun _=>rfl⟩
        cases lo' with
        | none=>have:=low l0 h0 hl0 e1 .slice3C; simp at this; simp [Instr.sliceBounds,CP hcc,CP e2,this]
        | some lv=>have:=low l0 h0 hl0 e1 .slice3C; simp at this; simp [Instr.sliceBounds,CP hcc,CP e2,this]
     ·cases hb
theorem QA {lo hi mx : Option AV} {l h : Nat} {c : Cap} (hb : DH 0 .any lo hi mx = some (l,h,c)) : h = 0 /\ (mx = none \/ ∃ n,c = .exact n /\ n = 0):=by
 unfold DH at hb
 cases hl0 : loB lo with
 | none=>simp [hl0] at hb
 | some l0=>
  cases hh0 : hiB 0 hi with
  | none=>simp [hl0,hh0] at hb
  | some h0=>
   cases mx with
   | none=>
    simp only [hl0,hh0] at hb
    split at hb
    ·rename_i hle
     injection hb with hb
     injection hb with e1 hb
     injection hb with e2 e3
     have:=hle.2
     simp [within] at this
     exact ⟨by omega,.inl rfl⟩
    ·cases hb
   | some vmx=>
    simp only [hl0,hh0] at hb
    cases hcm : DR vmx with
    | none=>simp [hcm] at hb
    | some cm=>
     simp only [hcm] at hb
     split at hb
     ·rename_i hle
      injection hb with hb
      injection hb with e1 hb
      injection hb with e2 e3
      have:=hle.2.2.2
      simp [within] at this
      exact ⟨by omega,.inr ⟨_,e3.symm,by omega⟩⟩
     ·cases hb
end
section
variable {P : Program} {base : Nat} {ρ : Map} {m m' : Mem} {w : World} {v : AV}
theorem W9 {t : TypeId} {k : SlK} (hk : FJ P t k = true) {x : AV} {lo hi mx : Option AV} (h : B7 k x lo hi mx = some v) {u : Value} {lo' hi' mx' : Option Value} (hx : VR ρ x u) (hlo : HM ρ lo lo') (hhi : HM ρ hi hi') (hmx : HM ρ mx mx') :
  ∃ u',(Instr.sliceAt t u lo' hi' mx').run P w = .ok u' w /\ VR ρ v u':=by
 unfold B7 at h
 split at h
 ·rename_i s
  split at h
  ·rename_i l hh c hb
   injection h with h
   subst h
   have hmx' : mx' = none:=by cases mx' <;> simp [HM] at hmx; rfl
   subst hmx'
   simp only [VR] at hx ⊢
   subst hx
   obtain ⟨mm,h1,h2,h3,h4,_,_⟩:=F6 (P:=P) (w:=w) hb hlo hhi (mx':=none) (by simp [HM]) (r:=⟨0,0,0,0⟩) (o:=0) (c':=s.length) (by simp [JL]) false
   have hu : P.underlying t = some .string:=by
    cases hu : P.underlying t with
    | none=>simp [FJ,hu] at hk
    | some d=>cases d <;> simp [FJ,hu] at hk; rfl
   refine ⟨.string ((⟨s.toArray⟩ : ByteArray).extract l hh),?_,?_⟩
   ·have hsz : (⟨s.toArray⟩ : ByteArray).size = s.length:=by simp [ByteArray.size]
    simp [Instr.sliceAt,run_underlying hu,Instr.slice,hsz,h1]
   ·congr 1
    apply ByteArray.ext
    simp [List.extract_eq_take_drop]
  ·cases h
 ·rename_i esz b off len cap
  split at h
  ·rename_i hz
   split at h
   ·rename_i l hh c hb
    injection h with h
    subst h
    simp only [VR] at hx ⊢
    obtain ⟨r,a,c',q1,q2,q3,rfl⟩:=hx
    obtain ⟨mm,h1,h2,h3,h4,h5,h6⟩:=F6 (P:=P) (w:=w) hb hlo hhi hmx q2 true
    cases hu : P.underlying t with
    | none=>simp [FJ,hu] at hk
    | some d=>
     cases d <;> simp [FJ,hu] at hk
     rename_i e
     refine ⟨.slice (some (if mm = l then a else a.add (l * esz))) (hh - l) (mm - l),?_,r,_,_,q1,?_,?_,rfl⟩
     ·simp only [Instr.sliceAt,run_underlying hu,Sem.run_bind,Result.andThen_ok,Instr.slice,h1,BY hk,Sem.run_pure]
      split <;> rfl
     ·cases mx with
      | none=>
       obtain ⟨rfl,rfl⟩:=h5 rfl
       cases cap with
       | exact n=>simp [JL,Cap.less] at q2 ⊢; omega
       | any=>simp [JL,Cap.less] at q2 ⊢; omega
       | more z=>
        simp [JL,Cap.less,Cap.fits] at q2 hz ⊢
        obtain ⟨e1,e2,e3⟩:=q2
        refine ⟨e1,?_,by omega⟩
        have hd : l * r.esz + (mm - l) * r.esz = mm * r.esz:=by rw [<- Nat.add_mul]; congr 1; omega
        rw [<- hz,e1]
        omega
      | some x=>
       rw [h6 rfl]
       simp [JL]
       omega
     ·by_cases hml : mm = l
      ·right
       exact ⟨by omega,.inl (by omega)⟩
      ·rcases q3 with rfl | ⟨q3,q4⟩
       ·left
        rw [if_neg hml,EC,Nat.add_assoc]
       ·rcases q4 with q4 | q4
        ·omega
        ·subst q4
         right
         subst q3
         obtain ⟨hh0,hx⟩:=QA hb
         refine ⟨by omega,?_⟩
         rcases hx with hx | ⟨n,hx,hn⟩
         ·obtain ⟨_,e⟩:=h5 hx
          rw [e]; right; rfl
         ·left
          cases mx with
          | none=>obtain ⟨_,e⟩:=h5 rfl; rw [e] at hx; simp [Cap.less] at hx
          | some x=>
           have:=h6 rfl
           rw [hx] at this
           injection this with this
           omega
   ·cases h
  ·cases h
 ·rename_i esz
  split at h
  ·rename_i r0 hb
   injection h with h
   subst h
   obtain ⟨l,hh,c⟩:=r0
   simp only [VR] at hx ⊢
   subst hx
   obtain ⟨mm,h1,h2,h3,h4,h5,h6⟩:=F6 (P:=P) (w:=w) hb hlo hhi hmx (r:=⟨0,0,0,0⟩) (o:=0) (c':=0) (by simp [JL]) true
   cases hu : P.underlying t with
   | none=>simp [FJ,hu] at hk
   | some d=>
    cases d <;> simp [FJ,hu] at hk
    refine ⟨.slice none 0 0,?_,rfl⟩
    obtain rfl : mm = 0:=by omega
    obtain rfl : hh = 0:=by omega
    obtain rfl : l = 0:=by omega
    simp [Instr.sliceAt,run_underlying hu,Instr.slice,h1,BY hk]
  ·cases h
 ·rename_i n esz b off
  split at h
  ·rename_i l hh c hb
   injection h with h
   subst h
   have hmx' : mx' = none:=by cases mx' <;> simp [HM] at hmx; rfl
   subst hmx'
   simp only [VR] at hx ⊢
   obtain ⟨r,q1,rfl⟩:=hx
   obtain ⟨mm,h1,h2,h3,h4,h5,_⟩:=F6 (P:=P) (w:=w) hb hlo hhi (mx':=none) (by simp [HM]) (r:=r) (o:=off) (c':=n) (by simp [JL]) false
   obtain ⟨rfl,rfl⟩:=h5 rfl
   cases hu : P.underlying t with
   | none=>simp [FJ,hu] at hk
   | some d=>
    cases d <;> simp [FJ,hu] at hk
    rename_i n' e
    obtain ⟨rfl,hk⟩:=hk
    refine ⟨.slice (some (if mm = l then ⟨r.cb,r.sh + off,none⟩ else (⟨r.cb,r.sh + off,none⟩ : Addr).add (l * esz))) (hh - l) (mm - l),?_,r,_,_,q1,?_,?_,rfl⟩
    ·simp [Instr.sliceAt,run_underlying hu,Instr.sureAddr,h1,BY hk]
    ·simp [JL,Cap.less]; omega
    ·by_cases hml : mm = l
     ·right; exact ⟨by omega,.inl (by omega)⟩
     ·left; rw [if_neg hml,EC,Nat.add_assoc]
  ·cases h
 ·cases h
theorem LF : ∀ (cs : List AV) (bs : List UInt8) (us : List Value),bytesOf cs = some bs -> VRL ρ cs us -> ∃ xs : List Int,us = xs.map (Value.int .u8) /\ bs = xs.map fun n=>UInt8.ofNat n.toNat
 | [],bs,us,h,hv=>by
  simp [bytesOf] at h
  simp [VRL] at hv
  exact ⟨[],by simp [hv],by simp [h]⟩
 | c :: cs,bs,us,h,hv=>by
  simp only [VRL] at hv
  obtain ⟨y,ys,rfl,hy,hv⟩:=hv
  cases c with
  | int k n=>
   cases k with
   | u8=>
    cases hr : bytesOf cs with
    | none=>simp [bytesOf,hr] at h
    | some r=>
     simp [bytesOf,hr] at h
     obtain ⟨xs,h1,h2⟩:=LF cs r ys hr hv
     simp only [VR] at hy
     exact ⟨n :: xs,by simp [hy,h1],by rw [<- h,h2]; simp⟩
   | _=>simp [bytesOf] at h
  | _=>simp [bytesOf] at h
theorem bT (hm : MR P base ρ m w) {s d : TypeId} (hc : FH P s d .b2s = true) {x : AV} {u : Value} (hx : VR ρ x u) {b0 : Nat} {tm : List AV} {call : BN} {o : Opd} (ho : o.eval tm = x) {sl : Option Nat} (h : A1 call b0 tm m (.cv sl .b2s o) = some (v,m')) :
  m' = m /\ ∃ u',(convert s d u).run P w = .ok u' w /\ VR ρ v u':=by
 simp only [A1,ho] at h
 unfold FH at hc
 cases hs : P.underlying s with
 | none=>simp [hs] at hc
 | some ds=>
  cases hd : P.underlying d with
  | none=>cases ds <;> simp [hs,hd] at hc
  | some dd=>
   cases ds <;> cases dd <;> simp [hs,hd] at hc
   rename_i e
   cases he : P.underlying e with
   | none=>simp [he] at hc
   | some de=>
    cases de <;> simp [he] at hc
    rename_i k
    cases k <;> simp at hc
    split at h
    ·injection h with h; injection h with h1 h2
     subst h1 h2
     simp only [VR] at hx
     subst hx
     exact ⟨rfl,_,run_convert_bytes_nil w s e hs he 0 0 d hd,by simp [VR]; rfl⟩
    ·rename_i b off len cap
     split at h
     ·rename_i cs hr
      obtain ⟨h1,rfl⟩:=B6 h
      refine ⟨rfl,?_⟩
      cases hb : bytesOf cs with
      | none=>simp [hb] at h1
      | some bs=>
       simp [hb] at h1
       subst h1
       simp only [VR] at hx
       obtain ⟨r,a,c',q1,q2,q3,rfl⟩:=hx
       obtain ⟨r',hρ',hlen,_,us,hvr,hul,hus⟩:=hm.read hr
       rw [q1] at hρ'
       injection hρ' with hρ'
       subst hρ'
       obtain ⟨xs,g1,g2⟩:=LF cs bs us hb hvr
       have hxl : xs.length = len:=by rw [<- hul,g1]; simp
       have hres : VR ρ (.str bs) (.string (strOfNums xs)):=by
        simp only [VR,strOfNums,g2]
       rcases q3 with rfl | ⟨q3,_⟩
       ·refine ⟨_,run_convert_bytes_arg w s e hs he r.cb (r.sh + off) len c' xs hxl (fun i hi=>?_) d hd,hres⟩
        have hu : us[i]? = some (.int .u8 (xs.getD i 0)):=by
         rw [g1]
         simp [List.getD_eq_getElem?_getD,List.getElem?_eq_getElem (show i < xs.length by omega)]
        exact hus i _ hu
       ·subst q3
        have hx0 : xs = []:=List.eq_nil_of_length_eq_zero hxl
        subst hx0
        refine ⟨.string (strOfNums []),?_,hres⟩
        simp [convert,run_underlying hs,run_underlying hd,run_underlying he,Conv.bytesToString,loadCells,loadCellsFrom]
        rfl
     ·cases h
    ·cases h
theorem Below.drew' (base : Nat) (w : World) : Below base w w.drew:=⟨rfl,rfl,rfl,Nat.le_refl _,fun _ _=>rfl⟩
theorem IL (hm : MR P base ρ m w) {s : Option Nat} {cs : List AV} {e b : Nat} (hn : m.new s cs e = some (b,m')) {us : List Value} (hv : VRL ρ cs us) (rest : List Value) (fr : Nat × Nat) (hfr : ∀ i,i < (us ++ rest).length -> (i < fr.1 \/ fr.1 = fr.2)) {n cap esz : Nat} (hsz : P.cellsOf e = esz) (hcap : cap * esz = (us ++ rest).length) (hle : n <= cap)
  {w' : World} (hw : w'.heap = w.heap.push (.cells (us ++ rest).toArray e fr)) (hb : Below base w w') :
  ∃ ρ',ρ.le ρ' /\ VR ρ' (.sl b 0 n (.more esz)) (.slice (some ⟨w.heap.size,0,none⟩) n cap) /\ MR P base ρ' m' w':=by
 have hul:=hv.length
 obtain ⟨ρ',h1,h2,h3,_⟩:=hm.new hn (us ++ rest).toArray (by simp; omega) (fun i a ha=>by
  obtain ⟨u,hu,hvu⟩:=hv.get i a ha
  have hlt : i < us.length:=by
   rcases Nat.lt_or_ge i us.length with x | x
   ·exact x
   ·rw [List.getElem?_eq_none x] at hu; cases hu
  exact ⟨u,by simp [List.getElem?_append_left hlt,hu],hvu⟩) fr (by simpa using hfr)
 refine ⟨ρ',h1,?_,h3.heap (by rw [hw]; rfl)⟩
 simp only [VR]
 refine ⟨_,_,_,h2,?_,.inl rfl,rfl⟩
 refine ⟨hsz.symm,?_,hle⟩
 simp only [hsz]
 simp at hcap ⊢
 omega
theorem XM (hm : MR P base ρ m w) {s d : TypeId} {e : Nat} (hc : FH P s d (.s2b e) = true) {l : List UInt8} {u : Value} (hx : VR ρ (.str l) u) {b0 : Nat} {sl : Option Nat} (h : newRow m b0 sl (l.map fun c=>.int .u8 c.toNat) e (fun b=>.sl b 0 l.length (.more 1)) = some (v,m')) : SRuns P base ρ (convert s d u) w v m':=by
 unfold FH at hc
 cases hs : P.underlying s with
 | none=>simp [hs] at hc
 | some ds=>
  cases hd : P.underlying d with
  | none=>cases ds <;> simp [hs,hd] at hc
  | some dd=>
   cases ds <;> cases dd <;> simp [hs,hd] at hc
   rename_i e'
   obtain ⟨rfl,hc⟩:=hc
   cases he : P.underlying e with
   | none=>simp [he] at hc
   | some de=>
    cases de <;> simp [he] at hc
    rename_i k
    cases k <;> simp at hc
    simp only [VR] at hx
    subst hx
    unfold newRow at h
    split at h
    ·rename_i b m1 hn
     injection h with h; injection h with h1 h2
     subst h1 h2
     have hsz : (⟨l.toArray⟩ : ByteArray).size = l.length:=by simp [ByteArray.size]
     have hv : VRL ρ (l.map fun c=>AV.int .u8 c.toNat) (l.map fun c=>Value.int .u8 c.toNat):=by
      refine VRL.of_get (by simp) fun i a b ha hb=>?_
      simp at ha hb
      obtain ⟨x,hx,rfl⟩:=ha
      obtain ⟨y,hy,rfl⟩:=hb
      rw [hx] at hy; injection hy with hy
      simp [VR,hy]
     have hcap : l.length <= grownCap w l.length 0 e:=grownCap_ge w _ _ _
     have hrun:=Go.Lib.run_convert_string_bytes (P:=P) w s d e ⟨l.toArray⟩ hs hd he
     rw [hsz] at hrun
     have hbc : Go.Lib.bytesCells w e ⟨l.toArray⟩ = ((l.map fun c : UInt8=>Value.int .u8 (c.toNat : Int)) ++ List.replicate (grownCap w l.length 0 e - l.length) (Value.int .u8 0)).toArray:=by
      simp [Go.Lib.bytesCells,hsz]
     have hheap : (Go.Lib.bytesWorld w e ⟨l.toArray⟩).heap = w.heap.push (.cells ((l.map fun c : UInt8=>Value.int .u8 (c.toNat : Int)) ++ List.replicate (grownCap w l.length 0 e - l.length) (Value.int .u8 0)).toArray e ((Go.Lib.bytesCells w e ⟨l.toArray⟩).size,(Go.Lib.bytesCells w e ⟨l.toArray⟩).size + 1)):=by
      rw [<- hbc]
      apply Array.ext_getElem?
      intro i
      rcases Nat.lt_trichotomy i w.heap.size with h | h | h
      ·rw [Go.Lib.bytesWorld_at_old w e _ i h,Array.getElem?_push,if_neg (by omega)]
      ·subst h
       rw [Go.Lib.bytesWorld_at_new]; simp
      ·rw [Array.getElem?_eq_none (by rw [Go.Lib.bytesWorld_size]; omega),Array.getElem?_eq_none (by simp; omega)]
     have hbel : Below base w (Go.Lib.bytesWorld w e ⟨l.toArray⟩):=⟨rfl,rfl,rfl,by rw [Go.Lib.bytesWorld_size]; omega,fun k hk=>Go.Lib.bytesWorld_at_old w e _ k (by have:=hm.low; omega)⟩
     obtain ⟨ρ',q1,q2,q3⟩:=IL hm hn hv (List.replicate (grownCap w l.length 0 e - l.length) (Value.int .u8 0)) ((Go.Lib.bytesCells w e ⟨l.toArray⟩).size,(Go.Lib.bytesCells w e ⟨l.toArray⟩).size + 1) (fun i hi=>by
      have : (Go.Lib.bytesCells w e ⟨l.toArray⟩).size = ((l.map fun c : UInt8=>Value.int .u8 (c.toNat : Int)) ++ List.replicate (grownCap w l.length 0 e - l.length) (Value.int .u8 0)).length:=by rw [hbc]; simp
      omega) (n:=l.length) (cap:=grownCap w l.length 0 e) (esz:=1) (F7 hc) (by simp; omega) hcap hheap hbel
     exact ⟨_,_,ρ',hrun,q1,q2,q3,hbel⟩
    ·cases h
end
section
variable {P : Program} {base : Nat} {ρ : Map} {m m' : Mem} {w : World} {v : AV}
theorem FS (zs : List AV) : ∀ n,(AW zs n).length = n * zs.length
 | 0=>by simp [AW]
 | n + 1=>by simp [AW,FS zs n,Nat.add_mul]; omega
theorem KY (zs : List AV) (hz : 0 < zs.length) : ∀ (n i : Nat),i < n * zs.length -> (AW zs n)[i]? = zs[i % zs.length]?
 | 0,i,h=>by omega
 | n + 1,i,h=>by
  rw [AW]
  by_cases hi : i < zs.length
  ·rw [List.getElem?_append_left hi,Nat.mod_eq_of_lt hi]
  ·rw [List.getElem?_append_right (by omega),KY zs hz n _ (by rw [Nat.add_mul] at h; omega)]
   congr 1
   exact (Nat.mod_eq_sub_mod (by omega)).symm
theorem HN {ρ : Map} {zs : List AV} {z : Array Value} (h : VRL ρ zs z.toList) (hz : 0 < zs.length) (n : Nat) : VRL ρ (AW zs n) (madeCells z (n * z.size)).toList:=by
 have hsz:=(EM h).1
 refine VRL.of_get (by simp [madeCells,FS,hsz]) fun i a b ha hb=>?_
 have hlt : i < n * zs.length:=by
  rcases Nat.lt_or_ge i (AW zs n).length with x | x
  ·rwa [FS] at x
  ·rw [List.getElem?_eq_none x] at ha; cases ha
 rw [KY zs hz n i hlt] at ha
 obtain ⟨u,hu,hv⟩:=h.get _ _ ha
 have hb' : b = u:=by
  have hm : i % z.size < z.size:=Nat.mod_lt _ (by omega)
  rw [Array.getElem?_toList,<- hsz] at hu
  simp [madeCells] at hb
  obtain ⟨j,hj,hb⟩:=hb
  have hji : j = i:=by
   obtain ⟨_,h2⟩:=List.getElem?_eq_some_iff.1 hj
   simp at h2
   exact h2.symm
  subst hji
  rw [<- hb]
  rw [Array.getElem?_eq_getElem hm] at hu
  injection hu with hu
  rw [<- hu]
  simp [hm]
 rw [hb']; exact hv
theorem X6 (hm : MR P base ρ m w) {t : TypeId} {e bytes : Nat} {zero : List AV} (hu : P.underlying t = some (.slice e)) (hby : HI P e bytes = true) (hz : E8 P e zero = true) (h0 : 0 < zero.length) {l c : Nat} (hlc : l <= c) (hmost : c * bytes <= AQ) (h63 : c < 9223372036854775808)
  {b0 : Nat} {s : Option Nat} (hn : newRow m b0 s (AW zero c) e (fun b=>.sl b 0 l (.exact c)) = some (v,m')) (kl kc : IntKind) : SRuns P base ρ (Instr.makeSlice t (.int kl (l : Int)) (.int kc (c : Int))) w v m':=by
 obtain ⟨z,i,hi,hzz,hc,hs,_⟩:=E7 hz
 have hb : i.bytes = bytes:=by simpa [HI,hi] using hby
 have hz0:=cstsOk_VRL ρ _ _ hc
 have hbytes : (i.bytes : Int) * (c : Int) <= 281474976710656:=by
  have : bytes * c <= 281474976710656:=by unfold AQ at hmost; rw [Nat.mul_comm]; omega
  have h2 : ((i.bytes * c : Nat) : Int) <= 281474976710656:=by rw [hb]; omega
  rwa [Int.natCast_mul] at h2
 have hrun:=run_make (P:=P) w t e i z hu hi hzz kl kc l c (by omega) (by omega) hbytes (by omega)
 simp only [Int.toNat_natCast,hs] at hrun
 refine HA hm hn _ (HN hz0 h0 c) _ (fun ρ' b hb=>?_) _ hrun
 simp only [VR]
 exact ⟨_,_,_,hb,⟨rfl,hlc⟩,.inl rfl,rfl⟩
theorem KT (hm : MR P base ρ m w) {esz : Nat} {y : AV} {n : Nat} {cs : List AV} (hs : CZ m esz y = some (n,cs)) {u : Value} (hv : VR ρ y u) :
  ∃ us,VRL ρ cs us /\ us.length = n * esz /\ ∀ w' : World,w'.heap = w.heap -> (Builtin.lenOf u).run P w' = .ok n w' /\ ∀ k,k <= n -> (Builtin.firstCells esz k u).run P w' = .ok (us.take (k * esz)).toArray w':=by
 unfold CZ at hs
 split at hs
 ·injection hs with hs; injection hs with h1 h2
  subst h1 h2
  simp only [VR] at hv
  subst hv
  refine ⟨[],by simp [VRL],by simp,fun w' _=>⟨rfl,fun k hk=>?_⟩⟩
  simp [Builtin.firstCells]
 ·rename_i b off len cap
  split at hs
  ·rename_i cs' hr
   injection hs with hs; injection hs with h1 h2
   subst h1 h2
   simp only [VR] at hv
   obtain ⟨r,a,c',q1,q2,q3,rfl⟩:=hv
   obtain ⟨r',hρ',hlen,_,us,hvr,hul,hus⟩:=hm.read hr
   rw [q1] at hρ'
   injection hρ' with hρ'
   subst hρ'
   refine ⟨us,hvr,hul,fun w' hw'=>⟨rfl,fun k hk=>?_⟩⟩
   have hcell : ∀ a,w'.cell? a = w.cell? a:=fun a=>by simp [World.cell?,hw']
   rcases q3 with rfl | ⟨q3,_⟩
   ·have hl : (us.take (k * esz)).length = k * esz:=by
     rw [List.length_take,hul]
     exact Nat.min_eq_left (Nat.mul_le_mul_right _ hk)
    have:=HL P w' ⟨r.cb,r.sh + off,none⟩ (us.take (k * esz)) (fun j u hj=>by
     rw [EC,hcell]
     rw [List.getElem?_take] at hj
     split at hj
     ·exact hus j u hj
     ·cases hj)
    rw [hl] at this
    simpa [Builtin.firstCells] using this
   ·subst q3
    obtain rfl : k = 0:=by omega
    simp [Builtin.firstCells,loadCells,loadCellsFrom]
  ·cases hs
 ·rename_i s
  split at hs
  ·rename_i hesz
   subst hesz
   injection hs with hs; injection hs with h1 h2
   subst h1 h2
   simp only [VR] at hv
   subst hv
   have hsz : (⟨s.toArray⟩ : ByteArray).size = s.length:=by simp [ByteArray.size]
   refine ⟨s.map fun c=>.int .u8 c.toNat,VRL.of_get (by simp) fun i a b ha hb=>?_,by simp,fun w' _=>⟨by simp [Builtin.lenOf,hsz],fun k hk=>?_⟩⟩
   ·simp at ha hb
    obtain ⟨x,hx,rfl⟩:=ha
    obtain ⟨y,hy,rfl⟩:=hb
    rw [hx] at hy; injection hy with hy
    simp [VR,hy]
   ·simp only [Builtin.firstCells,Sem.run_pure,Nat.mul_one]
    congr 1
    apply Array.ext'
    simp
  ·cases hs
 ·cases hs
theorem LK {ts : Array TypeId} {t u' e : TypeId} {esz : Nat} (h0 : ts[0]? = some t) (h1 : ts[1]? = some u') (ht : P.underlying t = some (.slice e)) (hs : BX P e esz = true) (hsrc : KU P u' = true) {X : Value} {n : Nat} {us : List Value} (hl : (Builtin.lenOf X).run P w = .ok n w)
  (hf : (Builtin.firstCells esz n X).run P w = .ok us.toArray w) (ty : TypeId) (a : Option Addr) {sLen sCap : Nat} (hr : sLen + n <= sCap) {w' : World} (hst : match a with | some a=>(storeCells (a.add (sLen * esz)) us).run P w = .ok () w' | none=>w' = w) :
  (Builtin.append_ ts ty #[.slice a sLen sCap,X]).run P w = .ok (.slice a (sLen + n) sCap) w':=by
 have hi : ∃ i,P.info? e = some i /\ i.size = esz:=by
  unfold BX at hs
  cases hi : P.info? e with
  | none=>simp [hi] at hs
  | some i=>simp [hi] at hs; exact ⟨i,rfl,hs⟩
 obtain ⟨i,hi,hsz⟩:=hi
 cases hu : P.underlying u' with
 | none=>simp [KU,hu] at hsrc
 | some d=>
  cases a with
  | none=>
   simp only at hst
   subst hst
   cases d <;> simp [KU,hu] at hsrc <;>
    simp [Builtin.append_,h0,h1,run_underlying ht,run_underlying hu,sizeOf,typeInfo,hi,hsz,hl,hr,hf]
  | some a=>
   simp only at hst
   cases d <;> simp [KU,hu] at hsrc <;>
    simp [Builtin.append_,h0,h1,run_underlying ht,run_underlying hu,sizeOf,typeInfo,hi,hsz,hl,hr,hf,hst]
theorem bX {ts : Array TypeId} {t u' e : TypeId} {esz bytes : Nat} (h0 : ts[0]? = some t) (h1 : ts[1]? = some u') (ht : P.underlying t = some (.slice e)) {zero : List AV} (hs : BX P e esz = true) (hby : HI P e bytes = true) (hz : E8 P e zero = true) (hsrc : KU P u' = true) {X : Value} {n : Nat} {us olds : List Value} (hl : (Builtin.lenOf X).run P w = .ok n w)
  (hf : (Builtin.firstCells esz n X).run P w.drew = .ok us.toArray w.drew) (ty : TypeId) (a : Option Addr) {sLen sCap : Nat} (hr : sCap < sLen + n) (hfo : (Builtin.firstCells esz sLen (.slice a sLen sCap)).run P w.drew = .ok olds.toArray w.drew) (hmost : (sLen + n) * bytes <= AQ) (h63 : sLen + n <= 9223372036854775807) :
  ∃ rest : List Value,rest.length = (grownCap w (sLen + n) sCap e - (sLen + n)) * esz /\
  (Builtin.append_ ts ty #[.slice a sLen sCap,X]).run P w = .ok (.slice (some ⟨w.heap.size,0,none⟩) (sLen + n) (grownCap w (sLen + n) sCap e)) (w.drew.alloc (.cells (olds ++ us ++ rest).toArray e)):=by
 obtain ⟨z,i,hi,hzz,_,hzs,_⟩:=E7 hz
 have hsz : i.size = esz:=by simpa [BX,hi] using hs
 have hb : i.bytes = bytes:=by simpa [HI,hi] using hby
 have hn : ¬ (sLen + n <= sCap):=by omega
 have h63' : ¬ (9223372036854775807 < ((sLen : Int) + (n : Int))):=by omega
 have hfit:=growslice_fits (need:=sLen + n) (old:=sCap) (bytes:=bytes) hr hmost
 have h48' : ¬ (281474976710656 < Builtin.nextslicecap (sLen + n) sCap * bytes):=by omega
 refine ⟨(Builtin.zeroCells z.cells (grownCap w (sLen + n) sCap e - (sLen + n))).toList,by simp [size_zeroCells,<- hzs,hsz],?_⟩
 have harr : ∀ r : Array Value,(olds ++ us ++ r.toList).toArray = olds.toArray ++ us.toArray ++ r:=fun r=>by apply Array.ext'; simp
 rw [harr]
 cases hu : P.underlying u' with
 | none=>simp [KU,hu] at hsrc
 | some d=>
  cases d <;> simp [KU,hu] at hsrc <;>
   (simp [Builtin.append_,h0,h1,run_underlying ht,run_underlying hu,sizeOf,typeInfo,zeroValue,hi,hzz,hsz,hb,hl,hn,h63',h48',Question.forced,hf,hfo,Go.newRow,grownCap]
    try (congr 2; apply Array.ext'; simp [List.append_assoc]))
theorem MR.kill (h : MR P base ρ m w) {b : Nat} (hb : m.get b ≠ none) : MR P base ρ (m.set b .dead) w:=by
 obtain ⟨o0,ho0⟩:=Option.ne_none_iff_exists'.1 hb
 refine ⟨fun c o hc=>?_,fun c r hc=>?_,h.low,fun b1 b2 cs1 e1 o2 r1 r2 g1 g2 nd q1 q2 hcb=>?_⟩
 ·rw [Mem.get_set] at hc
  split at hc
  ·rename_i hcb
   subst hcb
   injection hc with hc
   subst hc
   obtain ⟨h1,r,h2,_⟩:=h.dom c o0 ho0
   exact ⟨h1,r,h2,trivial⟩
  ·exact h.dom c o hc
 ·rw [Mem.get_set]; split
  ·simp
  ·exact h.used c r hc
 ·rw [Mem.get_set] at g1 g2
  split at g1
  ·injection g1 with g1; cases g1
  ·split at g2
   ·injection g2 with g2; exact absurd g2.symm nd
   ·exact h.inj b1 b2 cs1 e1 o2 r1 r2 g1 g2 nd q1 q2 hcb
theorem MR.grow (h : MR P base ρ m w) {b off k : Nat} {known : List AV} {e : Nat} (hg : m.get b = some (.live known e true)) {cs : List AV} {b' : Nat} {m' : Mem} (hn : (m.set b .dead).new none ((known.drop off).take k ++ cs) e = some (b',m')) (hk : off + k <= known.length) {us : List Value} (hv : VRL ρ cs us)
  {r : Reg} (hr : ρ b = some r) {carr carr' : Array Value} {fr : Nat × Nat} {e' : TypeId} {w' : World} (h0 : w.heap[r.cb]? = some (.cells carr e' fr)) (hu : Upd w w' r.cb carr' e' fr) (hs : carr'.size = carr.size) (hfit : r.sh + off + k + us.length <= carr.size)
  (hq : ∀ j,carr'[j]? = if r.sh + off + k <= j /\ j < r.sh + off + k + us.length then us[j - (r.sh + off + k)]? else carr[j]?) :
  ∃ ρ',ρ.le ρ' /\ ρ' b' = some ⟨r.cb,r.sh + off,r.size,r.esz⟩ /\ MR P base ρ' m' w':=by
 unfold Mem.new at hn
 split at hn
 case isFalse=>cases hn
 rename_i hlv
 simp only at hn
 injection hn with hn
 injection hn with hb' hm'
 subst hb' hm'
 have hbn : (m.set b .dead).next = m.next:=rfl
 rw [hbn]
 obtain ⟨hlt,r0,hr0,carr0,e0,fr0,h1,h2,h3,h4,h5⟩:=h.dom b _ hg
 rw [hr] at hr0; injection hr0 with hr0; subst hr0
 rw [h0] at h1; injection h1 with h1; injection h1 with h1 h1e h1f
 subst h1 h1e h1f
 obtain ⟨g1,g2,g3,g4,g5⟩:=h5 rfl
 have hul:=hv.length
 have hfree : m.get m.next = none:=by
  cases hx : m.get m.next with
  | none=>rfl
  | some o=>have:=(h.dom _ _ hx).1; omega
 let ρ' : Map:=fun c=>if c = m.next then some ⟨r.cb,r.sh + off,r.size,r.esz⟩ else ρ c
 have hρn : ρ m.next = none:=by
  cases hx : ρ m.next with
  | none=>rfl
  | some r=>exact absurd hfree (h.used _ r hx)
 have hρ : ρ.le ρ':=by
  intro c r hc
  have : c ≠ m.next:=fun x=>by rw [x,hρn] at hc; cases hc
  simp [ρ',this,hc]
 have hρ'n : ρ' m.next = some ⟨r.cb,r.sh + off,r.size,r.esz⟩:=by simp [ρ']
 have hget : ∀ c,(⟨m.next + 1,(m.set b .dead).t.set m.next (.live ((known.drop off).take k ++ cs) e true)⟩ : Mem).get c = if c = m.next then some (.live ((known.drop off).take k ++ cs) e true) else if c = b then some .dead else m.get c:=by
  intro c
  show (((m.set b .dead).t.set m.next _).get c) = _
  rw [T.get_set]
  split
  ·rfl
  ·exact Mem.get_set ..
 have hlen : ((known.drop off).take k ++ cs).length = k + us.length:=by simp; omega
 refine ⟨ρ',hρ,hρ'n,⟨fun c o hc=>?_,fun c r' hc=>?_,by rw [hu.size]; exact h.low,fun b1 b2 cs1 e1 o2 r1 r2 k1 k2 nd q1 q2 hcb=>?_⟩⟩
 ·rw [hget] at hc
  split at hc
  ·rename_i hcn
   subst hcn
   injection hc with hc
   subst hc
   refine ⟨Nat.lt_succ_self _,_,hρ'n,carr',_,fr,hu.here,by rw [hlen,hs]; simp; omega,hlv,fun i a ha=>?_,fun _=>⟨g1,g2,by rw [hs]; exact g3,g4,by rw [hs]; exact g5⟩⟩
   show ∃ u,carr'[r.sh + off + i]? = some u /\ VR ρ' a u
   by_cases hik : i < k
   ·rw [List.getElem?_append_left (by simp; omega),List.getElem?_take,if_pos hik,List.getElem?_drop] at ha
    obtain ⟨u,hu1,hu2⟩:=h4 _ _ ha
    refine ⟨u,?_,VR.mono hρ _ _ hu2⟩
    rw [hq,if_neg (by omega),Nat.add_assoc]; exact hu1
   ·have hkl : ((known.drop off).take k).length = k:=by simp; omega
    rw [List.getElem?_append_right (by omega),hkl] at ha
    obtain ⟨u,hu1,hu2⟩:=hv.get _ _ ha
    have hlt' : i - k < us.length:=by
     rcases Nat.lt_or_ge (i - k) us.length with x | x
     ·exact x
     ·rw [List.getElem?_eq_none x] at hu1; cases hu1
    refine ⟨u,?_,VR.mono hρ _ _ hu2⟩
    rw [hq,if_pos (by omega),show r.sh + off + i - (r.sh + off + k) = i - k by omega]; exact hu1
  ·rename_i hcn
   split at hc
   ·rename_i hcb
    subst hcb
    injection hc with hc
    subst hc
    exact ⟨Nat.lt_succ_of_lt hlt,r,hρ _ _ hr,trivial⟩
   ·rename_i hcb
    obtain ⟨p1,r',p2,p3⟩:=h.dom c o hc
    refine ⟨Nat.lt_succ_of_lt p1,r',hρ _ _ p2,?_⟩
    cases o with
    | dead=>trivial
    | live cs' e'' own'=>
     refine (p3.mono hρ).same (hu.else_ _ fun hx=>hcb ?_)
     exact (h.inj b c known e _ r r' hg hc (by simp) hr p2 hx.symm).symm
 ·rw [hget]
  split
  ·simp
  ·rename_i hcn
   split
   ·simp
   ·exact h.used c r' (by simpa [ρ',hcn] using hc)
 ·rw [hget] at k1 k2
  by_cases x1 : b1 = m.next
  ·by_cases x2 : b2 = m.next
   ·rw [x1,x2]
   ·exfalso
    rw [if_neg x2] at k2
    have q2' : ρ b2 = some r2:=by simpa [ρ',x2] using q2
    rw [x1,hρ'n] at q1
    injection q1 with q1
    split at k2
    ·injection k2 with k2; exact nd k2.symm
    ·rename_i hb2
     exact hb2 (h.inj b b2 known e o2 r r2 hg k2 nd hr q2' (by rw [<- hcb,<- q1])).symm
  ·rw [if_neg x1] at k1
   have q1' : ρ b1 = some r1:=by simpa [ρ',x1] using q1
   split at k1
   ·injection k1 with k1; cases k1
   ·rename_i hb1
    by_cases x2 : b2 = m.next
    ·exfalso
     rw [x2,hρ'n] at q2
     injection q2 with q2
     exact hb1 (h.inj b1 b cs1 e1 _ r1 r k1 hg (by simp) q1' hr (by rw [hcb,<- q2]))
    ·rw [if_neg x2] at k2
     have q2' : ρ b2 = some r2:=by simpa [ρ',x2] using q2
     split at k2
     ·injection k2 with k2; exact absurd k2.symm nd
     ·exact h.inj b1 b2 cs1 e1 o2 r1 r2 k1 k2 nd q1' q2' hcb
theorem WK {ts : Array TypeId} {t u' e : TypeId} {kd : IntKind} {esz bytes : Nat} (h0 : ts[0]? = some t) (h1 : ts[1]? = some u') (ht : P.underlying t = some (.slice e)) (hu : P.underlying u' = some (.int kd)) {zero : List AV} (hs : BX P e esz = true) (hby : HI P e bytes = true) (hz : E8 P e zero = true) (hpos : 0 < esz) (hbpos : 0 < bytes) {k : IntKind} {n : Nat} (hn0 : 0 < n) (hmost : n * bytes <= AQ) (ty : TypeId) :
  ∃ z rest : List Value,VRL ρ (AW zero n) z /\ z.length = n * esz /\ rest.length = (grownCap w n 0 e - n) * esz /\
  (Builtin.append_ ts ty #[.slice none 0 0,.int k n]).run P w = .ok (.slice (some ⟨w.heap.size,0,none⟩) n (grownCap w n 0 e)) (w.drew.alloc (.cells (z ++ rest).toArray e)):=by
 obtain ⟨z,i,hi,hzz,hc,hzs,_⟩:=E7 hz
 have hsz : i.size = esz:=by simpa [BX,hi] using hs
 have hb : i.bytes = bytes:=by simpa [HI,hi] using hby
 have hnm : n <= AQ:=by
  have : n * 1 <= n * bytes:=Nat.mul_le_mul_left _ (by omega)
  omega
 have hzl : zero.length = esz:=by
  have:=(EM (cstsOk_VRL ρ _ _ hc)).1
  omega
 have hv:=HN (cstsOk_VRL ρ _ _ hc) (by omega) n
 have hzc : Builtin.zeroCells z.cells n = madeCells z.cells (n * z.cells.size):=rfl
 have hfit:=growslice_fits (need:=n) (old:=0) (bytes:=bytes) hn0 hmost
 have h48' : ¬ (281474976710656 < Builtin.nextslicecap n 0 * bytes):=by omega
 have hw : IntKind.i64.wrap (n : Int) = n:=by
  unfold AQ at hnm
  simp only [IntKind.wrap,IntKind.signed,IntKind.bits,IntKind.min,IntKind.max]
  first | omega | (simp; omega)
 have hne : n ≠ 0:=by omega
 have h48 : ¬ (281474976710656 < (n : Int) * (bytes : Int)):=by
  have : n * bytes <= 140737488355328:=hmost
  have : ((n * bytes : Nat) : Int) <= 140737488355328:=by omega
  rw [Int.natCast_mul] at this
  omega
 refine ⟨(Builtin.zeroCells z.cells n).toList,(Builtin.zeroCells z.cells (grownCap w n 0 e - n)).toList,by rw [hzc]; exact hv,by simp [size_zeroCells,<- hzs,hsz],by simp [size_zeroCells,<- hzs,hsz],?_⟩
 have harr : ((Builtin.zeroCells z.cells n).toList ++ (Builtin.zeroCells z.cells (grownCap w n 0 e - n)).toList).toArray = Builtin.zeroCells z.cells n ++ Builtin.zeroCells z.cells (grownCap w n 0 e - n):=by apply Array.ext'; simp
 rw [harr]
 have hesz : ¬ (n * esz = 0):=by
  intro h
  rcases Nat.mul_eq_zero.1 h with h | h <;> omega
 have h63 : ¬ (9223372036854775807 < (n : Int)):=by unfold AQ at hnm; omega
 have hlt : ¬ ((n : Int) < 0):=by omega
 simp [Builtin.append_,h0,h1,run_underlying ht,run_underlying hu,sizeOf,typeInfo,zeroValue,hi,hzz,hsz,hb,hw,hne,hesz,h48,h48',h63,hlt,Question.forced,asInt,asIntOf,Go.newRow,grownCap,Builtin.firstCells]
theorem WJ (hm : MR P base ρ m w) {ts : Array TypeId} {t u' e : TypeId} {kd : IntKind} {esz bytes : Nat} {zero : List AV} (h0 : ts[0]? = some t) (h1 : ts[1]? = some u') (hrow : PH P t e esz bytes zero = true) (hu : P.underlying u' = some (.int kd)) {x y : AV} {X Y : Value} (hx : VR ρ x X) (hy : VR ρ y Y) (ty : TypeId)
  (h : KM m e esz bytes zero x y = some (v,m')) : SRuns P base ρ (Builtin.append_ ts ty #[X,Y]) w v m':=by
 unfold PH at hrow
 split at hrow
 case h_2=>cases hrow
 rename_i e1 ht
 simp only [Bool.and_eq_true,decide_eq_true_eq] at hrow
 obtain ⟨⟨⟨⟨⟨⟨rfl,hs⟩,hby⟩,hz⟩,hzl⟩,hpos⟩,hbpos⟩:=hrow
 have hcells:=F7 hs
 unfold KM at h
 split at h
 ·rename_i k hk
  split at h
  ·rename_i hb
   split at h
   ·rename_i b' m2 hn
    injection h with h; injection h with e2 e3
    subst e2 e3
    simp only [VR] at hx
    subst hx
    unfold DR at hk
    split at hk
    ·rename_i kk nn
     split at hk
     ·rename_i hnn
      injection hk with hk
      have hnn : nn = ((k + 1 : Nat) : Int):=by omega
      subst hnn
      simp only [VR] at hy
      subst hy
      obtain ⟨z,rest,hzv,hzl',hrl,hr⟩:=WK (P:=P) (ρ:=ρ) (w:=w) (k:=kk) h0 h1 ht hu hs hby hz hpos hbpos (n:=k + 1) (by omega) hb ty
      have hge:=grownCap_ge w (k + 1) 0 e1
      obtain ⟨ρ',q1,q2,q3⟩:=IL hm hn hzv rest (0,0) (by simp) (n:=k + 1) (cap:=grownCap w (k + 1) 0 e1) (esz:=esz) hcells (by
        simp only [List.length_append,hzl',hrl,<- Nat.add_mul]
        congr 1; omega) hge (w':=w.drew.alloc (.cells (z ++ rest).toArray e1)) rfl ((Below.drew' base w).alloc hm.low _)
      exact ⟨_,_,ρ',hr,q1,q2,q3,(Below.drew' base w).alloc hm.low _⟩
     ·cases hk
    ·cases hk
   ·cases h
  ·cases h
 ·cases h
theorem TA (hm : MR P base ρ m w) {ts : Array TypeId} {t u' e : TypeId} {esz bytes : Nat} {zero : List AV} (h0 : ts[0]? = some t) (h1 : ts[1]? = some u') (hrow : PH P t e esz bytes zero = true) (hsrc : KU P u' = true) {x y : AV} {X Y : Value} (hx : VR ρ x X) (hy : VR ρ y Y) (ty : TypeId)
  (h : CR m e esz bytes x y = some (v,m')) : SRuns P base ρ (Builtin.append_ ts ty #[X,Y]) w v m':=by
 unfold PH at hrow
 split at hrow
 case h_2=>cases hrow
 rename_i e1 ht
 simp only [Bool.and_eq_true,decide_eq_true_eq] at hrow
 obtain ⟨⟨⟨⟨⟨⟨rfl,hs⟩,hby⟩,hz⟩,hzl⟩,hpos⟩,hbpos⟩:=hrow
 have hcells:=F7 hs
 unfold CR at h
 cases hsrc' : CZ m esz y with
 | none=>simp [hsrc'] at h
 | some q=>
  obtain ⟨n,cs⟩:=q
  simp only [hsrc'] at h
  obtain ⟨us,hv,hul,hrun⟩:=KT hm hsrc' hy
  have hl:=(hrun w rfl).1
  have hf:=(hrun w rfl).2 n (Nat.le_refl _)
  have hf':=(hrun w.drew rfl).2 n (Nat.le_refl _)
  rw [<- hul,List.take_length] at hf hf'
  have small : ∀ k,k * bytes <= AQ -> k <= 140737488355328:=fun k hk=>by
   have : k * 1 <= k * bytes:=Nat.mul_le_mul_left _ (by omega)
   unfold AQ at hk; omega
  have growing : ∀ (a : Option Addr) (sLen sCap : Nat) (olds : List Value) (old : List AV) (m1 : Mem) (b' : Nat) (m2 : Mem),MR P base ρ m1 w -> m1.new none (old ++ cs) e1 = some (b',m2) -> VRL ρ old olds -> olds.length = sLen * esz -> sCap < sLen + n ->
    (Builtin.firstCells esz sLen (.slice a sLen sCap)).run P w.drew = .ok olds.toArray w.drew -> (sLen + n) * bytes <= AQ -> sLen + n <= 9223372036854775807 -> SRuns P base ρ (Builtin.append_ ts ty #[.slice a sLen sCap,Y]) w (.sl b' 0 (sLen + n) (.more esz)) m2:=by
   intro a sLen sCap olds old m1 b' m2 hm1 hn ho hol hlt hfo hb h63
   obtain ⟨rest,hrl,hr⟩:=bX (P:=P) h0 h1 ht hs hby hz hsrc hl hf' ty a hlt hfo hb h63
   have hge:=grownCap_ge w (sLen + n) sCap e1
   obtain ⟨ρ',q1,q2,q3⟩:=IL hm1 hn (ho.append hv) rest (0,0) (by simp) (n:=sLen + n) (cap:=grownCap w (sLen + n) sCap e1) (esz:=esz) hcells (by
     simp only [List.length_append,hol,hul,hrl,<- Nat.add_mul]
     congr 1; omega) hge (w':=w.drew.alloc (.cells (olds ++ us ++ rest).toArray e1)) rfl ((Below.drew' base w).alloc hm.low _)
   exact ⟨_,_,ρ',hr,q1,q2,q3,(Below.drew' base w).alloc hm.low _⟩
  split at h
  ·
   simp only [VR] at hx
   subst hx
   split at h
   ·rename_i hn0
    subst hn0
    injection h with h; injection h with e2 e3
    subst e2 e3
    refine .same hm (.slice none 0 0) ?_ (by simp [VR])
    exact LK (P:=P) h0 h1 ht hs hsrc hl hf ty none (sLen:=0) (sCap:=0) (by omega) rfl
   ·rename_i hn0
    split at h
    ·rename_i hb
     split at h
     ·rename_i b' m2 hn
      injection h with h; injection h with e2 e3
      subst e2 e3
      have:=growing none 0 0 [] [] m b' m2 hm hn (by simp [VRL]) (by simp) (by omega) (by simp [Builtin.firstCells]) (by simpa using hb) (by have:=small n hb; omega)
      simpa using this
     ·cases h
    ·cases h
  ·
   rename_i b off len cap
   have hx0:=hx
   simp only [VR] at hx
   obtain ⟨r,a,c',q1,q2,q3,rfl⟩:=hx
   have hlc : len <= c':=by cases cap <;> simp [JL] at q2 <;> omega
   split at h
   ·rename_i hn0
    subst hn0
    injection h with h; injection h with e2 e3
    subst e2 e3
    have hus0 : us = []:=List.eq_nil_of_length_eq_zero (by simpa using hul)
    subst hus0
    refine .same hm (.slice (some a) len c') ?_ hx0
    have:=LK (P:=P) h0 h1 ht hs hsrc hl hf ty (some a) (sLen:=len) (sCap:=c') (by omega) (w':=w) rfl
    simpa using this
   ·rename_i hn0
    have place : len + n <= c' -> ∀ m1,m.write b (off + len * esz) cs = some m1 -> SRuns P base ρ (Builtin.append_ ts ty #[.slice (some a) len c',Y]) w (.sl b off (len + n) cap) m1:=by
     intro hle m1 hw
     rcases q3 with rfl | ⟨q3,q4⟩
     ·obtain ⟨w',p1,p2,p3⟩:=GL hm hw hv q1
      refine ⟨.slice (some ⟨r.cb,r.sh + off,none⟩) (len + n) c',w',ρ,?_,ρ.le_refl,?_,p2,p3⟩
      ·exact LK (P:=P) h0 h1 ht hs hsrc hl hf ty (some _) hle (by show (storeCells ((⟨r.cb,r.sh + off,none⟩ : Addr).add (len * esz)) us).run P w = .ok () w'; rw [EC,Nat.add_assoc]; exact p1)
      ·simp only [VR]
       exact ⟨r,_,_,q1,by cases cap <;> simp [JL] at q2 ⊢ <;> omega,.inl rfl,rfl⟩
     ·rcases q4 with q4 | q4
      ·omega
      ·subst q4
       exfalso
       split at h <;> first | cases h | skip
       all_goals first | (rename_i hh; cases hh) | skip
    split at h
    ·rename_i c
     simp only [JL] at q2
     obtain ⟨rfl,q2⟩:=q2
     split at h
     ·rename_i hle
      split at h
      ·rename_i m1 hw
       injection h with h; injection h with e2 e3
       subst e2 e3
       exact place hle _ hw
      ·cases h
     ·rename_i hle
      split at h
      ·rename_i hb
       split at h
       ·rename_i old hr
        split at h
        ·rename_i b' m2 hn
         injection h with h; injection h with e2 e3
         subst e2 e3
         obtain ⟨us',hv',hul',hrun'⟩:=KT (esz:=esz) (n:=len) (cs:=old) hm (y:=.sl b off len (.exact c')) (by simp [CZ,hr]) hx0
         have hfo:=(hrun' w.drew rfl).2 len (Nat.le_refl _)
         rw [<- hul',List.take_length] at hfo
         exact growing (some a) len c' us' old m b' m2 hm hn hv' hul' (by omega) hfo hb (by have:=small _ hb; omega)
        ·cases h
       ·cases h
      ·cases h
    ·rename_i z
     simp only [JL] at q2
     obtain ⟨rfl,q2,q2'⟩:=q2
     split at h
     ·rename_i known e' hg
      split at h
      ·rename_i hc
       obtain ⟨rfl,hz',hb,hk⟩:=hc
       obtain ⟨_,r0,hr0,carr,e0,fr,g1,g2,g3,g4,g5⟩:=hm.dom b _ hg
       rw [q1] at hr0; injection hr0 with hr0; subst hr0
       obtain ⟨k1,k2,k3,k4,k5⟩:=g5 rfl
       subst hz'
       split at h
       ·rename_i hin
        split at h
        ·rename_i m1 hw
         injection h with h; injection h with e2 e3
         subst e2 e3
         refine place ?_ _ hw
         have h2 : (len + n) * r.esz <= c' * r.esz:=by omega
         exact Nat.le_of_mul_le_mul_right h2 hpos
        ·cases h
       ·rename_i hin
        split at h
        ·rename_i b' m2 hn
         injection h with h; injection h with e2 e3
         subst e2 e3
         by_cases hle : len + n <= c'
         ·
          rcases q3 with rfl | ⟨q3,q4⟩
          ·have hmul : (len + n) * r.esz <= c' * r.esz:=Nat.mul_le_mul_right _ hle
           rw [Nat.add_mul] at hmul
           have hlv : ∀ u ∈ us,u.oneCell' = true:=by
            have hl1 : leaves ((known.drop off).take (len * r.esz) ++ cs) = true:=by
             unfold Mem.new at hn
             split at hn
             ·assumption
             ·cases hn
            intro u hu
            obtain ⟨i,hi⟩:=List.getElem?_of_mem hu
            have hlt : i < cs.length:=by
             rcases Nat.lt_or_ge i us.length with x | x
             ·have:=hv.length; omega
             ·rw [List.getElem?_eq_none x] at hi; cases hi
            obtain ⟨u1,hu1,hvu⟩:=hv.get i cs[i] (by simp [hlt])
            rw [hi] at hu1; injection hu1 with hu1; subst hu1
            exact GA hvu (C9 hl1 _ (by simp))
           obtain ⟨w',carr',p1,p2,p3,p4⟩:=DY P r.cb e0 fr us (r.sh + off + len * r.esz) 0 carr w g1 (by rw [hul]; omega) (fun j hj=>by have:=k5 j hj; omega) hlv
           simp only [Nat.add_zero] at p4
           obtain ⟨ρ',s1,s2,s3⟩:=hm.grow hg hn hk hv q1 g1 p2 p3 (by rw [hul]; omega) p4
           refine ⟨.slice (some ⟨r.cb,r.sh + off,none⟩) (len + n) c',w',ρ',?_,s1,?_,s3,⟨p2.os,p2.tape,p2.output,Nat.le_of_eq p2.size.symm,fun j hj=>p2.else_ j (by omega)⟩⟩
           ·exact LK (P:=P) h0 h1 ht hs hsrc hl hf ty (some _) hle (by show (storeCells ((⟨r.cb,r.sh + off,none⟩ : Addr).add (len * r.esz)) us).run P w = .ok () w'; rw [EC]; exact p1)
           ·simp only [VR]
            refine ⟨_,_,_,s2,⟨rfl,?_,hle⟩,.inl rfl,rfl⟩
            simp only
            omega
          ·rcases q4 with q4 | q4
           ·omega
           ·cases q4
         ·
          have hrd : m.read b off (len * r.esz) = some ((known.drop off).take (len * r.esz)):=by
           unfold Mem.read
           simp only [hg,if_pos hk]
          obtain ⟨us',hv',hul',hrun'⟩:=KT (esz:=r.esz) (n:=len) (cs:=(known.drop off).take (len * r.esz)) hm (y:=.sl b off len (.more r.esz)) (by simp [CZ,hrd]) hx0
          have hfo:=(hrun' w.drew rfl).2 len (Nat.le_refl _)
          rw [<- hul',List.take_length] at hfo
          exact growing (some a) len c' us' _ (m.set b .dead) b' m2 (hm.kill (by simp [hg])) hn hv' hul' (by omega) hfo hb (by have:=small _ hb; omega)
        ·cases h
      ·cases h
     ·cases h
    ·cases h
  ·cases h
end
def D5 (P : Program) (base : Nat) (call : BN) : Prop:=
 ∀ f args m r m',call f args m = some (r,m') -> E0 P f = true /\ ∀ ρ w args',VRL ρ args args' -> MR P base ρ m w ->
  Calls P f args'.toArray w fun e w'=>∃ ρ' u,ρ.le ρ' /\ e = .returned u /\ VR ρ' r u /\ MR P base ρ' m' w' /\ Below base w w'
section
variable {P : Program} {base : Nat} {ρ : Map} {m m' : Mem} {w : World} {v : AV}
theorem MR.frz (hm : MR P base ρ m w) {c e : Nat} {carr : Array Value} {fr : Nat × Nat} (h : w.heap[c]? = some (.cells carr e fr)) : MR P base ρ m (w.freeze ⟨c,carr.size,none⟩ 1):=by
 have hh : ∀ k,(w.freeze ⟨c,carr.size,none⟩ 1).heap[k]? = if k = c then some (.cells carr e (if fr.1 == fr.2 then (carr.size,carr.size + 1) else (min fr.1 carr.size,max fr.2 (carr.size + 1)))) else w.heap[k]?:=by
  intro k
  simp only [World.freeze,Nat.one_ne_zero,if_false,Array.getElem?_modify]
  by_cases q : c = k
  ·subst q; simp only [if_true,h,Option.map_some]
  ·rw [if_neg q,if_neg (fun e=>q e.symm)]
 have hsz : (w.freeze ⟨c,carr.size,none⟩ 1).heap.size = w.heap.size:=by simp [World.freeze]
 refine ⟨fun b o hb=>?_,hm.used,by rw [hsz]; exact hm.low,hm.inj⟩
 obtain ⟨h1,r,h2,h3⟩:=hm.dom b o hb
 refine ⟨h1,r,h2,?_⟩
 by_cases q : r.cb = c
 ·cases o with
  | dead=>trivial
  | live cs e' own=>
   obtain ⟨carr',e'',fr',k1,k2,k3,k4,k5⟩:=h3
   rw [q,h] at k1
   injection k1 with k1; injection k1 with k1 k1' k1''
   subst k1 k1' k1''
   refine ⟨carr,e,_,by rw [hh,if_pos q],k2,k3,k4,fun ho=>?_⟩
   obtain ⟨z1,z2,z3,z4,z5⟩:=k5 ho
   refine ⟨z1,z2,z3,z4,fun i hi=>?_⟩
   have:=z5 i hi
   by_cases s : fr.1 = fr.2
   ·simp [s,hi]
   ·have s' : (fr.1 == fr.2) = false:=by simpa using s
    simp only [s']
    left
    show i < min fr.1 carr.size
    rcases this with t | t
    ·omega
    ·exact absurd t s
 ·exact h3.same (by rw [hh,if_neg q])
theorem WF (hm : MR P base ρ m w) {s d : TypeId} (hc : FH P s d .keep = true) {b off len : Nat} {c : Cap} {u : Value} (hx : VR ρ (.sl b off len c) u) {cs : List AV} {e : Nat} (hg : m.get b = some (.live cs e true)) (hl : 0 < len) : SRuns P base ρ (convert s d u) w (.sl b off len c) m:=by
 have hx':=hx
 simp only [VR] at hx
 obtain ⟨r,a,c',q1,q2,q3,rfl⟩:=hx
 obtain ⟨_,r',p1,p2⟩:=hm.dom b _ hg
 rw [q1] at p1; injection p1 with p1; subst p1
 obtain ⟨carr,e',fr,k1,k2,k3,k4,k5⟩:=p2
 obtain ⟨z1,z2,z3,z4,z5⟩:=k5 rfl
 have ha : a.block = r.cb:=by
  rcases q3 with rfl | ⟨q3,_⟩
  ·rfl
  ·omega
 unfold FH at hc
 cases hs : P.underlying s with
 | none=>simp [hs] at hc
 | some ds=>
  cases hd : P.underlying d with
  | none=>cases ds <;> simp [hs,hd] at hc
  | some dd=>
   cases ds <;> cases dd <;> simp [hs,hd] at hc
   rename_i e1 e2
   obtain ⟨rfl,hc⟩:=hc
   cases he : P.underlying e2 with
   | none=>simp [he] at hc
   | some de=>
    cases de <;> simp [he] at hc
    rename_i k
    cases k <;> simp at hc
    have hse : e1 = e2:=by rw [hs] at hd; injection hd with hd; injection hd
    subst hse
    refine ⟨_,w.freeze ⟨r.cb,carr.size,none⟩ 1,ρ,?_,ρ.le_refl,hx',hm.frz k1,?_⟩
    ·have hsh : w.heap[a.block]? = some (.cells carr e' fr):=by rw [ha]; exact k1
     simp [convert,run_underlying hs,run_underlying hd,run_underlying he,markStringish,World.shape?,hsh,ha,k1]
    ·refine ⟨rfl,rfl,rfl,by simp [World.freeze],fun k hk=>?_⟩
     simp only [World.freeze,Nat.one_ne_zero,if_false,Array.getElem?_modify]
     rw [if_neg (by omega)]
theorem UB (hm : MR P base ρ m w) {ts : Array TypeId} {t e : TypeId} (h0 : ts[0]? = some t) (ht : P.underlying t = some (.slice e)) {zero : List AV} (hz : E8 P e zero = true) (hzp : 0 < zero.length) {x : AV} {X : Value} (hx : VR ρ x X) (ty : TypeId) {call : BN} {b0 : Nat} {tm : List AV} {o : Opd} (ho : o.eval tm = x)
  (h : A1 call b0 tm m (.clear zero o) = some (v,m')) : SRuns P base ρ (Builtin.clear_ ts ty #[X]) w v m':=by
 simp only [A1,ho] at h
 have hud : VR ρ .undef (Value.tuple #[]):=by simp [VR]
 split at h
 ·injection h with h; injection h with e1 e2
  subst e1 e2
  simp only [VR] at hx
  subst hx
  exact .same hm (.tuple #[]) (by simp [Builtin.clear_,h0,run_underlying ht]) hud
 ·rename_i b off len cap
  simp only [VR] at hx
  obtain ⟨r,a,c',q1,q2,q3,rfl⟩:=hx
  split at h
  ·rename_i hl0
   injection h with h; injection h with e1 e2
   subst e1 e2 hl0
   exact .same hm (.tuple #[]) (by simp [Builtin.clear_,h0,run_underlying ht]) hud
  ·rename_i hl0
   split at h
   ·rename_i m1 hw
    injection h with h; injection h with e1 e2
    subst e1 e2
    obtain ⟨z,i,hi,hzz,hc,hzs,hr⟩:=E7 hz
    have hv:=HN (cstsOk_VRL ρ _ _ hc) hzp len
    rcases q3 with rfl | ⟨q3,_⟩
    ·obtain ⟨w',p1,p2,p3⟩:=GL hm hw hv q1
     refine ⟨.tuple #[],w',ρ,?_,ρ.le_refl,hud,p2,p3⟩
     have hzc : Builtin.zeroCells z.cells len = madeCells z.cells (len * z.cells.size):=rfl
     obtain ⟨k,rfl⟩ : ∃ k,len = k + 1:=⟨len - 1,by omega⟩
     rw [<- hzc] at p1
     simp [Builtin.clear_,h0,run_underlying ht,hr,p1]
    ·exact absurd q3 hl0
   ·cases h
 ·cases h
theorem WO (hm : MR P base ρ m w) {ts : Array TypeId} {t e : TypeId} {esz : Nat} (h0 : ts[0]? = some t) (ht : P.underlying t = some (.slice e)) (hs : BX P e esz = true) {x y : AV} {X Y : Value} (hx : VR ρ x X) (hy : VR ρ y Y) (ty : TypeId) {call : BN} {b0 : Nat} {tm : List AV} {o p : Opd} (ho : o.eval tm = x) (hp : p.eval tm = y)
  (h : A1 call b0 tm m (.copy esz o p) = some (v,m')) : SRuns P base ρ (Builtin.copy_ ts ty #[X,Y]) w v m':=by
 simp only [A1,ho,hp] at h
 split at h
 ·rename_i q hq
  injection h with h; injection h with e1 e2
  subst e1 e2
  simp only [VR] at hx
  subst hx
  obtain ⟨n,cs⟩:=q
  obtain ⟨us,hv,hul,hrun⟩:=KT hm hq hy
  have hl:=(hrun w rfl).1
  have hf:=(hrun w rfl).2 0 (Nat.zero_le _)
  refine .same hm (.int .i64 0) ?_ (by simp [VR])
  have hmin : Nat.min n 0 = 0:=by simp
  simp [Builtin.copy_,h0,run_underlying ht,hl,hmin,BY hs,hf,goInt]
 ·rename_i b off len cap n cs hq
  simp only [VR] at hx
  obtain ⟨r,a,c',q1,q2,q3,rfl⟩:=hx
  obtain ⟨us,hv,hul,hrun⟩:=KT hm hq hy
  have hl:=(hrun w rfl).1
  have hf:=(hrun w rfl).2 (min n len) (Nat.min_le_left _ _)
  have hmin : Nat.min n len = min n len:=rfl
  split at h
  ·rename_i hk
   injection h with h; injection h with e1 e2
   subst e1 e2
   rw [hk] at hf
   refine .same hm (.int .i64 0) ?_ (by simp [VR])
   simp [Builtin.copy_,h0,run_underlying ht,hl,hmin,hk,BY hs,hf,goInt,storeCells]
  ·rename_i hk
   split at h
   ·rename_i m1 hw
    injection h with h; injection h with e1 e2
    subst e1 e2
    rcases q3 with rfl | ⟨q3,_⟩
    ·obtain ⟨w',p1,p2,p3⟩:=GL hm hw (hv.take (min n len * esz)) q1
     refine ⟨.int .i64 (min n len : Nat),w',ρ,?_,ρ.le_refl,by simp [VR],p2,p3⟩
     simp [Builtin.copy_,h0,run_underlying ht,hl,hmin,BY hs,hf,goInt,p1]
    ·subst q3
     simp at hk
   ·cases h
 ·cases h
theorem R6 : ∀ (l : List AV) (x : AV),ES x l = some v -> ∀ (X : Value) (us : List Value),VR ρ x X -> VRL ρ l us -> ∃ u,(us.foldlM Builtin.min2 X).run P w = .ok u w /\ VR ρ v u
 | [],x,h,X,us,hx,hl=>by
  simp only [ES] at h
  injection h with h
  subst h
  simp [VRL] at hl
  subst hl
  exact ⟨X,by simp,hx⟩
 | y :: l,x,h,X,us,hx,hl=>by
  cases x <;> try (simp [ES] at h; done)
  cases y <;> try (simp [ES] at h; done)
  rename_i k a k' b
  simp only [ES] at h
  split at h
  ·rename_i hk
   subst hk
   simp only [VRL] at hl
   obtain ⟨u,us,rfl,hu,hl⟩:=hl
   simp only [VR] at hx hu
   subst hx hu
   obtain ⟨u',h1,h2⟩:=R6 l _ h (.int k (if b < a then b else a)) us (by simp [VR]) hl
   exact ⟨u',by simp [List.foldlM_cons,Builtin.min2,h1],h2⟩
  ·cases h
theorem R9 : ∀ (l : List AV) (x : AV),ET x l = some v -> ∀ (X : Value) (us : List Value),VR ρ x X -> VRL ρ l us -> ∃ u,(us.foldlM Builtin.max2 X).run P w = .ok u w /\ VR ρ v u
 | [],x,h,X,us,hx,hl=>by
  simp only [ET] at h
  injection h with h
  subst h
  simp [VRL] at hl
  subst hl
  exact ⟨X,by simp,hx⟩
 | y :: l,x,h,X,us,hx,hl=>by
  cases x <;> try (simp [ET] at h; done)
  cases y <;> try (simp [ET] at h; done)
  rename_i k a k' b
  simp only [ET] at h
  split at h
  ·rename_i hk
   subst hk
   simp only [VRL] at hl
   obtain ⟨u,us,rfl,hu,hl⟩:=hl
   simp only [VR] at hx hu
   subst hx hu
   obtain ⟨u',h1,h2⟩:=R9 l _ h (.int k (if a < b then b else a)) us (by simp [VR]) hl
   exact ⟨u',by simp [List.foldlM_cons,Builtin.max2,h1],h2⟩
  ·cases h
theorem QL {tm : List AV} {a : Act} (ht : VRL ρ tm a.tmps.toList) {x : Option Operand} {x' : Option Opd} (h : NV x x' = true) : HM ρ (x'.map (·.eval tm)) (x.map a.eval):=by
 cases x with
 | none=>cases x' <;> simp [NV] at h; simp [HM]
 | some x=>
  cases x' with
  | none=>simp [NV] at h
  | some x'=>simp only [NV] at h; simpa [HM] using BD ht h
theorem IU {f : FuncId} (h : E0 P f = true) (args : Array Value) : (callFunc f args).run P w = .ok (.enter f args) w:=by
 unfold E0 at h
 cases hf : P.funcs[f]? with
 | none=>simp [hf] at h
 | some fn=>
  simp [hf] at h
  obtain ⟨h1,h2⟩:=h
  simp [callFunc,hf,h1]
  intro hb
  simp [hb] at h2
theorem op_runs {call : BN} (hcall : D5 P base call) {tm : List AV} {a : Act} (ht : VRL ρ tm a.tmps.toList) (hm : MR P base ρ m w) {o : Oper} {io : IOp} (hok : QM P o.op io = true) {b0 : Nat} (he : A1 call b0 tm m io = some (v,m')) :
  ORuns P base ρ (execOp a.eval o) w v m' \/ ∃ f args,(execOp a.eval o).run P w = .ok (.enter f args) w /\ Calls P f args w fun e w'=>∃ ρ' u,ρ.le ρ' /\ e = .returned u /\ VR ρ' v u /\ MR P base ρ' m' w' /\ Below base w w':=by
 have pureV : ∀ (s : Sem Value),(execOp a.eval o) = (do pure (.value (<- s))) -> ∀ u,m' = m -> s.run P w = .ok u w -> VR ρ v u -> ORuns P base ρ (execOp a.eval o) w v m':=by
  intro s hs u hmm hr hv
  subst hmm
  rw [hs]
  exact (SRuns.same hm u hr hv).val
 by_cases hopc : ∃ c,o.op = .call c
 ·
  obtain ⟨c,hop⟩:=hopc
  rw [hop] at hok
  simp only [QM] at hok
  obtain ⟨callee,cargs,ats⟩:=c
  have harr : ∀ l : List Operand,cargs.toList = l -> cargs.map a.eval = (l.map a.eval).toArray:=fun l hl=>by
   apply Array.ext'; simp [hl]
  cases callee with
  | invoke r n=>simp at hok
  | builtin b=>
   have run1 : ∀ (s : Sem Value) (l : List Operand),cargs.toList = l -> (∀ consts,builtin b ats o.type consts (l.map a.eval).toArray = (do pure (.value (<- s)))) -> execOp a.eval o = (do pure (.value (<- s))):=by
    intro s l hl hb
    have:=harr l hl
    simp [execOp,hop,resolve,invoke,this,hb]
   simp only at hok
   left
   cases io <;> simp only [MO,Bool.and_eq_true,decide_eq_true_eq,Bool.false_eq_true] at hok
   case app e esz bytes zero x y=>
    obtain ⟨rfl,hok⟩:=hok
    split at hok
    ·rename_i x' y' hl
     simp only [Bool.and_eq_true] at hok
     obtain ⟨⟨hx,hy⟩,hr⟩:=hok
     split at hr
     ·rename_i t u h0 h1
      simp only [Bool.and_eq_true] at hr
      simp only [A1] at he
      have hs:=(TA hm h0 h1 hr.1 hr.2 (BD ht hx) (BD ht hy) o.type he).val
      rw [run1 (Builtin.append_ ats o.type #[a.eval x',a.eval y']) _ hl (fun _=>rfl)]
      exact hs
     ·cases hr
    ·cases hok
   case grow e esz bytes zero x y=>
    obtain ⟨rfl,hok⟩:=hok
    split at hok
    ·rename_i x' y' hl
     simp only [Bool.and_eq_true] at hok
     obtain ⟨⟨hx,hy⟩,hr⟩:=hok
     split at hr
     ·rename_i t u h0 h1
      simp only [Bool.and_eq_true] at hr
      obtain ⟨hr1,hr2⟩:=hr
      simp only [A1] at he
      cases hu : P.underlying u with
      | none=>simp [hu] at hr2
      | some d=>
       cases d <;> simp [hu] at hr2
       have hs:=(WJ hm h0 h1 hr1 hu (BD ht hx) (BD ht hy) o.type he).val
       rw [run1 (Builtin.append_ ats o.type #[a.eval x',a.eval y']) _ hl (fun _=>rfl)]
       exact hs
     ·cases hr
    ·cases hok
   case clear zero x=>
    obtain ⟨rfl,hok⟩:=hok
    split at hok
    ·rename_i x' hl
     simp only [Bool.and_eq_true] at hok
     obtain ⟨hx,hr⟩:=hok
     cases h0 : ats[0]? with
     | none=>simp [h0] at hr
     | some t=>
      cases hu : P.underlying t with
      | none=>simp [h0,hu] at hr
      | some d=>
       cases d <;> simp [h0,hu] at hr
       have hs:=(UB hm h0 hu hr.1 hr.2 (BD ht hx) o.type rfl he).val
       rw [run1 (Builtin.clear_ ats o.type #[a.eval x']) _ hl (fun _=>rfl)]
       exact hs
    ·cases hok
   case copy esz x y=>
    obtain ⟨rfl,hok⟩:=hok
    split at hok
    ·rename_i x' y' hl
     simp only [Bool.and_eq_true] at hok
     obtain ⟨⟨hx,hy⟩,hr⟩:=hok
     cases h0 : ats[0]? with
     | none=>simp [h0] at hr
     | some t=>
      cases hu : P.underlying t with
      | none=>simp [h0,hu] at hr
      | some d=>
       cases d <;> simp [h0,hu] at hr
       have hs:=(WO hm h0 hu hr.1 (BD ht hx) (BD ht hy) o.type rfl rfl he).val
       rw [run1 (Builtin.copy_ ats o.type #[a.eval x',a.eval y']) _ hl (fun _=>rfl)]
       exact hs
    ·cases hok
   case len str x=>
    obtain ⟨rfl,hok⟩:=hok
    split at hok
    ·rename_i x' hl
     simp only [Bool.and_eq_true] at hok
     obtain ⟨hx,hr⟩:=hok
     have hx:=BD ht hx
     have hex:=run1 (Builtin.len_ ats o.type #[a.eval x']) _ hl (fun _=>rfl)
     cases h0 : ats[0]? with
     | none=>simp [h0] at hr
     | some t=>
      cases hu : P.underlying t with
      | none=>simp [h0,hu] at hr
      | some d=>
       cases str with
       | true=>
        cases d <;> simp [h0,hu] at hr
        simp only [A1] at he
        split at he
        ·rename_i s hv
         injection he with he; injection he with e1 e2
         subst e1 e2
         rw [hv] at hx
         simp only [VR] at hx
         refine pureV _ hex (.int .i64 s.length) rfl ?_ (by simp [VR])
         have hsz : (⟨s.toArray⟩ : ByteArray).size = s.length:=by simp [ByteArray.size]
         simp [Builtin.len_,h0,run_underlying hu,hx,goInt,hsz]
        ·cases he
       | false=>
        cases d <;> simp [h0,hu] at hr
        simp only [A1] at he
        split at he
        ·rename_i hv
         injection he with he; injection he with e1 e2
         subst e1 e2
         rw [hv] at hx
         simp only [VR] at hx
         exact pureV _ hex (.int .i64 0) rfl (by simp [Builtin.len_,h0,run_underlying hu,hx,goInt]) (by simp [VR])
        ·rename_i b off n cap hv
         injection he with he; injection he with e1 e2
         subst e1 e2
         rw [hv] at hx
         simp only [VR] at hx
         obtain ⟨_,_,_,_,_,_,hx⟩:=hx
         exact pureV _ hex (.int .i64 n) rfl (by simp [Builtin.len_,h0,run_underlying hu,hx,goInt]) (by simp [VR])
        ·cases he
    ·cases hok
   case cap x=>
    obtain ⟨rfl,hok⟩:=hok
    split at hok
    ·rename_i x' hl
     simp only [Bool.and_eq_true] at hok
     obtain ⟨hx,hr⟩:=hok
     have hx:=BD ht hx
     have hex:=run1 (Builtin.cap_ ats o.type #[a.eval x']) _ hl (fun _=>rfl)
     cases h0 : ats[0]? with
     | none=>simp [h0] at hr
     | some t=>
      cases hu : P.underlying t with
      | none=>simp [h0,hu] at hr
      | some d=>
       cases d <;> simp [h0,hu] at hr
       simp only [A1] at he
       split at he
       ·rename_i hv
        injection he with he; injection he with e1 e2
        subst e1 e2
        rw [hv] at hx
        simp only [VR] at hx
        exact pureV _ hex (.int .i64 0) rfl (by simp [Builtin.cap_,h0,run_underlying hu,hx,goInt]) (by simp [VR])
       ·rename_i b off n c hv
        injection he with he; injection he with e1 e2
        subst e1 e2
        rw [hv] at hx
        simp only [VR] at hx
        obtain ⟨_,_,c',_,hc,_,hx⟩:=hx
        simp only [JL] at hc
        obtain ⟨rfl,_⟩:=hc
        exact pureV _ hex (.int .i64 c') rfl (by simp [Builtin.cap_,h0,run_underlying hu,hx,goInt]) (by simp [VR])
       ·cases he
    ·cases hok
   case mn l=>
    obtain ⟨rfl,hok⟩:=hok
    have hl:=IJ ht hok
    simp only [A1] at he
    split at he
    ·rename_i y ys hy
     obtain ⟨e1,rfl⟩:=B6 he
     rw [hy] at hl
     simp only [VRL] at hl
     obtain ⟨u,us,hus,hu,hl⟩:=hl
     obtain ⟨u',h1,h2⟩:=R6 (P:=P) (w:=w) ys y e1 u us hu hl
     refine pureV (Builtin.min_ ats o.type (cargs.toList.map a.eval).toArray) (run1 _ _ rfl (fun _=>rfl)) u' rfl ?_ h2
     simp [Builtin.min_,hus,h1]
    ·cases he
   case mx l=>
    obtain ⟨rfl,hok⟩:=hok
    have hl:=IJ ht hok
    simp only [A1] at he
    split at he
    ·rename_i y ys hy
     obtain ⟨e1,rfl⟩:=B6 he
     rw [hy] at hl
     simp only [VRL] at hl
     obtain ⟨u,us,hus,hu,hl⟩:=hl
     obtain ⟨u',h1,h2⟩:=R9 (P:=P) (w:=w) ys y e1 u us hu hl
     refine pureV (Builtin.max_ ats o.type (cargs.toList.map a.eval).toArray) (run1 _ _ rfl (fun _=>rfl)) u' rfl ?_ h2
     simp [Builtin.max_,hus,h1]
    ·cases he
  | value f=>
   right
   have go : ∀ (g : Nat) (first captured : List AV) (F C : List Value),a.eval f = .func (.func g) F.toArray C.toArray -> VRL ρ first F -> VRL ρ captured C -> ∀ (args : List Opd),FU cargs.toList args = true -> call g (first ++ args.map (·.eval tm) ++ captured) m = some (v,m') ->
     ∃ f args,(execOp a.eval o).run P w = .ok (.enter f args) w /\ Calls P f args w fun e w'=>∃ ρ' u,ρ.le ρ' /\ e = .returned u /\ VR ρ' v u /\ MR P base ρ' m' w' /\ Below base w w':=by
    intro g first captured F C hf h1 h2 args ha hc
    obtain ⟨k1,k2⟩:=hcall _ _ _ _ _ hc
    refine ⟨g,_,?_,k2 ρ w (F ++ cargs.toList.map a.eval ++ C) ((h1.append (IJ ht ha)).append h2) hm⟩
    have hrun:=IU (w:=w) k1 (F ++ cargs.toList.map a.eval ++ C).toArray
    have hex : execOp a.eval o = callFunc g (F ++ cargs.toList.map a.eval ++ C).toArray:=by
     have e1 : F.toArray ++ cargs.map a.eval ++ C.toArray = (F ++ cargs.toList.map a.eval ++ C).toArray:=by apply Array.ext'; simp
     simp [execOp,hop,resolve,hf,Deferred.ofValue,invoke]
     congr 1
     apply Array.ext'
     simp
    rw [hex]; exact hrun
   cases io <;> simp only at hok <;> try (cases hok; done)
   case call g args=>
    simp only [Bool.and_eq_true] at hok
    simp only [A1] at he
    have hf:=BD ht hok.1
    simp only [Opd.eval,VR,VRL] at hf
    obtain ⟨F,C,rfl,rfl,hf⟩:=hf
    exact go g [] [] [] [] hf (by simp [VRL]) (by simp [VRL]) args hok.2 (by simpa using he)
   case callv x args=>
    simp only [Bool.and_eq_true] at hok
    simp only [A1] at he
    have hf:=BD ht hok.1
    split at he
    ·rename_i g first captured hv
     rw [hv] at hf
     simp only [VR] at hf
     obtain ⟨F,C,h1,h2,hf⟩:=hf
     exact go g first captured F C hf h1 h2 args hok.2 he
    ·cases he
 unfold QM at hok
 split at hok
 ·
  rename_i x x' hop
  simp only [A1] at he
  injection he with he; injection he with e1 e2
  subst e1 e2
  left
  exact .same hm (a.eval x) (by simp [execOp,hop]) (BD ht hok)
 ·
  rename_i x x' hop
  simp only [A1] at he
  injection he with he; injection he with e1 e2
  subst e1 e2
  left
  exact .same hm (a.eval x) (by simp [execOp,hop]) (BD ht hok)
 ·
  rename_i c x y c' x' y' hop
  simp only [Bool.and_eq_true] at hok
  simp only [A1] at he
  left
  have hc:=BD ht hok.1.1
  split at he
  ·rename_i t hct
   injection he with he; injection he with e1 e2
   subst e1 e2
   rw [hct] at hc
   simp only [VR] at hc
   refine .same hm (if t then a.eval x else a.eval y) (by simp [execOp,hop,hc,asBool]) ?_
   cases t
   ·exact BD ht hok.2
   ·exact BD ht hok.1.2
  ·cases he
 ·
  rename_i e s e' zs hop
  simp only [Bool.and_eq_true,decide_eq_true_eq] at hok
  obtain ⟨rfl,hz⟩:=hok
  simp only [A1] at he
  left
  have hs:=(al_runs hm hz he).val
  have : execOp a.eval o = (do pure (.value (<- Instr.alloc e true (.tuple #[])))):=by simp [execOp,hop]
  rw [this]; exact hs
 ·
  rename_i e x s e' x' hop
  simp only [Bool.and_eq_true,decide_eq_true_eq] at hok
  obtain ⟨rfl,hx⟩:=hok
  simp only [A1] at he
  left
  have hs:=(bx_runs hm (BD ht hx) he).val
  have : execOp a.eval o = (do pure (.value (<- Instr.box e (a.eval x)))):=by simp [execOp,hop]
  rw [this]; exact hs
 ·
  rename_i t ps tpl ps' hop
  simp only [Bool.and_eq_true] at hok
  simp only [A1] at he
  obtain ⟨e1,rfl⟩:=B6 he
  cases hf : B4 tm tpl ps' with
  | none=>simp [hf] at e1
  | some cs=>
   simp [hf] at e1
   subst e1
   obtain ⟨u,h1,h2⟩:=UJ (w:=w) ht hok.1 hok.2 hf
   left
   exact pureV _ (by simp [execOp,hop]) u rfl h1 h2
 ·
  rename_i t len ps s e tpl len' ps' hop
  simp only [A1] at he
  split at he
  ·rename_i cs hf
   left
   have hs:=(WA hm ht hok hf he).val
   have : execOp a.eval o = (do pure (.value (<- Instr.buildSlice t len (ps.map fun (i,x)=>(i,a.eval x))))):=by simp [execOp,hop]
   rw [this]; exact hs
  ·cases he
 ·
  rename_i t x n x' hop
  simp only [Bool.and_eq_true] at hok
  have hx:=BD ht hok.2
  left
  have hex : execOp a.eval o = (do pure (.value (<- Instr.loadAt t (a.eval x)))):=by simp [execOp,hop]
  cases n with
  | none=>
   simp only [A1] at he
   split at he
   ·rename_i b off hv
    split at he
    ·rename_i c hr
     injection he with he; injection he with e1 e2
     subst e1 e2
     rw [hv] at hx
     rw [hex]
     exact (VG hm hok.1 (n:=none) hr rfl hx).val
    ·cases he
   ·cases he
  | some n=>
   simp only [A1] at he
   split at he
   ·rename_i b off hv
    split at he
    ·rename_i cs hr
     injection he with he; injection he with e1 e2
     subst e1 e2
     rw [hv] at hx
     rw [hex]
     exact (VG hm hok.1 (n:=some n) hr rfl hx).val
    ·cases he
   ·cases he
 ·
  rename_i t x y n x' y' hop
  simp only [Bool.and_eq_true] at hok
  have hx:=BD ht hok.1.2
  have hy:=BD ht hok.2
  simp only [A1] at he
  left
  split at he
  ·rename_i b off hv
   split at he
   ·rename_i hl
    split at he
    ·rename_i m1 hw
     injection he with he; injection he with e1 e2
     subst e1 e2
     rw [hv] at hx
     obtain ⟨w',h1,h2,h3⟩:=st_runs hm hok.1.1 hx hy hl hw
     exact ⟨.skip,undef,w',ρ,by simp [execOp,hop,h1],.inr ⟨rfl,rfl⟩,ρ.le_refl,by simp [VR,undef],h2,h3⟩
    ·cases he
   ·cases he
  ·cases he
 ·
  rename_i x x' hop
  have hx:=BD ht hok
  simp only [A1] at he
  left
  split at he
  ·rename_i b off hv
   injection he with he; injection he with e1 e2
   subst e1 e2
   rw [hv] at hx
   have hx':=hx
   simp only [VR] at hx
   obtain ⟨r,q1,q2⟩:=hx
   exact .same hm (a.eval x) (by simp [execOp,hop,q2]) hx'
  ·rename_i f x1 x2 hv
   injection he with he; injection he with e1 e2
   subst e1 e2
   rw [hv] at hx
   have hx':=hx
   simp only [VR] at hx
   obtain ⟨y1,y2,_,_,q2⟩:=hx
   exact .same hm (a.eval x) (by simp [execOp,hop,q2]) hx'
  ·cases he
 ·
  rename_i op t x y yt op' kd x' y' hop
  simp only [Bool.and_eq_true,decide_eq_true_eq] at hok
  obtain ⟨⟨⟨rfl,hk⟩,hx⟩,hy⟩:=hok
  simp only [A1] at he
  obtain ⟨e1,rfl⟩:=B6 he
  obtain ⟨u,h1,h2⟩:=bin_run (w:=w) (X:=x) (Y:=y) e1 hk (BD ht hx) (BD ht hy)
  left
  exact pureV _ (by simp [execOp,hop]) u rfl h1 h2
 ·
  rename_i op t x op' x' hop
  simp only [Bool.and_eq_true,decide_eq_true_eq] at hok
  obtain ⟨rfl,hx⟩:=hok
  simp only [A1] at he
  obtain ⟨e1,rfl⟩:=B6 he
  obtain ⟨u,h1,h2⟩:=un_run (P:=P) (w:=w) e1 (BD ht hx)
  left
  exact pureV _ (by simp [execOp,hop]) u rfl h1 h2
 ·
  rename_i s d x sl c x' hop
  simp only [Bool.and_eq_true] at hok
  obtain ⟨hc,hx⟩:=hok
  have hx:=BD ht hx
  left
  have hex : execOp a.eval o = (do pure (.value (<- convert s d (a.eval x)))):=by simp [execOp,hop]
  cases c with
  | toInt k=>
   simp only [A1] at he
   split at he
   ·rename_i k' n hv
    injection he with he; injection he with e1 e2
    subst e1 e2
    rw [hv] at hx
    simp only [VR] at hx
    cases hs : P.underlying s with
    | none=>simp [FH,hs] at hc
    | some ds=>
     cases hd : P.underlying d with
     | none=>cases ds <;> simp [FH,hs,hd] at hc
     | some dd=>
      cases ds <;> cases dd <;> simp [FH,hs,hd] at hc
      subst hc
      exact pureV _ hex (.int k (k.wrap n)) rfl (by simp [convert,run_underlying hs,run_underlying hd,hx,Conv.intToInt]) (by simp [VR])
   ·cases he
  | same=>
   simp only [A1] at he
   split at he
   ·rename_i l hv
    injection he with he; injection he with e1 e2
    subst e1 e2
    rw [hv] at hx
    have hx':=hx
    simp only [VR] at hx
    cases hs : P.underlying s with
    | none=>simp [FH,hs] at hc
    | some ds=>
     cases hd : P.underlying d with
     | none=>cases ds <;> simp [FH,hs,hd] at hc
     | some dd=>
      cases ds <;> cases dd <;> simp [FH,hs,hd] at hc
      exact pureV _ hex (a.eval x) rfl (by simp [convert,run_underlying hs,run_underlying hd,hx]) hx'
   ·cases he
  | keep=>
   simp only [A1] at he
   split at he
   ·rename_i b off len c hv
    split at he
    ·rename_i cs e hg
     split at he
     ·rename_i hl
      injection he with he; injection he with e1 e2
      subst e1 e2
      rw [hv] at hx
      rw [hex]
      exact (WF hm hc hx hg hl).val
     ·cases he
    ·cases he
   ·cases he
  | b2s=>
   obtain ⟨rfl,u,h1,h2⟩:=bT hm hc hx rfl he
   exact pureV _ hex u rfl h1 h2
  | s2b e=>
   simp only [A1] at he
   split at he
   ·rename_i l hv
    rw [hv] at hx
    rw [hex]
    exact (XM hm hc hx he).val
   ·cases he
 ·
  rename_i f first cap f' first' cap' hop
  simp only [Bool.and_eq_true,decide_eq_true_eq] at hok
  obtain ⟨⟨rfl,h1⟩,h2⟩:=hok
  simp only [A1] at he
  injection he with he; injection he with e1 e2
  subst e1 e2
  left
  refine .same hm (.func (.func f) (first.map a.eval) (cap.map a.eval)) (by simp [execOp,hop,Instr.makeFunc]) ?_
  simp only [VR]
  exact ⟨_,_,IJ ht h1,IJ ht h2,by
   rw [show first.map a.eval = (first.toList.map a.eval).toArray by apply Array.ext'; simp,show cap.map a.eval = (cap.toList.map a.eval).toArray by apply Array.ext'; simp]⟩
 ·
  rename_i t l c s e zero bytes l' c' hop
  simp only [Bool.and_eq_true] at hok
  obtain ⟨⟨hl,hc⟩,hr⟩:=hok
  simp only [A1] at he
  left
  cases hu : P.underlying t with
  | none=>simp [hu] at hr
  | some d=>
   cases d <;> simp [hu] at hr
   obtain ⟨⟨⟨rfl,hby⟩,hz⟩,hzp⟩:=hr
   split at he
   ·rename_i ln cn hln hcn
    split at he
    ·rename_i hle
     obtain ⟨kl,e1⟩:=H4 hln (BD ht hl)
     obtain ⟨kc,e2⟩:=H4 hcn (BD ht hc)
     have hs:=(X6 hm hu hby hz hzp hle.1 hle.2.1 hle.2.2 he kl kc).val
     have : execOp a.eval o = (do pure (.value (<- Instr.makeSlice t (.int kl (ln : Int)) (.int kc (cn : Int))))):=by simp [execOp,hop,e1,e2]
     rw [this]; exact hs
    ·cases he
   ·cases he
 ·
  rename_i t x lo hi mx k x' lo' hi' mx' hop
  simp only [Bool.and_eq_true] at hok
  obtain ⟨⟨⟨⟨hk,hx⟩,hlo⟩,hhi⟩,hmx⟩:=hok
  simp only [A1] at he
  obtain ⟨e1,rfl⟩:=B6 he
  obtain ⟨u,h1,h2⟩:=W9 (P:=P) (w:=w) hk e1 (BD ht hx) (QL ht hlo) (QL ht hhi) (QL ht hmx)
  left
  exact pureV _ (by simp [execOp,hop]) u rfl h1 h2
 ·
  rename_i s x i off x' hop
  simp only [Bool.and_eq_true] at hok
  obtain ⟨hx,hr⟩:=hok
  have hx:=BD ht hx
  simp only [A1] at he
  left
  split at he
  ·rename_i b o' hv
   injection he with he; injection he with e1 e2
   subst e1 e2
   rw [hv] at hx
   cases hu : P.underlying s with
   | none=>simp [hu] at hr
   | some d=>
    cases d <;> simp [hu] at hr
    rename_i fs
    cases hf : fs[i]? with
    | none=>simp [hf] at hr
    | some f=>
     cases hj : P.info? f.type with
     | none=>simp [hf,hj] at hr
     | some j=>
      simp [hf,hj] at hr
      obtain ⟨u,h1,h2⟩:=fa_runs (P:=P) (w:=w) hu hf hr.1 hj hr.2 hx
      exact pureV _ (by simp [execOp,hop]) u rfl h1 h2
  ·cases he
 ·
  rename_i t x i off n x' hop
  simp only [Bool.and_eq_true] at hok
  obtain ⟨hx,hr⟩:=hok
  have hx:=BD ht hx
  simp only [A1] at he
  left
  split at he
  ·rename_i cs hv
   obtain ⟨e1,rfl⟩:=B6 he
   rw [hv] at hx
   cases hu : P.underlying t with
   | none=>simp [hu] at hr
   | some d=>
    cases d <;> simp [hu] at hr
    rename_i fs
    cases hf : fs[i]? with
    | none=>simp [hf] at hr
    | some f=>
     simp [hf] at hr
     obtain ⟨u,h1,h2⟩:=aX (P:=P) (w:=w) hu hf hr.1 hr.2 e1 hx
     exact pureV _ (by simp [execOp,hop]) u rfl h1 h2
  ·cases he
 ·
  rename_i t x i arr esz x' i' hop
  simp only [Bool.and_eq_true] at hok
  obtain ⟨⟨hx,hi⟩,hr⟩:=hok
  have hx:=BD ht hx
  have hi:=BD ht hi
  left
  cases arr with
  | none=>
   simp only [A1] at he
   split at he
   ·rename_i b off len cap k n hv hn
    split at he
    ·rename_i hlt
     injection he with he; injection he with e1 e2
     subst e1 e2
     rw [hv] at hx
     rw [hn] at hi
     cases hu : P.underlying t with
     | none=>simp [hu] at hr
     | some d=>
      cases d <;> simp [hu] at hr
      obtain ⟨u,h1,h2⟩:=T1 (P:=P) (w:=w) hu hr hlt.1 hlt.2 hx hi
      exact pureV _ (by simp [execOp,hop]) u rfl h1 h2
    ·cases he
   ·cases he
  | some ln=>
   simp only [A1] at he
   split at he
   ·rename_i b off k n hv hn
    split at he
    ·rename_i hlt
     injection he with he; injection he with e1 e2
     subst e1 e2
     rw [hv] at hx
     rw [hn] at hi
     cases hu : P.underlying t with
     | none=>simp [hu] at hr
     | some d=>
      cases d <;> simp [hu] at hr
      obtain ⟨rfl,hr⟩:=hr
      obtain ⟨u,h1,h2⟩:=SO (P:=P) (w:=w) hu hr hlt.1 hlt.2 hx hi
      exact pureV _ (by simp [execOp,hop]) u rfl h1 h2
    ·cases he
   ·cases he
 ·
  rename_i t x i arr x' i' hop
  simp only [Bool.and_eq_true] at hok
  obtain ⟨⟨hx,hi⟩,hr⟩:=hok
  have hx:=BD ht hx
  have hi:=BD ht hi
  left
  cases arr with
  | none=>
   simp only [A1] at he
   split at he
   ·rename_i s k n hv hn
    split at he
    ·rename_i hlt
     split at he
     ·rename_i c hc
      injection he with he; injection he with e1 e2
      subst e1 e2
      rw [hv] at hx
      rw [hn] at hi
      cases hu : P.underlying t with
      | none=>simp [hu] at hr
      | some d=>
       cases d <;> simp [hu] at hr
       obtain ⟨u,h1,h2⟩:=SH (P:=P) (w:=w) hu hlt hc hx hi
       exact pureV _ (by simp [execOp,hop]) u rfl h1 h2
     ·cases he
    ·cases he
   ·cases he
  | some q=>
   obtain ⟨ln,esz,kk⟩:=q
   simp only [A1] at he
   split at he
   ·rename_i cs k n hv hn
    split at he
    ·rename_i hlt
     obtain ⟨e1,rfl⟩:=B6 he
     rw [hv] at hx
     rw [hn] at hi
     cases hu : P.underlying t with
     | none=>simp [hu] at hr
     | some d=>
      cases d <;> simp [hu] at hr
      obtain ⟨⟨rfl,hr⟩,hr2⟩:=hr
      obtain ⟨u,h1,h2⟩:=SI (P:=P) (w:=w) hu hr hr2 hlt.1 hlt.2 e1 hx hi
      exact pureV _ (by simp [execOp,hop]) u rfl h1 h2
    ·cases he
   ·cases he
 ·
  rename_i x i x' i' hop
  simp only [Bool.and_eq_true,decide_eq_true_eq] at hok
  obtain ⟨rfl,hx⟩:=hok
  have hx:=BD ht hx
  simp only [A1] at he
  left
  split at he
  ·rename_i l hv
   obtain ⟨e1,rfl⟩:=B6 he
   rw [hv] at hx
   obtain ⟨u,h1,h2⟩:=aZ (P:=P) (w:=w) e1 hx
   exact pureV _ (by simp [execOp,hop]) u rfl h1 h2
  ·cases he
 ·rename_i hop
  exact absurd ⟨_,hop⟩ hopc
 ·cases hok
end
end Go.Proofs.YtdljelicbnjfjaaGreat.X
namespace Go.Proofs.YtdljelicbnjfjaaGreat.X
open Go
def Opd.rd : Opd -> List Nat
 | .t n=>[n]
 | .c _=>[]
def IOp.opds : IOp -> List Opd
 | .mv x=>[x]
 | .pick c a b=>[c,a,b]
 | .al ..=>[]
 | .bx _ _ x=>[x]
 | .build _ ps=>ps.map (·.2.2)
 | .mksl _ _ _ _ ps=>ps.map (·.2.2)
 | .ld _ x=>[x]
 | .st _ x y=>[x,y]
 | .nilc x=>[x]
 | .bin _ _ x y=>[x,y]
 | .un _ x=>[x]
 | .cv _ _ x=>[x]
 | .mkf _ f c=>f ++ c
 | .mks _ _ _ _ l c=>[l,c]
 | .sli _ x lo hi m=>x :: (lo.toList ++ (hi.toList ++ m.toList))
 | .fa _ x=>[x]
 | .fld _ _ x=>[x]
 | .ia _ _ x i=>[x,i]
 | .ix _ x i=>[x,i]
 | .ext x _=>[x]
 | .call _ args=>args
 | .callv x args=>x :: args
 | .app _ _ _ _ x y=>[x,y]
 | .grow _ _ _ _ x n=>[x,n]
 | .clear _ x=>[x]
 | .copy _ x y=>[x,y]
 | .len _ x=>[x]
 | .cap x=>[x]
 | .mn xs=>xs
 | .mx xs=>xs
def rds (l : List Opd) : List Nat:=l.flatMap Opd.rd
theorem OH {tm : List AV} {d : Option Nat} {v : AV} {x : Opd} (h : ∀ t,d = some t -> t ∉ x.rd) : x.eval (put tm d v) = x.eval tm:=by
 cases x with
 | c a=>rfl
 | t n=>
  cases d with
  | none=>rfl
  | some t=>
   have hne : t ≠ n:=fun e=>h t rfl (by simp [Opd.rd,e])
   simp only [Opd.eval,put,List.getD_eq_getElem?_getD,List.getElem?_set]
   rw [if_neg hne]
theorem FX {tm tm' : List AV} : ∀ (ps : List (Nat × Nat × Opd)) (cs : List AV),(∀ x ∈ ps.map (·.2.2),x.eval tm = x.eval tm') -> B4 tm cs ps = B4 tm' cs ps
 | [],_,_=>rfl
 | (off,n,x) :: ps,cs,h=>by
  have hx:=h x (by simp)
  simp only [B4,hx]
  split
  ·exact FX ps _ fun y hy=>h y (by simp at hy ⊢; exact .inr hy)
  ·rfl
theorem T4 {call : BN} {b : Nat} {tm tm' : List AV} {m : Mem} {op : IOp} (h : ∀ x ∈ op.opds,x.eval tm = x.eval tm') : A1 call b tm m op = A1 call b tm' m op:=by
 have lst : ∀ l : List Opd,(∀ x ∈ l,x.eval tm = x.eval tm') -> l.map (·.eval tm) = l.map (·.eval tm'):=fun l hl=>List.map_congr_left hl
 cases op
 case build tpl ps=>simp only [A1,FX ps tpl (by simpa [IOp.opds] using h)]
 case mksl s e tpl len ps=>simp only [A1,FX ps tpl (by simpa [IOp.opds] using h)]
 case mkf f x c=>
  simp only [IOp.opds,List.mem_append] at h
  simp only [A1,lst x fun y hy=>h y (.inl hy),lst c fun y hy=>h y (.inr hy)]
 case call f args=>simp only [A1,lst args (by simpa [IOp.opds] using h)]
 case callv x args=>
  simp only [IOp.opds,List.mem_cons] at h
  simp only [A1,h x (.inl rfl),lst args fun y hy=>h y (.inr hy)]
 case mn xs=>simp only [A1,lst xs (by simpa [IOp.opds] using h)]
 case mx xs=>simp only [A1,lst xs (by simpa [IOp.opds] using h)]
 case sli k x lo hi mx=>
  have e1:=h x (by simp [IOp.opds])
  have e2 : lo.map (·.eval tm) = lo.map (·.eval tm'):=by cases lo <;> simp [IOp.opds] at h ⊢; simp [h]
  have e3 : hi.map (·.eval tm) = hi.map (·.eval tm'):=by cases hi <;> simp [IOp.opds] at h ⊢; simp [h]
  have e4 : mx.map (·.eval tm) = mx.map (·.eval tm'):=by cases mx <;> simp [IOp.opds] at h ⊢; simp [h]
  simp only [A1,e1,e2,e3,e4]
 case cv s c x=>
  have e1:=h x (by simp [IOp.opds])
  cases c <;> simp only [A1,e1]
 case ld n x=>
  have e1:=h x (by simp [IOp.opds])
  cases n <;> simp only [A1,e1]
 case len n x=>
  have e1:=h x (by simp [IOp.opds])
  cases n <;> simp only [A1,e1]
 case ia a z x i=>
  have e1:=h x (by simp [IOp.opds])
  have e2:=h i (by simp [IOp.opds])
  cases a <;> simp only [A1,e1,e2]
 case ix a x i=>
  have e1:=h x (by simp [IOp.opds])
  have e2:=h i (by simp [IOp.opds])
  cases a <;> simp only [A1,e1,e2]
 all_goals
  simp only [IOp.opds,List.mem_cons,List.not_mem_nil,or_false,forall_eq_or_imp,forall_eq] at h
  simp only [A1,h]
theorem LE {call : BN} {b : Nat} {tm : List AV} {d : Option Nat} {v : AV} {m : Mem} {op : IOp} (h : ∀ t,d = some t -> t ∉ rds op.opds) : A1 call b (put tm d v) m op = A1 call b tm m op:=
 T4 fun x hx=>OH fun t ht hm=>h t ht (List.mem_flatMap.2 ⟨x,hx,hm⟩)
inductive Cl where
 | P
 | R
 | A
 | H
 deriving DecidableEq
def IOp.slotOf : IOp -> Option Nat
 | .al s ..=>s
 | .bx s ..=>s
 | .mksl s ..=>s
 | .mks s ..=>s
 | .cv s (.s2b _) _=>s
 | _=>none
def clS : Option Nat -> Cl
 | some _=>.A
 | none=>.H
def IOp.cl : IOp -> Cl
 | .al s ..=>clS s
 | .bx s ..=>clS s
 | .mksl s ..=>clS s
 | .mks s ..=>clS s
 | .cv s c _=>match c with
  | .toInt _ | .same=>.P
  | .b2s | .keep=>.R
  | .s2b _=>clS s
 | .ld ..=>.R
 | .st .. | .call .. | .callv .. | .app .. | .grow .. | .clear .. | .copy ..=>.H
 | .mv _ | .pick .. | .build .. | .nilc _ | .bin .. | .un .. | .mkf .. | .sli .. | .fa .. | .fld .. | .ia .. | .ix .. | .ext .. | .len .. | .cap _ | .mn _ | .mx _=>.P
theorem MH {call : BN} {b : Nat} {tm : List AV} {m m' : Mem} {op : IOp} {v : AV} (hc : op.cl = .P) (h : A1 call b tm m op = some (v,m')) : m' = m /\ ∀ (call' : BN) (m2 : Mem),A1 call' b tm m2 op = some (v,m2):=by
 have pureK : ∀ o : Option AV,CV o m = some (v,m') -> m' = m /\ ∀ m2,CV o m2 = some (v,m2):=fun o h=>by
  obtain ⟨h1,h2⟩:=B6 h
  exact ⟨h2,fun m2=>by rw [h1]; rfl⟩
 cases op <;> simp [IOp.cl] at hc
 case cv s c x=>
  cases c <;> simp at hc
  case s2b=>cases s <;> simp [clS] at hc
  all_goals
   simp only [A1] at h ⊢
   split at h
   ·injection h with h; injection h with h1 h2; exact ⟨h2.symm,fun _ m2=>by rw [<- h1]⟩
   ·cases h
 case al s _ _=>cases s <;> simp [clS] at hc
 case bx s _ _=>cases s <;> simp [clS] at hc
 case mksl s _ _ _ _=>cases s <;> simp [clS] at hc
 case mks s _ _ _ _ _=>cases s <;> simp [clS] at hc
 case len n x=>
  cases n
  all_goals
   simp only [A1] at h ⊢
   split at h <;> first
    | (injection h with h; injection h with h1 h2; exact ⟨h2.symm,fun _ m2=>by rw [<- h1]⟩)
    | cases h
 case bin=>simp only [A1] at h ⊢; exact ⟨(pureK _ h).1,fun _=>(pureK _ h).2⟩
 case un=>simp only [A1] at h ⊢; exact ⟨(pureK _ h).1,fun _=>(pureK _ h).2⟩
 case build=>simp only [A1] at h ⊢; exact ⟨(pureK _ h).1,fun _=>(pureK _ h).2⟩
 case sli=>simp only [A1] at h ⊢; exact ⟨(pureK _ h).1,fun _=>(pureK _ h).2⟩
 case ia a z x i=>
  cases a
  all_goals
   simp only [A1] at h ⊢
   split at h
   ·split at h
    ·rename_i hlt
     injection h with h; injection h with h1 h2
     exact ⟨h2.symm,fun _ m2=>by rw [if_pos hlt,<- h1]⟩
    ·cases h
   ·cases h
 case ix a x i=>
  cases a
  ·simp only [A1] at h ⊢
   split at h
   ·split at h
    ·rename_i hlt
     split at h
     ·injection h with h; injection h with h1 h2
      exact ⟨h2.symm,fun _ m2=>by rw [if_pos hlt,<- h1]⟩
     ·cases h
    ·cases h
   ·cases h
  ·simp only [A1] at h ⊢
   split at h
   ·split at h
    ·rename_i hlt
     exact ⟨(pureK _ h).1,fun _ m2=>by rw [if_pos hlt]; exact (pureK _ h).2 m2⟩
    ·cases h
   ·cases h
 all_goals
  simp only [A1] at h ⊢
  first
   | (injection h with h; injection h with h1 h2; exact ⟨h2.symm,fun _ m2=>by rw [<- h1]⟩)
   | (split at h <;> first
     | (injection h with h; injection h with h1 h2; exact ⟨h2.symm,fun _ m2=>by rw [<- h1]⟩)
     | exact ⟨(pureK _ h).1,fun _=>(pureK _ h).2⟩
     | cases h)
theorem Mem.get_ne {m : Mem} {b id : Nat} {o o' : Obj} (h : m.get b = some o) (hid : m.get id = none) : (m.set id o').get b = some o:=by
 rw [Mem.get_set,if_neg (fun e=>by rw [e,hid] at h; cases h)]; exact h
theorem I3 {m m2 : Mem} {b off n : Nat} {cs : List AV} (h : m.read b off n = some cs) (hx : ∀ c,m.get c ≠ none -> m2.get c = m.get c) : m2.read b off n = some cs:=by
 unfold Mem.read at h ⊢
 cases hg : m.get b with
 | none=>simp [hg] at h
 | some o=>rw [hx b (by simp [hg]),hg]; simpa [hg] using h
theorem ID {m : Mem} {id : Nat} (o : Obj) (h : m.get id = none) : ∀ c,m.get c ≠ none -> (m.set id o).get c = m.get c:=fun c hc=>by
 rw [Mem.get_set,if_neg (fun e=>hc (by rw [e,h]))]
structure Ext (F : Mem -> Option (AV × Mem)) (m : Mem) (v : AV) (m' : Mem) (fr : Nat -> Prop) : Prop where
 next : m.next <= m'.next
 keep : ∀ c,m.get c ≠ none -> m'.get c ≠ none
 free : ∀ id,m.get id = none -> id < m.next -> fr id -> m'.get id = none
 more : ∀ id o,m.get id = none -> id < m.next -> fr id -> F (m.set id o) = some (v,m'.set id o)
def DF (call : BN) : Prop:=∀ f args m r m',call f args m = some (r,m') -> Ext (call f args) m r m' fun _=>True
theorem Ext.same {F : Mem -> Option (AV × Mem)} {m : Mem} {v : AV} {fr : Nat -> Prop} (h : ∀ m2 : Mem,(∀ c,m.get c ≠ none -> m2.get c = m.get c) -> F m2 = some (v,m2)) : Ext F m v m fr:=
 ⟨Nat.le_refl _,fun _ h=>h,fun _ h _ _=>h,fun id o hid _ _=>h _ (ID o hid)⟩
theorem MG {call : BN} {b : Nat} {tm : List AV} {m m' : Mem} {op : IOp} {v : AV} (hc : op.cl = .R) (h : A1 call b tm m op = some (v,m')) :
  m' = m /\ ∀ (call' : BN) (m2 : Mem),(∀ c,m.get c ≠ none -> m2.get c = m.get c) -> A1 call' b tm m2 op = some (v,m2):=by
 cases op <;> simp [IOp.cl] at hc
 case ld n x=>
  cases n
  all_goals
   simp only [A1] at h ⊢
   split at h
   ·rename_i c off hx
    split at h
    ·rename_i hr
     injection h with h; injection h with h1 h2
     exact ⟨h2.symm,fun _ m2 hm=>by simp only [I3 hr hm]; rw [<- h1]⟩
    ·cases h
   ·cases h
 case cv s c x=>
  cases c <;> simp at hc
  case s2b=>cases s <;> simp [clS] at hc
  case keep=>
   simp only [A1] at h ⊢
   split at h
   ·split at h
    ·rename_i hg
     split at h
     ·injection h with h; injection h with h1 h2
      exact ⟨h2.symm,fun _ m2 hm=>by rw [hm _ (by rw [hg]; simp),hg]; simp only; rw [if_pos (by assumption),h1]⟩
     ·cases h
    ·cases h
   ·cases h
  case b2s=>
   simp only [A1] at h ⊢
   split at h
   ·injection h with h; injection h with h1 h2
    exact ⟨h2.symm,fun _ m2 hm=>by rw [<- h1]⟩
   ·split at h
    ·rename_i hr
     obtain ⟨h1,h2⟩:=B6 h
     exact ⟨h2,fun _ m2 hm=>by simp only [I3 hr hm,h1]; rfl⟩
    ·cases h
   ·cases h
 case al s _ _=>cases s <;> simp [clS] at hc
 case bx s _ _=>cases s <;> simp [clS] at hc
 case mksl s _ _ _ _=>cases s <;> simp [clS] at hc
 case mks s _ _ _ _ _=>cases s <;> simp [clS] at hc
theorem new_A {m m' : Mem} {id c : Nat} {cs : List AV} {e : Nat} (h : m.new (some id) cs e = some (c,m')) :
  c = id /\ m.get id = none /\ id < m.next /\ m' = m.set id (.live cs e true) /\ ∀ m2 : Mem,m2.get id = none -> id < m2.next -> m2.new (some id) cs e = some (id,m2.set id (.live cs e true)):=by
 unfold Mem.new at h
 split at h
 ·rename_i hl
  simp only at h
  split at h
  ·rename_i hg
   split at h
   ·rename_i hlt
    injection h with h; injection h with h1 h2
    refine ⟨h1.symm,hg,hlt,h2.symm,fun m2 hg2 hlt2=>?_⟩
    simp only [Mem.new,hl,if_true,hg2,if_pos hlt2]
   ·cases h
  ·cases h
 ·cases h
theorem JA {m m' : Mem} {b k : Nat} {cs : List AV} {e : Nat} {mk : Nat -> AV} {v : AV} (h : newRow m b (some k) cs e mk = some (v,m')) :
  m.get (b + k) = none /\ b + k < m.next /\ m' = m.set (b + k) (.live cs e true) /\ ∀ m2 : Mem,m2.get (b + k) = none -> b + k < m2.next -> newRow m2 b (some k) cs e mk = some (v,m2.set (b + k) (.live cs e true)):=by
 unfold newRow at h
 split at h
 ·rename_i c m1 hn
  injection h with h; injection h with h1 h2
  obtain ⟨e1,e2,e3,e4,e5⟩:=new_A (id:=b + k) hn
  refine ⟨e2,e3,by rw [<- h2,e4],fun m2 g1 g2=>?_⟩
  unfold newRow
  have:=e5 m2 g1 g2
  simp only [slot,this]
  rw [<- h1,e1]
 ·cases h
theorem OI {call : BN} {b : Nat} {tm : List AV} {m m' : Mem} {op : IOp} {v : AV} (hc : op.cl = .A) (h : A1 call b tm m op = some (v,m')) :
  ∃ k o,op.slotOf = some k /\ m.get (b + k) = none /\ b + k < m.next /\ m' = m.set (b + k) o /\ ∀ (call' : BN) (m2 : Mem),m2.get (b + k) = none -> b + k < m2.next -> A1 call' b tm m2 op = some (v,m2.set (b + k) o):=by
 cases op <;> simp [IOp.cl] at hc
 case al s e z=>
  cases s <;> simp [clS] at hc
  obtain ⟨h1,h2,h3,h4⟩:=JA h
  exact ⟨_,_,rfl,h1,h2,h3,fun _ m2 a b=>h4 m2 a b⟩
 case bx s e x=>
  cases s <;> simp [clS] at hc
  obtain ⟨h1,h2,h3,h4⟩:=JA h
  exact ⟨_,_,rfl,h1,h2,h3,fun _ m2 a b=>h4 m2 a b⟩
 case mksl s e tpl len ps=>
  cases s <;> simp [clS] at hc
  simp only [A1] at h ⊢
  split at h
  ·obtain ⟨h1,h2,h3,h4⟩:=JA h
   exact ⟨_,_,rfl,h1,h2,h3,fun _ m2 a b=>h4 m2 a b⟩
  ·cases h
 case mks s e z by_ l c=>
  cases s <;> simp [clS] at hc
  simp only [A1] at h ⊢
  split at h
  ·split at h
   ·rename_i hle
    obtain ⟨h1,h2,h3,h4⟩:=JA h
    exact ⟨_,_,rfl,h1,h2,h3,fun _ m2 a b=>by rw [if_pos hle]; exact h4 m2 a b⟩
   ·cases h
  ·cases h
 case cv s c x=>
  cases c <;> simp at hc
  cases s <;> simp [clS] at hc
  simp only [A1] at h ⊢
  split at h
  ·obtain ⟨h1,h2,h3,h4⟩:=JA h
   exact ⟨_,_,rfl,h1,h2,h3,fun _ m2 a b=>h4 m2 a b⟩
  ·cases h
theorem LP {m m' : Mem} {b off : Nat} {vs : List AV} (h : m.write b off vs = some m') : m'.next = m.next /\ (∀ c,m'.get c = none ↔ m.get c = none) /\ ∀ id o,m.get id = none -> (m.set id o).write b off vs = some (m'.set id o):=by
 unfold Mem.write at h
 split at h
 ·rename_i cs e hg
  split at h
  ·rename_i hle
   injection h with h
   subst h
   refine ⟨rfl,fun c=>?_,fun id o hid=>?_⟩
   ·rw [Mem.get_set]
    split
    ·rename_i hcb; subst hcb; simp [hg]
    ·rfl
   ·have hne : b ≠ id:=fun e=>by rw [e,hid] at hg; cases hg
    unfold Mem.write
    rw [Mem.get_ne hg hid]
    simp only [if_pos hle]
    rw [Mem.set_comm _ _ _ _ _ hne]
  ·cases h
 ·cases h
theorem NF {m m' : Mem} {s : Option Nat} {c : Nat} {cs : List AV} {e : Nat} (h : m.new s cs e = some (c,m')) :
  m.next <= m'.next /\ (∀ d,m.get d ≠ none -> m'.get d ≠ none) /\ (∀ id,m.get id = none -> id < m.next -> s ≠ some id -> m'.get id = none) /\ ∀ id o,m.get id = none -> id < m.next -> s ≠ some id -> (m.set id o).new s cs e = some (c,m'.set id o):=by
 unfold Mem.new at h
 split at h
 ·rename_i hl
  cases s with
  | none=>
   simp only at h
   injection h with h; injection h with h1 h2
   subst h1 h2
   refine ⟨Nat.le_succ _,fun d hd=>?_,fun id hid hlt _=>?_,fun id o hid hlt _=>?_⟩
   ·show (m.t.set _ _).get d ≠ none
    rw [T.get_set]; split
    ·simp
    ·exact hd
   ·show (m.t.set _ _).get id = none
    rw [T.get_set,if_neg (by omega)]; exact hid
   ·simp only [Mem.new,hl,if_true,Mem.set]
    rw [T.set_comm _ _ _ _ _ (by omega)]
  | some k=>
   simp only at h
   split at h
   ·rename_i hg
    split at h
    ·rename_i hlt
     injection h with h; injection h with h1 h2
     subst h1 h2
     refine ⟨Nat.le_refl _,fun d hd=>?_,fun id hid hlt' hne=>?_,fun id o hid hlt' hne=>?_⟩
     ·rw [Mem.get_set]; split
      ·simp
      ·exact hd
     ·rw [Mem.get_set,if_neg (fun e=>hne (by rw [e]))]; exact hid
     ·have hne' : k ≠ id:=fun e=>hne (by rw [e])
      have hg2 : (m.set id o).get k = none:=by rw [Mem.get_set,if_neg hne']; exact hg
      have hlt2 : k < (m.set id o).next:=hlt
      simp only [Mem.new,hl,if_true,hg2,if_pos hlt2]
      rw [Mem.set_comm _ _ _ _ _ hne']
    ·cases h
   ·cases h
 ·cases h
theorem GR {m m' : Mem} {b : Nat} {s : Option Nat} {cs : List AV} {e : Nat} {mk : Nat -> AV} {v : AV} (h : newRow m b s cs e mk = some (v,m')) : Ext (fun m=>newRow m b s cs e mk) m v m' fun id=>∀ k,s = some k -> b + k ≠ id:=by
 unfold newRow at h
 split at h
 ·rename_i c m1 hn
  injection h with h; injection h with h1 h2
  subst h2
  obtain ⟨e1,e2,e3,e4⟩:=NF hn
  have hs : ∀ id,(∀ k,s = some k -> b + k ≠ id) -> slot b s ≠ some id:=fun id hk=>by
   cases s with
   | none=>simp [slot]
   | some k=>simpa [slot] using hk k rfl
  refine ⟨e1,e2,fun id a c d=>e3 id a c (hs id d),fun id o a c d=>?_⟩
  simp only [newRow,e4 id o a c (hs id d)]
  rw [h1]
 ·cases h
theorem F5 {m m2 : Mem} {esz : Nat} {x : AV} {r : Nat × List AV} (h : CZ m esz x = some r) (hx : ∀ c,m.get c ≠ none -> m2.get c = m.get c) : CZ m2 esz x = some r:=by
 unfold CZ at h ⊢
 split at h
 ·exact h
 ·split at h
  ·rename_i hr
   simp only [I3 hr hx]; exact h
  ·cases h
 ·exact h
 ·cases h
theorem GB {m m' : Mem} {b off : Nat} {vs : List AV} {v : AV} {F : Mem -> Option (AV × Mem)} {fr : Nat -> Prop} (h : m.write b off vs = some m') (hF : ∀ id o,m.get id = none -> ∀ m3,(m.set id o).write b off vs = some m3 -> F (m.set id o) = some (v,m3)) : Ext F m v m' fr:=by
 obtain ⟨h1,h2,h3⟩:=LP h
 exact ⟨Nat.le_of_eq h1.symm,fun c hc x=>hc ((h2 c).1 x),fun id hid _ _=>(h2 id).2 hid,fun id o hid _ _=>hF id o hid _ (h3 id o hid)⟩
theorem QP {m m' : Mem} {c : Nat} {cs : List AV} {e : Nat} {v : AV} {F : Mem -> Option (AV × Mem)} {fr : Nat -> Prop} (h : m.new none cs e = some (c,m')) (hF : ∀ id o,m.get id = none -> ∀ m3,(m.set id o).new none cs e = some (c,m3) -> F (m.set id o) = some (v,m3)) : Ext F m v m' fr:=by
 obtain ⟨h1,h2,h3,h4⟩:=NF h
 exact ⟨h1,h2,fun id a b _=>h3 id a b (by simp),fun id o a b _=>hF id o a _ (h4 id o a b (by simp))⟩
theorem UM {m m' : Mem} {e esz by_ : Nat} {x y v : AV} {fr : Nat -> Prop} (h : CR m e esz by_ x y = some (v,m')) : Ext (fun m=>CR m e esz by_ x y) m v m' fr:=by
 unfold CR at h
 split at h
 ·cases h
 ·rename_i n cs hs
  have hs2 : ∀ id o,m.get id = none -> CZ (m.set id o) esz y = some (n,cs):=fun id o hid=>F5 hs (ID o hid)
  split at h
  ·split at h
   ·rename_i h0
    injection h with h; injection h with h1 h2
    subst h2
    refine ⟨Nat.le_refl _,fun _ h=>h,fun _ h _ _=>h,fun id o hid _ _=>?_⟩
    simp only [CR,hs2 id o hid,if_pos h0,h1]
   ·rename_i h0
    split at h
    ·rename_i hb
     split at h
     ·rename_i c m1 hn
      injection h with h; injection h with h1 h2
      subst h2
      refine QP hn fun id o hid m3 h3=>?_
      simp only [CR,hs2 id o hid,if_neg h0,if_pos hb,h3,h1]
     ·cases h
    ·cases h
  ·rename_i b off len cap
   split at h
   ·rename_i h0
    injection h with h; injection h with h1 h2
    subst h2
    refine ⟨Nat.le_refl _,fun _ h=>h,fun _ h _ _=>h,fun id o hid _ _=>?_⟩
    simp only [CR,hs2 id o hid,if_pos h0,h1]
   ·rename_i h0
    split at h
    ·rename_i c
     split at h
     ·rename_i hle
      split at h
      ·rename_i m1 hw
       injection h with h; injection h with h1 h2
       subst h2
       refine GB hw fun id o hid m3 h3=>?_
       simp only [CR,hs2 id o hid,if_neg h0,if_pos hle,h3,h1]
      ·cases h
     ·rename_i hle
      split at h
      ·rename_i hb
       split at h
       ·rename_i old hr
        split at h
        ·rename_i c1 m1 hn
         injection h with h; injection h with h1 h2
         subst h2
         refine QP hn fun id o hid m3 h3=>?_
         simp only [CR,hs2 id o hid,if_neg h0,if_neg hle,if_pos hb,I3 hr (ID o hid),h3,h1]
        ·cases h
       ·cases h
      ·cases h
    ·rename_i z
     split at h
     ·rename_i known e' hg
      split at h
      ·rename_i hc
       split at h
       ·rename_i hk
        split at h
        ·rename_i m1 hw
         injection h with h; injection h with h1 h2
         subst h2
         refine GB hw fun id o hid m3 h3=>?_
         simp only [CR,hs2 id o hid,if_neg h0,Mem.get_ne hg hid,if_pos hc,if_pos hk,h3,h1]
        ·cases h
       ·rename_i hk
        split at h
        ·rename_i c1 m1 hn
         injection h with h; injection h with h1 h2
         subst h2
         obtain ⟨q1,q2,q3,q4⟩:=NF hn
         have hne : ∀ id,m.get id = none -> b ≠ id:=fun id hid e=>by rw [e,hid] at hg; cases hg
         have hds : ∀ id,m.get id = none -> (m.set b .dead).get id = none:=fun id hid=>by rw [Mem.get_set,if_neg (fun e=>hne id hid e.symm)]; exact hid
         refine ⟨q1,fun c hc'=>q2 c ?_,fun id hid hlt _=>q3 id (hds id hid) hlt (by simp),fun id o hid hlt _=>?_⟩
         ·rw [Mem.get_set]; split
          ·simp
          ·exact hc'
         ·have h3:=q4 id o (hds id hid) hlt (by simp)
          rw [<- Mem.set_comm _ _ _ _ _ (hne id hid)] at h3
          simp only [CR,hs2 id o hid,if_neg h0,Mem.get_ne hg hid,if_pos hc,if_neg hk,h3,h1]
        ·cases h
      ·cases h
     ·cases h
    ·cases h
  ·cases h
theorem H9 {call : BN} (hc : DF call) {b : Nat} {tm : List AV} {m m' : Mem} {op : IOp} {v : AV} (h : A1 call b tm m op = some (v,m')) :
  Ext (fun m=>A1 call b tm m op) m v m' fun id=>∀ k,op.slotOf = some k -> b + k ≠ id:=by
 cases hcl : op.cl with
 | P=>
  obtain ⟨rfl,h2⟩:=MH hcl h
  exact .same fun m2 _=>h2 call m2
 | R=>
  obtain ⟨rfl,h2⟩:=MG hcl h
  exact .same fun m2 hm=>h2 call m2 hm
 | A=>
  obtain ⟨k,o',h1,h2,h3,rfl,h5⟩:=OI hcl h
  refine ⟨Nat.le_refl _,fun c hc'=>?_,fun id hid _ hf=>?_,fun id o hid hlt hf=>?_⟩
  ·rw [Mem.get_set]; split
   ·simp
   ·exact hc'
  ·rw [Mem.get_set,if_neg (fun e=>hf k h1 e.symm)]; exact hid
  ·have hne:=hf k h1
   show A1 call b tm (m.set id o) op = _
   rw [h5 call (m.set id o) (by rw [Mem.get_set,if_neg hne]; exact h2) h3,Mem.set_comm _ _ _ _ _ hne]
 | H=>
  cases op <;> simp [IOp.cl] at hcl
  case al s e z=>exact GR h
  case bx s e x=>exact GR h
  case mksl s e tpl len ps=>
   simp only [A1] at h ⊢
   split at h
   ·exact GR h
   ·cases h
  case mks s e z by_ l c=>
   simp only [A1] at h ⊢
   split at h
   ·split at h
    ·rename_i hle
     simp only [if_pos hle]
     exact GR h
    ·cases h
   ·cases h
  case cv s c x=>
   cases c <;> simp at hcl
   simp only [A1] at h ⊢
   split at h
   ·exact GR h
   ·cases h
  case st n x y=>
   simp only [A1] at h ⊢
   split at h
   ·split at h
    ·rename_i hl
     split at h
     ·rename_i m1 hw
      injection h with h; injection h with h1 h2
      subst h2
      refine GB hw fun id o hid m3 h3=>?_
      simp only [if_pos hl,h3,h1]
     ·cases h
    ·cases h
   ·cases h
  case call f args=>
   have:=hc _ _ _ _ _ h
   exact ⟨this.next,this.keep,fun id a c _=>this.free id a c trivial,fun id o a c _=>this.more id o a c trivial⟩
  case callv x args=>
   simp only [A1] at h ⊢
   split at h
   ·have:=hc _ _ _ _ _ h
    exact ⟨this.next,this.keep,fun id a c _=>this.free id a c trivial,fun id o a c _=>this.more id o a c trivial⟩
   ·cases h
  case app e esz by_ z x y=>exact UM h
  case grow e esz by_ z x n=>
   simp only [A1] at h ⊢
   unfold KM at h
   split at h
   ·rename_i k hx hk
    split at h
    ·rename_i hb
     split at h
     ·rename_i c m1 hn
      injection h with h; injection h with h1 h2
      subst h2
      refine QP hn fun id o hid m3 h3=>?_
      simp only [KM,hx,hk,if_pos hb,h3,h1]
     ·cases h
    ·cases h
   ·cases h
  case clear z x=>
   simp only [A1] at h ⊢
   split at h
   ·injection h with h; injection h with h1 h2
    subst h2
    exact .same fun m2 _=>by rw [h1]
   ·split at h
    ·rename_i h0
     injection h with h; injection h with h1 h2
     subst h2
     exact .same fun m2 _=>by rw [if_pos h0,h1]
    ·rename_i h0
     split at h
     ·rename_i m1 hw
      injection h with h; injection h with h1 h2
      subst h2
      refine GB hw fun id o hid m3 h3=>?_
      simp only [if_neg h0,h3,h1]
     ·cases h
   ·cases h
  case copy esz x y=>
   simp only [A1] at h ⊢
   split at h
   ·rename_i r hx hs
    injection h with h; injection h with h1 h2
    subst h2
    exact .same fun m2 hm=>by simp only [hx,F5 hs hm]; rw [h1]
   ·rename_i b' off len cap n cs hx hs
    split at h
    ·rename_i h0
     injection h with h; injection h with h1 h2
     subst h2
     exact .same fun m2 hm=>by simp only [hx,F5 hs hm]; rw [if_pos h0,h1]
    ·rename_i h0
     split at h
     ·rename_i m1 hw
      injection h with h; injection h with h1 h2
      subst h2
      refine GB hw fun id o hid m3 h3=>?_
      simp only [hx,F5 hs (ID o hid),if_neg h0,h3,h1]
     ·cases h
   ·cases h
structure SExt (F : St -> Option (Ex × St)) (s : St) (e : Ex) (s' : St) : Prop where
 next : s.m.next <= s'.m.next
 keep : ∀ c,s.m.get c ≠ none -> s'.m.get c ≠ none
 free : ∀ id,s.m.get id = none -> id < s.m.next -> s'.m.get id = none
 more : ∀ id o,s.m.get id = none -> id < s.m.next -> F ⟨s.tm,s.m.set id o⟩ = some (e,⟨s'.tm,s'.m.set id o⟩)
theorem Q9 : DF fun _ _ _=>none:=fun _ _ _ _ _ h=>by cases h
theorem MM {b : Nat} {tm : List AV} {m : Mem} {c : Chk} (h : D6 b tm m c = true) {id : Nat} (o : Obj) (hid : m.get id = none) (hlt : id < m.next) (hs : ∀ k,c.op.slotOf = some k -> b + k ≠ id) : D6 b tm (m.set id o) c = true:=by
 unfold D6 at h ⊢
 split at h
 ·rename_i hw
  rw [if_pos hw]
  split at h
  ·rename_i v m1 he
   have:=(H9 Q9 he).more id o hid hlt hs
   try simp only at this
   rw [this]
   exact h
  ·cases h
 ·rename_i hw
  rw [if_neg hw]
theorem HD {call : BN} (hc : DF call) {b : Nat} : ∀ (l : List Step) (s s' : St),A9 call b l s = some s' ->
  s.m.next <= s'.m.next /\ (∀ c,s.m.get c ≠ none -> s'.m.get c ≠ none) /\
  ∀ id,s.m.get id = none -> id < s.m.next -> id < b -> s'.m.get id = none /\ ∀ o,A9 call b l ⟨s.tm,s.m.set id o⟩ = some ⟨s'.tm,s'.m.set id o⟩
 | [],s,s',h=>by
  simp only [A9] at h
  injection h with h
  subst h
  exact ⟨Nat.le_refl _,fun _ h=>h,fun id hid _ _=>⟨hid,fun o=>rfl⟩⟩
 | i :: l,s,s',h=>by
  simp only [A9] at h
  split at h
  ·rename_i hw
   split at h
   ·rename_i v m1 he
    split at h
    ·rename_i hck
     have hx:=H9 hc he
     obtain ⟨h1,h2,h3⟩:=HD hc l _ _ h
     refine ⟨Nat.le_trans hx.next h1,fun c hc'=>h2 c (hx.keep c hc'),fun id hid hlt hlb=>?_⟩
     have hf:=hx.free id hid hlt fun k _ e=>by omega
     obtain ⟨h4,h5⟩:=h3 id hf (Nat.lt_of_lt_of_le hlt hx.next) hlb
     refine ⟨h4,fun o=>?_⟩
     have hm:=hx.more id o hid hlt fun k _ e=>by omega
     try simp only at hm
     simp only [A9,hw,if_true,hm]
     rw [if_pos,h5 o]
     rw [List.all_eq_true] at hck ⊢
     exact fun c hcm=>MM (hck c hcm) o hf (Nat.lt_of_lt_of_le hlt hx.next) fun k _ e=>by omega
    ·cases h
   ·cases h
  ·rename_i hw
   obtain ⟨h1,h2,h3⟩:=HD hc l _ _ h
   refine ⟨h1,h2,fun id hid hlt hlb=>?_⟩
   obtain ⟨h4,h5⟩:=h3 id hid hlt hlb
   refine ⟨h4,fun o=>?_⟩
   simp only [A9,hw,if_false]
   exact h5 o
theorem PS {body : St -> Option (Ex × St)} (hb : ∀ s e s',body s = some (e,s') -> SExt body s e s') : ∀ (k : Nat) (s : St) (e : Ex) (s' : St),D9 body k s = some (e,s') -> SExt (D9 body k) s e s'
 | 0,_,_,_,h=>by simp [D9] at h
 | k + 1,s,e,s',h=>by
  simp only [D9] at h
  split at h
  ·rename_i s1 h1
   have x1:=hb _ _ _ h1
   have x2:=PS hb k _ _ _ h
   refine ⟨Nat.le_trans x1.next x2.next,fun c hc=>x2.keep c (x1.keep c hc),fun id hid hlt=>x2.free id (x1.free id hid hlt) (Nat.lt_of_lt_of_le hlt x1.next),fun id o hid hlt=>?_⟩
   simp only [D9,x1.more id o hid hlt]
   exact x2.more id o (x1.free id hid hlt) (Nat.lt_of_lt_of_le hlt x1.next)
  ·rename_i hne
   have x1:=hb _ _ _ h
   refine ⟨x1.next,x1.keep,x1.free,fun id o hid hlt=>?_⟩
   simp only [D9,x1.more id o hid hlt]
   cases e with
   | norm=>exact absurd h (hne s')
   | exit i=>rfl
   | ret=>rfl
theorem EX {call : BN} (hc : DF call) (k : Nat) : ∀ (c : D1) (s : St) (e : Ex) (s' : St),evC call k c s = some (e,s') -> SExt (evC call k c) s e s'
 | .skip,s,e,s',h=>by
  simp only [evC] at h
  injection h with h; injection h with h1 h2
  subst h1 h2
  exact ⟨Nat.le_refl _,fun _ h=>h,fun _ h _=>h,fun _ _ _ _=>rfl⟩
 | .exit i,s,e,s',h=>by
  simp only [evC] at h
  injection h with h; injection h with h1 h2
  subst h1 h2
  exact ⟨Nat.le_refl _,fun _ h=>h,fun _ h _=>h,fun _ _ _ _=>rfl⟩
 | .ret,s,e,s',h=>by
  simp only [evC] at h
  injection h with h; injection h with h1 h2
  subst h1 h2
  exact ⟨Nat.le_refl _,fun _ h=>h,fun _ h _=>h,fun _ _ _ _=>rfl⟩
 | .reg n pi an ops,s,e,s',h=>by
  simp only [evC] at h
  split at h
  ·rename_i s1 h1
   injection h with h; injection h with h2 h3
   subst h2 h3
   obtain ⟨q1,q2,q3⟩:=HD hc ops _ _ h1
   try simp only at q1 q2 q3
   refine ⟨by omega,q2,fun id hid hlt=>(q3 id hid (by omega) hlt).1,fun id o hid hlt=>?_⟩
   have:=(q3 id hid (by omega) hlt).2 o
   simp only [Mem.set] at this
   simp only [evC,Mem.set,this]
  ·cases h
 | .seq a b,s,e,s',h=>by
  simp only [evC] at h
  split at h
  ·rename_i s1 h1
   have x1:=EX hc k a _ _ _ h1
   have x2:=EX hc k b _ _ _ h
   refine ⟨Nat.le_trans x1.next x2.next,fun c hc=>x2.keep c (x1.keep c hc),fun id hid hlt=>x2.free id (x1.free id hid hlt) (Nat.lt_of_lt_of_le hlt x1.next),fun id o hid hlt=>?_⟩
   simp only [evC,x1.more id o hid hlt]
   exact x2.more id o (x1.free id hid hlt) (Nat.lt_of_lt_of_le hlt x1.next)
  ·rename_i hne
   have x1:=EX hc k a _ _ _ h
   refine ⟨x1.next,x1.keep,x1.free,fun id o hid hlt=>?_⟩
   simp only [evC,x1.more id o hid hlt]
   cases e with
   | norm=>exact absurd h (hne s')
   | exit i=>rfl
   | ret=>rfl
 | .cond c a b,s,e,s',h=>by
  simp only [evC] at h
  split at h
  ·rename_i hv
   have x1:=EX hc k a _ _ _ h
   exact ⟨x1.next,x1.keep,x1.free,fun id o hid hlt=>by simp only [evC,hv]; exact x1.more id o hid hlt⟩
  ·rename_i hv
   have x1:=EX hc k b _ _ _ h
   exact ⟨x1.next,x1.keep,x1.free,fun id o hid hlt=>by simp only [evC,hv]; exact x1.more id o hid hlt⟩
  ·cases h
 | .block i c,s,e,s',h=>by
  simp only [evC] at h
  split at h
  ·rename_i j s1 h1
   have x1:=EX hc k c _ _ _ h1
   split at h
   ·rename_i hj
    injection h with h; injection h with h2 h3
    subst h2 h3
    exact ⟨x1.next,x1.keep,x1.free,fun id o hid hlt=>by simp only [evC,x1.more id o hid hlt]; rw [if_pos hj]⟩
   ·rename_i hj
    injection h with h; injection h with h2 h3
    subst h2 h3
    exact ⟨x1.next,x1.keep,x1.free,fun id o hid hlt=>by simp only [evC,x1.more id o hid hlt]; rw [if_neg hj]⟩
  ·rename_i hne
   have x1:=EX hc k c _ _ _ h
   refine ⟨x1.next,x1.keep,x1.free,fun id o hid hlt=>?_⟩
   simp only [evC,x1.more id o hid hlt]
   cases e with
   | norm=>rfl
   | exit i=>exact absurd h (hne i s')
   | ret=>rfl
 | .loop c,s,e,s',h=>by
  simp only [evC] at h
  have:=PS (fun s e s' h=>EX hc k c s e s' h) k s e s' h
  exact ⟨this.next,this.keep,this.free,fun id o hid hlt=>by simp only [evC]; exact this.more id o hid hlt⟩
theorem V5 {tm : List AV} {m : Mem} {r : LN} {v : AV} (h : KX tm m r = some v) {id : Nat} (o : Obj) (hid : m.get id = none) : KX tm (m.set id o) r = some v:=by
 cases r with
 | tmp t=>exact h
 | cell t n=>
  simp only [KX] at h ⊢
  split at h
  ·rename_i v' m1 he
   have hcl : (IOp.ld n (.t t)).cl = .R:=rfl
   have:=(MG hcl he).2 (fun _ _ _=>none) (m.set id o) (ID o hid)
   rw [this]; exact h
  ·cases h
theorem NS {tm : List AV} {m : Mem} {id : Nat} (o : Obj) (hid : m.get id = none) : ∀ (l : List LN) (vs : List AV),D7 tm m l = some vs -> D7 tm (m.set id o) l = some vs
 | [],_,h=>h
 | r :: l,vs,h=>by
  simp only [D7] at h ⊢
  split at h
  ·rename_i v vs' h1 h2
   rw [V5 h1 o hid,NS o hid l _ h2]; exact h
  ·cases h
def rdG : Option (Nat × Bool) -> List Nat
 | none=>[]
 | some (t,_)=>[t]
def rdS (i : Step) : List Nat:=rdG i.guard ++ rds i.op.opds
def rdK (c : Chk) : List Nat:=c.dst :: (rdG c.guard ++ rds c.op.opds)
def D8 : Option Nat -> Option Nat -> Bool
 | none,none=>true
 | some a,some b=>decide (a = b)
 | _,_=>false
def rdEq : IOp -> IOp -> Bool
 | .ld n (.t x),.ld n' (.t x')=>D8 n n' && decide (x = x')
 | .cv none .b2s (.t x),.cv none .b2s (.t x')=>decide (x = x')
 | _,_=>false
theorem I7 {a b : Option Nat} (h : D8 a b = true) : a = b:=by cases a <;> cases b <;> simp [D8] at h <;> simp [h]
theorem rdEq_eq {a b : IOp} (h : rdEq a b = true) : a = b:=by
 unfold rdEq at h
 split at h
 ·simp only [Bool.and_eq_true,decide_eq_true_eq] at h
  rw [I7 h.1,h.2]
 ·simp only [decide_eq_true_eq] at h
  rw [h]
 ·cases h
def gEq : Option (Nat × Bool) -> Option (Nat × Bool) -> Bool
 | none,none=>true
 | some (a,b),some (c,d)=>decide (a = c) && (b == d)
 | _,_=>false
theorem gEq_eq {a b : Option (Nat × Bool)} (h : gEq a b = true) : a = b:=by
 cases a with
 | none=>cases b with
  | none=>rfl
  | some y=>cases y; simp [gEq] at h
 | some x=>cases b with
  | none=>cases x; simp [gEq] at h
  | some y=>cases x; cases y; simp [gEq] at h; simp [h]
def TD (j : Step) (c : Chk) : Bool:=gEq c.guard j.guard && rdEq c.op j.op && D8 j.dst (some c.dst)
def J1 (j i : Step) : Bool:=
 match j.op.cl,i.op.cl with
 | .P,_ | _,.P | .R,.R | .R,.A | .A,.A | .H,.A=>true
 | .R,.H=>i.chk.any (TD j)
 | _,_=>false
def C6 (j i : Step) : Bool:=
 (match j.dst with | some d=>!(rdS j).contains d && !(rdS i).contains d && !D8 i.dst (some d) && i.chk.all (fun c=>decide (c.dst = d) || !(rdK c).contains d) | none=>true) &&
 (match i.dst with | some d=>!(rdS j).contains d && j.chk.all (fun c=>!(rdK c).contains d) | none=>true) &&
 (i.chk.isEmpty || decide (i.op.cl = .H)) && (j.chk.isEmpty || decide (j.op.cl = .H)) && j.chk.all (fun c=>decide (c.op.cl = .R)) && J1 j i
def B9 (call : BN) (b : Nat) (i : Step) (s : St) : Option St:=
 if CA s.tm i.guard then
  match A1 call b s.tm s.m i.op with
  | some (v,m')=>if i.chk.all (D6 b s.tm m') then some ⟨put s.tm i.dst v,m'⟩ else none
  | none=>none
 else some ⟨put s.tm i.dst .undef,s.m⟩
theorem D3 (call : BN) (b : Nat) (i : Step) (l : List Step) (s : St) : A9 call b (i :: l) s = (B9 call b i s).bind (A9 call b l):=by
 simp only [A9,B9]
 by_cases hw : CA s.tm i.guard = true
 ·rw [if_pos hw,if_pos hw]
  cases A1 call b s.tm s.m i.op with
  | none=>rfl
  | some x=>
   obtain ⟨v,m'⟩:=x
   by_cases hc : i.chk.all (D6 b s.tm m') = true
   ·simp only [hc,if_true,Option.bind_some]
   ·simp only [hc,if_false,Option.bind_none]
    rfl
 ·rw [if_neg hw,if_neg hw]; rfl
theorem GX (call : BN) (b : Nat) : ∀ (l l' : List Step) (s : St),A9 call b (l ++ l') s = (A9 call b l s).bind (A9 call b l')
 | [],_,_=>rfl
 | i :: l,l',s=>by
  rw [List.cons_append,D3,D3]
  cases B9 call b i s with
  | none=>rfl
  | some s1=>exact GX call b l l' s1
theorem JQ {tm : List AV} {d : Option Nat} {v : AV} {g : Option (Nat × Bool)} (h : ∀ t,d = some t -> t ∉ rdG g) : CA (put tm d v) g = CA tm g:=by
 cases g with
 | none=>rfl
 | some g=>
  obtain ⟨t,b⟩:=g
  have:=OH (tm:=tm) (d:=d) (v:=v) (x:=.t t) (fun u hu hm=>h u hu (by simpa [Opd.rd,rdG] using hm))
  simp only [Opd.eval] at this
  simp only [CA,this]
theorem R7 {c : Chk} {t : Nat} (hm : t ∈ (Opd.t c.dst).rd) : t ∈ rdK c:=by
 have e : t = c.dst:=by simpa [Opd.rd] using hm
 simp [rdK,e]
theorem P1 {b : Nat} {tm : List AV} {d : Option Nat} {v : AV} {m : Mem} {c : Chk} (h : ∀ t,d = some t -> t ∉ rdK c) : D6 b (put tm d v) m c = D6 b tm m c:=by
 have h1 : CA (put tm d v) c.guard = CA tm c.guard:=JQ fun t ht hm=>h t ht (by simp [rdK,hm])
 have h2 : A1 (fun _ _ _=>none) b (put tm d v) m c.op = A1 (fun _ _ _=>none) b tm m c.op:=LE fun t ht hm=>h t ht (by simp [rdK,hm])
 have h3 : (put tm d v).getD c.dst .undef = tm.getD c.dst .undef:=OH (x:=.t c.dst) fun t ht hm=>h t ht (R7 hm)
 simp only [D6,h1,h2,h3]
theorem XV {tm : List AV} {d e : Option Nat} {u v : AV} (h : ∀ t,d = some t -> e ≠ some t) : put (put tm d u) e v = put (put tm e v) d u:=by
 cases d with
 | none=>rfl
 | some a=>
  cases e with
  | none=>rfl
  | some c=>
   have hne : a ≠ c:=fun x=>h a rfl (by rw [x])
   simp only [put]
   exact List.set_comm _ _ hne
def Step.less (i j : Step) : Step:={ i with chk:=i.chk.filter fun c=>!D8 j.dst (some c.dst) }
theorem slot_H {op : IOp} (h : op.cl = .H) : op.slotOf = none:=by
 cases op <;> simp [IOp.cl] at h <;> simp only [IOp.slotOf]
 case cv s c x=>
  cases c <;> simp at h
  cases s <;> simp [clS] at h ⊢
 case al s _ _=>cases s <;> simp [clS] at h ⊢
 case bx s _ _=>cases s <;> simp [clS] at h ⊢
 case mksl s _ _ _ _=>cases s <;> simp [clS] at h ⊢
 case mks s _ _ _ _ _=>cases s <;> simp [clS] at h ⊢
theorem slot_R {op : IOp} (h : op.cl = .R) : op.slotOf = none:=by
 cases op <;> simp [IOp.cl] at h <;> simp only [IOp.slotOf]
 case cv s c x=>
  cases c <;> simp at h
  ·rfl
  ·rfl
  ·cases s <;> simp [clS] at h
 case al s _ _=>cases s <;> simp [clS] at h
 case bx s _ _=>cases s <;> simp [clS] at h
 case mksl s _ _ _ _=>cases s <;> simp [clS] at h
 case mks s _ _ _ _ _=>cases s <;> simp [clS] at h
theorem swap {call : BN} (hc : DF call) {b : Nat} {j i : Step} (hcm : C6 j i = true) {s s1 s2 : St} (hb : ∀ k,i.op.slotOf = some k -> b + k < s.m.next) (h1 : B9 call b j s = some s1) (h2 : B9 call b i s1 = some s2) :
  ∃ s1',B9 call b (i.less j) s = some s1' /\ B9 call b j s1' = some s2:=by
 simp only [C6,Bool.and_eq_true] at hcm
 obtain ⟨⟨⟨⟨⟨hdj,hdi⟩,hci⟩,hcj⟩,hcr⟩,hmem⟩:=hcm
 have hj0 : ∀ t,j.dst = some t -> t ∉ rdS j:=fun t ht=>by simp [ht] at hdj; simpa using hdj.1.1.1
 have hj1 : ∀ t,j.dst = some t -> t ∉ rdS i:=fun t ht=>by simp [ht] at hdj; simpa using hdj.1.1.2
 have hj2 : ∀ t,j.dst = some t -> i.dst ≠ some t:=fun t ht hi=>by
  simp [ht] at hdj
  have:=hdj.1.2
  rw [hi] at this
  simp [D8] at this
 have hj3 : ∀ t,j.dst = some t -> ∀ c ∈ i.chk,c.dst = t \/ t ∉ rdK c:=fun t ht c hcm=>by
  simp [ht] at hdj
  have:=hdj.2 c hcm
  simpa using this
 have hi1 : ∀ t,i.dst = some t -> t ∉ rdS j:=fun t ht=>by simp [ht] at hdi; simpa using hdi.1
 have hi3 : ∀ t,i.dst = some t -> ∀ c ∈ j.chk,t ∉ rdK c:=fun t ht c hcm=>by
  simp [ht] at hdi
  simpa using hdi.2 c hcm
 have wi : ∀ v,CA (put s.tm j.dst v) i.guard = CA s.tm i.guard:=fun v=>JQ fun t ht hm=>hj1 t ht (by simp [rdS,hm])
 have wj : ∀ v,CA (put s.tm i.dst v) j.guard = CA s.tm j.guard:=fun v=>JQ fun t ht hm=>hi1 t ht (by simp [rdS,hm])
 have oi : ∀ v m,A1 call b (put s.tm j.dst v) m i.op = A1 call b s.tm m i.op:=fun v m=>LE fun t ht hm=>hj1 t ht (by simp [rdS,hm])
 have oj : ∀ v m,A1 call b (put s.tm i.dst v) m j.op = A1 call b s.tm m j.op:=fun v m=>LE fun t ht hm=>hi1 t ht (by simp [rdS,hm])
 have pc : ∀ u v,put (put s.tm j.dst u) i.dst v = put (put s.tm i.dst v) j.dst u:=fun u v=>XV fun t ht=>hj2 t ht
 have ki : ∀ v m,(i.chk.all (D6 b (put s.tm j.dst v) m)) = true -> ((i.less j).chk.all (D6 b s.tm m)) = true:=fun v m h=>by
  rw [List.all_eq_true] at h ⊢
  intro c hc'
  simp only [Step.less,List.mem_filter] at hc'
  have:=h c hc'.1
  rw [P1] at this
  ·exact this
  ·intro t ht hm
   rcases hj3 t ht c hc'.1 with e | e
   ·rw [ht,<- e] at hc'
    simp [D8] at hc'
   ·exact e hm
 have kj : ∀ v m,(j.chk.all (D6 b s.tm m)) = true -> (j.chk.all (D6 b (put s.tm i.dst v) m)) = true:=fun v m h=>by
  rw [List.all_eq_true] at h ⊢
  intro c hc'
  rw [P1 fun t ht=>hi3 t ht c hc']
  exact h c hc'
 unfold B9 at h1
 by_cases hwj : CA s.tm j.guard = true
 ·rw [if_pos hwj] at h1
  split at h1
  ·rename_i vj mj hoj
   split at h1
   ·rename_i hkj
    injection h1 with h1
    subst h1
    unfold B9 at h2
    simp only [wi,oi] at h2
    by_cases hwi : CA s.tm i.guard = true
    ·rw [if_pos hwi] at h2
     split at h2
     ·rename_i vi m2 hoi
      split at h2
      ·rename_i hki
       injection h2 with h2
       subst h2
       suffices key : ∃ mi vj',A1 call b s.tm s.m i.op = some (vi,mi) /\ A1 call b s.tm mi j.op = some (vj',m2) /\ put s.tm j.dst vj' = put s.tm j.dst vj /\ ((i.less j).chk.all (D6 b s.tm mi)) = true /\ (j.chk.all (D6 b s.tm m2)) = true by
        obtain ⟨mi,vj',q1,q2,q3,q4,q5⟩:=key
        refine ⟨⟨put s.tm i.dst vi,mi⟩,?_,?_⟩
        ·simp only [B9,Step.less] at q4 ⊢
         simp only [hwi,if_true,q1,q4]
        ·simp only [B9,wj,oj,hwj,if_true,q2]
         rw [if_pos (kj _ _ q5),pc]
         congr 2
         have : put (put s.tm i.dst vi) j.dst vj' = put (put s.tm j.dst vj') i.dst vi:=(pc _ _).symm
         rw [this,q3,pc]
       cases hclj : j.op.cl with
       | P=>
        obtain ⟨rfl,hp⟩:=MH hclj hoj
        exact ⟨m2,vj,hoi,hp call m2,rfl,ki _ _ hki,by
         rcases (by simpa using hcj : j.chk = [] \/ j.op.cl = .H) with e | e
         ·rw [e]; rfl
         ·rw [hclj] at e; cases e⟩
       | R=>
        obtain ⟨rfl,hr⟩:=MG hclj hoj
        have ej : j.chk = []:=by
         rcases (by simpa using hcj : j.chk = [] \/ j.op.cl = .H) with e | e
         ·exact e
         ·rw [hclj] at e; cases e
        cases hcli : i.op.cl with
        | P=>
         obtain ⟨rfl,hp⟩:=MH hcli hoi
         exact ⟨_,vj,hoi,hoj,rfl,ki _ _ hki,by rw [ej]; rfl⟩
        | R=>
         obtain ⟨rfl,hp⟩:=MG hcli hoi
         exact ⟨_,vj,hoi,hoj,rfl,ki _ _ hki,by rw [ej]; rfl⟩
        | A=>
         obtain ⟨k,o,g1,g2,g3,rfl,g5⟩:=OI hcli hoi
         exact ⟨_,vj,hoi,hr call _ (ID o g2),rfl,ki _ _ hki,by rw [ej]; rfl⟩
        | H=>
         simp only [J1,hclj,hcli] at hmem
         obtain ⟨c,hcm,hab⟩:=List.any_eq_true.1 hmem
         simp only [TD,Bool.and_eq_true] at hab
         have e1:=gEq_eq hab.1.1
         have e2:=rdEq_eq hab.1.2
         have e3:=I7 hab.2
         have hck:=List.all_eq_true.1 hki c hcm
         have hd : j.dst = some c.dst:=e3
         have g0:=hj0 c.dst hd
         have hwc : CA (put s.tm j.dst vj) c.guard = true:=by
          rw [e1,JQ (fun t ht hm=>hj0 t ht (by simp [rdS,hm])),hwj]
         have hoc : ∀ m,A1 (fun _ _ _=>none) b (put s.tm j.dst vj) m c.op = A1 (fun _ _ _=>none) b s.tm m j.op:=fun m=>by
          rw [e2]; exact LE fun t ht hm=>hj0 t ht (by simp [rdS,hm])
         unfold D6 at hck
         rw [if_pos hwc,hoc] at hck
         split at hck
         ·rename_i v' m3 hv'
          have hsame:=AV.same_eq _ _ hck
          obtain ⟨rfl,hr'⟩:=MG hclj hv'
          refine ⟨_,v',hoi,hr' call _ (fun _ _=>rfl),?_,ki _ _ hki,by rw [ej]; rfl⟩
          rw [hd] at hsame ⊢
          simp only [put] at hsame ⊢
          by_cases hlen : c.dst < s.tm.length
          ·rw [List.getD_eq_getElem?_getD,List.getElem?_set,if_pos rfl,if_pos hlen] at hsame
           simp only [Option.getD_some] at hsame
           rw [hsame]
          ·rw [List.set_eq_of_length_le (by omega),List.set_eq_of_length_le (by omega)]
         ·cases hck
       | A=>
        obtain ⟨k,o,g1,g2,g3,rfl,g5⟩:=OI hclj hoj
        have ej : j.chk = []:=by
         rcases (by simpa using hcj : j.chk = [] \/ j.op.cl = .H) with e | e
         ·exact e
         ·rw [hclj] at e; cases e
        cases hcli : i.op.cl with
        | P=>
         obtain ⟨rfl,hp⟩:=MH hcli hoi
         have ei : i.chk = []:=by
          rcases (by simpa using hci : i.chk = [] \/ i.op.cl = .H) with e | e
          ·exact e
          ·rw [hcli] at e; cases e
         exact ⟨_,vj,hp call s.m,hoj,rfl,by simp [Step.less,ei],by rw [ej]; rfl⟩
        | R=>simp [J1,hclj,hcli] at hmem
        | H=>simp [J1,hclj,hcli] at hmem
        | A=>
         obtain ⟨k',o',p1,p2,p3,rfl,p5⟩:=OI hcli hoi
         have hne : b + k' ≠ b + k:=fun e=>by rw [Mem.get_set,if_pos e] at p2; cases p2
         have hg : s.m.get (b + k') = none:=by rw [Mem.get_set,if_neg hne] at p2; exact p2
         refine ⟨_,vj,p5 call s.m hg p3,?_,rfl,?_,by rw [ej]; rfl⟩
         ·rw [g5 call (s.m.set (b + k') o') (by rw [Mem.get_set,if_neg (fun e=>hne e.symm)]; exact g2) g3,Mem.set_comm _ _ _ _ _ hne]
         ·have ei : i.chk = []:=by
           rcases (by simpa using hci : i.chk = [] \/ i.op.cl = .H) with e | e
           ·exact e
           ·rw [hcli] at e; cases e
          simp [Step.less,ei]
       | H=>
        have hx:=H9 hc hoj
        have hsl : j.op.slotOf = none:=by
         exact slot_H hclj
        have ei : i.op.cl ≠ .H -> i.chk = []:=fun hne=>by
         rcases (by simpa using hci : i.chk = [] \/ i.op.cl = .H) with e | e
         ·exact e
         ·exact absurd e hne
        cases hcli : i.op.cl with
        | P=>
         obtain ⟨rfl,hp⟩:=MH hcli hoi
         exact ⟨_,vj,hp call s.m,hoj,rfl,by simp [Step.less,ei (by rw [hcli]; decide)],hkj⟩
        | R=>simp [J1,hclj,hcli] at hmem
        | H=>simp [J1,hclj,hcli] at hmem
        | A=>
         obtain ⟨k',o',p1,p2,p3,rfl,p5⟩:=OI hcli hoi
         have hg : s.m.get (b + k') = none:=by
          cases hg : s.m.get (b + k') with
          | none=>rfl
          | some o=>exact absurd p2 (hx.keep _ (by simp [hg]))
         have hlt:=hb k' p1
         have hmo:=hx.more (b + k') o' hg hlt (fun k hk=>by rw [hsl] at hk; cases hk)
         refine ⟨_,vj,p5 call s.m hg hlt,hmo,rfl,by simp [Step.less,ei (by rw [hcli]; decide)],?_⟩
         rw [List.all_eq_true] at hkj ⊢
         intro c hcm
         refine MM (hkj c hcm) o' p2 p3 fun k hk=>?_
         have hcl:=List.all_eq_true.1 hcr c hcm
         simp only [decide_eq_true_eq] at hcl
         rw [slot_R hcl] at hk; cases hk
      ·cases h2
     ·cases h2
    ·rw [if_neg hwi] at h2
     injection h2 with h2
     subst h2
     refine ⟨⟨put s.tm i.dst .undef,s.m⟩,by simp only [B9,Step.less,hwi,if_false,Bool.false_eq_true],?_⟩
     simp only [B9,wj,oj,hwj,if_true,hoj]
     rw [if_pos (kj _ _ hkj),pc]
   ·cases h1
  ·cases h1
 ·rw [if_neg hwj] at h1
  injection h1 with h1
  subst h1
  unfold B9 at h2
  simp only [wi,oi] at h2
  by_cases hwi : CA s.tm i.guard = true
  ·rw [if_pos hwi] at h2
   split at h2
   ·rename_i vi m2 hoi
    split at h2
    ·rename_i hki
     injection h2 with h2
     subst h2
     refine ⟨⟨put s.tm i.dst vi,m2⟩,?_,?_⟩
     ·have q4:=ki _ _ hki
      simp only [B9,Step.less] at q4 ⊢
      simp only [hwi,if_true,hoi,q4]
     ·simp only [B9,wj]
      rw [if_neg hwj,pc]
    ·cases h2
   ·cases h2
  ·rw [if_neg hwi] at h2
   injection h2 with h2
   subst h2
   refine ⟨⟨put s.tm i.dst .undef,s.m⟩,by simp only [B9,Step.less,hwi,if_false,Bool.false_eq_true],?_⟩
   simp only [B9,wj]
   rw [if_neg hwj,pc]
theorem TT {j j' i : Step} (h : J1 j' i = true) (hd : ∀ t,j'.dst = some t -> j.dst ≠ some t) : J1 j' (i.less j) = true:=by
 have key : i.chk.any (TD j') = true -> (i.less j).chk.any (TD j') = true:=by
  intro h
  obtain ⟨c,hc,ha⟩:=List.any_eq_true.1 h
  refine List.any_eq_true.2 ⟨c,List.mem_filter.2 ⟨hc,?_⟩,ha⟩
  simp only [TD,Bool.and_eq_true] at ha
  have hdj:=I7 ha.2
  have:=hd c.dst hdj
  cases hj : j.dst with
  | none=>rfl
  | some t=>
   simp only [D8,Bool.not_eq_true',decide_eq_false_iff_not]
   intro e
   exact this (by rw [hj,e])
 unfold J1 at h ⊢
 have e : (i.less j).op = i.op:=rfl
 rw [e]
 generalize j'.op.cl = a at *
 generalize i.op.cl = b at *
 cases a <;> cases b <;> first | rfl | exact key h | exact h
theorem O7 {j j' i : Step} (h : C6 j' i = true) (hd : ∀ t,j'.dst = some t -> j.dst ≠ some t) : C6 j' (i.less j) = true:=by
 simp only [C6,Bool.and_eq_true] at h ⊢
 obtain ⟨⟨⟨⟨⟨h1,h2⟩,h3⟩,h4⟩,h5⟩,h6⟩:=h
 refine ⟨⟨⟨⟨⟨?_,h2⟩,?_⟩,h4⟩,h5⟩,TT h6 hd⟩
 ·cases hj : j'.dst with
  | none=>rfl
  | some t=>
   simp only [hj,Bool.and_eq_true] at h1 ⊢
   refine ⟨h1.1,?_⟩
   rw [List.all_eq_true] at h1 ⊢
   exact fun c hc=>h1.2 c (List.mem_filter.1 hc).1
 ·rcases (by simpa using h3 : i.chk = [] \/ i.op.cl = .H) with e | e
  ·simp [Step.less,e]
  ·simp [Step.less,e]
theorem QW {call : BN} (hc : DF call) {b : Nat} {l : List Step} {s s' : St} (h : A9 call b l s = some s') : s.m.next <= s'.m.next:=(HD hc l s s' h).1
def Step.lessL (i : Step) (b : List Step) : Step:=b.foldr (fun j i=>i.less j) i
theorem H6 (i : Step) : ∀ (b : List Step),(i.lessL b).chk = i.chk.filter fun c=>b.all fun z=>!D8 z.dst (some c.dst)
 | []=>by
  simp only [Step.lessL,List.foldr_nil,List.all_nil]
  exact (List.filter_eq_self.2 fun _ _=>rfl).symm
 | z :: b=>by
  have ih:=H6 i b
  show ((i.lessL b).less z).chk = _
  show (i.lessL b).chk.filter _ = _
  rw [ih,List.filter_filter]
  rfl
theorem EL (i : Step) : ∀ (b : List Step),(i.lessL b).op = i.op /\ (i.lessL b).dst = i.dst /\ (i.lessL b).guard = i.guard
 | []=>⟨rfl,rfl,rfl⟩
 | z :: b=>EL i b
theorem GZ {j i : Step} : ∀ {b : List Step},C6 j i = true -> (∀ z ∈ b,∀ t,j.dst = some t -> z.dst ≠ some t) -> C6 j (i.lessL b) = true
 | [],h,_=>h
 | z :: b,h,hd=>O7 (GZ h fun z hz=>hd z (by simp [hz])) (hd z (by simp))
theorem RN {i k : Step} (h1 : i.dst = k.dst) (h2 : i.guard = k.guard) (h3 : i.op = k.op) (h4 : i.chk = k.chk) : i = k:=by
 cases i; cases k; simp_all
theorem KH {call : BN} (hc : DF call) {b : Nat} : ∀ (n : Nat) (pre : List Step),pre.length = n -> ∀ (i : Step) (post : List Step) (s sf : St),(∀ p j q,pre = p ++ j :: q -> C6 j (i.lessL q) = true) -> (∀ k,i.op.slotOf = some k -> b + k < s.m.next) -> A9 call b (pre ++ i :: post) s = some sf ->
  ∃ v m',(if CA s.tm i.guard then A1 call b s.tm s.m i.op = some (v,m') else v = .undef /\ m' = s.m) /\ A9 call b (pre ++ post) ⟨put s.tm i.dst v,m'⟩ = some sf
 | 0,pre,hn,i,post,s,sf,_,_,h=>by
  obtain rfl : pre = []:=List.eq_nil_of_length_eq_zero hn
  simp only [List.nil_append,A9] at h ⊢
  split at h
  ·rename_i hw
   split at h
   ·rename_i v m1 ho
    split at h
    ·exact ⟨v,m1,by rw [if_pos hw]; exact ho,h⟩
    ·cases h
   ·cases h
  ·rename_i hw
   exact ⟨.undef,s.m,by rw [if_neg hw]; exact ⟨rfl,rfl⟩,h⟩
 | n + 1,pre,hn,i,post,s,sf,hcm,hb,h=>by
  obtain ⟨pre',j,rfl⟩ : ∃ pre' j,pre = pre' ++ [j]:=⟨pre.dropLast,pre.getLast (by intro e; simp [e] at hn),(List.dropLast_concat_getLast _).symm⟩
  simp only [List.append_assoc,List.singleton_append] at h
  rw [GX] at h
  cases h1 : A9 call b pre' s with
  | none=>simp [h1] at h
  | some s0=>
   simp only [h1,Option.bind_some,D3] at h
   cases h2 : B9 call b j s0 with
   | none=>simp [h2] at h
   | some s1=>
    simp only [h2,Option.bind_some,D3] at h
    cases h3 : B9 call b i s1 with
    | none=>simp [h3] at h
    | some s2=>
     simp only [h3,Option.bind_some] at h
     obtain ⟨s1',q1,q2⟩:=swap hc (show C6 j i = true from hcm pre' j [] rfl) (fun k hk=>Nat.lt_of_lt_of_le (hb k hk) (QW hc h1)) h2 h3
     have:=KH hc n pre' (by simpa using hn) (i.less j) (j :: post) s sf (fun p j' q e=>by
      have:=hcm p j' (q ++ [j]) (by rw [e]; simp)
      simpa [Step.lessL] using this) hb (by
      rw [GX,h1]
      simp only [Option.bind_some,D3,q1,q2]
      exact h)
     obtain ⟨v,m',g1,g2⟩:=this
     refine ⟨v,m',g1,?_⟩
     have e : (i.less j).dst = i.dst:=rfl
     rw [e] at g2
     simpa using g2
end Go.Proofs.YtdljelicbnjfjaaGreat.X
namespace Go.Proofs.YtdljelicbnjfjaaGreat.X
open Go Go.RowKit
def K6 (ops : Array Oper) : Option (Nat × Bool) -> Option (Nat × Bool) -> Bool
 | none,none=>true
 | some (j,b),some (t,b')=>(b == b') && D8 ((ops[j]?).bind (·.dst)) (some t)
 | _,_=>false
def P9 : IOp -> Bool
 | .ext (.c .undef) 0=>true
 | _=>false
theorem TH {call : BN} {b : Nat} {tm : List AV} {m : Mem} {op : IOp} (h : P9 op = true) : A1 call b tm m op = none:=by
 unfold P9 at h
 split at h
 ·rfl
 ·cases h
def KG (P : Program) (ops : Array Oper) (o : Oper) (s : Step) : Bool:=(P9 s.op || QM P o.op s.op) && D8 o.dst s.dst && K6 ops o.guard s.guard
def JZ (P : Program) (ops : Array Oper) : List Oper -> List Step -> Bool
 | [],[]=>true
 | o :: l,s :: l'=>KG P ops o s && JZ P ops l l'
 | _,_=>false
def R1 (P : Program) (ops : Array Oper) (x : Nat × Step) : Bool:=match ops[x.1]? with | some o=>KG P ops o x.2 | none=>false
def IY (anc : List (List Nat)) (i : Nat) : List Nat:=anc.getD i []
def PO (ops : Array Oper) (anc : List (List Nat)) (i : Nat) : Bool:=
 match ops[i]? with
 | some o=>(IY anc i).all fun j=>o.after.any fun e=>Region.binds .any e && decide (e.on < i) && (decide (e.on = j) || (IY anc e.on).contains j)
 | none=>true
def TP (anc : List (List Nat)) (L : List (Nat × Step)) (x y : Nat × Step) : Step:=
 { y.2 with chk:=y.2.chk.filter fun c=>!L.any fun z=>D8 z.2.dst (some c.dst) && ((IY anc z.1).contains x.1 && !decide (z.1 = x.1)) }
def FB (ops : Array Oper) (anc : List (List Nat)) (L : List (Nat × Step)) (x y : Nat × Step) : Bool:=
 ((IY anc y.1).contains x.1 || C6 x.2 (TP anc L x y)) &&
 (match x.2.dst with | some t=>!D8 y.2.dst (some t) | none=>true) &&
 (match ops[x.1]? with | some o=>o.after.all (fun e=>!Region.binds .any e || !decide (e.on = y.1)) | none=>true) &&
 (!(IY anc x.1).contains y.1 && x.2.chk.all (fun c=>!D8 y.2.dst (some c.dst)))
def NE (ops : Array Oper) (anc : List (List Nat)) (L : List (Nat × Step)) : List (Nat × Step) -> Bool
 | []=>true
 | x :: l=>l.all (FB ops anc L x) && NE ops anc L l
def IK (ops : Array Oper) (i : Nat) : Bool:=match ops[i]? with | some o=>o.after.all (fun e=>!Region.binds .any e || decide (e.on < i)) | none=>true
theorem FA {ops : Array Oper} {anc : List (List Nat)} {L : List (Nat × Step)} : ∀ {l : List (Nat × Step)},NE ops anc L l = true -> l.Pairwise fun x y=>FB ops anc L x y = true
 | [],_=>List.Pairwise.nil
 | x :: l,h=>by
  simp only [NE,Bool.and_eq_true] at h
  exact List.Pairwise.cons (fun y hy=>List.all_eq_true.1 h.1 y hy) (FA h.2)
def QN (P : Program) (ops : Array Oper) (n : Nat) (pi : List Nat) (anc : List (List Nat)) (steps : List Step) : Bool:=
 decide (pi.length = steps.length) && decide (pi.length = ops.size) && decide (∀ i ∈ List.range ops.size,i ∈ pi) && decide pi.Nodup &&
 (pi.zip steps).all (R1 P ops) && (List.range ops.size).all (PO ops anc) && (List.range ops.size).all (IK ops) && NE ops anc (pi.zip steps) (pi.zip steps) &&
 steps.all fun s=>match s.op.slotOf with | some k=>decide (k < n) | none=>true
def BT (P : Program) : Code -> D1 -> Bool
 | .skip,.skip=>true
 | .region _ ops draw,.reg n pi anc steps=>if draw then QN P ops n pi anc steps else JZ P ops ops.toList steps
 | .seq a b,.seq a' b'=>BT P a a' && BT P b b'
 | .cond c a b,.cond c' a' b'=>BV c c' && BT P a a' && BT P b b'
 | .block i c,.block i' c'=>decide (i = i') && BT P c c'
 | .loop c,.loop c'=>BT P c c'
 | .exit i,.exit i'=>decide (i = i')
 | .ret,.ret=>true
 | .label _,.skip=>true
 | .scope c,c'=>BT P c c'
 | _,_=>false
def U7 (P : Program) : ResultVar -> LN -> Bool
 | .tmp t,.tmp t'=>decide (t = t')
 | .cell b t,.cell b' n=>decide (b = b') && IZ P t n
 | _,_=>false
def I9 (P : Program) : List ResultVar -> List LN -> Bool
 | [],[]=>true
 | x :: l,y :: l'=>U7 P x y && I9 P l l'
 | _,_=>false
def NW (P : Program) (f : FuncId) (i : AN) : Bool:=
 E0 P f && match P.funcs[f]? with
 | some fn=>match fn.body with
  | some c=>BT P c i.body && decide (fn.ntmps = i.ntmps) && I9 P fn.results.toList i.results
  | none=>false
 | none=>false
structure Rl (P : Program) (base : Nat) (ρ : Map) (w0 : World) (s : St) (a : Act) (w : World) : Prop where
 tm : VRL ρ s.tm a.tmps.toList
 df : a.defers = []
 mr : MR P base ρ s.m w
 bel : Below base w0 w
section
variable {P : Program} {base : Nat} {ρ : Map} {w0 w : World} {a : Act} {call : BN}
theorem RI {ops : Array Oper} {g : Option (Nat × Bool)} {g' : Option (Nat × Bool)} (hg : K6 ops g g' = true) {tm : List AV} (ht : VRL ρ tm a.tmps.toList) (o : Oper) (ho : o.guard = g) : Region.wanted o (yielded ops a.tmps) = CA tm g':=by
 subst ho
 unfold Region.wanted
 cases hgo : o.guard with
 | none=>
  cases g' with
  | none=>rfl
  | some x=>simp [hgo,K6] at hg
 | some x=>
  obtain ⟨j,b⟩:=x
  cases g' with
  | none=>simp [hgo,K6] at hg
  | some y=>
   obtain ⟨t,b'⟩:=y
   simp only [hgo,K6,Bool.and_eq_true] at hg
   have hb : b = b':=by simpa using hg.1
   have hd:=I7 hg.2
   subst hb
   simp only [yielded,hd,Option.bind_some,CA]
   cases hx : tm[t]? with
   | none=>
    have hl:=ht.length
    have hx' : tm.length <= t:=List.getElem?_eq_none_iff.1 hx
    rw [Array.getElem?_eq_none (by simp at hl; omega)]
    simp [List.getD_eq_getElem?_getD,hx]
   | some v=>
    obtain ⟨u,hu,hv⟩:=ht.get t v hx
    rw [Array.getElem?_toList] at hu
    rw [hu]
    simp only [List.getD_eq_getElem?_getD,hx,Option.getD_some]
    cases v <;> simp only [VR] at hv
    case bool c=>subst hv; cases c <;> cases b <;> rfl
    case ptr=>obtain ⟨_,_,rfl⟩:=hv; rfl
    case sl=>obtain ⟨_,_,_,_,_,_,rfl⟩:=hv; rfl
    case fn=>obtain ⟨_,_,_,_,rfl⟩:=hv; rfl
    case agg=>obtain ⟨_,_,rfl⟩:=hv; rfl
    case tup=>obtain ⟨_,_,rfl⟩:=hv; rfl
    all_goals (subst hv; rfl)
theorem QG {tm : List AV} (ht : VRL ρ tm a.tmps.toList) {d d' : Option Nat} (hd : d = d') {v : AV} {u : Value} (hv : VR ρ v u) : VRL ρ (put tm d' v) (a.put d u).tmps.toList:=by
 subst hd
 cases d with
 | none=>exact ht
 | some t=>simpa [put,Act.put] using ht.set t hv
theorem KD (d : Option Nat) (u : Value) : (a.put d u).defers = a.defers:=by cases d <;> rfl
theorem NA (hcall : D5 P base call) {ops : Array Oper} {i : Nat} {o : Oper} {st : Step} (ho : ops[i]? = some o) (hok : KG P ops o st = true) {s : St} (hs : Rl P base ρ w0 s a w) {b : Nat} {v : AV} {m' : Mem}
  (he : if CA s.tm st.guard then A1 call b s.tm s.m st.op = some (v,m') else v = .undef /\ m' = s.m) {Q : Exit -> Act -> World -> Prop} {K : Act -> World -> Prop}
  (hK : ∀ ρ' a' w',ρ.le ρ' -> Rl P base ρ' w0 ⟨put s.tm st.dst v,m'⟩ a' w' -> K a' w') : wpOp P ops Q i K a w:=by
 simp only [KG,Bool.and_eq_true,Bool.or_eq_true] at hok
 obtain ⟨⟨h1,h2⟩,h3⟩:=hok
 have hd:=I7 h2
 have hw:=RI h3 hs.tm o rfl
 unfold wpOp
 simp only [ho,hw]
 by_cases hwt : CA s.tm st.guard = true
 ·simp only [hwt,if_true] at he ⊢
  have h1 : QM P o.op st.op = true:=by
   rcases h1 with h1 | h1
   ·rw [TH h1] at he; cases he
   ·exact h1
  refine .inl ?_
  rcases op_runs hcall hs.tm hs.mr h1 he with hr | hr
  ·obtain ⟨nx,u,w',ρ',r1,r2,r3,r4,r5,r6⟩:=hr
   have hfin : K (a.put o.dst u) w':=hK ρ' _ _ r3 ⟨QG (hs.tm.mono r3) hd r4,by rw [KD]; exact hs.df,r5,hs.bel.trans r6⟩
   unfold Oper.wp
   rw [r1]
   rcases r2 with rfl | ⟨rfl,rfl⟩
   ·exact hfin
   ·exact hfin
  ·obtain ⟨f,args,r1,r2⟩:=hr
   unfold Oper.wp
   rw [r1]
   refine Calls.mono r2 ?_
   rintro e w' ⟨ρ',u,q1,rfl,q3,q4,q5⟩
   exact hK ρ' _ _ q1 ⟨QG (hs.tm.mono q1) hd q3,by rw [KD]; exact hs.df,q4,hs.bel.trans q5⟩
 ·simp only [hwt] at he ⊢
  obtain ⟨rfl,rfl⟩:=he
  exact hK ρ _ _ ρ.le_refl ⟨QG hs.tm hd (by simp [VR,Go.undef]),by rw [KD]; exact hs.df,hs.mr,hs.bel⟩
theorem XK (hcall : D5 P base call) {ops : Array Oper} {b : Nat} {Q : Exit -> Act -> World -> Prop} : ∀ (k : Nat) (l : List Oper) (steps : List Step) (ρ : Map) (s sf : St) (a : Act) (w : World),ops.toList.drop k = l -> JZ P ops l steps = true -> Rl P base ρ w0 s a w ->
  A9 call b steps s = some sf -> (∀ ρ' a' w',ρ.le ρ' -> Rl P base ρ' w0 sf a' w' -> Q .normal a' w') -> wpOps P ops Q ((List.range ops.size).drop k) a w
 | k,[],[],ρ,s,sf,a,w,hl,_,hs,he,hQ=>by
  have : ops.size <= k:=by
   have:=congrArg List.length hl
   simp at this; omega
  rw [List.drop_eq_nil_of_le (by simpa using this)]
  simp only [A9] at he
  injection he with he
  subst he
  exact hQ ρ a w ρ.le_refl hs
 | k,[],st :: steps,ρ,s,sf,a,w,hl,hok,hs,he,hQ=>by simp [JZ] at hok
 | k,o :: l,[],ρ,s,sf,a,w,hl,hok,hs,he,hQ=>by simp [JZ] at hok
 | k,o :: l,st :: steps,ρ,s,sf,a,w,hl,hok,hs,he,hQ=>by
  simp only [JZ,Bool.and_eq_true] at hok
  have hk : k < ops.size:=by
   have:=congrArg List.length hl
   simp at this; omega
  have hcons:=List.drop_eq_getElem_cons (l:=ops.toList) (i:=k) (by simpa using hk)
  rw [hcons] at hl
  injection hl with hl1 hl2
  have ho : ops[k]? = some o:=by rw [<- hl1]; simp [hk]
  rw [List.drop_eq_getElem_cons (by simpa using hk),List.getElem_range,wpOps_cons]
  rw [D3] at he
  cases h1 : B9 call b st s with
  | none=>simp [h1] at he
  | some s1=>
   simp only [h1,Option.bind_some] at he
   have hcase : ∃ v m',(if CA s.tm st.guard then A1 call b s.tm s.m st.op = some (v,m') else v = .undef /\ m' = s.m) /\ s1 = ⟨put s.tm st.dst v,m'⟩:=by
    unfold B9 at h1
    split at h1
    ·rename_i hw
     split at h1
     ·rename_i v m' hv
      split at h1
      ·injection h1 with h1
       exact ⟨v,m',by rw [if_pos hw]; exact hv,h1.symm⟩
      ·cases h1
     ·cases h1
    ·rename_i hw
     injection h1 with h1
     exact ⟨.undef,s.m,by rw [if_neg hw]; exact ⟨rfl,rfl⟩,h1.symm⟩
   obtain ⟨v,m',g1,rfl⟩:=hcase
   refine NA hcall ho hok.1 hs g1 fun ρ' a' w' hρ hr=>?_
   exact XK hcall (k + 1) l steps ρ' _ sf a' w' hl2 hok.2 hr he fun ρ'' a'' w'' hρ' hr'=>hQ ρ'' a'' w'' (Map.le_trans hρ hρ') hr'
theorem L0 : ∀ {L : List (Nat × Step)},(L.map (·.1)).Nodup -> ∀ x ∈ L,∀ y ∈ L,x.1 = y.1 -> x = y
 | [],_,x,hx,_,_,_=>by cases hx
 | u :: L,hn,x,hx,y,hy,e=>by
  obtain ⟨h1,h2⟩:=List.nodup_cons.1 (by simpa using hn : (u.1 :: L.map (·.1)).Nodup)
  rcases List.mem_cons.1 hx with hxu | hxl
  ·rcases List.mem_cons.1 hy with hyu | hyl
   ·rw [hxu,hyu]
   ·exact absurd (List.mem_map.2 ⟨y,hyl,by rw [<- e,hxu]⟩) h1
  ·rcases List.mem_cons.1 hy with hyu | hyl
   ·exact absurd (List.mem_map.2 ⟨x,hxl,by rw [e,hyu]⟩) h1
   ·exact L0 h2 x hxl y hyl e
structure RD (P : Program) (ops : Array Oper) (anc : List (List Nat)) (L : List (Nat × Step)) (listed : Array Bool) (rem : List (Nat × Step)) : Prop where
 ok : ∀ x ∈ rem,R1 P ops x = true
 pairs : rem.Pairwise fun x y=>FB ops anc L x y = true
 sub : rem.Sublist L
 nodupL : (L.map (·.1)).Nodup
 full : ∀ z ∈ L,z.1 < ops.size
 size : listed.size = ops.size
 lst : ∀ j,j < ops.size -> (listed.getD j true = false ↔ j ∈ rem.map (·.1))
 closed : ∀ j o,ops[j]? = some o -> j ∉ rem.map (·.1) -> ∀ e ∈ o.after,Region.binds .any e = true -> e.on ∉ rem.map (·.1)
 nodup : (rem.map (·.1)).Nodup
theorem LL {ops : Array Oper} {anc : List (List Nat)} (hanc : (List.range ops.size).all (PO ops anc) = true) (out : Nat -> Prop) (hcl : ∀ j o,ops[j]? = some o -> out j -> ∀ e ∈ o.after,Region.binds .any e = true -> out e.on) :
  ∀ (n i : Nat),i < n -> ∀ o,ops[i]? = some o -> (∀ e ∈ o.after,Region.binds .any e = true -> out e.on) -> ∀ j ∈ IY anc i,out j
 | 0,i,h,_,_,_,_,_=>by omega
 | n + 1,i,hi,o,ho,hr,j,hj=>by
  have hlt : i < ops.size:=(Array.getElem?_eq_some_iff.1 ho).1
  have h:=List.all_eq_true.1 hanc i (by simpa using hlt)
  simp only [PO,ho] at h
  have h2:=List.all_eq_true.1 h j hj
  obtain ⟨e,he,hb⟩:=Array.any_eq_true'.1 h2
  simp only [Bool.and_eq_true,Bool.or_eq_true,decide_eq_true_eq] at hb
  obtain ⟨⟨hb1,hb2⟩,hb3⟩:=hb
  have hout:=hr e he hb1
  rcases hb3 with rfl | hb3
  ·exact hout
  ·have hlt' : e.on < ops.size:=by omega
   have ho' : ops[e.on]? = some ops[e.on]:=by simp [hlt']
   exact LL hanc out hcl n e.on (by omega) _ ho' (hcl e.on _ ho' hout) j (by simpa using hb3)
theorem bG (hcall : D5 P base call) (hx : DF call) {ops : Array Oper} {anc : List (List Nat)} (hanc : (List.range ops.size).all (PO ops anc) = true) (hback : (List.range ops.size).all (IK ops) = true) {L : List (Nat × Step)} {b : Nat} {Q : Exit -> Act -> World -> Prop} :
  ∀ (fuel : Nat) (rem : List (Nat × Step)) (listed : Array Bool) (ρ : Map) (s sf : St) (a : Act) (w : World),rem.length <= fuel -> RD P ops anc L listed rem -> Rl P base ρ w0 s a w ->
   (∀ x ∈ rem,∀ k,x.2.op.slotOf = some k -> b + k < s.m.next) -> A9 call b (rem.map (·.2)) s = some sf -> (∀ ρ' a' w',ρ.le ρ' -> Rl P base ρ' w0 sf a' w' -> Q .normal a' w') -> wpAny P .any ops Q fuel listed a w:=by
 intro fuel
 have first : ∀ (x : Nat × Step) (rem : List (Nat × Step)) (listed : Array Bool),RD P ops anc L listed (x :: rem) -> x.1 ∈ Region.ready .any ops listed:=by
  intro x rem listed hl
  have hok:=hl.ok x (by simp)
  unfold R1 at hok
  cases ho : ops[x.1]? with
  | none=>simp [ho] at hok
  | some o=>
   have hlt : x.1 < ops.size:=(Array.getElem?_eq_some_iff.1 ho).1
   refine mem_ready.2 ⟨(hl.lst _ hlt).2 (by simp),o,ho,fun e he hb=>?_⟩
   have hbk:=List.all_eq_true.1 hback x.1 (by simpa using hlt)
   simp only [IK,ho] at hbk
   have hbk2:=Array.all_eq_true_iff_forall_mem.1 hbk e he
   simp only [hb,Bool.not_true,Bool.false_or,decide_eq_true_eq] at hbk2
   have hlt' : e.on < ops.size:=by omega
   have hnot : e.on ∉ (x :: rem).map (·.1):=by
    intro hm
    simp only [List.map_cons,List.mem_cons,List.mem_map] at hm
    rcases hm with hm | ⟨y,hy,hym⟩
    ·omega
    ·have hp:=List.rel_of_pairwise_cons hl.pairs hy
     simp only [FB,ho,Bool.and_eq_true] at hp
     have:=Array.all_eq_true_iff_forall_mem.1 hp.1.2 e he
     simp [hb,hym] at this
   have h2 : ¬ listed.getD e.on true = false:=fun h=>hnot ((hl.lst _ hlt').1 h)
   have hsz : e.on < listed.size:=by rw [hl.size]; exact hlt'
   simp [Array.getD_eq_getD_getElem?,hsz] at h2 ⊢
   exact h2
 induction fuel with
 | zero=>
  intro rem listed ρ s sf a w hlen hl hs _ he hQ
  obtain rfl : rem = []:=List.eq_nil_of_length_eq_zero (by omega)
  simp only [List.map_nil,A9] at he
  injection he with he
  subst he
  refine ⟨?_,hQ ρ a w ρ.le_refl hs⟩
  cases hr : Region.ready .any ops listed with
  | nil=>rfl
  | cons i l=>
   have hi : i ∈ Region.ready .any ops listed:=by rw [hr]; simp
   obtain ⟨h1,o,ho,_⟩:=mem_ready.1 hi
   have hlt : i < ops.size:=(Array.getElem?_eq_some_iff.1 ho).1
   have:=(hl.lst i hlt).1 h1
   simp at this
 | succ fuel ih=>
  intro rem listed ρ s sf a w hlen hl hs hb he hQ
  refine ⟨fun hr=>?_,fun i hi=>?_⟩
  ·cases rem with
   | nil=>
    simp only [List.map_nil,A9] at he
    injection he with he
    subst he
    exact hQ ρ a w ρ.le_refl hs
   | cons x rem=>
    have:=first x rem listed hl
    rw [hr] at this
    cases this
  ·obtain ⟨h1,o,ho,hafter⟩:=mem_ready.1 hi
   have hlt : i < ops.size:=(Array.getElem?_eq_some_iff.1 ho).1
   have hmem:=(hl.lst i hlt).1 h1
   obtain ⟨x,hx1,rfl⟩:=List.mem_map.1 hmem
   obtain ⟨pre,post,rfl⟩:=List.append_of_mem hx1
   have hok:=hl.ok x hx1
   simp only [R1,ho] at hok
   have hpw:=List.pairwise_append.1 hl.pairs
   have outs : ∀ e ∈ o.after,Region.binds .any e = true -> e.on ∉ (pre ++ x :: post).map (·.1):=by
    intro e he' hbd hin
    have hl2:=hafter e he' hbd
    have hbk:=List.all_eq_true.1 hback x.1 (by simpa using hlt)
    simp only [IK,ho] at hbk
    have hbk2:=Array.all_eq_true_iff_forall_mem.1 hbk e he'
    simp only [hbd,Bool.not_true,Bool.false_or,decide_eq_true_eq] at hbk2
    have h3:=(hl.lst e.on (by omega)).2 hin
    have hsz : e.on < listed.size:=by rw [hl.size]; omega
    simp [Array.getD_eq_getD_getElem?,hsz] at h3 hl2
    rw [h3] at hl2
    cases hl2
   have hancout:=LL hanc (fun j=>j ∉ (pre ++ x :: post).map (·.1)) (fun j o' ho' hj=>hl.closed j o' ho' hj) (x.1 + 1) x.1 (by omega) o ho outs
   have hdst : (pre.map (·.2)).Pairwise (fun x y=>∀ t,x.dst = some t -> y.dst ≠ some t):=by
    rw [List.pairwise_map]
    refine hpw.1.imp fun {y z} hp=>?_
    simp only [FB,Bool.and_eq_true] at hp
    intro t ht hz
    have:=hp.1.1.2
    simp [ht,hz,D8] at this
   have hcm : ∀ p j q,pre.map (·.2) = p ++ j :: q -> C6 j (x.2.lessL q) = true:=by
    intro p j q e
    obtain ⟨p',t',rfl,rfl,e2⟩:=List.map_eq_append_iff.1 e
    obtain ⟨y,q',rfl,rfl,rfl⟩:=List.map_eq_cons_iff.1 e2
    have hp:=hpw.2.2 y (by simp) x (by simp)
    simp only [FB,Bool.and_eq_true,Bool.or_eq_true] at hp
    have hyr : y.1 ∈ ((p' ++ y :: q') ++ x :: post).map (·.1):=List.mem_map.2 ⟨y,by simp,rfl⟩
    rcases hp.1.1.1 with h | h
    ·exact absurd hyr (hancout y.1 (by simpa using h))
    ·have hq : ∀ z ∈ q'.map (·.2),∀ t,y.2.dst = some t -> z.dst ≠ some t:=by
      have hd1:=(List.pairwise_append.1 (by simpa using hdst)).2.1
      exact fun z hz=>List.rel_of_pairwise_cons hd1 hz
     have h2:=GZ (b:=q'.map (·.2)) h hq
     have e3 : (TP anc L y x).lessL (q'.map (·.2)) = x.2.lessL (q'.map (·.2)):=by
      have o1:=EL (TP anc L y x) (q'.map (·.2))
      have o2:=EL x.2 (q'.map (·.2))
      refine RN (by rw [o1.2.1,o2.2.1]; rfl) (by rw [o1.2.2,o2.2.2]; rfl) (by rw [o1.1,o2.1]; rfl) ?_
      rw [H6,H6]
      simp only [TP,List.filter_filter]
      refine List.filter_congr fun c hc=>?_
      by_cases hall : ((q'.map (·.2)).all fun z=>!D8 z.dst (some c.dst)) = true
      ·rw [hall,Bool.true_and]
       by_cases hany : (L.any fun z=>D8 z.2.dst (some c.dst) && ((IY anc z.1).contains y.1 && !decide (z.1 = y.1))) = true
       ·exfalso
        obtain ⟨z,hz,hz2⟩:=List.any_eq_true.1 hany
        simp only [Bool.and_eq_true,Bool.not_eq_true',decide_eq_false_iff_not] at hz2
        obtain ⟨hz3,hz4,hz5⟩:=hz2
        have hzr : z.1 ∈ ((p' ++ y :: q') ++ x :: post).map (·.1):=by
         apply Classical.byContradiction
         intro hno
         have hzlt:=hl.full z hz
         have ho' : ops[z.1]? = some ops[z.1]:=by simp [hzlt]
         have:=LL hanc (fun j=>j ∉ ((p' ++ y :: q') ++ x :: post).map (·.1)) (fun j o' ho' hj=>hl.closed j o' ho' hj) (z.1 + 1) z.1 (by omega) _ ho' (hl.closed z.1 _ ho' hno) y.1 (by simpa using hz4)
         exact this hyr
        obtain ⟨z',hz',hzz⟩:=List.mem_map.1 hzr
        have hze : z' = z:=by
         have hn:=hl.nodupL
         have hz'':=hl.sub.subset hz'
         exact L0 hn _ hz'' _ hz hzz
        subst hze
        simp only [List.append_assoc,List.mem_append,List.mem_cons] at hz'
        have hpw2:=hl.pairs
        simp only [List.append_assoc,List.cons_append] at hpw2
        have hpa:=List.pairwise_append.1 hpw2
        rcases hz' with hz' | (hz' | hz') | hz' | hz'
        ·have:=hpa.2.2 z' hz' y (by simp)
         simp only [FB,Bool.and_eq_true,Bool.not_eq_true'] at this
         rw [this.2.1] at hz4
         cases hz4
        ·exact hz5 (by rw [hz'])
        ·have:=List.all_eq_true.1 hall z'.2 (List.mem_map.2 ⟨z',hz',rfl⟩)
         rw [hz3] at this
         cases this
        ·rw [hz'] at hz4
         exact absurd hyr (hancout y.1 (by simpa using hz4))
        ·have:=List.rel_of_pairwise_cons (List.pairwise_append.1 hl.pairs).2.1 hz'
         simp only [FB,Bool.and_eq_true] at this
         have:=List.all_eq_true.1 this.2.2 c hc
         rw [hz3] at this
         cases this
       ·simp only [Bool.not_eq_true] at hany
        rw [hany]
        rfl
      ·simp only [Bool.not_eq_true] at hall
       rw [hall,Bool.false_and]
     rw [e3] at h2
     exact h2
   rw [List.map_append,List.map_cons] at he
   obtain ⟨v,m',g1,g2⟩:=KH hx _ (pre.map (·.2)) rfl x.2 (post.map (·.2)) s sf hcm (fun k hk=>hb x hx1 k hk) he
   refine NA hcall ho hok hs g1 fun ρ' a' w' hρ hr=>?_
   have hnext : s.m.next <= m'.next:=by
    split at g1
    ·exact (H9 hx g1).next
    ·rw [g1.2]; exact Nat.le_refl _
   have hnd:=hl.nodup
   refine ih (pre ++ post) (listed.setIfInBounds x.1 true) ρ' _ sf a' w' (by simp at hlen ⊢; omega) ?_ hr (fun y hy k hk=>Nat.lt_of_lt_of_le (hb y (by simp at hy ⊢; rcases hy with h | h <;> simp [h]) k hk) hnext) (by rw [List.map_append]; exact g2) fun ρ'' a'' w'' h1 h2=>hQ ρ'' a'' w'' (Map.le_trans hρ h1) h2
   have hsub : (pre ++ post).Sublist (pre ++ x :: post):=List.Sublist.append_left (List.sublist_cons_self x post) pre
   have hxn : x.1 ∉ (pre ++ post).map (·.1):=by
    rw [List.map_append,List.map_cons] at hnd
    have:=List.nodup_append.1 hnd
    intro hin
    rw [List.map_append,List.mem_append] at hin
    rcases hin with h | h
    ·exact this.2.2 _ h _ (by simp) rfl
    ·exact (List.nodup_cons.1 this.2.1).1 h
   have hmm : ∀ j,j ∈ (pre ++ post).map (·.1) ↔ j ∈ (pre ++ x :: post).map (·.1) /\ j ≠ x.1:=by
    intro j
    constructor
    ·intro h
     refine ⟨(hsub.map _).subset h,fun e=>hxn (e ▸ h)⟩
    ·rintro ⟨h,hne⟩
     simp only [List.map_append,List.map_cons,List.mem_append,List.mem_cons] at h ⊢
     rcases h with h | h | h
     ·exact .inl h
     ·exact absurd h hne
     ·exact .inr h
   refine ⟨fun y hy=>hl.ok y (hsub.subset hy),hl.pairs.sublist hsub,hsub.trans hl.sub,hl.nodupL,hl.full,by simpa using hl.size,fun j hj=>?_,fun j o' ho' hj e he' hbd=>?_,hnd.sublist (hsub.map _)⟩
   ·rw [hmm]
    by_cases hji : j = x.1
    ·subst hji
     have hsz : x.1 < listed.size:=by rw [hl.size]; exact hj
     simp [Array.getD_eq_getD_getElem?,hsz]
    ·rw [getD_set_ne true (fun e=>hji e.symm),hl.lst j hj]
     exact ⟨fun h=>⟨h,hji⟩,fun h=>h.1⟩
   ·rw [hmm] at hj ⊢
    rintro ⟨h3,h4⟩
    by_cases hji : j = x.1
    ·subst hji
     rw [ho] at ho'
     injection ho' with ho'
     subst ho'
     exact outs e he' hbd h3
    ·exact hl.closed j o' ho' (fun h=>hj ⟨h,hji⟩) e he' hbd h3
end
def exR : Ex -> Exit -> Prop
 | .norm,.normal=>True
 | .exit i,.exit j=>i = j
 | .ret,.ret=>True
 | _,_=>False
def CPost (P : Program) (base : Nat) (ρ : Map) (w0 : World) (e : Ex) (s' : St) : Exit -> Act -> World -> Prop:=fun ex a' w'=>exR e ex /\ ∃ ρ',ρ.le ρ' /\ Rl P base ρ' w0 s' a' w'
section
variable {P : Program} {base : Nat} {w0 : World} {call : BN}
theorem MR.bump {ρ : Map} {m : Mem} {w : World} (h : MR P base ρ m w) (n : Nat) : MR P base ρ ⟨m.next + n,m.t⟩ w:=
 ⟨fun b o hb=>let ⟨h1,h2⟩:=h.dom b o hb; ⟨Nat.lt_of_lt_of_le h1 (Nat.le_add_right _ _),h2⟩,h.used,h.low,h.inj⟩
theorem CPost.le {ρ ρ' : Map} {e : Ex} {s' : St} (h : ρ.le ρ') : ∀ ex a w,CPost P base ρ' w0 e s' ex a w -> CPost P base ρ w0 e s' ex a w:=
 fun _ _ _ ⟨h1,ρ'',h2,h3⟩=>⟨h1,ρ'',Map.le_trans h h2,h3⟩
theorem K8 {c : Code} {body : St -> Option (Ex × St)} (hb : ∀ ρ s e s' a w,body s = some (e,s') -> Rl P base ρ w0 s a w -> c.wp P (CPost P base ρ w0 e s') a w) :
  ∀ (k : Nat) (ρ : Map) (s : St) (e : Ex) (s' : St) (a : Act) (w : World),D9 body k s = some (e,s') -> Rl P base ρ w0 s a w -> ∀ (b : Frame) (kk : List Item) (cs : List Frame),
   ∃ ex a' w',CPost P base ρ w0 e s' ex a' w' /\ Arrives P (lone (b.at a (.code c :: .inLoop c :: kk)) cs w) b kk cs ex a' w'
 | 0,_,_,_,_,_,_,h,_,_,_,_=>by simp [D9] at h
 | k + 1,ρ,s,e,s',a,w,h,hr,b,kk,cs=>by
  simp only [D9] at h
  cases h1 : body s with
  | none=>simp [h1] at h
  | some q=>
   obtain ⟨e1,s1⟩:=q
   obtain ⟨ex,a1,w1,hq,harr⟩:=hb ρ s e1 s1 a w h1 hr b (.inLoop c :: kk) cs
   obtain ⟨hex,ρ',hρ,hr'⟩:=hq
   cases e1 with
   | norm=>
    simp only [h1] at h
    cases ex <;> simp only [exR] at hex
    obtain ⟨ex2,a2,w2,hq2,harr2⟩:=K8 hb k ρ' s1 e s' a1 w1 h hr' b kk cs
    exact ⟨ex2,a2,w2,CPost.le hρ _ _ _ hq2,.of_steps (Steps.trans harr (.one step_inLoop)) harr2⟩
   | exit i=>
    simp only [h1] at h
    injection h with h; injection h with h2 h3
    subst h2 h3
    exact ⟨ex,a1,w1,⟨hex,ρ',hρ,hr'⟩,.pass (x:=.inLoop c) rfl (fun _ _=>.inl (by cases ex <;> simp [exR] at hex ⊢)) harr⟩
   | ret=>
    simp only [h1] at h
    injection h with h; injection h with h2 h3
    subst h2 h3
    exact ⟨ex,a1,w1,⟨hex,ρ',hρ,hr'⟩,.pass (x:=.inLoop c) rfl (fun _ _=>.inl (by cases ex <;> simp [exR] at hex ⊢)) harr⟩
theorem KO (hcall : D5 P base call) (hx : DF call) (hmix : P.follows .mixedOrders = true) (k : Nat) : ∀ (c : Code) (ic : D1),BT P c ic = true -> ∀ (ρ : Map) (s : St) (e : Ex) (s' : St) (a : Act) (w : World),
  evC call k ic s = some (e,s') -> Rl P base ρ w0 s a w -> c.wp P (CPost P base ρ w0 e s') a w:=by
 intro c
 induction c with
 | skip=>
  intro ic hok ρ s e s' a w h hr
  cases ic <;> simp [BT] at hok
  simp only [evC] at h
  injection h with h; injection h with h1 h2
  subst h1 h2
  exact wp_skip ⟨trivial,ρ,ρ.le_refl,hr⟩
 | exit i=>
  intro ic hok ρ s e s' a w h hr
  cases ic <;> simp [BT] at hok
  subst hok
  simp only [evC] at h
  injection h with h; injection h with h1 h2
  subst h1 h2
  exact wp_exit ⟨rfl,ρ,ρ.le_refl,hr⟩
 | ret=>
  intro ic hok ρ s e s' a w h hr
  cases ic <;> simp [BT] at hok
  simp only [evC] at h
  injection h with h; injection h with h1 h2
  subst h1 h2
  exact wp_ret ⟨trivial,ρ,ρ.le_refl,hr⟩
 | seq x y ihx ihy=>
  intro ic hok ρ s e s' a w h hr
  cases ic <;> simp [BT] at hok
  rename_i x' y'
  simp only [evC] at h
  cases h1 : evC call k x' s with
  | none=>simp [h1] at h
  | some q=>
   obtain ⟨e1,s1⟩:=q
   refine wp_seq (wp_mono (ihx x' hok.1 ρ s e1 s1 a w h1 hr) ?_)
   rintro ex a1 w1 ⟨hex,ρ',hρ,hr'⟩
   cases e1 with
   | norm=>
    simp only [h1] at h
    cases ex <;> simp only [exR] at hex
    exact wp_mono (ihy y' hok.2 ρ' s1 e s' a1 w1 h hr') (CPost.le hρ)
   | exit i=>
    simp only [h1] at h
    injection h with h; injection h with h2 h3
    subst h2 h3
    cases ex <;> simp only [exR] at hex
    exact ⟨hex,ρ',hρ,hr'⟩
   | ret=>
    simp only [h1] at h
    injection h with h; injection h with h2 h3
    subst h2 h3
    cases ex <;> simp only [exR] at hex
    exact ⟨trivial,ρ',hρ,hr'⟩
 | cond o x y ihx ihy=>
  intro ic hok ρ s e s' a w h hr
  cases ic <;> simp [BT] at hok
  rename_i o' x' y'
  have hv:=BD hr.tm hok.1.1
  simp only [evC] at h
  split at h
  ·rename_i ho
   rw [ho] at hv
   simp only [VR] at hv
   exact wp_cond_true hv (ihx x' hok.1.2 ρ s e s' a w h hr)
  ·rename_i ho
   rw [ho] at hv
   simp only [VR] at hv
   exact wp_cond_false hv (ihy y' hok.2 ρ s e s' a w h hr)
  ·cases h
 | block i c ih=>
  intro ic hok ρ s e s' a w h hr
  cases ic <;> simp [BT] at hok
  rename_i i' c'
  obtain ⟨rfl,hok⟩:=hok
  simp only [evC] at h
  cases h1 : evC call k c' s with
  | none=>simp [h1] at h
  | some q=>
   obtain ⟨e1,s1⟩:=q
   refine wp_block (wp_mono (ih c' hok ρ s e1 s1 a w h1 hr) ?_)
   rintro ex a1 w1 ⟨hex,ρ',hρ,hr'⟩
   cases e1 with
   | norm=>
    simp only [h1] at h
    injection h with h; injection h with h2 h3
    subst h2 h3
    cases ex <;> simp only [exR] at hex
    exact ⟨trivial,ρ',hρ,hr'⟩
   | exit j=>
    simp only [h1] at h
    cases ex <;> simp only [exR] at hex
    subst hex
    split at h
    ·rename_i hj
     injection h with h; injection h with h2 h3
     subst h2 h3
     simp only [Exit.inBlock,hj,if_true]
     exact ⟨trivial,ρ',hρ,hr'⟩
    ·rename_i hj
     injection h with h; injection h with h2 h3
     subst h2 h3
     simp only [Exit.inBlock,hj,if_false]
     exact ⟨rfl,ρ',hρ,hr'⟩
   | ret=>
    simp only [h1] at h
    injection h with h; injection h with h2 h3
    subst h2 h3
    cases ex <;> simp only [exR] at hex
    exact ⟨trivial,ρ',hρ,hr'⟩
 | loop c ih=>
  intro ic hok ρ s e s' a w h hr
  cases ic <;> simp [BT] at hok
  rename_i c'
  simp only [evC] at h
  intro b kk cs
  obtain ⟨ex,a',w',hq,harr⟩:=K8 (fun ρ s e s' a w h hr=>ih c' hok ρ s e s' a w h hr) k ρ s e s' a w h hr b kk cs
  exact ⟨ex,a',w',hq,.of_steps (.one step_loop) harr⟩
 | label l=>
  intro ic hok ρ s e s' a w h hr
  cases ic <;> simp [BT] at hok
  simp only [evC] at h
  injection h with h; injection h with h1 h2
  subst h1 h2
  exact wp_label ⟨trivial,ρ,ρ.le_refl,hr⟩
 | scope c ih=>
  intro ic hok ρ s e s' a w h hr
  simp only [BT] at hok
  refine wp_scope_straight (wp_mono (ih ic hok ρ s e s' a w h hr) ?_)
  rintro ex a1 w1 ⟨hex,hr⟩
  cases ex <;> first | exact ⟨hex,hr⟩ | (cases e <;> exact hex.elim)
 | region id ops draw=>
  intro ic hok ρ s e s' a w h hr
  cases ic <;> simp only [BT,Bool.false_eq_true] at hok
  rename_i n pi anc steps
  simp only [evC] at h
  cases h1 : A9 call s.m.next steps ⟨s.tm,⟨s.m.next + n,s.m.t⟩⟩ with
  | none=>simp [h1] at h
  | some sf=>
   simp only [h1] at h
   injection h with h; injection h with h2 h3
   subst h2 h3
   cases draw with
   | false=>
    simp only [Bool.false_eq_true,if_false] at hok
    have hr' : Rl P base ρ w0 ⟨s.tm,⟨s.m.next + n,s.m.t⟩⟩ a w:=⟨hr.tm,hr.df,hr.mr.bump n,hr.bel⟩
    refine wp_region ?_
    have:=XK (Q:=CPost P base ρ w0 .norm sf) hcall 0 ops.toList steps ρ _ sf a w (by simp) hok hr' h1 fun ρ' a' w' hρ hr''=>⟨trivial,ρ',hρ,hr''⟩
    simpa using this
   | true=>
    simp only [if_true] at hok
    simp only [QN,Bool.and_eq_true,decide_eq_true_eq] at hok
    obtain ⟨⟨⟨⟨⟨⟨⟨⟨k1,k2⟩,k3⟩,k4⟩,k5⟩,k6⟩,k7⟩,k8⟩,k9⟩:=hok
    refine wp_region_any hmix ?_
    have hmap1 : (pi.zip steps).map (·.1) = pi:=List.map_fst_zip (by omega)
    have hmap2 : (pi.zip steps).map (·.2) = steps:=List.map_snd_zip (by omega)
    have hr' : Rl P base ρ w0 ⟨s.tm,⟨s.m.next + n,s.m.t⟩⟩ a { w with drawn:=w.drawn + 1 }:=⟨hr.tm,hr.df,(hr.mr.bump n).heap rfl,hr.bel.drew⟩
    refine bG (L:=pi.zip steps) hcall hx k6 k7 ops.size (pi.zip steps) _ ρ ⟨s.tm,⟨s.m.next + n,s.m.t⟩⟩ sf a _ (by rw [List.length_zip]; omega) ?_ hr' ?_ (by rw [hmap2]; exact h1) fun ρ' a' w' hρ hr''=>⟨trivial,ρ',hρ,hr''⟩
    ·refine ⟨fun x hx=>List.all_eq_true.1 k5 x hx,FA k8,List.Sublist.refl _,by rw [hmap1]; exact k4,fun z hz=>?_,by simp,fun j hj=>?_,fun j o ho hj=>?_,by rw [hmap1]; exact k4⟩
     ·have:=List.all_eq_true.1 k5 z hz
      unfold R1 at this
      split at this
      ·rename_i o ho
       exact (Array.getElem?_eq_some_iff.1 ho).1
      ·cases this
     ·rw [hmap1]
      have : (Array.replicate ops.size false).getD j true = false:=by simp [Array.getD_eq_getD_getElem?,hj]
      simp only [this,true_iff]
      exact k3 j (by simpa using hj)
     ·rw [hmap1] at hj
      have hlt : j < ops.size:=(Array.getElem?_eq_some_iff.1 ho).1
      exact absurd (k3 j (by simpa using hlt)) hj
    ·intro x hx k hk
     have hm : x.2 ∈ steps:=by rw [<- hmap2]; exact List.mem_map.2 ⟨x,hx,rfl⟩
     have:=List.all_eq_true.1 k9 x.2 hm
     simp only [hk,decide_eq_true_eq] at this
     show s.m.next + k < s.m.next + n
     omega
 | _=>
  intro ic hok
  cases ic <;> simp [BT] at hok
theorem U4 {ρ : Map} {tm : List AV} {a : Act} (ht : VRL ρ tm a.tmps.toList) {m : Mem} {w : World} (hm : MR P base ρ m w) : ∀ (rs : List ResultVar) (rs' : List LN) (vs : List AV),I9 P rs rs' = true -> D7 tm m rs' = some vs ->
  ∃ us,(rs.mapM fun | .tmp t=>pure (a.tmps.getD t undef) | .cell b t=>do loadVar t (<- asAddr (a.tmps.getD b undef)) : Sem (List Value)).run P w = .ok us w /\ VRL ρ vs us
 | [],[],vs,_,h=>by
  simp only [D7] at h
  injection h with h
  subst h
  exact ⟨[],by simp,by simp [VRL]⟩
 | [],_ :: _,_,h,_=>by simp [I9] at h
 | _ :: _,[],_,h,_=>by simp [I9] at h
 | r :: rs,r' :: rs',vs,hok,h=>by
  simp only [I9,Bool.and_eq_true] at hok
  simp only [D7] at h
  cases h1 : KX tm m r' with
  | none=>simp [h1] at h
  | some v=>
   cases h2 : D7 tm m rs' with
   | none=>simp [h1,h2] at h
   | some vs'=>
    simp only [h1,h2] at h
    injection h with h
    subst h
    obtain ⟨us,hrun,hv⟩:=U4 ht hm rs rs' vs' hok.2 h2
    have hone : ∃ u,((match r with | .tmp t=>pure (a.tmps.getD t undef) | .cell b t=>do loadVar t (<- asAddr (a.tmps.getD b undef))) : Sem Value).run P w = .ok u w /\ VR ρ v u:=by
     cases r with
     | tmp t=>
      cases r' <;> simp [U7] at hok
      obtain ⟨rfl,_⟩:=hok
      simp only [KX] at h1
      injection h1 with h1
      subst h1
      refine ⟨a.tmps.getD t undef,by simp,?_⟩
      have:=BD (x:=.tmp t) (x':=.t t) ht (by simp [BV])
      simpa only [Opd.eval,Act.eval] using this
     | cell b t=>
      cases r' with
      | tmp t'=>simp [U7] at hok
      | cell b' n=>
       simp only [U7,Bool.and_eq_true,decide_eq_true_eq] at hok
       obtain ⟨⟨rfl,ha⟩,_⟩:=hok
       have hx:=BD (x:=.tmp b) (x':=.t b) ht (by simp [BV])
       simp only [Act.eval] at hx
       simp only [KX] at h1
       cases n with
       | none=>
        simp only [A1] at h1
        cases hv : (Opd.t b).eval tm <;> rw [hv] at h1 hx <;> simp only at h1 <;> try (cases h1)
        rename_i c off
        split at h1
        ·rename_i y m' he
         split at he
         ·rename_i y' hr
          injection he with he; injection he with e1 e2
          injection h1 with h1
          subst e1 h1
          exact RJ hm ha (n:=none) hr rfl hx
         ·cases he
        ·cases h1
       | some k=>
        simp only [A1] at h1
        cases hv : (Opd.t b).eval tm <;> rw [hv] at h1 hx <;> simp only at h1 <;> try (cases h1)
        rename_i c off
        split at h1
        ·rename_i y m' he
         split at he
         ·rename_i y' hr
          injection he with he; injection he with e1 e2
          injection h1 with h1
          subst e1 h1
          exact RJ hm ha (n:=some k) hr rfl hx
         ·cases he
        ·cases h1
    obtain ⟨u,hu,hvu⟩:=hone
    refine ⟨u :: us,?_,.cons hvu hv⟩
    simp only [List.mapM_cons,Sem.run_bind,Sem.run_pure]
    rw [hu]
    simp only [Result.andThen_ok,hrun]
theorem RT {ρ : Map} {tm : List AV} {a : Act} (ht : VRL ρ tm a.tmps.toList) {m : Mem} {w : World} (hm : MR P base ρ m w) {fn : Func} {rs' : List LN} {vs : List AV} (hok : I9 P fn.results.toList rs' = true) (h : D7 tm m rs' = some vs) : ∃ u,(results fn a.tmps).run P w = .ok u w /\ VR ρ (QK vs) u:=by
 obtain ⟨us,h1,h2⟩:=U4 ht hm _ _ _ hok h
 have hl:=h2.length
 refine ⟨if h : us.toArray.size = 1 then us.toArray[0] else .tuple us.toArray,?_,?_⟩
 ·unfold results
  rw [Array.mapM_eq_mapM_toList]
  simp only [Sem.run_bind,map_eq_pure_bind]
  refine (congrArg (fun q=>Result.andThen (Result.andThen q _) _) h1).trans ?_
  simp only [Result.andThen_ok,Sem.run_pure]
 ·cases vs with
  | nil=>
   simp [VRL] at h2
   subst h2
   simp [QK,VR,VRL]
  | cons v vs=>
   simp only [VRL] at h2
   obtain ⟨u,us',rfl,hu,h2⟩:=h2
   cases vs with
   | nil=>
    simp [VRL] at h2
    subst h2
    simpa [QK] using hu
   | cons v' vs=>
    simp only [VRL] at h2
    obtain ⟨u',us'',rfl,hu',h2⟩:=h2
    simp only [QK]
    rw [dif_neg (by simp)]
    simp only [VR,VRL]
    exact ⟨_,⟨u,_,rfl,hu,u',_,rfl,hu',h2⟩,rfl⟩
end
abbrev HJ:=Nat -> List AV -> Mem -> Option Mem
def DC (call : BN) (callP : HJ) (base : Nat) : List Step -> St -> Option (Nat × Mem)
 | [],_=>none
 | i :: r,s=>
  if CA s.tm i.guard then
   match A1 call base s.tm s.m i.op with
   | some (v,m')=>if i.chk.all (D6 base s.tm m') then DC call callP base r ⟨put s.tm i.dst v,m'⟩ else none
   | none=>match i.op with
    | .call f args=>match callP f (args.map (·.eval s.tm)) s.m with | some m'=>some (r.length,m') | none=>none
    | _=>none
  else DC call callP base r ⟨put s.tm i.dst .undef,s.m⟩
def QR (pi : List Nat) (anc : List (List Nat)) (n l : Nat) : Bool:=
 match pi.drop (n - l - 1) with
 | x :: post=>post.all fun y=>(IY anc y).contains x
 | []=>true
def DI (body : St -> Option (Ex × St)) (bodyP : St -> Option Mem) : Nat -> St -> Option Mem
 | 0,_=>none
 | k + 1,s=>match body s with
  | some (.norm,s')=>DI body bodyP k s'
  | some _=>none
  | none=>bodyP s
def CB (call : BN) (callP : HJ) (k : Nat) : D1 -> St -> Option Mem
 | .reg n pi anc ops,s=>match DC call callP s.m.next ops ⟨s.tm,⟨s.m.next + n,s.m.t⟩⟩ with
  | some (l,m')=>if QR pi anc ops.length l then some m' else none
  | none=>none
 | .seq a b,s=>match evC call k a s with
  | some (.norm,s')=>CB call callP k b s'
  | some _=>none
  | none=>CB call callP k a s
 | .cond c a b,s=>match c.eval s.tm with
  | .bool true=>CB call callP k a s
  | .bool false=>CB call callP k b s
  | _=>none
 | .block _ c,s=>CB call callP k c s
 | .loop c,s=>DI (evC call k c) (CB call callP k c) k s
 | _,_=>none
structure Sp where
 must : Nat
 hold : Nat
 okTy : Nat
 live : Option Nat
 sort : Option Nat
def Sp.isLive (S : Sp) (f : Nat) : Bool:=match S.live with | some l=>Nat.beq f l | none=>false
def Sp.isSort (S : Sp) (f : Nat) : Bool:=match S.sort with | some l=>Nat.beq f l | none=>false
def Sp.knows (S : Sp) (f : Nat) : Bool:=cond (S.isLive f) true (S.isSort f)
def HC (fn : AN) (args : List AV) (m : Mem) : St:=⟨args ++ List.replicate (fn.ntmps - args.length) .undef,m⟩
def GY (call : BN) (k : Nat) (fn : AN) (args : List AV) (m : Mem) : Option (AV × Mem):=
 match evC call k fn.body (HC fn args m) with
 | some (.norm,s) | some (.ret,s)=>match D7 s.tm s.m fn.results with | some vs=>some (QK vs,s.m) | none=>none
 | _=>none
def FF (call : BN) (callP : HJ) (ty : Nat) (args : List AV) (m : Mem) : Option (AV × Mem):=
 match args with
 | [.fn g first cap]=>match m.new none [.bool false] ty with
  | some (b,m1)=>match call g (first ++ cap) m1 with
   | some (_,m2)=>match m2.write b 0 [.bool true] with | some m3=>some (.bool true,m3) | none=>none
   | none=>match callP g (first ++ cap) m1 with
    | some m2=>match m2.write b 0 [.bool false] with | some m3=>some (.bool false,m3) | none=>none
    | none=>none
  | none=>none
 | _=>none
def OJ (args : List AV) (m : Mem) : Option (AV × Mem):=match args with | [.bool true]=>some (.tup [],m) | _=>none
def T5 (args : List AV) (m : Mem) : Option (AV × Mem):=match args with | []=>some (.bool true,m) | _=>none
def JC : List AV -> Option (List Int)
 | []=>some []
 | .int .i64 n :: l=>match JC l with | some r=>some (n :: r) | none=>none
 | _ :: _=>none
def CG (zs : List Int) : List Int:=zs.mergeSort fun x y=>decide (x <= y)
def KN (args : List AV) (m : Mem) : Option (AV × Mem):=match args with
 | [.nilsl]=>some (.tup [],m)
 | [.sl b off len _]=>if len = 0 then some (.tup [],m) else if len < 4611686018427387904 then match m.read b off len with
  | some cs=>match JC cs with
   | some zs=>match m.write b off ((CG zs).map fun n=>.int .i64 n) with | some m'=>some (.tup [],m') | none=>none
   | none=>none
  | none=>none
  else none
 | _=>none
def FL (S : Sp) (f : Nat) (args : List AV) (m : Mem) : Option (AV × Mem):=cond (S.isLive f) (T5 args m) (KN args m)
def JV (args : List AV) (m : Mem) : Option Mem:=match args with | [.bool false]=>some m | _=>none
def BP (S : Sp) (tab : Nat -> Option AN) : Nat -> BN × HJ
 | 0=>(fun _ _ _=>none,fun _ _ _=>none)
 | k + 1=>
  (fun f args m=>if f = S.must then OJ args m else if f = S.hold then FF (BP S tab k).1 (BP S tab k).2 S.okTy args m else if S.knows f = true then FL S f args m else
   match tab f with | some fn=>GY (BP S tab k).1 k fn args m | none=>none,
   fun f args m=>if f = S.must then JV args m else if f = S.hold then none else if S.knows f = true then none else
   match tab f with | some fn=>CB (BP S tab k).1 (BP S tab k).2 k fn.body (HC fn args m) | none=>none)
def UQ (call : BN) (callP : HJ) : Prop:=∀ f args m m',callP f args m = some m' -> call f args m = none
theorem KE {call : BN} {callP : HJ} {b : Nat} : ∀ (l : List Step) (s : St) (r : Nat × Mem),DC call callP b l s = some r -> A9 call b l s = none
 | [],s,r,h=>by simp [DC] at h
 | i :: l,s,r,h=>by
  simp only [DC] at h
  simp only [A9]
  split at h
  ·rename_i hw
   rw [if_pos hw]
   split at h
   ·rename_i v m' he
    split at h
    ·rename_i hk
     try simp only [he]
     rw [if_pos hk]; exact KE l _ r h
    ·cases h
   ·rename_i he
    try simp only [he]
  ·rename_i hw
   rw [if_neg hw]
   exact KE l _ r h
theorem MX {body : St -> Option (Ex × St)} {bodyP : St -> Option Mem} (hb : ∀ s m',bodyP s = some m' -> body s = none) : ∀ (k : Nat) (s : St) (m' : Mem),DI body bodyP k s = some m' -> D9 body k s = none
 | 0,s,m',h=>rfl
 | k + 1,s,m',h=>by
  simp only [DI] at h
  rw [D9]
  cases h1 : body s with
  | none=>rfl
  | some q=>
   obtain ⟨x,s'⟩:=q
   rw [h1] at h
   cases x with
   | norm=>exact MX hb k s' m' h
   | exit i=>cases h
   | ret=>cases h
theorem GH {call : BN} {callP : HJ} {k : Nat} : ∀ (c : D1) (s : St) (m' : Mem),CB call callP k c s = some m' -> evC call k c s = none:=by
 intro c
 induction c with
 | skip=>intro s m' h; cases h
 | exit i=>intro s m' h; cases h
 | ret=>intro s m' h; cases h
 | reg n pi anc ops=>
  intro s m' h
  simp only [CB] at h
  simp only [evC]
  split at h
  ·rename_i l m2 hp
   rw [KE _ _ _ hp]
  ·cases h
 | seq a b iha ihb=>
  intro s m' h
  simp only [CB] at h
  simp only [evC]
  cases h1 : evC call k a s with
  | none=>rfl
  | some q=>
   obtain ⟨x,s'⟩:=q
   rw [h1] at h
   cases x with
   | norm=>exact ihb s' m' h
   | exit i=>cases h
   | ret=>cases h
 | cond c a b iha ihb=>
  intro s m' h
  simp only [CB] at h
  simp only [evC]
  cases h1 : c.eval s.tm with
  | bool t=>
   rw [h1] at h
   cases t with
   | true=>exact iha s m' h
   | false=>exact ihb s m' h
  | _=>rfl
 | block id c ih=>
  intro s m' h
  simp only [CB] at h
  simp only [evC,ih s m' h]
 | loop c ih=>
  intro s m' h
  simp only [CB] at h
  simp only [evC]
  exact MX ih k s m' h
theorem FG (S : Sp) (tab : Nat -> Option AN) : ∀ k,UQ (BP S tab k).1 (BP S tab k).2
 | 0=>fun f args m m' h=>rfl
 | k + 1=>fun f args m m' h=>by
  simp only [BP] at h ⊢
  by_cases h1 : f = S.must
  ·rw [if_pos h1] at h ⊢
   unfold JV at h
   split at h
   ·rfl
   ·cases h
  rw [if_neg h1] at h ⊢
  by_cases h2 : f = S.hold
  ·rw [if_pos h2] at h; cases h
  rw [if_neg h2] at h ⊢
  by_cases h3 : S.knows f = true
  ·rw [if_pos h3] at h; cases h
  rw [if_neg h3] at h ⊢
  cases hf : tab f with
  | none=>rfl
  | some fn=>
   simp only [hf] at h
   simp only [GY,GH _ _ _ h]
structure PX (F : Mem -> Option Mem) (m m' : Mem) : Prop where
 next : m.next <= m'.next
 keep : ∀ c,m.get c ≠ none -> m'.get c ≠ none
 free : ∀ id,m.get id = none -> id < m.next -> m'.get id = none
 more : ∀ id o,m.get id = none -> id < m.next -> F (m.set id o) = some (m'.set id o)
def LO (callP : HJ) : Prop:=∀ f args m m',callP f args m = some m' -> PX (callP f args) m m'
section
variable {call : BN} {callP : HJ}
theorem LY (hc : DF call) (hp : LO callP) (hx : UQ call callP) {b : Nat} : ∀ (l : List Step) (s : St) (n : Nat) (m' : Mem),DC call callP b l s = some (n,m') ->
  s.m.next <= m'.next /\ (∀ c,s.m.get c ≠ none -> m'.get c ≠ none) /\
  ∀ id,s.m.get id = none -> id < s.m.next -> id < b -> m'.get id = none /\ ∀ o,DC call callP b l ⟨s.tm,s.m.set id o⟩ = some (n,m'.set id o)
 | [],s,n,m',h=>by simp [DC] at h
 | i :: l,s,n,m',h=>by
  simp only [DC] at h
  split at h
  ·rename_i hw
   split at h
   ·rename_i v m1 he
    split at h
    ·rename_i hck
     have hx':=H9 hc he
     obtain ⟨h1,h2,h3⟩:=LY hc hp hx l _ _ _ h
     refine ⟨Nat.le_trans hx'.next h1,fun c hc'=>h2 c (hx'.keep c hc'),fun id hid hlt hlb=>?_⟩
     have hf:=hx'.free id hid hlt fun k _ e=>by omega
     obtain ⟨h4,h5⟩:=h3 id hf (Nat.lt_of_lt_of_le hlt hx'.next) hlb
     refine ⟨h4,fun o=>?_⟩
     have hm:=hx'.more id o hid hlt fun k _ e=>by omega
     try simp only at hm
     simp only [DC,hw,if_true,hm]
     rw [if_pos,h5 o]
     rw [List.all_eq_true] at hck ⊢
     exact fun c hcm=>MM (hck c hcm) o hf (Nat.lt_of_lt_of_le hlt hx'.next) fun k _ e=>by omega
    ·cases h
   ·rename_i he
    split at h
    ·rename_i f args hop
     split at h
     ·rename_i m2 hcp
      injection h with h; injection h with h1 h2
      subst h1 h2
      have px:=hp f _ _ _ hcp
      refine ⟨px.next,px.keep,fun id hid hlt hlb=>⟨px.free id hid hlt,fun o=>?_⟩⟩
      have hm:=px.more id o hid hlt
      have hn:=hx f _ _ _ hm
      simp only [DC,hw,if_true,hop,A1,hn,hm]
     ·cases h
    ·cases h
  ·rename_i hw
   obtain ⟨h1,h2,h3⟩:=LY hc hp hx l _ _ _ h
   refine ⟨h1,h2,fun id hid hlt hlb=>?_⟩
   obtain ⟨h4,h5⟩:=h3 id hid hlt hlb
   refine ⟨h4,fun o=>?_⟩
   simp only [DC,hw,if_false,Bool.false_eq_true]
   exact h5 o
structure SPX (F : St -> Option Mem) (s : St) (m' : Mem) : Prop where
 next : s.m.next <= m'.next
 keep : ∀ c,s.m.get c ≠ none -> m'.get c ≠ none
 free : ∀ id,s.m.get id = none -> id < s.m.next -> m'.get id = none
 more : ∀ id o,s.m.get id = none -> id < s.m.next -> F ⟨s.tm,s.m.set id o⟩ = some (m'.set id o)
theorem N1 {body : St -> Option (Ex × St)} {bodyP : St -> Option Mem} (hb : ∀ s e s',body s = some (e,s') -> SExt body s e s') (hbp : ∀ s m',bodyP s = some m' -> SPX bodyP s m') (hxl : ∀ s m',bodyP s = some m' -> body s = none) :
  ∀ (k : Nat) (s : St) (m' : Mem),DI body bodyP k s = some m' -> SPX (DI body bodyP k) s m'
 | 0,_,_,h=>by simp [DI] at h
 | k + 1,s,m',h=>by
  simp only [DI] at h
  split at h
  ·rename_i s1 h1
   have x1:=hb _ _ _ h1
   have x2:=N1 hb hbp hxl k _ _ h
   refine ⟨Nat.le_trans x1.next x2.next,fun c hc=>x2.keep c (x1.keep c hc),fun id hid hlt=>x2.free id (x1.free id hid hlt) (Nat.lt_of_lt_of_le hlt x1.next),fun id o hid hlt=>?_⟩
   simp only [DI,x1.more id o hid hlt]
   exact x2.more id o (x1.free id hid hlt) (Nat.lt_of_lt_of_le hlt x1.next)
  ·cases h
  ·have x1:=hbp _ _ h
   refine ⟨x1.next,x1.keep,x1.free,fun id o hid hlt=>?_⟩
   have hm:=x1.more id o hid hlt
   simp only [DI,hxl _ _ hm]
   exact hm
theorem a7 (hc : DF call) (hp : LO callP) (hx : UQ call callP) (k : Nat) : ∀ (c : D1) (s : St) (m' : Mem),CB call callP k c s = some m' -> SPX (CB call callP k c) s m':=by
 intro c
 induction c with
 | skip=>intro s m' h; cases h
 | exit i=>intro s m' h; cases h
 | ret=>intro s m' h; cases h
 | reg n pi anc ops=>
  intro s m' h
  simp only [CB] at h
  split at h
  ·rename_i l m2 h1
   split at h
   ·rename_i hl
    injection h with h
    subst h
    obtain ⟨q1,q2,q3⟩:=LY hc hp hx ops _ _ _ h1
    try simp only at q1 q2 q3
    refine ⟨by omega,q2,fun id hid hlt=>(q3 id hid (by omega) hlt).1,fun id o hid hlt=>?_⟩
    have:=(q3 id hid (by omega) hlt).2 o
    simp only [Mem.set] at this
    simp only [CB,Mem.set,this,hl,if_true]
   ·cases h
  ·cases h
 | seq a b iha ihb=>
  intro s m' h
  simp only [CB] at h
  split at h
  ·rename_i s1 h1
   have x1:=EX hc k a _ _ _ h1
   have x2:=ihb _ _ h
   refine ⟨Nat.le_trans x1.next x2.next,fun c hc=>x2.keep c (x1.keep c hc),fun id hid hlt=>x2.free id (x1.free id hid hlt) (Nat.lt_of_lt_of_le hlt x1.next),fun id o hid hlt=>?_⟩
   simp only [CB,x1.more id o hid hlt]
   exact x2.more id o (x1.free id hid hlt) (Nat.lt_of_lt_of_le hlt x1.next)
  ·cases h
  ·have x1:=iha _ _ h
   refine ⟨x1.next,x1.keep,x1.free,fun id o hid hlt=>?_⟩
   have hm:=x1.more id o hid hlt
   simp only [CB,GH _ _ _ hm]
   exact hm
 | cond c a b iha ihb=>
  intro s m' h
  simp only [CB] at h
  split at h
  ·rename_i hv
   have x1:=iha _ _ h
   exact ⟨x1.next,x1.keep,x1.free,fun id o hid hlt=>by simp only [CB,hv]; exact x1.more id o hid hlt⟩
  ·rename_i hv
   have x1:=ihb _ _ h
   exact ⟨x1.next,x1.keep,x1.free,fun id o hid hlt=>by simp only [CB,hv]; exact x1.more id o hid hlt⟩
  ·cases h
 | block i c ih=>
  intro s m' h
  simp only [CB] at h
  have x1:=ih _ _ h
  exact ⟨x1.next,x1.keep,x1.free,fun id o hid hlt=>by simp only [CB]; exact x1.more id o hid hlt⟩
 | loop c ih=>
  intro s m' h
  simp only [CB] at h
  have:=N1 (fun s e s' h=>EX hc k c s e s' h) ih (fun s m' h=>GH c s m' h) k s m' h
  exact ⟨this.next,this.keep,this.free,fun id o hid hlt=>by simp only [CB]; exact this.more id o hid hlt⟩
theorem WN (hc : DF call) {k : Nat} {fn : AN} {args : List AV} {m m' : Mem} {r : AV} (h : GY call k fn args m = some (r,m')) : Ext (GY call k fn args) m r m' fun _=>True:=by
 unfold GY at h
 have fin : ∀ e s,evC call k fn.body (HC fn args m) = some (e,s) -> (e = .norm \/ e = .ret) -> (match D7 s.tm s.m fn.results with | some vs=>some (QK vs,s.m) | none=>none) = some (r,m') -> Ext (GY call k fn args) m r m' fun _=>True:=by
  intro e s h1 he h2
  have x:=EX hc k _ _ _ _ h1
  unfold HC at x
  try simp only at x
  split at h2
  ·rename_i vs hv
   injection h2 with h2; injection h2 with h3 h4
   subst h4
   refine ⟨x.next,x.keep,fun id a b _=>x.free id a b,fun id o hid hlt _=>?_⟩
   have hm:=x.more id o hid hlt
   try simp only at hm
   have hr:=NS o (x.free id hid hlt) _ _ hv
   rcases he with rfl | rfl
   ·simp only [GY,HC,hm,hr,h3]
   ·simp only [GY,HC,hm,hr,h3]
  ·cases h2
 split at h
 ·rename_i s h1; exact fin _ s h1 (.inl rfl) h
 ·rename_i s h1; exact fin _ s h1 (.inr rfl) h
 ·cases h
theorem T6 (hc : DF call) (hp : LO callP) (hx : UQ call callP) {ty : Nat} {args : List AV} {m m' : Mem} {r : AV} (h : FF call callP ty args m = some (r,m')) : Ext (FF call callP ty args) m r m' fun _=>True:=by
 unfold FF at h
 split at h
 ·rename_i g first cap
  split at h
  ·rename_i b m1 hn
   obtain ⟨n1,n2,n3,n4⟩:=NF hn
   split at h
   ·rename_i v m2 hcl
    have x:=hc _ _ _ _ _ hcl
    split at h
    ·rename_i m3 hw
     injection h with h; injection h with h1 h2
     subst h1 h2
     obtain ⟨w1,w2,w3⟩:=LP hw
     refine ⟨by have:=x.next; omega,fun c hc' z=>x.keep c (n2 c hc') ((w2 c).1 z),fun id a b' _=>(w2 id).2 (x.free id (n3 id a b' (by simp)) (by omega) trivial),fun id o hid hlt _=>?_⟩
     have f1:=n3 id hid hlt (by simp)
     have f2:=x.free id f1 (by omega) trivial
     simp only [FF,n4 id o hid hlt (by simp)]
     have:=x.more id o f1 (by omega) trivial
     simp only [this,w3 id o f2]
    ·cases h
   ·split at h
    ·rename_i m2 hcp
     have x:=hp _ _ _ _ hcp
     split at h
     ·rename_i m3 hw
      injection h with h; injection h with h1 h2
      subst h1 h2
      obtain ⟨w1,w2,w3⟩:=LP hw
      refine ⟨by have:=x.next; omega,fun c hc' z=>x.keep c (n2 c hc') ((w2 c).1 z),fun id a b' _=>(w2 id).2 (x.free id (n3 id a b' (by simp)) (by omega)),fun id o hid hlt _=>?_⟩
      have f1:=n3 id hid hlt (by simp)
      have f2:=x.free id f1 (by omega)
      have hm:=x.more id o f1 (by omega)
      simp only [FF,n4 id o hid hlt (by simp),hx _ _ _ _ hm,hm,w3 id o f2]
     ·cases h
    ·cases h
  ·cases h
 ·cases h
end
theorem SU {S : Sp} {f : Nat} {args : List AV} {m m' : Mem} {r : AV} (h : FL S f args m = some (r,m')) : Ext (fun m=>FL S f args m) m r m' fun _=>True:=by
 unfold FL at h ⊢
 cases hl : S.isLive f with
 | true=>
  simp only [hl,cond_true] at h ⊢
  unfold T5 at h
  split at h
  ·injection h with h; injection h with h2 h3
   subst h2 h3
   exact .same fun m2 _=>rfl
  ·cases h
 | false=>
  simp only [hl,cond_false] at h ⊢
  unfold KN at h
  split at h
  ·injection h with h; injection h with h2 h3
   subst h2 h3
   exact .same fun m2 _=>rfl
  ·rename_i b off len cap
   split at h
   ·rename_i h0
    injection h with h; injection h with h2 h3
    subst h2 h3
    exact .same fun m2 _=>by simp only [KN,if_pos h0]
   ·rename_i h0
    split at h
    ·rename_i hlt
     split at h
     ·rename_i cs hr
      split at h
      ·rename_i zs hz
       split at h
       ·rename_i m1 hw
        injection h with h; injection h with h2 h3
        subst h2 h3
        refine GB hw fun id o hid m3 h3=>?_
        simp only [KN,if_neg h0,if_pos hlt,I3 hr (ID o hid),hz,h3]
       ·cases h
      ·cases h
     ·cases h
    ·cases h
  ·cases h
theorem SV (S : Sp) (tab : Nat -> Option AN) : ∀ k,DF (BP S tab k).1 /\ LO (BP S tab k).2
 | 0=>⟨fun f args m r m' h=>by simp [BP] at h,fun f args m m' h=>by simp [BP] at h⟩
 | k + 1=>by
  obtain ⟨i1,i2⟩:=SV S tab k
  have i3:=FG S tab k
  refine ⟨fun f args m r m' h=>?_,fun f args m m' h=>?_⟩
  ·have e : (BP S tab (k + 1)).1 f args = fun m=>if f = S.must then OJ args m else if f = S.hold then FF (BP S tab k).1 (BP S tab k).2 S.okTy args m else if S.knows f = true then FL S f args m else
     match tab f with | some fn=>GY (BP S tab k).1 k fn args m | none=>none:=rfl
   rw [e] at h ⊢
   simp only at h
   by_cases h1 : f = S.must
   ·simp only [if_pos h1] at h ⊢
    unfold OJ at h
    split at h
    ·injection h with h; injection h with h2 h3
     subst h2 h3
     exact .same fun m2 _=>rfl
    ·cases h
   simp only [if_neg h1] at h ⊢
   by_cases h2 : f = S.hold
   ·simp only [if_pos h2] at h ⊢
    exact T6 i1 i2 i3 h
   simp only [if_neg h2] at h ⊢
   by_cases h3 : S.knows f = true
   ·simp only [if_pos h3] at h ⊢
    exact SU h
   simp only [if_neg h3] at h ⊢
   cases hf : tab f with
   | none=>simp [hf] at h
   | some fn=>
    simp only [hf] at h ⊢
    exact WN i1 h
  ·have e : (BP S tab (k + 1)).2 f args = fun m=>if f = S.must then JV args m else if f = S.hold then none else if S.knows f = true then none else
     match tab f with | some fn=>CB (BP S tab k).1 (BP S tab k).2 k fn.body (HC fn args m) | none=>none:=rfl
   rw [e] at h ⊢
   simp only at h
   by_cases h1 : f = S.must
   ·simp only [if_pos h1] at h ⊢
    unfold JV at h
    split at h
    ·injection h with h
     subst h
     exact ⟨Nat.le_refl _,fun _ h=>h,fun _ h _=>h,fun _ _ _ _=>rfl⟩
    ·cases h
   simp only [if_neg h1] at h ⊢
   by_cases h2 : f = S.hold
   ·simp only [if_pos h2] at h; cases h
   simp only [if_neg h2] at h ⊢
   by_cases h3 : S.knows f = true
   ·simp only [if_pos h3] at h; cases h
   simp only [if_neg h3] at h ⊢
   cases hf : tab f with
   | none=>simp [hf] at h
   | some fn=>
    simp only [hf] at h ⊢
    have x:=a7 i1 i2 i3 k _ _ _ h
    exact ⟨x.next,x.keep,x.free,fun id o hid hlt=>x.more id o hid hlt⟩
end Go.Proofs.YtdljelicbnjfjaaGreat.X
