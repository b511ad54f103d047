/- The plain machine without numbers of rounds and of blocks: what must hold ahead of a run for it to come to an end with Q. -/
import Derived.Test.YtljkkfcokpimkaaXm
import Derived.Test.YtljkkfcokpimkaaXk
set_option linter.unusedVariables false
set_option linter.unusedSimpArgs false
namespace Go.Proofs.Ytljkkfcokpimkaa.X
open Go

/-! ### Memory as a function -/
structure H where
  get : Nat → Option Obj
  fin : ∃ n, ∀ b, n ≤ b → get b = none
theorem H.ext' {h h' : H} (e : ∀ b, h.get b = h'.get b) : h = h' := by
  cases h; cases h'; simp only [H.mk.injEq]; exact funext e
def H.set (h : H) (b : Nat) (o : Obj) : H := ⟨fun k => if k = b then some o else h.get k, by
  obtain ⟨n, hn⟩ := h.fin
  exact ⟨max n (b + 1), fun k hk => by rw [if_neg (by omega)]; exact hn k (by omega)⟩⟩
theorem H.get_set (h : H) (b k : Nat) (o : Obj) : (h.set b o).get k = if k = b then some o else h.get k := rfl
theorem H.get_same (h : H) (b : Nat) (o : Obj) : (h.set b o).get b = some o := by rw [H.get_set, if_pos rfl]
theorem H.get_other (h : H) {b k : Nat} (o : Obj) (hk : k ≠ b) : (h.set b o).get k = h.get k := by rw [H.get_set, if_neg hk]
def H.read (h : H) (b off n : Nat) : Option (List AV) :=
  match h.get b with
  | some (.live cs _ _) => if off + n ≤ cs.length then some ((cs.drop off).take n) else none
  | _ => none
def H.cell (h : H) (b off : Nat) : Option AV :=
  match h.get b with
  | some (.live cs _ _) => cs[off]?
  | _ => none
def H.write (h : H) (b off : Nat) (vs : List AV) : Option H :=
  match h.get b with
  | some (.live cs e true) => if off + vs.length ≤ cs.length ∧ leaves vs = true then some (h.set b (.live (overlay cs off vs) e true)) else none
  | _ => none

/-- Nothing stands behind the next number. -/
def Mem.ok (m : Mem) : Prop := ∀ b, m.next ≤ b → m.get b = none
structure Rep (m : Mem) (h : H) : Prop where
  ok : m.ok
  eq : ∀ b, m.get b = h.get b
/-- What was free stays free, but for some. -/
structure Keep (S : Nat → Prop) (m m' : Mem) : Prop where
  next : m.next ≤ m'.next
  free : ∀ b, b < m.next → ¬ S b → m.get b = none → m'.get b = none
def nobody : Nat → Prop := fun _ => False
theorem Keep.refl (S : Nat → Prop) (m : Mem) : Keep S m m := ⟨Nat.le_refl _, fun _ _ _ h => h⟩
theorem Keep.trans {S : Nat → Prop} {a b c : Mem} (h : Keep S a b) (h' : Keep S b c) : Keep S a c :=
  ⟨Nat.le_trans h.1 h'.1, fun k hk hs he => h'.2 k (Nat.lt_of_lt_of_le hk h.1) hs (h.2 k hk hs he)⟩
theorem Keep.weaken {S S' : Nat → Prop} {a b : Mem} (h : Keep S a b) (hs : ∀ k, S k → S' k) : Keep S' a b := ⟨h.1, fun k hk h1 => h.2 k hk fun x => h1 (hs k x)⟩
theorem Rep.read {m : Mem} {h : H} (r : Rep m h) (b off n : Nat) : m.read b off n = h.read b off n := by
  unfold Mem.read H.read; rw [r.eq]; rfl
theorem Rep.set {m : Mem} {h : H} (r : Rep m h) (b : Nat) (o : Obj) (hb : b < m.next) : Rep (m.set b o) (h.set b o) :=
  ⟨fun k hk => by rw [Mem.get_set, if_neg (by have : m.next ≤ k := hk; omega)]; exact r.ok k hk, fun k => by rw [Mem.get_set, H.get_set, r.eq]⟩
theorem Rep.lt {m : Mem} {h : H} (r : Rep m h) {b : Nat} {o : Obj} (hb : m.get b = some o) : b < m.next := by
  apply Nat.lt_of_not_le
  intro hk
  rw [r.ok b hk] at hb
  cases hb
theorem Keep.set (S : Nat → Prop) {m : Mem} {b : Nat} {o o' : Obj} (hb : m.get b = some o') : Keep S m (m.set b o) :=
  ⟨Nat.le_refl _, fun k hk _ he => by
    rw [Mem.get_set, if_neg (fun e => by subst e; rw [hb] at he; cases he)]; exact he⟩
theorem Rep.write {m : Mem} {h h' : H} (r : Rep m h) {b off : Nat} {vs : List AV} (hw : h.write b off vs = some h') : ∃ m', m.write b off vs = some m' ∧ Rep m' h' ∧ ∀ S, Keep S m m' := by
  unfold H.write at hw
  unfold Mem.write
  rw [r.eq]
  split at hw
  · rename_i cs e hc
    rw [hc]
    simp only
    split at hw
    · rename_i hcnd
      injection hw with hw
      subst hw
      rw [if_pos hcnd]
      have hb : m.get b = some (.live cs e true) := by rw [r.eq, hc]
      exact ⟨_, rfl, r.set _ _ (r.lt hb), fun S => Keep.set S hb⟩
    · cases hw
  · cases hw

/-! ### Operations -/
def valA (o : Option AV) (h : H) (K : AV → H → Prop) : Prop := match o with | some v => K v h | none => False
def memA (o : Option H) (v : AV) (K : AV → H → Prop) : Prop := match o with | some h' => K v h' | none => False
def newA (h : H) (cs : List AV) (e : Nat) (mk : Nat → AV) (K : AV → H → Prop) : Prop := leaves cs = true ∧ ∀ b, h.get b = none → K (mk b) (h.set b (.live cs e true))
def srcA (h : H) (esz : Nat) : AV → Option (Nat × List AV)
  | .nilsl => some (0, [])
  | .sl b off len _ => match h.read b off (len * esz) with | some cs => some (len, cs) | none => none
  | .str s => if esz = 1 then some (s.length, s.map fun c => .int .u8 c.toNat) else none
  | _ => none
/-- A new variable. -/
def boxA (h : H) (cs : List AV) (e : Nat) (K : AV → H → Prop) : Prop := newA h cs e (fun b => .ptr b 0) K
def appendA (h : H) (e esz bytes : Nat) (x y : AV) (K : AV → H → Prop) : Prop :=
  match srcA h esz y with
  | none => False
  | some (n, cs) =>
    match x with
    | .nilsl => if n = 0 then K .nilsl h else n * bytes ≤ most ∧ newA h cs e (fun b' => .sl b' 0 n (.more esz)) K
    | .sl b off len cap =>
      if n = 0 then K (.sl b off len cap) h else
      match cap with
      | .exact c =>
        if len + n ≤ c then memA (h.write b (off + len * esz) cs) (.sl b off (len + n) (.exact c)) K
        else (len + n) * bytes ≤ most ∧ (match h.read b off (len * esz) with
          | some old => newA h (old ++ cs) e (fun b' => .sl b' 0 (len + n) (.more esz)) K
          | none => False)
      | .more z =>
        match h.get b with
        | some (.live known e' true) =>
          (e' = e ∧ z = esz ∧ (len + n) * bytes ≤ most ∧ off + len * esz ≤ known.length) ∧
          if off + (len + n) * esz ≤ known.length then memA (h.write b (off + len * esz) cs) (.sl b off (len + n) (.more esz)) K
          else newA (h.set b .dead) ((known.drop off).take (len * esz) ++ cs) e (fun b' => .sl b' 0 (len + n) (.more esz)) K
        | _ => False
      | .any => False
    | _ => False
def pickA (c x y : AV) : Option AV := match c with | .bool t => some (if t then x else y) | _ => none
def cvA (k : IntKind) (x : AV) : Option AV := match x with | .int _ n => some (.int k (k.wrap n)) | _ => none
def extA (x : AV) (i : Nat) : Option AV := match x with | .tup l => l[i]? | _ => none
def lenA (s : Bool) (x : AV) : Option AV := match s, x with | true, .str s => some (.int .i64 s.length) | false, .nilsl => some (.int .i64 0) | false, .sl _ _ n _ => some (.int .i64 n) | _, _ => none
def capA (x : AV) : Option AV := match x with | .nilsl => some (.int .i64 0) | .sl _ _ _ (.exact c) => some (.int .i64 c) | _ => none
def faA (off : Nat) (x : AV) : Option AV := match x with | .ptr b o => some (.ptr b (o + off)) | _ => none
def fldA (off : Nat) (n : Option Nat) (x : AV) : Option AV := match x with | .agg cs => partOf cs off n | _ => none
def iaA (esz : Nat) (x i : AV) : Option AV := match x, i with | .sl b off len _, .int _ n => if 0 ≤ n ∧ n < len then some (.ptr b (off + n.toNat * esz)) else none | _, _ => none
def iaArrA (len esz : Nat) (x i : AV) : Option AV := match x, i with | .ptr b off, .int _ n => if 0 ≤ n ∧ n < len then some (.ptr b (off + n.toNat * esz)) else none | _, _ => none
def ixStrA (x i : AV) : Option AV := match x, i with | .str s, .int _ n => if 0 ≤ n then (match s[n.toNat]? with | some c => some (.int .u8 c.toNat) | none => none) else none | _, _ => none
def ixArrA (len esz : Nat) (k : Option Nat) (x i : AV) : Option AV := match x, i with | .agg cs, .int _ n => if 0 ≤ n ∧ n < len then partOf cs (n.toNat * esz) k else none | _, _ => none
def sameA (x : AV) : Option AV := match x with | .str s => some (.str s) | _ => none
def keepA (h : H) (x : AV) : Option AV := match x with | .sl b off len c => (match h.get b with | some (.live _ _ true) => if 0 < len then some (.sl b off len c) else none | _ => none) | _ => none
def nilcA (x : AV) : Option AV := match x with | .ptr b off => some (.ptr b off) | .fn f a c => some (.fn f a c) | _ => none
def ldA (h : H) (n : Option Nat) (x : AV) : Option AV := match n, x with
  | none, .ptr b off => h.cell b off
  | some n, .ptr b off => match h.read b off n with | some cs => some (.agg cs) | none => none
  | _, _ => none
def stA (h : H) (n : Nat) (x y : AV) : Option H := match x with | .ptr b off => if y.cells.length = n then h.write b off y.cells else none | _ => none
def b2sA (h : H) (x : AV) : Option AV := match x with | .nilsl => some (.str []) | .sl b off len _ => (match h.read b off len with | some cs => (bytesOf cs).map .str | none => none) | _ => none
def mnA : List AV → Option AV | x :: l => minInt x l | [] => none
def mxA : List AV → Option AV | x :: l => maxInt x l | [] => none
def s2bA (h : H) (e : Nat) (x : AV) (K : AV → H → Prop) : Prop := match x with | .str l => newA h (l.map fun c => .int .u8 c.toNat) e (fun b => .sl b 0 l.length (.more 1)) K | _ => False
def mksA (h : H) (e : Nat) (zero : List AV) (bytes : Nat) (len cap : AV) (K : AV → H → Prop) : Prop :=
  match natOf len, natOf cap with
  | some l, some c => (l ≤ c ∧ c * bytes ≤ most ∧ c < 9223372036854775808) ∧ newA h (repCells zero c) e (fun b => .sl b 0 l (.exact c)) K
  | _, _ => False
def growA (h : H) (e esz bytes : Nat) (zero : List AV) (x n : AV) (K : AV → H → Prop) : Prop := match x, natOf n with
  | .nilsl, some (k + 1) => (k + 1) * bytes ≤ most ∧ newA h (repCells zero (k + 1)) e (fun b' => .sl b' 0 (k + 1) (.more esz)) K
  | _, _ => False
def clearA (h : H) (zero : List AV) (x : AV) (K : AV → H → Prop) : Prop := match x with
  | .nilsl => K .undef h
  | .sl b off len _ => if len = 0 then K .undef h else memA (h.write b off (repCells zero len)) .undef K
  | _ => False
def copyA (h : H) (esz : Nat) (x y : AV) (K : AV → H → Prop) : Prop := match x, srcA h esz y with
  | .nilsl, some _ => K (.int .i64 0) h
  | .sl b off len _, some (n, cs) => if min n len = 0 then K (.int .i64 0) h else memA (h.write b off (cs.take (min n len * esz))) (.int .i64 (min n len : Nat)) K
  | _, _ => False
def fillV : List AV → List (Nat × Nat × AV) → Option (List AV)
  | cs, [] => some cs
  | cs, (off, n, x) :: ps => if x.cells.length = n ∧ off + n ≤ cs.length ∧ leaves x.cells = true then fillV (overlay cs off x.cells) ps else none
def partsOf (g : Opd → AV) : List (Nat × Nat × Opd) → List (Nat × Nat × AV)
  | [] => []
  | (off, n, x) :: ps => (off, n, g x) :: partsOf g ps
def fillA (g : Opd → AV) (cs : List AV) (ps : List (Nat × Nat × Opd)) : Option (List AV) := fillV cs (partsOf g ps)
def mkslA (h : H) (e len : Nat) (o : Option (List AV)) (K : AV → H → Prop) : Prop := match o with | some cs => newA h cs e (fun b => .sl b 0 len (.exact len)) K | none => False
def buildA (o : Option (List AV)) : Option AV := match o with | some l => some (.agg l) | none => none
/-- What a call does. -/
abbrev CallA := Nat → List AV → H → (AV → H → Prop) → Prop
def callvA (C : CallA) (x : AV) (args : List AV) (h : H) (K : AV → H → Prop) : Prop := match x with | .fn f a c => C f (a ++ args ++ c) h K | _ => False
def opA (C : CallA) (g : Opd → AV) (h : H) (op : IOp) (K : AV → H → Prop) : Prop :=
  match op with
  | .mv x => K (g x) h
  | .pick c a b => valA (pickA (g c) (g a) (g b)) h K
  | .al _ e zero => boxA h zero e K
  | .bx _ e x => boxA h (g x).cells e K
  | .build tpl ps => valA (buildA (fillA g tpl ps)) h K
  | .mksl _ e tpl len ps => mkslA h e len (fillA g tpl ps) K
  | .ld n x => valA (ldA h n (g x)) h K
  | .st n x y => memA (stA h n (g x) (g y)) .undef K
  | .nilc x => valA (nilcA (g x)) h K
  | .bin op kd x y => valA (binOp op kd (g x) (g y)) h K
  | .un op x => valA (unOp op (g x)) h K
  | .cv _ (.toInt k) x => valA (cvA k (g x)) h K
  | .cv _ .same x => valA (sameA (g x)) h K
  | .cv _ .keep x => valA (keepA h (g x)) h K
  | .cv _ .b2s x => valA (b2sA h (g x)) h K
  | .cv _ (.s2b e) x => s2bA h e (g x) K
  | .mkf f first cap => K (.fn f (first.map g) (cap.map g)) h
  | .mks _ e zero bytes len cap => mksA h e zero bytes (g len) (g cap) K
  | .sli k x lo hi mx => valA (sliceOp k (g x) (lo.map g) (hi.map g) (mx.map g)) h K
  | .fa off x => valA (faA off (g x)) h K
  | .fld off n x => valA (fldA off n (g x)) h K
  | .ia none esz x i => valA (iaA esz (g x) (g i)) h K
  | .ia (some len) esz x i => valA (iaArrA len esz (g x) (g i)) h K
  | .ix none x i => valA (ixStrA (g x) (g i)) h K
  | .ix (some (len, esz, k)) x i => valA (ixArrA len esz k (g x) (g i)) h K
  | .ext x i => valA (extA (g x) i) h K
  | .call f args => C f (args.map g) h K
  | .callv x args => callvA C (g x) (args.map g) h K
  | .app e esz bytes _ x y => appendA h e esz bytes (g x) (g y) K
  | .grow e esz bytes zero x n => growA h e esz bytes zero (g x) (g n) K
  | .clear zero x => clearA h zero (g x) K
  | .copy esz x y => copyA h esz (g x) (g y) K
  | .len s x => valA (lenA s (g x)) h K
  | .cap x => valA (capA (g x)) h K
  | .mn xs => valA (mnA (xs.map g)) h K
  | .mx xs => valA (mxA (xs.map g)) h K

def IOp.slot : IOp → Option Nat
  | .al s _ _ | .bx s _ _ | .mksl s _ _ _ _ | .cv s _ _ | .mks s _ _ _ _ _ => s
  | _ => none
def IOp.uses : IOp → List Opd
  | .mv x | .bx _ _ x | .ld _ x | .nilc x | .un _ x | .cv _ _ x | .fa _ x | .fld _ _ x | .ext x _ | .clear _ x | .len _ x | .cap x => [x]
  | .pick c a b => [c, a, b]
  | .al .. => []
  | .build _ ps | .mksl _ _ _ _ ps => ps.map fun p => p.2.2
  | .st _ x y | .bin _ _ x y | .ia _ _ x y | .ix _ x y | .app _ _ _ _ x y | .grow _ _ _ _ x y | .copy _ x y => [x, y]
  | .mkf _ a c => a ++ c
  | .mks _ _ _ _ l c => [l, c]
  | .sli _ x lo hi top => x :: (lo.toList ++ hi.toList ++ top.toList)
  | .call _ l => l
  | .mn l => l
  | .mx l => l
  | .callv x l => x :: l

theorem partsOf_congr {g g' : Opd → AV} : ∀ (ps : List (Nat × Nat × Opd)), (∀ p ∈ ps, g p.2.2 = g' p.2.2) → partsOf g ps = partsOf g' ps
  | [], _ => rfl
  | (off, n, x) :: ps, h => by
    have h1 := h (off, n, x) (by simp)
    simp only at h1
    simp only [partsOf, h1]
    rw [partsOf_congr ps fun p hp => h p (by simp [hp])]
theorem fillA_congr {g g' : Opd → AV} (ps : List (Nat × Nat × Opd)) (cs : List AV) (h : ∀ p ∈ ps, g p.2.2 = g' p.2.2) : fillA g cs ps = fillA g' cs ps := by
  unfold fillA; rw [partsOf_congr ps h]
theorem optmap_congr {g g' : Opd → AV} {o : Option Opd} (h : ∀ x ∈ o.toList, g x = g' x) : o.map g = o.map g' := by
  cases o with
  | none => rfl
  | some x => simp only [Option.map_some]; rw [h x (by simp)]
theorem opA_congr {C : CallA} {g g' : Opd → AV} {h : H} {op : IOp} {K : AV → H → Prop} (hg : ∀ x ∈ op.uses, g x = g' x) : opA C g h op K = opA C g' h op K := by
  have hm : ∀ l : List Opd, (∀ x ∈ l, g x = g' x) → l.map g = l.map g' := fun l hl => List.map_congr_left hl
  cases op
  case build tpl ps => simp only [opA]; rw [fillA_congr (g' := g') ps tpl fun p hp => hg _ (by simp only [IOp.uses, List.mem_map]; exact ⟨p, hp, rfl⟩)]
  case mksl s e tpl len ps => simp only [opA]; rw [fillA_congr (g' := g') ps tpl fun p hp => hg _ (by simp only [IOp.uses, List.mem_map]; exact ⟨p, hp, rfl⟩)]
  case mkf f a c => simp only [opA]; rw [hm a fun x hx => hg x (by simp [IOp.uses, hx]), hm c fun x hx => hg x (by simp [IOp.uses, hx])]
  case call f l => simp only [opA]; rw [hm l fun x hx => hg x (by simp [IOp.uses, hx])]
  case callv x l => simp only [opA]; rw [hm l fun x hx => hg x (by simp [IOp.uses, hx]), hg x (by simp [IOp.uses])]
  case mn l => simp only [opA]; rw [hm l fun x hx => hg x (by simp [IOp.uses, hx])]
  case mx l => simp only [opA]; rw [hm l fun x hx => hg x (by simp [IOp.uses, hx])]
  case sli k x lo hi mx =>
    simp only [opA]
    rw [hg x (by simp [IOp.uses]), optmap_congr (g' := g') (o := lo) fun y hy => hg y (by simp only [IOp.uses, List.mem_cons, List.mem_append]; simp [hy]),
      optmap_congr (g' := g') (o := hi) fun y hy => hg y (by simp only [IOp.uses, List.mem_cons, List.mem_append]; simp [hy]), optmap_congr (g' := g') (o := mx) fun y hy => hg y (by simp only [IOp.uses, List.mem_cons, List.mem_append]; simp [hy])]
  case al s e z => rfl
  case ia a e x i => cases a <;> · simp only [opA]; rw [hg x (by simp [IOp.uses]), hg i (by simp [IOp.uses])]
  case ix a x i => rcases a with _ | ⟨_, _, _⟩ <;> · simp only [opA]; rw [hg x (by simp [IOp.uses]), hg i (by simp [IOp.uses])]
  case cv s k x => cases k <;> · simp only [opA]; rw [hg x (by simp [IOp.uses])]
  case pick c a b => simp only [opA]; rw [hg c (by simp [IOp.uses]), hg a (by simp [IOp.uses]), hg b (by simp [IOp.uses])]
  case st n x y => simp only [opA]; rw [hg x (by simp [IOp.uses]), hg y (by simp [IOp.uses])]
  case bin o k x y => simp only [opA]; rw [hg x (by simp [IOp.uses]), hg y (by simp [IOp.uses])]
  case grow e z b zs x y => simp only [opA]; rw [hg x (by simp [IOp.uses]), hg y (by simp [IOp.uses])]
  case app e z b zs x y => simp only [opA]; rw [hg x (by simp [IOp.uses]), hg y (by simp [IOp.uses])]
  case copy z x y => simp only [opA]; rw [hg x (by simp [IOp.uses]), hg y (by simp [IOp.uses])]
  case mks s e z b l c => simp only [opA]; rw [hg l (by simp [IOp.uses]), hg c (by simp [IOp.uses])]
  case ext x i => simp only [opA]; rw [hg x (by simp [IOp.uses])]
  all_goals (rename_i x; simp only [opA]; rw [hg x (by simp [IOp.uses])])

theorem fillA_eq (tm : List AV) : ∀ (ps : List (Nat × Nat × Opd)) (cs : List AV), fillParts tm cs ps = fillA (Opd.eval tm) cs ps
  | [], cs => rfl
  | (off, n, x) :: ps, cs => by
    have ih := fun cs => fillA_eq tm ps cs
    unfold fillA at ih ⊢
    simp only [fillParts, partsOf, fillV]
    split
    · exact ih _
    · rfl
theorem srcA_eq {m : Mem} {h : H} (r : Rep m h) (esz : Nat) (x : AV) : srcCells m esz x = srcA h esz x := by
  cases x <;> try rfl
  simp only [srcCells, srcA, r.read]
  rfl

/-- A run of an operation that ends so. -/
def Ends (o : Option (AV × Mem)) (S : Nat → Prop) (m : Mem) (K : AV → H → Prop) : Prop := ∃ v m' h', o = some (v, m') ∧ Rep m' h' ∧ Keep S m m' ∧ K v h'
section
variable {m : Mem} {h : H} {K : AV → H → Prop} {S : Nat → Prop}
theorem ends_same (r : Rep m h) {v : AV} (k : K v h) : Ends (some (v, m)) S m K := ⟨v, m, h, rfl, r, Keep.refl S m, k⟩
theorem ends_val (r : Rep m h) {o : Option AV} (k : valA o h K) : Ends (pureOp o m) S m K := by
  cases o with
  | none => exact k.elim
  | some v => exact ends_same r k
theorem ends_mem (r : Rep m h) {b off : Nat} {vs : List AV} {v : AV} (k : memA (h.write b off vs) v K) : Ends (match m.write b off vs with | some m' => some (v, m') | none => none) S m K := by
  unfold memA at k
  split at k
  · rename_i h' hw
    obtain ⟨m', h1, h2, h3⟩ := r.write hw
    rw [h1]
    exact ⟨v, m', h', rfl, h2, h3 S, k⟩
  · exact k.elim
theorem rep_new (r : Rep m h) (o : Obj) : Rep ⟨m.next + 1, m.t.set m.next o⟩ (h.set m.next o) :=
  ⟨fun b hb => by
    show (m.t.set m.next o).get b = none
    rw [T.get_set, if_neg (by have : m.next + 1 ≤ b := hb; omega)]
    exact r.ok b (by have : m.next + 1 ≤ b := hb; omega),
  fun b => by
    show (m.t.set m.next o).get b = _
    rw [T.get_set, H.get_set, ← r.eq]; rfl⟩
theorem keep_new (o : Obj) : Keep S m ⟨m.next + 1, m.t.set m.next o⟩ :=
  ⟨Nat.le_succ _, fun b hb _ he => by
    show (m.t.set m.next o).get b = none
    rw [T.get_set, if_neg (by omega)]; exact he⟩
theorem ends_new (r : Rep m h) {cs : List AV} {e : Nat} {mk : Nat → AV} (k : newA h cs e mk K) : Ends (match m.new none cs e with | some (b', m') => some (mk b', m') | none => none) S m K := by
  obtain ⟨hl, k⟩ := k
  unfold Mem.new
  rw [if_pos hl]
  exact ⟨_, _, _, rfl, rep_new r _, keep_new _, k m.next (by rw [← r.eq]; exact r.ok _ (Nat.le_refl _))⟩
theorem ends_row (r : Rep m h) {base : Nat} {s : Option Nat} {cs : List AV} {e : Nat} {mk : Nat → AV} (k : newA h cs e mk K) (hs : ∀ j, s = some j → m.get (base + j) = none ∧ base + j < m.next ∧ S (base + j)) :
    Ends (newRow m base s cs e mk) S m K := by
  unfold newRow
  cases s with
  | none => exact ends_new r k
  | some j =>
    obtain ⟨h1, h2, h3⟩ := hs j rfl
    obtain ⟨hl, k⟩ := k
    unfold slot Mem.new
    rw [if_pos hl]
    simp only [h1, if_pos h2]
    exact ⟨_, _, _, rfl, r.set _ _ h2, ⟨Nat.le_refl _, fun b hb hn he => by
      rw [Mem.get_set, if_neg (fun e => hn (by rw [e]; exact h3))]; exact he⟩, k _ (by rw [← r.eq]; exact h1)⟩
theorem ends_app (r : Rep m h) {e esz bytes : Nat} {x y : AV} (k : appendA h e esz bytes x y K) : Ends (appendOp m e esz bytes x y) S m K := by
  unfold appendA at k
  unfold appendOp
  rw [srcA_eq r]
  cases hs : srcA h esz y with
  | none => rw [hs] at k; exact k.elim
  | some p =>
    obtain ⟨n, cs⟩ := p
    rw [hs] at k
    cases x with
    | nilsl =>
      simp only at k ⊢
      split at k
      · rename_i h0; rw [if_pos h0]; exact ends_same r k
      · rename_i h0
        rw [if_neg h0, if_pos k.1]
        exact ends_new r k.2
    | sl b off len cap =>
      simp only at k ⊢
      split at k
      · rename_i h0; rw [if_pos h0]; exact ends_same r k
      · rename_i h0
        rw [if_neg h0]
        cases cap with
        | exact c =>
          simp only at k ⊢
          split at k
          · rename_i h1
            rw [if_pos h1]
            exact ends_mem r k
          · rename_i h1
            rw [if_neg h1, if_pos k.1, r.read]
            have k := k.2
            cases ho : h.read b off (len * esz) <;> rw [ho] at k
            · exact k.elim
            · exact ends_new r k
        | more z =>
          simp only at k ⊢
          rw [r.eq]
          split at k
          · rename_i known e' hb
            obtain ⟨h1, k⟩ := k
            rw [hb]
            simp only
            rw [if_pos h1]
            split at k
            · rename_i h2
              rw [if_pos h2]
              exact ends_mem r k
            · rename_i h2
              rw [if_neg h2]
              have hb' : m.get b = some (.live known e' true) := by rw [r.eq, hb]
              obtain ⟨v, m', h', h3, h4, h5, h6⟩ := ends_new (S := S) (r.set b .dead (r.lt hb')) k
              exact ⟨v, m', h', h3, h4, (Keep.set S hb').trans h5, h6⟩
          · exact k.elim
        | any => exact k.elim
    | _ => exact k.elim

theorem cell_read (h : H) (b off : Nat) : h.read b off 1 = (match h.cell b off with | some v => some [v] | none => none) := by
  unfold H.read H.cell
  split
  · rename_i cs e o hc
    by_cases hl : off < cs.length
    · rw [if_pos (by omega)]
      simp only [List.getElem?_eq_getElem hl, List.drop_eq_getElem_cons hl]
      rfl
    · rw [if_neg (by omega), List.getElem?_eq_none (by omega)]
  · rfl
theorem ends_op {C : CallA} {cf : Nat → CallF} (hC : ∀ f a h K m, C f a h K → Rep m h → ∃ k, Ends (cf k f a m) nobody m K) (r : Rep m h) {tm : List AV} {base : Nat} {op : IOp} (k : opA C (Opd.eval tm) h op K)
    (hs : ∀ j, op.slot = some j → m.get (base + j) = none ∧ base + j < m.next ∧ S (base + j)) : ∃ k, Ends (evOp (cf k) base tm m op) S m K := by
  have wk : ∀ {o}, Ends o nobody m K → Ends o S m K := fun ⟨v, m', h', h1, h2, h3, h4⟩ => ⟨v, m', h', h1, h2, h3.weaken fun _ x => x.elim, h4⟩
  cases op
  case call f args => obtain ⟨j, h1⟩ := hC _ _ _ _ m k r; exact ⟨j, wk h1⟩
  case callv x args =>
    have k : callvA C (x.eval tm) (args.map (·.eval tm)) h K := k
    unfold callvA at k
    split at k
    · rename_i f a c hx
      obtain ⟨j, h1⟩ := hC _ _ _ _ m k r
      refine ⟨j, ?_⟩
      show Ends (match x.eval tm with | .fn f first cap => cf j f (first ++ args.map (·.eval tm) ++ cap) m | _ => none) S m K
      rw [hx]
      exact wk h1
    · exact k.elim
  all_goals refine ⟨0, ?_⟩
  case mv x => exact ends_same r k
  case pick c a b =>
    show Ends (match c.eval tm with | .bool t => some (if t then a.eval tm else b.eval tm, m) | _ => none) S m K
    have k : valA (pickA (c.eval tm) (a.eval tm) (b.eval tm)) h K := k
    cases hc : c.eval tm <;> rw [hc] at k <;> first | exact ends_same r k | exact k.elim
  case al s e z => exact ends_row r k hs
  case bx s e x => exact ends_row r k hs
  case build tpl ps =>
    show Ends (pureOp ((fillParts tm tpl ps).map .agg) m) S m K
    have k : valA (buildA (fillA (Opd.eval tm) tpl ps)) h K := k
    rw [fillA_eq]
    cases hf : fillA (Opd.eval tm) tpl ps <;> rw [hf] at k
    · exact k.elim
    · exact ends_same r k
  case mksl s e tpl len ps =>
    show Ends (match fillParts tm tpl ps with | some cs => newRow m base s cs e fun b => .sl b 0 len (.exact len) | none => none) S m K
    have k : mkslA h e len (fillA (Opd.eval tm) tpl ps) K := k
    rw [fillA_eq]
    cases hf : fillA (Opd.eval tm) tpl ps <;> rw [hf] at k
    · exact k.elim
    · exact ends_row r k hs
  case ld n x =>
    cases n with
    | none =>
      show Ends (match x.eval tm with | .ptr b off => (match m.read b off 1 with | some [v] => some (v, m) | _ => none) | _ => none) S m K
      have k : valA (ldA h none (x.eval tm)) h K := k
      cases hx : x.eval tm <;> rw [hx] at k <;> try exact k.elim
      rename_i b off
      simp only [r.read, cell_read]
      have k : valA (h.cell b off) h K := k
      cases hc : h.cell b off <;> rw [hc] at k
      · exact k.elim
      · exact ends_same r k
    | some n =>
      show Ends (match x.eval tm with | .ptr b off => (match m.read b off n with | some cs => some (.agg cs, m) | none => none) | _ => none) S m K
      have k : valA (ldA h (some n) (x.eval tm)) h K := k
      cases hx : x.eval tm <;> rw [hx] at k <;> try exact k.elim
      rename_i b off
      simp only [r.read]
      simp only [ldA] at k
      cases hc : h.read b off n <;> rw [hc] at k
      · exact k.elim
      · exact ends_same r k
  case st n x y =>
    show Ends (match x.eval tm with | .ptr b off => let vs := (y.eval tm).cells; if vs.length = n then (match m.write b off vs with | some m' => some (.undef, m') | none => none) else none | _ => none) S m K
    have k : memA (stA h n (x.eval tm) (y.eval tm)) .undef K := k
    cases hx : x.eval tm <;> rw [hx] at k <;> try exact k.elim
    simp only [stA] at k ⊢
    by_cases hn : (y.eval tm).cells.length = n
    · rw [if_pos hn] at k ⊢
      exact ends_mem r k
    · rw [if_neg hn] at k; exact k.elim
  case nilc x =>
    show Ends (match x.eval tm with | .ptr b off => some (.ptr b off, m) | .fn f a c => some (.fn f a c, m) | _ => none) S m K
    have k : valA (nilcA (x.eval tm)) h K := k
    cases hx : x.eval tm <;> rw [hx] at k <;> first | exact ends_same r k | exact k.elim
  case bin op kd x y => exact ends_val r k
  case un op x => exact ends_val r k
  case cv s c x =>
    cases c with
    | toInt q =>
      show Ends (match x.eval tm with | .int _ n => some (.int q (q.wrap n), m) | _ => none) S m K
      have k : valA (cvA q (x.eval tm)) h K := k
      cases hx : x.eval tm <;> rw [hx] at k <;> first | exact ends_same r k | exact k.elim
    | same =>
      show Ends (match x.eval tm with | .str s => some (.str s, m) | _ => none) S m K
      have k : valA (sameA (x.eval tm)) h K := k
      cases hx : x.eval tm <;> rw [hx] at k <;> first | exact ends_same r k | exact k.elim
    | keep =>
      show Ends (match x.eval tm with | .sl b off len c => (match m.get b with | some (.live _ _ true) => if 0 < len then some (.sl b off len c, m) else none | _ => none) | _ => none) S m K
      have k : valA (keepA h (x.eval tm)) h K := k
      cases hx : x.eval tm <;> rw [hx] at k <;> first | exact ends_same r k | exact k.elim | skip
      simp only [keepA, ← r.eq] at k
      simp only
      split at k
      · rename_i cs e hg
        split at k
        · rename_i hl
          rw [if_pos hl]
          exact ends_same r k
        · exact k.elim
      · exact k.elim
    | b2s =>
      show Ends (match x.eval tm with | .nilsl => some (.str [], m) | .sl b off len _ => (match m.read b off len with | some cs => pureOp ((bytesOf cs).map .str) m | none => none) | _ => none) S m K
      have k : valA (b2sA h (x.eval tm)) h K := k
      cases hx : x.eval tm <;> rw [hx] at k <;> first | exact ends_same r k | exact k.elim | skip
      simp only [b2sA, r.read] at k ⊢
      split at k
      · exact ends_val r k
      · exact k.elim
    | s2b e =>
      show Ends (match x.eval tm with | .str l => newRow m base s (l.map fun c => .int .u8 c.toNat) e fun b => .sl b 0 l.length (.more 1) | _ => none) S m K
      have k : s2bA h e (x.eval tm) K := k
      cases hx : x.eval tm <;> rw [hx] at k <;> first | exact ends_row r k hs | exact k.elim
  case mkf f a c => exact ends_same r k
  case mks s e z b l c =>
    show Ends (match natOf (l.eval tm), natOf (c.eval tm) with
      | some l, some c => if l ≤ c ∧ c * b ≤ most ∧ c < 9223372036854775808 then newRow m base s (repCells z c) e fun b => .sl b 0 l (.exact c) else none
      | _, _ => none) S m K
    have k : mksA h e z b (l.eval tm) (c.eval tm) K := k
    unfold mksA at k
    split at k
    · rename_i l' c' h1 h2
      rw [if_pos k.1]
      exact ends_row r k.2 hs
    · exact k.elim
  case sli q x lo hi mx => exact ends_val r k
  case fa off x =>
    show Ends (match x.eval tm with | .ptr b o => some (.ptr b (o + off), m) | _ => none) S m K
    have k : valA (faA off (x.eval tm)) h K := k
    cases hx : x.eval tm <;> rw [hx] at k <;> first | exact ends_same r k | exact k.elim
  case fld off n x =>
    show Ends (match x.eval tm with | .agg cs => pureOp (partOf cs off n) m | _ => none) S m K
    have k : valA (fldA off n (x.eval tm)) h K := k
    cases hx : x.eval tm <;> rw [hx] at k <;> first | exact ends_val r k | exact k.elim
  case ia a esz x i =>
    cases a with
    | none =>
      show Ends (match x.eval tm, i.eval tm with | .sl b off len _, .int _ n => if 0 ≤ n ∧ n < len then some (.ptr b (off + n.toNat * esz), m) else none | _, _ => none) S m K
      have k : valA (iaA esz (x.eval tm) (i.eval tm)) h K := k
      cases hx : x.eval tm <;> rw [hx] at k <;> try exact k.elim
      cases hi : i.eval tm <;> rw [hi] at k <;> try exact k.elim
      simp only [iaA] at k ⊢
      split at k
      · rename_i hc; rw [if_pos hc]; exact ends_same r k
      · exact k.elim
    | some len =>
      show Ends (match x.eval tm, i.eval tm with | .ptr b off, .int _ n => if 0 ≤ n ∧ n < len then some (.ptr b (off + n.toNat * esz), m) else none | _, _ => none) S m K
      have k : valA (iaArrA len esz (x.eval tm) (i.eval tm)) h K := k
      cases hx : x.eval tm <;> rw [hx] at k <;> try exact k.elim
      cases hi : i.eval tm <;> rw [hi] at k <;> try exact k.elim
      simp only [iaArrA] at k ⊢
      split at k
      · rename_i hc; rw [if_pos hc]; exact ends_same r k
      · exact k.elim
  case ix a x i =>
    rcases a with _ | ⟨len, esz, q⟩
    · show Ends (match x.eval tm, i.eval tm with | .str s, .int _ n => if 0 ≤ n then (match s[n.toNat]? with | some c => some (.int .u8 c.toNat, m) | none => none) else none | _, _ => none) S m K
      have k : valA (ixStrA (x.eval tm) (i.eval tm)) h K := k
      cases hx : x.eval tm <;> rw [hx] at k <;> try exact k.elim
      cases hi : i.eval tm <;> rw [hi] at k <;> try exact k.elim
      rename_i l _ n
      simp only [ixStrA] at k ⊢
      by_cases h0 : 0 ≤ n
      · rw [if_pos h0] at k ⊢
        cases hq : l[n.toNat]? <;> rw [hq] at k
        · exact k.elim
        · exact ends_same r k
      · rw [if_neg h0] at k; exact k.elim
    · show Ends (match x.eval tm, i.eval tm with | .agg cs, .int _ n => if 0 ≤ n ∧ n < len then pureOp (partOf cs (n.toNat * esz) q) m else none | _, _ => none) S m K
      have k : valA (ixArrA len esz q (x.eval tm) (i.eval tm)) h K := k
      cases hx : x.eval tm <;> rw [hx] at k <;> try exact k.elim
      cases hi : i.eval tm <;> rw [hi] at k <;> try exact k.elim
      simp only [ixArrA] at k ⊢
      split at k
      · rename_i hc; rw [if_pos hc]; exact ends_val r k
      · exact k.elim
  case ext x i =>
    show Ends (match x.eval tm with | .tup l => pureOp l[i]? m | _ => none) S m K
    have k : valA (extA (x.eval tm) i) h K := k
    cases hx : x.eval tm <;> rw [hx] at k <;> first | exact ends_val r k | exact k.elim
  case app e z b zs x y => exact ends_app r k
  case grow e z b zs x y =>
    show Ends (growOp m e z b zs (x.eval tm) (y.eval tm)) S m K
    have k : growA h e z b zs (x.eval tm) (y.eval tm) K := k
    unfold growA at k
    unfold growOp
    split at k
    · rename_i hx hk
      rw [hx, hk]
      simp only
      rw [if_pos k.1]
      exact ends_new r k.2
    · exact k.elim
  case clear z x =>
    show Ends (match x.eval tm with | .nilsl => some (.undef, m) | .sl b off len _ => if len = 0 then some (.undef, m) else (match m.write b off (repCells z len) with | some m' => some (.undef, m') | none => none) | _ => none) S m K
    have k : clearA h z (x.eval tm) K := k
    cases hx : x.eval tm <;> rw [hx] at k <;> first | exact ends_same r k | exact k.elim | skip
    simp only [clearA] at k ⊢
    split at k
    · rename_i h0; rw [if_pos h0]; exact ends_same r k
    · rename_i h0; rw [if_neg h0]; exact ends_mem r k
  case copy z x y =>
    show Ends (match x.eval tm, srcCells m z (y.eval tm) with
      | .nilsl, some _ => some (.int .i64 0, m)
      | .sl b off len _, some (n, cs) => if min n len = 0 then some (.int .i64 0, m) else (match m.write b off (cs.take (min n len * z)) with | some m' => some (.int .i64 (min n len : Nat), m') | none => none)
      | _, _ => none) S m K
    have k : copyA h z (x.eval tm) (y.eval tm) K := k
    rw [srcA_eq r]
    unfold copyA at k
    split at k
    · exact ends_same r k
    · split at k
      · rename_i h0; rw [if_pos h0]; exact ends_same r k
      · rename_i h0; rw [if_neg h0]; exact ends_mem r k
    · exact k.elim
  case len s x =>
    cases s
    · show Ends (match x.eval tm with | .nilsl => some (.int .i64 0, m) | .sl _ _ n _ => some (.int .i64 n, m) | _ => none) S m K
      have k : valA (lenA false (x.eval tm)) h K := k
      cases hx : x.eval tm <;> rw [hx] at k <;> first | exact ends_same r k | exact k.elim
    · show Ends (match x.eval tm with | .str s => some (.int .i64 s.length, m) | _ => none) S m K
      have k : valA (lenA true (x.eval tm)) h K := k
      cases hx : x.eval tm <;> rw [hx] at k <;> first | exact ends_same r k | exact k.elim
  case cap x =>
    show Ends (match x.eval tm with | .nilsl => some (.int .i64 0, m) | .sl _ _ _ (.exact c) => some (.int .i64 c, m) | _ => none) S m K
    have k : valA (capA (x.eval tm)) h K := k
    cases hx : x.eval tm <;> rw [hx] at k <;> first | exact ends_same r k | exact k.elim | skip
    rename_i c
    cases c <;> first | exact ends_same r k | exact k.elim
  case mn l =>
    show Ends (match l.map (·.eval tm) with | x :: l => pureOp (minInt x l) m | [] => none) S m K
    have k : valA (mnA (l.map (·.eval tm))) h K := k
    cases hx : l.map (·.eval tm) <;> rw [hx] at k <;> first | exact ends_val r k | exact k.elim
  case mx l =>
    show Ends (match l.map (·.eval tm) with | x :: l => pureOp (maxInt x l) m | [] => none) S m K
    have k : valA (mxA (l.map (·.eval tm))) h K := k
    cases hx : l.map (·.eval tm) <;> rw [hx] at k <;> first | exact ends_val r k | exact k.elim
end
end Go.Proofs.Ytljkkfcokpimkaa.X
