/- What the law law6 needs: texts of one's own, put together; functions' contracts and plain facts. -/
import Derived.Test.YtdljelicbnjfjaaGreatT6Fb
import Derived.Test.YtdljelicbnjfjaaGreatXr
import Derived.RowKit
import Derived.Laws.BitsLemmas
import Derived.Test.YtdljelicbnjfjaaGreatYa
namespace Go.Proofs.YtdljelicbnjfjaaGreat.X
open Go Go.RowKit
theorem i64_wf {a : Int} (h : (Lit.int .i64 a).wf = true) : -9223372036854775808 ≤ a ∧ a ≤ 9223372036854775807 := by
  simpa [Lit.wf, IntKind.min, IntKind.max, IntKind.signed, IntKind.bits] using h
theorem or_comm (x y : Int) : bits .or .u64 x y = bits .or .u64 y x := by
  show IntKind.u64.wrap ((BitVec.ofInt _ x ||| BitVec.ofInt _ y).toNat : Int) = IntKind.u64.wrap ((BitVec.ofInt _ y ||| BitVec.ofInt _ x).toNat : Int)
  rw [BitVec.or_comm]
end Go.Proofs.YtdljelicbnjfjaaGreat.X
namespace Go.Proofs.YtdljelicbnjfjaaGreat.X
end Go.Proofs.YtdljelicbnjfjaaGreat.X
set_option linter.unusedVariables false
set_option linter.unusedSimpArgs false
set_option maxRecDepth 20000
namespace Go.Proofs.YtdljelicbnjfjaaGreat.X
open Go Go.RowKit
theorem i64_wrap (n : Int) : IntKind.i64.wrap n = wrap64 n := by simp only [IntKind.wrap, wrap64, IntKind.bits, IntKind.signed]; simp; omega
theorem i64_id {n : Int} (h0 : -9223372036854775808 ≤ n) (h1 : n < 9223372036854775808) : IntKind.i64.wrap n = n := by rw [i64_wrap]; unfold wrap64; omega
end Go.Proofs.YtdljelicbnjfjaaGreat.X
set_option linter.unusedVariables false
set_option linter.unusedSimpArgs false
set_option maxRecDepth 20000
namespace Go.Proofs.YtdljelicbnjfjaaGreat.X
open Go Go.RowKit
@[go_sem] theorem fillV_int {z : AV} {k : IntKind} {n : Int} : fillV [z] [(0, 1, .int k n)] = some [.int k n] := by
  simp [fillV, AV.cells, leaves, AV.leaf, overlay]
end Go.Proofs.YtdljelicbnjfjaaGreat.X
set_option linter.unusedVariables false
set_option linter.unusedSimpArgs false
set_option maxRecDepth 20000
namespace Go.Proofs.YtdljelicbnjfjaaGreat.X
open Go Go.RowKit
end Go.Proofs.YtdljelicbnjfjaaGreat.X
set_option linter.unusedVariables false
set_option linter.unusedSimpArgs false
set_option maxRecDepth 20000
namespace Go.Proofs.YtdljelicbnjfjaaGreat.X
open Go Go.RowKit
theorem liesA_nil {h : H} {ls : List (List AV)} (hl : LiesA h [] ls) : ls = [] := by cases ls <;> first | rfl | exact hl.elim
theorem liesA_cons {h : H} {s : Sh} {ss : List Sh} {ls : List (List AV)} (hl : LiesA h (s :: ss) ls) : ∃ l ls', ls = l :: ls' ∧ Lies h s l ∧ LiesA h ss ls' := by
  cases ls with
  | nil => exact hl.elim
  | cons l ls => exact ⟨l, ls, rfl, hl.1, hl.2⟩
theorem lies_bool {h : H} {l : List AV} (hl : Lies h .bool l) : ∃ b, l = [.bool b] := by
  simpa only [Lies] using hl
end Go.Proofs.YtdljelicbnjfjaaGreat.X
set_option linter.unusedVariables false
set_option linter.unusedSimpArgs false
set_option maxRecDepth 20000
namespace Go.Proofs.YtdljelicbnjfjaaGreat.X
open Go Go.RowKit
end Go.Proofs.YtdljelicbnjfjaaGreat.X
set_option linter.unusedVariables false
set_option linter.unusedSimpArgs false
set_option maxRecDepth 20000
namespace Go.Proofs.YtdljelicbnjfjaaGreat.X
open Go Go.RowKit
def ic (L : List Int) : List AV := L.map fun n => AV.int .i64 n
section
variable {h : H}
theorem lies_ints {l : List AV} (hl : Lies h (.sl (.int .i64)) l) : ∃ v L, l = [v] ∧ Row h v L.length 1 (ic L) ∧ (∀ n ∈ L, -9223372036854775808 ≤ n ∧ n ≤ 9223372036854775807) ∧ L.length ≤ reachBytes := by
  simp only [Lies] at hl
  rcases hl with rfl | ⟨b, ei, css, rfl, hb, hm, hcs⟩
  · exact ⟨.nilsl, [], rfl, ⟨rfl, .inl ⟨rfl, rfl⟩⟩, by simp, by simp⟩
  · obtain ⟨L, hL, hfl, hlen⟩ : ∃ L : List Int, (∀ n ∈ L, -9223372036854775808 ≤ n ∧ n ≤ 9223372036854775807) ∧ css.flatten = ic L ∧ L.length = css.length := by
      clear hb hm
      induction css with
      | nil => exact ⟨[], by simp, rfl, rfl⟩
      | cons c css ih =>
        obtain ⟨L, i1, i2, i3⟩ := ih fun c hc => hcs c (by simp [hc])
        obtain ⟨n, rfl, hw⟩ := hcs c (by simp)
        have hn := i64_wf hw
        refine ⟨n :: L, ?_, ?_, by simp [i3]⟩
        · intro d hd
          rcases List.mem_cons.1 hd with rfl | hd
          · omega
          · exact i1 d hd
        · simp [ic, i2]
    refine ⟨_, L, rfl, ⟨by simp [ic], .inr ⟨b, 0, .any, by rw [hlen], rfl, ?_⟩⟩, hL, by omega⟩
    refine H.read_eq hb (by rw [hfl]; simp [ic]) ?_
    rw [hfl, List.drop_zero, List.take_of_length_le (by simp [ic])]
theorem Own.fr {h0 h h' : H} {ty esz : Nat} {v : AV} {n : Nat} {cs : List AV} (o : Own h0 h ty esz v n cs) (f : Fr [] h h') : Own h0 h' ty esz v n cs := by
  refine ⟨o.1, ?_⟩
  rcases o.2 with q | ⟨b, q1, q2, q3⟩
  · exact .inl q
  · exact .inr ⟨b, q1, q2, f b _ (by simp) q3⟩
theorem sl_none {v : AV} {n esz : Nat} {cs : List AV} (hr : Row h v n esz cs) {j : Nat} (hj : j ≤ n) (hn : 0 < n) :
    ∃ v', sliceOp (.row esz) v none (some (.int .i64 j)) none = some v' ∧ Row h v' j esz (cs.take (j * esz)) := by
  obtain ⟨v', w1, w2⟩ := hr.slice (k := .i64) (k' := .i64) (i := 0) (j := j) (by omega) (by omega) (by omega) hn
  have e : sliceOp (.row esz) v none (some (.int .i64 j)) none = sliceOp (.row esz) v (some (.int .i64 0)) (some (.int .i64 j)) none := by
    rcases hr.2 with ⟨_, rfl⟩ | ⟨b, off, cap, rfl, _, _⟩ <;> rfl
  refine ⟨v', by rw [e]; exact w1, ?_⟩
  simpa using w2
end
end Go.Proofs.YtdljelicbnjfjaaGreat.X
set_option linter.unusedVariables false
set_option linter.unusedSimpArgs false
set_option maxRecDepth 20000
namespace Go.Proofs.YtdljelicbnjfjaaGreat.X
open Go Go.RowKit
section
variable {h : H}
theorem Row.one {v : AV} {n esz : Nat} {cs : List AV} (r : Row h v n esz cs) : v.leaf = true ∧ v.cells = [v] := by
  rcases r.2 with ⟨_, rfl⟩ | ⟨_, _, _, rfl, _⟩ <;> exact ⟨rfl, rfl⟩
end
end Go.Proofs.YtdljelicbnjfjaaGreat.X
set_option linter.unusedVariables false
set_option linter.unusedSimpArgs false
set_option maxRecDepth 20000
namespace Go.Proofs.YtdljelicbnjfjaaGreat.X
open Go Go.RowKit
end Go.Proofs.YtdljelicbnjfjaaGreat.X
set_option linter.unusedVariables false
set_option linter.unusedSimpArgs false
set_option maxRecDepth 20000
namespace Go.Proofs.YtdljelicbnjfjaaGreat.X
open Go Go.RowKit
end Go.Proofs.YtdljelicbnjfjaaGreat.X
set_option linter.unusedVariables false
set_option linter.unusedSimpArgs false
set_option maxRecDepth 20000
namespace Go.Proofs.YtdljelicbnjfjaaGreat.X
open Go Go.RowKit
theorem st_val {h : H} {b e off : Nat} {cs : List AV} {v : AV} (hb : h.get b = some (.live cs e true)) (ho : off < cs.length) (hv : v.leaf = true) (hc : v.cells = [v]) : stA h 1 (.ptr b off) v = some (h.set b (.live (cs.set off v) e true)) := by
  simp only [stA, hc, List.length_singleton, if_true]
  exact write_one hb ho hv
theorem Own.ne {h1 h' : H} {ty esz : Nat} {v : AV} {n : Nat} {cs : List AV} (o : Own h1 h' ty esz v n cs) {d ty' : Nat} {cs' : List AV} {w : Bool} (hd : h'.get d = some (.live cs' ty' w)) (ht : ty ≠ ty') : ∀ n' p, v ≠ .sl d 0 n' p := by
  rintro n' p rfl
  rcases o.2 with ⟨_, q⟩ | ⟨b, q, _, q3⟩
  · cases q
  · injection q with q _
    rw [← q, hd] at q3
    injection q3 with q3; injection q3 with _ q3 _
    exact ht q3.symm
theorem Own.keep {h1 h' h'' : H} {ty esz : Nat} {v : AV} {n : Nat} {cs : List AV} (o : Own h1 h' ty esz v n cs) (k : ∀ c n' p, v = .sl c 0 n' p → ∀ ob, h'.get c = some ob → h''.get c = some ob) : Own h1 h'' ty esz v n cs := by
  refine ⟨o.1, ?_⟩
  rcases o.2 with q | ⟨b, q1, q2, q3⟩
  · exact .inl q
  · exact .inr ⟨b, q1, q2, k b _ _ q1 _ q3⟩
theorem Fr.cons {S : List Nat} {h0 h1 h2 : H} {P : List Nat} (f : Fr S h0 h1) (hP : ∀ c ∈ P, h0.get c = none) (f2 : Fr P h1 h2) : Fr S h0 h2 := fun c o hc hg => by
  refine f2 c o (fun q => ?_) (f c o hc hg)
  rw [hP c q] at hg; cases hg
theorem box_r {h : H} {cs : List AV} {e : Nat} {K : AV → H → Prop} (hl : leaves cs = true) (hK : ∀ b, h.get b = none → K (.ptr b 0) (h.set b (.live cs e true))) : boxA h cs e K := ⟨hl, hK⟩
theorem ldA_read {h : H} {b off n : Nat} {cs : List AV} (hr : h.read b off n = some cs) : ldA h (some n) (.ptr b off) = some (.agg cs) := by rw [ldA_s, hr]
/-! ### Images -/
structure Ty where
  imm : Bool
  sh : List Int
structure Shp where
  kind : Int
  fs : List Int
  name : List UInt8
structure Ins where
  op : Int
  d : Int
  a : Int
  b : Int
  c : Int
  n : Int
  l : List Int
  m : List Int
  live : List Int
structure Blk where
  inn : List Int
  code : List Ins
structure Fn where
  params : List Int
  result : Int
  slots : Int
  blocks : List Blk
structure Img where
  types : List Ty
  shapes : List Shp
  strs : List (List UInt8)
  names : List (List UInt8)
  fns : List Fn
  main : Int
  exn : Int
def rg (n : Int) : Prop := -9223372036854775808 ≤ n ∧ n ≤ 9223372036854775807
def rgs (l : List Int) : Prop := l.length ≤ reachBytes ∧ ∀ n ∈ l, rg n
def Ty.ok (t : Ty) : Prop := rgs t.sh
def Shp.ok (s : Shp) : Prop := rg s.kind ∧ rgs s.fs ∧ s.name.length ≤ reachBytes
def Ins.ok (x : Ins) : Prop := (rg x.op ∧ rg x.d ∧ rg x.a ∧ rg x.b ∧ rg x.c ∧ rg x.n) ∧ rgs x.l ∧ rgs x.m ∧ rgs x.live
def Blk.ok (b : Blk) : Prop := rgs b.inn ∧ b.code.length ≤ reachBytes ∧ ∀ x ∈ b.code, x.ok
def Fn.ok (f : Fn) : Prop := rgs f.params ∧ rg f.result ∧ rg f.slots ∧ f.blocks.length ≤ reachBytes ∧ ∀ b ∈ f.blocks, b.ok
def Img.ok (m : Img) : Prop := (m.types.length ≤ reachBytes ∧ ∀ t ∈ m.types, t.ok) ∧ (m.shapes.length ≤ reachBytes ∧ ∀ s ∈ m.shapes, s.ok) ∧ (m.strs.length ≤ reachBytes ∧ ∀ s ∈ m.strs, s.length ≤ reachBytes) ∧
  (m.names.length ≤ reachBytes ∧ ∀ s ∈ m.names, s.length ≤ reachBytes) ∧ (m.fns.length ≤ reachBytes ∧ ∀ f ∈ m.fns, f.ok) ∧ rg m.main ∧ rg m.exn
def RowOf {α : Type} (h : H) (esz : Nat) (Rel : α → List AV → Prop) (v : AV) (l : List α) : Prop :=
  ∃ css : List (List AV), css.length = l.length ∧ (∀ (i : Nat) (x : α) (c : List AV), l[i]? = some x → css[i]? = some c → Rel x c) ∧ (∀ c ∈ css, c.length = esz) ∧ Row h v l.length esz css.flatten
def tyR (h : H) (t : Ty) (c : List AV) : Prop := ∃ v, c = [.bool t.imm, v] ∧ Row h v t.sh.length 1 (ic t.sh)
def shR (h : H) (s : Shp) (c : List AV) : Prop := ∃ v, c = [.int .i64 s.kind, v, .str s.name] ∧ Row h v s.fs.length 1 (ic s.fs)
def stR (s : List UInt8) (c : List AV) : Prop := c = [.str s]
def insC (x : Ins) (vl vm vv : AV) : List AV := [.int .i64 x.op, .int .i64 x.d, .int .i64 x.a, .int .i64 x.b, .int .i64 x.c, .int .i64 x.n, vl, vm, vv]
def insR (h : H) (x : Ins) (c : List AV) : Prop := ∃ vl vm vv, c = insC x vl vm vv ∧ Row h vl x.l.length 1 (ic x.l) ∧ Row h vm x.m.length 1 (ic x.m) ∧ Row h vv x.live.length 1 (ic x.live)
def blkR (h : H) (b : Blk) (c : List AV) : Prop := ∃ vi vc, c = [vi, vc] ∧ Row h vi b.inn.length 1 (ic b.inn) ∧ RowOf h 9 (insR h) vc b.code
def fnR (h : H) (f : Fn) (c : List AV) : Prop := ∃ vp vb, c = [vp, .int .i64 f.result, .int .i64 f.slots, vb] ∧ Row h vp f.params.length 1 (ic f.params) ∧ RowOf h 2 (blkR h) vb f.blocks
def imgR (h : H) (m : Img) (c : List AV) : Prop := ∃ vt vs vx vn vf, c = [vt, vs, vx, vn, vf, .int .i64 m.main, .int .i64 m.exn] ∧
  RowOf h 2 (tyR h) vt m.types ∧ RowOf h 3 (shR h) vs m.shapes ∧ RowOf h 1 stR vx m.strs ∧ RowOf h 1 stR vn m.names ∧ RowOf h 4 (fnR h) vf m.fns
theorem Row.nil (h : H) (esz : Nat) : Row h .nilsl 0 esz [] := ⟨by simp, .inl ⟨rfl, rfl⟩⟩
theorem RowOf.nil {α : Type} (h : H) (esz : Nat) (Rel : α → List AV → Prop) : RowOf h esz Rel .nilsl [] := ⟨[], rfl, by simp, by simp, Row.nil h esz⟩
section
variable {α : Type} {h : H} {esz : Nat} {Rel : α → List AV → Prop} {v : AV} {l : List α}
theorem RowOf.one (r : RowOf h esz Rel v l) : v.leaf = true ∧ v.cells = [v] := by obtain ⟨_, _, _, _, r⟩ := r; exact r.one
theorem RowOf.len (r : RowOf h esz Rel v l) : lenA false v = some (.int .i64 l.length) := by obtain ⟨_, _, _, _, r⟩ := r; exact r.len
theorem RowOf.mono (r : RowOf h esz Rel v l) {h' : H} {Rel' : α → List AV → Prop} (f : Fr [] h h') (hr : ∀ x ∈ l, ∀ c, Rel x c → Rel' x c) : RowOf h' esz Rel' v l := by
  obtain ⟨css, h1, h2, h3, r⟩ := r
  exact ⟨css, h1, fun i x c hx hc => hr x (List.mem_of_getElem? hx) c (h2 i x c hx hc), h3, r.fr f⟩
end
section
variable {h h' : H}
theorem tyR.fr (f : Fr [] h h') {t : Ty} {c : List AV} (r : tyR h t c) : tyR h' t c := by obtain ⟨v, h1, h2⟩ := r; exact ⟨v, h1, h2.fr f⟩
theorem shR.fr (f : Fr [] h h') {t : Shp} {c : List AV} (r : shR h t c) : shR h' t c := by obtain ⟨v, h1, h2⟩ := r; exact ⟨v, h1, h2.fr f⟩
theorem insR.fr (f : Fr [] h h') {t : Ins} {c : List AV} (r : insR h t c) : insR h' t c := by obtain ⟨x, y, z, h1, h2, h3, h4⟩ := r; exact ⟨x, y, z, h1, h2.fr f, h3.fr f, h4.fr f⟩
theorem blkR.fr (f : Fr [] h h') {t : Blk} {c : List AV} (r : blkR h t c) : blkR h' t c := by obtain ⟨x, y, h1, h2, h3⟩ := r; exact ⟨x, y, h1, h2.fr f, h3.mono f fun _ _ _ => insR.fr f⟩
theorem fnR.fr (f : Fr [] h h') {t : Fn} {c : List AV} (r : fnR h t c) : fnR h' t c := by obtain ⟨x, y, h1, h2, h3⟩ := r; exact ⟨x, y, h1, h2.fr f, h3.mono f fun _ _ _ => blkR.fr f⟩
theorem imgR.fr (f : Fr [] h h') {t : Img} {c : List AV} (r : imgR h t c) : imgR h' t c := by
  obtain ⟨a1, a2, a3, a4, a5, h1, h2, h3, h4, h5, h6⟩ := r
  exact ⟨a1, a2, a3, a4, a5, h1, h2.mono f fun _ _ _ => tyR.fr f, h3.mono f fun _ _ _ => shR.fr f, h4.mono f fun _ _ _ x => x, h5.mono f fun _ _ _ x => x, h6.mono f fun _ _ _ => fnR.fr f⟩
theorem tyR.leaves {t : Ty} {c : List AV} (r : tyR h t c) : leaves c = true := by obtain ⟨v, rfl, h2⟩ := r; simp only [X.leaves, h2.one.1]; rfl
theorem shR.leaves {t : Shp} {c : List AV} (r : shR h t c) : leaves c = true := by obtain ⟨v, rfl, h2⟩ := r; simp only [X.leaves, h2.one.1]; rfl
theorem insR.leaves {t : Ins} {c : List AV} (r : insR h t c) : leaves c = true := by obtain ⟨x, y, z, rfl, h2, h3, h4⟩ := r; simp only [insC, X.leaves, h2.one.1, h3.one.1, h4.one.1]; rfl
theorem blkR.leaves {t : Blk} {c : List AV} (r : blkR h t c) : leaves c = true := by obtain ⟨x, y, rfl, h2, h3⟩ := r; simp only [X.leaves, h2.one.1, h3.one.1]; rfl
theorem fnR.leaves {t : Fn} {c : List AV} (r : fnR h t c) : leaves c = true := by obtain ⟨x, y, rfl, h2, h3⟩ := r; simp only [X.leaves, h2.one.1, h3.one.1]; rfl
theorem imgR.leaves {t : Img} {c : List AV} (r : imgR h t c) : leaves c = true := by
  obtain ⟨a1, a2, a3, a4, a5, rfl, h2, h3, h4, h5, h6⟩ := r
  simp only [X.leaves, h2.one.1, h3.one.1, h4.one.1, h5.one.1, h6.one.1]; rfl
end
end Go.Proofs.YtdljelicbnjfjaaGreat.X
set_option linter.unusedVariables false
set_option linter.unusedSimpArgs false
set_option maxRecDepth 20000
namespace Go.Proofs.YtdljelicbnjfjaaGreat.X
open Go Go.RowKit
def WS (h0 h : H) (v : AV) (L : List Nat) : Prop := Own h0 h 5 1 v L.length (bc L) ∨ ∃ m, v = .sl m 0 L.length (.exact L.length) ∧ h0.get m = none ∧ h.get m = some (.live (bc L) 5 true)
section
variable {h0 h h' : H} {v : AV} {L : List Nat}
theorem WS.one (s : WS h0 h v L) : v.leaf = true ∧ v.cells = [v] := by
  rcases s with s | ⟨m, rfl, _, _⟩
  · exact s.row.one
  · exact ⟨rfl, rfl⟩
theorem WS.fr (s : WS h0 h v L) (f : Fr [] h h') : WS h0 h' v L := by
  rcases s with s | ⟨m, q1, q2, q3⟩
  · exact .inl (s.keep fun c n' p _ ob hg => f c ob (by simp) hg)
  · exact .inr ⟨m, q1, q2, f m _ (by simp) q3⟩
theorem WS.row (s : WS h0 h v L) : Row h v L.length 1 (bc L) := by
  rcases s with s | ⟨m, rfl, _, hg⟩
  · exact s.row
  · exact ⟨by rw [bc_length, Nat.mul_one], .inr ⟨m, 0, _, rfl, rfl, H.read_eq hg (by rw [bc_length]; omega) (by rw [List.drop_zero, List.take_of_length_le (by rw [bc_length]; omega)])⟩⟩
theorem WS.set (s : WS h0 h v L) {d e : Nat} {cs cs' : List AV} {w w' : Bool} (hd : h.get d = some (.live cs e w)) (he : e ≠ 5) : WS h0 (h.set d (.live cs' e w')) v L := by
  rcases s with s | ⟨m, q1, q2, q3⟩
  · refine .inl (s.keep fun c n' p q ob hg => ?_)
    rw [H.get_other _ _ (fun z => ?_)]
    · exact hg
    · subst z
      rcases s.2 with ⟨_, z⟩ | ⟨b, z1, _, z3⟩
      · rw [q] at z; cases z
      · rw [q] at z1; injection z1 with z1 _; subst z1
        rw [hd] at z3; injection z3 with z3; injection z3 with _ z3 _; exact he z3
  · refine .inr ⟨m, q1, q2, ?_⟩
    rw [H.get_other _ _ (fun z => ?_)]
    · exact q3
    · subst z; rw [hd] at q3; injection q3 with q3; injection q3 with _ q3 _; exact he q3
end
structure W (h0 h : H) (wb : Nat) (L : List Nat) : Prop where
  fr : Fr [] h0 h
  new : h0.get wb = none
  st : ∃ v, h.get wb = some (.live [v] 121 true) ∧ WS h0 h v L
def SlIn (wb : Nat) (h : H) (c : Nat) : Prop := ∃ n p, h.get wb = some (.live [.sl c 0 n p] 121 true)
structure FrW (wb : Nat) (h h' : H) : Prop where
  keep : ∀ c o, h.get c = some o → c ≠ wb → ¬ SlIn wb h c → h'.get c = some o
  fresh : ∀ c, SlIn wb h' c → SlIn wb h c ∨ h.get c = none
  st : h'.get wb ≠ none
theorem FrW.trans {wb : Nat} {a b c : H} (f : FrW wb a b) (g : FrW wb b c) : FrW wb a c := by
  refine ⟨fun k o x y z => g.keep k o (f.keep k o x y z) y fun q => ?_, fun k q => ?_, g.st⟩
  · rcases f.fresh k q with q | q
    · exact z q
    · rw [q] at x; cases x
  · rcases g.fresh k q with q1 | q1
    · exact f.fresh k q1
    · by_cases z : SlIn wb a k
      · exact .inl z
      · cases x : a.get k with
        | none => exact .inr rfl
        | some o =>
          by_cases y : k = wb
          · rw [y] at q1; exact absurd q1 f.st
          · rw [f.keep k o x y z] at q1; cases q1
def Off (wb : Nat) (h : H) (d : Nat) (o : Obj) : Prop := d ≠ wb ∧ h.get d = some o ∧ ¬ SlIn wb h d
theorem FrW.off {wb : Nat} {h h' : H} (f : FrW wb h h') {d : Nat} {o : Obj} (x : Off wb h d o) : Off wb h' d o := by
  obtain ⟨x1, x2, x3⟩ := x
  refine ⟨x1, f.keep d o x2 x1 x3, fun q => ?_⟩
  rcases f.fresh d q with q | q
  · exact x3 q
  · rw [x2] at q; cases q
section
variable {h0 h h' : H} {wb : Nat} {L : List Nat}
theorem W.sl (w : W h0 h wb L) {c : Nat} (q : SlIn wb h c) : h.get c ≠ none := by
  obtain ⟨v, q1, q2⟩ := w.st
  obtain ⟨n, p, q⟩ := q
  rw [q1] at q; injection q with q; injection q with q; injection q with q; subst q
  rcases q2 with s | ⟨m, e, _, g⟩
  · rcases s.2 with ⟨_, z⟩ | ⟨b, z1, _, z3⟩
    · cases z
    · injection z1 with z1 _; rw [z1, z3]; simp
  · injection e with e _; rw [e, g]; simp
theorem W.off (w : W h0 h wb L) {d : Nat} (hd : h.get d = none) (o : Obj) : Off wb (h.set d o) d o := by
  obtain ⟨v, q1, _⟩ := w.st
  have hne : d ≠ wb := fun e => by rw [e, q1] at hd; cases hd
  refine ⟨hne, H.get_same .., fun ⟨n, p, q⟩ => ?_⟩
  rw [H.get_other _ _ hne.symm] at q
  exact w.sl ⟨n, p, q⟩ hd
theorem W.keep (w : W h0 h wb L) (f : Fr [] h h') : W h0 h' wb L := by
  obtain ⟨v, q1, q2⟩ := w.st
  exact ⟨w.fr.trans f, w.new, v, f wb _ (by simp) q1, q2.fr f⟩
end
end Go.Proofs.YtdljelicbnjfjaaGreat.X
set_option linter.unusedVariables false
set_option linter.unusedSimpArgs false
set_option maxRecDepth 20000
namespace Go.Proofs.YtdljelicbnjfjaaGreat.X
open Go Go.RowKit
section
variable {h : H} {K : AV → H → Prop}
theorem fld_r {b off : Nat} {v : AV} (hc : h.cell b off = some v) (hK : K v h) : valA (faA off (.ptr b 0)) h fun t h => valA (ldA h none t) h K := by
  rw [faA_p, valA_some, ldA_n, Nat.zero_add, hc]; exact hK
theorem fill2 {z z' v w : AV} (h1 : v.leaf = true) (h2 : v.cells = [v]) (h3 : w.leaf = true) (h4 : w.cells = [w]) : fillV [z, z'] [(0, 1, v), (1, 1, w)] = some [v, w] := by
  simp [fillV, h2, h4, leaves, h1, h3, overlay]
theorem lit_r {e n : Nat} {cs : List AV} (hl : leaves cs = true) (hn : cs.length = n) (hK : ∀ m h', Fr [] h h' → Row h' (.sl m 0 n (.exact n)) n 1 cs → K (.sl m 0 n (.exact n)) h') : mkslA h e n (some cs) K := by
  refine ⟨hl, fun m hm => ?_⟩
  refine hK m _ ((Fr.refl _ _).set' hm) ⟨by omega, .inr ⟨m, 0, _, rfl, rfl, H.read_eq (H.get_same ..) (by omega) (by rw [List.drop_zero, List.take_of_length_le (by omega)])⟩⟩
end
end Go.Proofs.YtdljelicbnjfjaaGreat.X
set_option linter.unusedVariables false
set_option linter.unusedSimpArgs false
set_option maxRecDepth 20000
namespace Go.Proofs.YtdljelicbnjfjaaGreat.X
open Go Go.RowKit
section
variable {h : H} {PK : H → Prop}
theorem iscan_r {v : AV} {L : List Int} (r : Row h v L.length 1 (ic L)) (hl : L.length ≤ reachBytes) {p : Int → Bool} {X : Nat → Prop} {J : H → Prop} {BODY : (List AV → H → Prop) → AV → AV → H → Prop}
    (hX : ∀ i : Nat, i < L.length → L.any p = true → X i) (hJ : L.any p = false → J h)
    (hB : ∀ (N : List AV → H → Prop) (i : Nat) x, L[i]? = some x → IntKind.i64.wrap ((i : Int) + 1) = ((i + 1 : Nat) : Int) → (p x = false → N [.int .i64 ((i + 1 : Nat) : Int)] h) → (p x = true → X i) → BODY N (.int .i64 i) (.int .i64 x) h) :
    loopA (fun N l' h => argA l' 0 fun t => valA (binOp .lss .num t (.int .i64 L.length)) h fun c h => condA c
      (valA (iaA 1 v t) h fun a h => valA (ldA h none a) h fun x h => BODY N t x h) (J h)) [.int .i64 0] h := by
  have hr : reachBytes ≤ 4611686018427387903 := by decide
  refine loop_r (L.length + 1) (fun k ls h2 => ∃ i : Nat, ls = [.int .i64 i] ∧ i ≤ L.length ∧ L.any p = (L.drop i).any p ∧ h2 = h ∧ k = L.length + 1 - i) ⟨0, rfl, by omega, rfl, rfl, rfl⟩ ?_
  rintro k ls h2 ⟨i, rfl, hi, ha, rfl, rfl⟩
  by_cases q : (i : Int) < L.length
  · have hi' : i < L.length := by omega
    obtain ⟨x, hx⟩ : ∃ x, L[i]? = some x := ⟨L[i], by simp [hi']⟩
    have hd : L.drop i = x :: L.drop (i + 1) := by
      rw [List.drop_eq_getElem_cons hi']; congr 1
      rw [List.getElem?_eq_getElem hi'] at hx; injection hx
    rw [hd, List.any_cons] at ha
    have en : IntKind.i64.wrap ((i : Int) + 1) = ((i + 1 : Nat) : Int) := by rw [i64_id (by omega) (by omega)]; rfl
    simp only [argA_0, b_lss, valA_some, q, decide_true, condA_t]
    refine r.get (x := .int .i64 x) (by omega) (by omega) (by rw [Int.toNat_natCast]; simp [ic, hx]) ?_
    refine hB _ i x hx en (fun hp => ⟨L.length + 1 - (i + 1), by omega, i + 1, rfl, by omega, by rw [ha, hp]; rfl, rfl, rfl⟩) fun hp => hX i hi' (by rw [ha, hp]; rfl)
  · have : i = L.length := by omega
    subst this
    rw [List.drop_length] at ha
    simp only [argA_0, b_lss, valA_some, q, decide_false, condA_f]
    exact hJ ha
theorem any_eq (L : List Int) (x : Int) : L.any (fun y => decide (x = y)) = decide (x ∈ L) := by
  induction L with
  | nil => rfl
  | cons y L ih => rw [List.any_cons, ih]; by_cases h : x = y <;> simp [h]
theorem index_c {v : AV} {L : List Int} (r : Row h v L.length 1 (ic L)) (hl : L.length ≤ reachBytes) (x : Int) {K : AV → H → Prop} (h1 : x ∈ L → ∀ i : Nat, i < L.length → K (.int .i64 i) h) (h2 : x ∉ L → K (.int .i64 (-1)) h) : DP PK 117 [v, .int .i64 x] h K := by
  refine runB117 ?_
  unfold sh117
  refine join_r (fun (J : H → Prop) => x ∉ L → J h) h2 fun J hJ => ?_
  rw [r.len, valA_some]
  refine iscan_r r hl (p := fun y => decide (x = y)) (X := fun i => K (.int .i64 i) h) (fun i hi ha => h1 (by rw [any_eq] at ha; exact of_decide_eq_true ha) i hi) (fun ha => hJ (by rw [any_eq] at ha; exact of_decide_eq_false ha)) ?_
  intro N i y hy en hN hX
  rw [b_eql, valA_some]
  by_cases q : x = y
  · have hX := hX (by simpa using q)
    simp only [q, decide_true, condA_t]; exact hX
  · have hN := hN (by simpa using q)
    simp only [q, decide_false, condA_f, b_add, valA_some, en]; exact hN
theorem contains_c {v : AV} {L : List Int} (r : Row h v L.length 1 (ic L)) (hl : L.length ≤ reachBytes) (x : Int) (K : AV → H → Prop) : DP PK 69 [v, .int .i64 x] h K = K (.bool (decide (x ∈ L))) h := by
  refine callB_eq (runB69 ?_) K
  unfold sh69
  refine index_c r hl x (fun hx i hi => ?_) fun hx => ?_
  · have : (0 : Int) ≤ i := by omega
    simp only [go_sem, reduceIte, Nat.reduceAdd, Nat.reduceSub, Nat.reduceMul, Nat.reducePow, Nat.reduceLT, Nat.reduceLeDiff, Nat.reduceEqDiff, Int.reduceAdd, Int.reduceSub, Int.reduceMul, Int.reduceNeg, Int.reducePow, Int.reduceLT, Int.reduceLE, Int.reduceEq, Int.reduceNe, Int.reduceToNat, Int.toNat_natCast, Nat.zero_add, Nat.add_zero, Nat.mul_one, Nat.one_mul, Bool.not_true, Bool.not_false, ne_eq, not_true_eq_false, not_false_eq_true, Bool.false_eq_true, this, hx, decide_true, ge_iff_le, and_self]
  · simp only [go_sem, reduceIte, Nat.reduceAdd, Nat.reduceSub, Nat.reduceMul, Nat.reducePow, Nat.reduceLT, Nat.reduceLeDiff, Nat.reduceEqDiff, Int.reduceAdd, Int.reduceSub, Int.reduceMul, Int.reduceNeg, Int.reducePow, Int.reduceLT, Int.reduceLE, Int.reduceEq, Int.reduceNe, Int.reduceToNat, Int.toNat_natCast, Nat.zero_add, Nat.add_zero, Nat.mul_one, Nat.one_mul, Bool.not_true, Bool.not_false, ne_eq, not_true_eq_false, not_false_eq_true, Bool.false_eq_true, hx, decide_false, ge_iff_le, and_self]
theorem cfunc_c {v : AV} {L : List Int} (r : Row h v L.length 1 (ic L)) (hl : L.length ≤ reachBytes) {g : Nat} {fi ca : List AV} {p : Int → Bool} (hp : ∀ x ∈ L, ∀ K, DP never g (fi ++ [.int .i64 x] ++ ca) h K = K (.bool (p x)) h) (K : AV → H → Prop) :
    DP PK 67 [v, .fn g fi ca] h K = K (.bool (L.any p)) h := by
  refine callB_eq (runB67 ?_) K
  unfold sh67
  refine runB116 ?_
  unfold sh116
  refine join_r (fun (J : H → Prop) => L.any p = false → J h) (fun e => ?_) fun J hJ => ?_
  · simp only [go_sem, reduceIte, Nat.reduceAdd, Nat.reduceSub, Nat.reduceMul, Nat.reducePow, Nat.reduceLT, Nat.reduceLeDiff, Nat.reduceEqDiff, Int.reduceAdd, Int.reduceSub, Int.reduceMul, Int.reduceNeg, Int.reducePow, Int.reduceLT, Int.reduceLE, Int.reduceEq, Int.reduceNe, Int.reduceToNat, Int.toNat_natCast, Nat.zero_add, Nat.add_zero, Nat.mul_one, Nat.one_mul, Bool.not_true, Bool.not_false, ne_eq, not_true_eq_false, not_false_eq_true, Bool.false_eq_true, e, ge_iff_le, and_self]
  rw [r.len, valA_some]
  refine iscan_r r hl (p := p) (X := fun _ => L.any p = true) (fun i hi ha => ha) hJ ?_
  intro N i y hy en hN hX
  show DP never g (fi ++ [.int .i64 y] ++ ca) h _
  rw [hp y (List.mem_of_getElem? hy)]
  cases q : p y with
  | true =>
    have hX := hX q
    have : (0 : Int) ≤ i := by omega
    simp only [go_sem, reduceIte, Nat.reduceAdd, Nat.reduceSub, Nat.reduceMul, Nat.reducePow, Nat.reduceLT, Nat.reduceLeDiff, Nat.reduceEqDiff, Int.reduceAdd, Int.reduceSub, Int.reduceMul, Int.reduceNeg, Int.reducePow, Int.reduceLT, Int.reduceLE, Int.reduceEq, Int.reduceNe, Int.reduceToNat, Int.toNat_natCast, Nat.zero_add, Nat.add_zero, Nat.mul_one, Nat.one_mul, Bool.not_true, Bool.not_false, ne_eq, not_true_eq_false, not_false_eq_true, Bool.false_eq_true, this, hX, decide_true, ge_iff_le, and_self]
  | false =>
    have hN := hN q
    simp only [condA_f, b_add, valA_some, en]; exact hN
def subT (a b : Ty) : Bool := (b.imm || !a.imm) && a.sh.all fun x => decide (x ∈ b.sh)
theorem ty_box {t : Ty} {c : List AV} (r : tyR h t c) {K : AV → H → Prop} (hK : ∀ b h', Fr [] h h' → h.get b = none → h'.get b = some (.live c 46 true) → tyR h' t c → K (.ptr b 0) h') : boxA h (AV.cells (.agg c)) 46 K := by
  refine box_r (cs := c) r.leaves fun b hb => ?_
  have f : Fr [] h (h.set b (.live c 46 true)) := (Fr.refl _ _).set' hb
  exact hK b _ f hb (H.get_same ..) (r.fr f)
theorem any_not (L M : List Int) : (L.any fun x => !decide (x ∈ M)) = !(L.all fun x => decide (x ∈ M)) := by
  induction L with
  | nil => rfl
  | cons y L ih => rw [List.any_cons, List.all_cons, ih]; cases decide (y ∈ M) <;> rfl
theorem sub_c {a b : Ty} {ca cb : List AV} (ra : tyR h a ca) (rb : tyR h b cb) (oa : a.sh.length ≤ reachBytes) (ob : b.sh.length ≤ reachBytes) {K : AV → H → Prop} (hK : ∀ h', Fr [] h h' → K (.bool (subT a b)) h') : DP PK 23 [.agg ca, .agg cb] h K := by
  refine runB23 ?_
  unfold sh23
  refine ty_box ra fun p h1 f1 hp gp ra => ?_
  refine ty_box (rb.fr f1) fun q h2 f2 hq gq rb => ?_
  obtain ⟨va, rfl, qa⟩ := ra.fr f2
  obtain ⟨vb, rfl, qb⟩ := rb
  have gp := f2 p _ (by simp) gp
  have e := fun h' (f : Fr [] h2 h') => hK h' (f1.trans (f2.trans f))
  have cp0 : h2.cell p 0 = some (.bool a.imm) := by rw [cell_of gp]; rfl
  have cp1 : h2.cell p 1 = some va := by rw [cell_of gp]; rfl
  have cq0 : h2.cell q 0 = some (.bool b.imm) := by rw [cell_of gq]; rfl
  have cq1 : h2.cell q 1 = some vb := by rw [cell_of gq]; rfl
  have hf : ∀ x ∈ a.sh, ∀ K, DP never 68 ([] ++ [.int .i64 x] ++ [.ptr q 0]) h2 K = K (.bool (!decide (x ∈ b.sh))) h2 := fun x _ K => by
    refine callB_eq (runB68 ?_) K
    unfold sh68
    simp only [go_sem, reduceIte, Nat.reduceAdd, Nat.reduceSub, Nat.reduceMul, Nat.reducePow, Nat.reduceLT, Nat.reduceLeDiff, Nat.reduceEqDiff, Int.reduceAdd, Int.reduceSub, Int.reduceMul, Int.reduceNeg, Int.reducePow, Int.reduceLT, Int.reduceLE, Int.reduceEq, Int.reduceNe, Int.reduceToNat, Int.toNat_natCast, Nat.zero_add, Nat.add_zero, Nat.mul_one, Nat.one_mul, Bool.not_true, Bool.not_false, ne_eq, not_true_eq_false, not_false_eq_true, Bool.false_eq_true, cq1, contains_c qb ob, and_self]
  have hc := fun K => cfunc_c (PK := never) qa oa hf K
  unfold subT at e
  have hn := any_not a.sh b.sh
  cases hbi : b.imm <;> cases hai : a.imm <;> simp only [hai, hbi] at cp0 cq0 e <;> simp only [go_sem, reduceIte, Nat.reduceAdd, Nat.reduceSub, Nat.reduceMul, Nat.reducePow, Nat.reduceLT, Nat.reduceLeDiff, Nat.reduceEqDiff, Int.reduceAdd, Int.reduceSub, Int.reduceMul, Int.reduceNeg, Int.reducePow, Int.reduceLT, Int.reduceLE, Int.reduceEq, Int.reduceNe, Int.reduceToNat, Int.toNat_natCast, Nat.zero_add, Nat.add_zero, Nat.mul_one, Nat.one_mul, Bool.not_true, Bool.not_false, ne_eq, not_true_eq_false, not_false_eq_true, Bool.false_eq_true, cp0, cp1, cq0, cq1, hc, hn, Bool.not_not] <;> exact e _ (Fr.refl _ _)
end
end Go.Proofs.YtdljelicbnjfjaaGreat.X
set_option linter.unusedVariables false
set_option linter.unusedSimpArgs false
namespace Go.Proofs.YtdljelicbnjfjaaGreat.X
open Go
def insStep (s : Int) (p : List Int × Bool) (x : Int) : List Int × Bool := if !p.2 && decide (s < x) then (p.1 ++ [s] ++ [x], true) else (p.1 ++ [x], p.2)
def insF (s : Int) (l : List Int) : List Int × Bool := l.foldl (insStep s) ([], false)
def insU (l : List Int) (s : Int) : List Int := if s ∈ l then l else if (insF s l).2 then (insF s l).1 else (insF s l).1 ++ [s]
def ljoin (L : List Int) : List Int := L.foldl insU []
def cmpStep (acc : List Int) (x : Int) : List Int := if acc.getLast? = some x then acc else acc ++ [x]
def cmp (L : List Int) : List Int := L.foldl cmpStep []
theorem snoc_ind {α : Type} {P : List α → Prop} (h0 : P []) (h1 : ∀ M x, P M → P (M ++ [x])) (L : List α) : P L := by
  have : ∀ L : List α, P L.reverse := by
    intro L
    induction L with
    | nil => exact h0
    | cons x L ih => rw [List.reverse_cons]; exact h1 _ _ ih
  have := this L.reverse
  rwa [List.reverse_reverse] at this
abbrev Rise (l : List Int) : Prop := l.Pairwise (· < ·)
theorem rise_snoc {l : List Int} {x : Int} : Rise (l ++ [x]) ↔ Rise l ∧ ∀ y ∈ l, y < x := by simp [Rise, List.pairwise_append]
theorem insF_snoc (s : Int) (M : List Int) (x : Int) : insF s (M ++ [x]) = insStep s (insF s M) x := by simp [insF, List.foldl_append]
theorem insF_ok (s : Int) (l : List Int) : Rise l → s ∉ l → ((insF s l).2 = false → (insF s l).1 = l ∧ ∀ y ∈ l, y < s) ∧ ((insF s l).2 = true → Rise (insF s l).1 ∧ (∀ y, y ∈ (insF s l).1 ↔ y = s ∨ y ∈ l) ∧ ∃ z ∈ l, s < z) := by
  refine snoc_ind (P := fun l => Rise l → s ∉ l → ((insF s l).2 = false → (insF s l).1 = l ∧ ∀ y ∈ l, y < s) ∧ ((insF s l).2 = true → Rise (insF s l).1 ∧ (∀ y, y ∈ (insF s l).1 ↔ y = s ∨ y ∈ l) ∧ ∃ z ∈ l, s < z)) ?_ (fun M x ih => ?_) l
  · intro _ _
    exact ⟨fun _ => ⟨rfl, fun y hy => by cases hy⟩, fun h => by cases h⟩
  · intro hr hs
    obtain ⟨hr, hx⟩ := rise_snoc.1 hr
    simp only [List.mem_append, List.mem_singleton, not_or] at hs
    obtain ⟨i1, i2⟩ := ih hr hs.1
    rw [insF_snoc]
    cases hp : (insF s M).2 with
    | false =>
      obtain ⟨e, hy⟩ := i1 hp
      by_cases q : s < x
      · have es : insStep s (insF s M) x = (M ++ [s] ++ [x], true) := by unfold insStep; rw [hp, e]; simp [q]
        rw [es]
        refine ⟨fun h => (by cases h), fun _ => ⟨?_, fun y => ?_, x, by simp, q⟩⟩
        · refine rise_snoc.2 ⟨rise_snoc.2 ⟨hr, hy⟩, fun y hm => ?_⟩
          rcases List.mem_append.1 hm with h | h
          · exact hx y h
          · simp at h; omega
        · simp only [List.mem_append, List.mem_singleton]
          constructor
          · intro h
            rcases h with (h | h) | h
            · exact .inr (.inl h)
            · exact .inl h
            · exact .inr (.inr h)
          · intro h
            rcases h with h | h | h
            · exact .inl (.inr h)
            · exact .inl (.inl h)
            · exact .inr h
      · have hxs : x < s := by omega
        have es : insStep s (insF s M) x = (M ++ [x], false) := by unfold insStep; rw [hp, e]; simp [q]
        rw [es]
        refine ⟨fun _ => ⟨rfl, fun y hm => ?_⟩, fun h => (by cases h)⟩
        rcases List.mem_append.1 hm with h | h
        · exact hy y h
        · simp at h; omega
    | true =>
      obtain ⟨hr2, hm2, z, hz, hsz⟩ := i2 hp
      have es : insStep s (insF s M) x = ((insF s M).1 ++ [x], true) := by unfold insStep; rw [hp]; simp
      rw [es]
      refine ⟨fun h => (by cases h), fun _ => ⟨rise_snoc.2 ⟨hr2, fun y hy => ?_⟩, fun y => ?_, z, by simp [hz], hsz⟩⟩
      · rcases (hm2 y).1 hy with h | h
        · have := hx z hz; omega
        · exact hx y h
      · simp only [List.mem_append, List.mem_singleton, hm2 y, or_assoc]
theorem insU_ok {l : List Int} (hr : Rise l) (s : Int) : Rise (insU l s) ∧ ∀ y, y ∈ insU l s ↔ y = s ∨ y ∈ l := by
  unfold insU
  split
  · rename_i h
    exact ⟨hr, fun y => ⟨.inr, fun x => by rcases x with rfl | x <;> assumption⟩⟩
  · rename_i h
    obtain ⟨i1, i2⟩ := insF_ok s l hr h
    split
    · rename_i hp
      obtain ⟨a, b, _⟩ := i2 hp
      exact ⟨a, b⟩
    · rename_i hp
      obtain ⟨e, hy⟩ := i1 (by simpa using hp)
      rw [e]
      refine ⟨rise_snoc.2 ⟨hr, hy⟩, fun y => ?_⟩
      simp only [List.mem_append, List.mem_singleton]
      exact _root_.or_comm
theorem ljoin_snoc (M : List Int) (x : Int) : ljoin (M ++ [x]) = insU (ljoin M) x := by simp [ljoin, List.foldl_append]
theorem ljoin_ok (L : List Int) : Rise (ljoin L) ∧ ∀ y, y ∈ ljoin L ↔ y ∈ L := by
  refine snoc_ind (P := fun L => Rise (ljoin L) ∧ ∀ y, y ∈ ljoin L ↔ y ∈ L) ⟨List.Pairwise.nil, fun y => Iff.rfl⟩ (fun M x ih => ?_) L
  obtain ⟨a, b⟩ := insU_ok ih.1 x
  rw [ljoin_snoc]
  refine ⟨a, fun y => ?_⟩
  rw [b, ih.2]
  simp only [List.mem_append, List.mem_singleton]
  exact _root_.or_comm
theorem cmp_snoc (M : List Int) (x : Int) : cmp (M ++ [x]) = cmpStep (cmp M) x := by simp [cmp, List.foldl_append]
theorem cmp_last (L : List Int) : (cmp L).getLast? = L.getLast? := by
  refine snoc_ind (P := fun L => (cmp L).getLast? = L.getLast?) rfl (fun M x ih => ?_) L
  rw [cmp_snoc, cmpStep]
  split
  · rename_i h; rw [h]; simp
  · simp
theorem cmp_ok (L : List Int) : L.Pairwise (· ≤ ·) → Rise (cmp L) ∧ ∀ y, y ∈ cmp L ↔ y ∈ L := by
  refine snoc_ind (P := fun L => L.Pairwise (· ≤ ·) → Rise (cmp L) ∧ ∀ y, y ∈ cmp L ↔ y ∈ L) (fun _ => ⟨List.Pairwise.nil, fun y => Iff.rfl⟩) (fun M x ih => ?_) L
  intro hp
  have hp' : M.Pairwise (· ≤ ·) ∧ ∀ y ∈ M, y ≤ x := by simpa [List.pairwise_append] using hp
  obtain ⟨a, b⟩ := ih hp'.1
  rw [cmp_snoc, cmpStep]
  have hl := cmp_last M
  split
  · rename_i h
    refine ⟨a, fun y => ?_⟩
    have hx : x ∈ M := (b x).1 (List.mem_of_getLast? h)
    rw [b]
    simp only [List.mem_append, List.mem_singleton]
    exact ⟨.inl, fun z => by rcases z with z | rfl <;> assumption⟩
  · rename_i h
    refine ⟨rise_snoc.2 ⟨a, fun y hy => ?_⟩, fun y => by simp only [List.mem_append, List.mem_singleton, b]⟩
    have hy' := (b y).1 hy
    have h1 := hp'.2 y hy'
    rcases Int.lt_or_eq_of_le h1 with h1 | h1
    · exact h1
    · -- the last is the greatest
      exfalso
      subst h1
      obtain ⟨z, hz⟩ : ∃ z, M.getLast? = some z := by
        cases hM : M.getLast? with
        | none => rw [List.getLast?_eq_none_iff] at hM; subst hM; cases hy'
        | some z => exact ⟨z, rfl⟩
      rw [hl, hz] at h
      obtain ⟨M', rfl⟩ := List.getLast?_eq_some_iff.1 hz
      have q : M'.Pairwise (· ≤ ·) ∧ ∀ y ∈ M', y ≤ z := by simpa [List.pairwise_append] using hp'.1
      have q2 := hp'.2 z (by simp)
      rcases List.mem_append.1 hy' with h3 | h3
      · have := q.2 y h3
        exact h (by rw [show z = y by omega])
      · simp at h3; exact h (by rw [h3])
theorem rise_eq : ∀ {a b : List Int}, Rise a → Rise b → (∀ y, y ∈ a ↔ y ∈ b) → a = b
  | [], [], _, _, _ => rfl
  | [], y :: b, _, _, h => by have := (h y).2 (by simp); cases this
  | x :: a, [], _, _, h => by have := (h x).1 (by simp); cases this
  | x :: a, y :: b, ha, hb, h => by
    obtain ⟨h1, ha'⟩ := List.pairwise_cons.1 ha
    obtain ⟨h2, hb'⟩ := List.pairwise_cons.1 hb
    have e : x = y := by
      rcases List.mem_cons.1 ((h x).1 (by simp)) with e | e
      · exact e
      · rcases List.mem_cons.1 ((h y).2 (by simp)) with f | f
        · exact f.symm
        · have := h1 y f; have := h2 x e; omega
    subst e
    congr 1
    refine rise_eq ha' hb' fun z => ?_
    have := h z
    simp only [List.mem_cons] at this
    constructor
    · intro hz
      have hl := h1 z hz
      rcases this.1 (.inr hz) with e | e
      · omega
      · exact e
    · intro hz
      have hl := h2 z hz
      rcases this.2 (.inr hz) with e | e
      · omega
      · exact e
theorem sorted_ok (L : List Int) : (sorted L).Pairwise (· ≤ ·) ∧ ∀ y, y ∈ sorted L ↔ y ∈ L := by
  unfold sorted
  refine ⟨?_, fun y => List.mem_mergeSort⟩
  have := List.pairwise_mergeSort (le := fun x y : Int => decide (x ≤ y)) (fun a b c h1 h2 => by simp at *; omega) (fun a b => by simp; omega) L
  exact this.imp fun h => of_decide_eq_true h
theorem join_same (L : List Int) : cmp (sorted L) = ljoin L := by
  obtain ⟨a, b⟩ := sorted_ok L
  obtain ⟨c, d⟩ := cmp_ok _ a
  obtain ⟨e, f⟩ := ljoin_ok L
  exact rise_eq c e fun y => by rw [d, b, f]
theorem sorted_len (L : List Int) : (sorted L).length = L.length := by unfold sorted; simp
end Go.Proofs.YtdljelicbnjfjaaGreat.X
set_option linter.unusedVariables false
set_option linter.unusedSimpArgs false
set_option maxRecDepth 20000
namespace Go.Proofs.YtdljelicbnjfjaaGreat.X
open Go Go.RowKit
theorem cmp_same {M : List Int} {x : Int} (h : M.getLast? = some x) : cmp (M ++ [x]) = cmp M := by rw [cmp_snoc, cmpStep, if_pos (by rw [cmp_last]; exact h)]
theorem cmp_other {M : List Int} {x : Int} (h : M.getLast? ≠ some x) : cmp (M ++ [x]) = cmp M ++ [x] := by rw [cmp_snoc, cmpStep, if_neg (by rw [cmp_last]; exact h)]
theorem cmp_len (L : List Int) : (cmp L).length ≤ L.length := by
  refine snoc_ind (P := fun L => (cmp L).length ≤ L.length) (Nat.le_refl _) (fun M x ih => ?_) L
  rw [cmp_snoc, cmpStep]
  split <;> simp <;> omega
theorem take_snoc {L : List Int} {i : Nat} {x : Int} (h : L[i]? = some x) : L.take (i + 1) = L.take i ++ [x] := by
  rw [List.take_add_one, h]; rfl
theorem take_last {L : List Int} {i : Nat} {y : Int} (h : L[i]? = some y) : (L.take (i + 1)).getLast? = some y := by rw [take_snoc h]; simp
/-! ### Cells laid over cells -/
theorem overlay_mid : ∀ (vs cs pre : List AV), vs.length ≤ cs.length → overlay (pre ++ cs) pre.length vs = pre ++ vs ++ cs.drop vs.length := by
  intro vs
  induction vs with
  | nil => intro cs pre _; simp [overlay]
  | cons v vs ih =>
    intro cs pre hl
    cases cs with
    | nil => simp at hl
    | cons c cs =>
      have := ih cs (pre ++ [v]) (by simpa using hl)
      simp only [List.length_append, List.length_singleton, List.append_assoc, List.singleton_append] at this
      rw [overlay, List.set_append_right _ _ (Nat.le_refl _)]
      simpa using this
theorem set_set_h {h : H} {b : Nat} {x y : Obj} : (h.set b x).set b y = h.set b y := by
  apply H.ext'; intro k; simp only [H.get_set]; split <;> rfl
theorem write_mid {h : H} {b e : Nat} {pre cs vs : List AV} (hb : h.get b = some (.live (pre ++ cs) e true)) (hl : vs.length ≤ cs.length) (hv : leaves vs = true) : h.write b pre.length vs = some (h.set b (.live (pre ++ vs ++ cs.drop vs.length) e true)) := by
  unfold H.write
  rw [hb]
  simp only [hv, and_true]
  rw [if_pos (by rw [List.length_append]; omega), overlay_mid _ _ _ hl]
theorem ic_len (L : List Int) : (ic L).length = L.length := by simp [ic]
theorem ic_leaves (L : List Int) : leaves (ic L) = true := leaves_map _ (fun _ => rfl) L
theorem ic_app (A B : List Int) : ic (A ++ B) = ic A ++ ic B := by simp [ic]
theorem ic_get {L : List Int} {i : Nat} {x : Int} (h : L[i]? = some x) : (ic L)[i]? = some (.int .i64 x) := by simp [ic, h]
theorem ic_take (L : List Int) (i : Nat) : (ic L).take i = ic (L.take i) := by simp [ic]
def zc (n : Nat) : List AV := List.replicate n (.int .i64 0)
section
variable {h : H} {PK : H → Prop}
theorem grow_c {n : Nat} (hn : n ≤ 4294967296) {K : AV → H → Prop} (h0 : n = 0 → K .nilsl h) (h1 : 0 < n → ∀ b, h.get b = none → K (.sl b 0 0 (.more 1)) (h.set b (.live (zc n) 3 true))) : DP PK 113 [.nilsl, .int .i64 n] h K := by
  refine runB113 ?_
  unfold sh113
  have w0 : IntKind.i64.wrap 0 = 0 := by decide
  have wn : IntKind.i64.wrap (n : Int) = n := i64_id (by omega) (by omega)
  have c0 : capA .nilsl = some (.int .i64 0) := rfl
  have e1 : sliceOp (.row 1) .nilsl none (some (.int .i64 0)) none = some .nilsl := rfl
  have q : ¬ ((n : Int) < 0) := by omega
  refine join_r (fun (J : H → Prop) => J h) ?_ fun J hJ => ?_
  · refine join_r (fun (J : AV → H → Prop) => ∀ v h', K v h' → J v h') (fun v h' x => x) fun J hJ => ?_
    by_cases hz : n = 0
    · have q : ¬ ((0 : Int) < (n : Int)) := by omega
      simp only [go_sem, reduceIte, Nat.reduceAdd, Nat.reduceSub, Nat.reduceMul, Nat.reducePow, Nat.reduceLT, Nat.reduceLeDiff, Nat.reduceEqDiff, Int.reduceAdd, Int.reduceSub, Int.reduceMul, Int.reduceNeg, Int.reducePow, Int.reduceLT, Int.reduceLE, Int.reduceEq, Int.reduceNe, Int.reduceToNat, Int.toNat_natCast, Nat.zero_add, Nat.add_zero, Nat.mul_one, Nat.one_mul, Bool.not_true, Bool.not_false, ne_eq, not_true_eq_false, not_false_eq_true, Bool.false_eq_true, c0, w0, Int.sub_zero, wn, q]
      exact hJ _ _ (h0 hz)
    · have q : (0 : Int) < (n : Int) := by omega
      simp only [go_sem, reduceIte, Nat.reduceAdd, Nat.reduceSub, Nat.reduceMul, Nat.reducePow, Nat.reduceLT, Nat.reduceLeDiff, Nat.reduceEqDiff, Int.reduceAdd, Int.reduceSub, Int.reduceMul, Int.reduceNeg, Int.reducePow, Int.reduceLT, Int.reduceLE, Int.reduceEq, Int.reduceNe, Int.reduceToNat, Int.toNat_natCast, Nat.zero_add, Nat.add_zero, Nat.mul_one, Nat.one_mul, Bool.not_true, Bool.not_false, ne_eq, not_true_eq_false, not_false_eq_true, Bool.false_eq_true, c0, w0, Int.sub_zero, wn, q, e1]
      obtain ⟨k, rfl⟩ : ∃ k, n = k + 1 := ⟨n - 1, by omega⟩
      have hk : natOf (.int .i64 ((k + 1 : Nat) : Int)) = some (k + 1) := by
        have : (0 : Int) ≤ ((k + 1 : Nat) : Int) := by omega
        simp only [natOf, this, if_true, Int.toNat_natCast]
      unfold growA
      rw [hk]
      refine ⟨by unfold most; omega, ?_, fun b hb => ?_⟩
      · rw [repCells_int]; exact leaves_replicate _ _ _
      · have e2 : sliceOp (.row 1) (.sl b 0 (k + 1) (.more 1)) none (some (.int .i64 0)) none = some (.sl b 0 0 (.more 1)) := by
          simp [sliceOp, Cap.fits, slBounds, loB, hiB, natOf, within, Cap.less]
        simp only [e2, valA_some, repCells_int]
        exact hJ _ _ (h1 (by omega) b hb)
  · simp only [go_sem, reduceIte, Nat.reduceAdd, Nat.reduceSub, Nat.reduceMul, Nat.reducePow, Nat.reduceLT, Nat.reduceLeDiff, Nat.reduceEqDiff, Int.reduceAdd, Int.reduceSub, Int.reduceMul, Int.reduceNeg, Int.reducePow, Int.reduceLT, Int.reduceLE, Int.reduceEq, Int.reduceNe, Int.reduceToNat, Int.toNat_natCast, Nat.zero_add, Nat.add_zero, Nat.mul_one, Nat.one_mul, Bool.not_true, Bool.not_false, ne_eq, not_true_eq_false, not_false_eq_true, Bool.false_eq_true, q]
    exact hJ
def RowsI (h : H) (vl : List AV) (Ls : List (List Int)) : Prop := vl.length = Ls.length ∧ ∀ (i : Nat) (v : AV) (L : List Int), vl[i]? = some v → Ls[i]? = some L → Row h v L.length 1 (ic L)
theorem flat_snoc {Ls : List (List Int)} {i : Nat} {L : List Int} (h : Ls[i]? = some L) : (Ls.take (i + 1)).flatten = (Ls.take i).flatten ++ L := by
  rw [List.take_add_one, h, List.flatten_append]; simp
theorem flat_le (Ls : List (List Int)) (i : Nat) : (Ls.take i).flatten.length ≤ Ls.flatten.length := by
  have := congrArg (fun l => l.flatten.length) (List.take_append_drop i Ls)
  simp only [List.flatten_append, List.length_append] at this
  omega
def Cat (h0 h : H) (N : Nat) (D : List Int) (v : AV) : Prop := (N = 0 ∧ v = .nilsl ∧ h = h0) ∨ ∃ b, 0 < N ∧ v = .sl b 0 D.length (.more 1) ∧ h0.get b = none ∧ Fr [] h0 h ∧ h.get b = some (.live (ic D ++ zc (N - D.length)) 3 true)
theorem Cat.fr {h0 h : H} {N : Nat} {D : List Int} {v : AV} (c : Cat h0 h N D v) : Fr [] h0 h := by
  rcases c with ⟨_, _, rfl⟩ | ⟨b, _, _, _, f, _⟩
  · exact Fr.refl _ _
  · exact f
theorem cat_append {h0 : H} {N : Nat} {D M : List Int} {v y : AV} (hc : Cat h0 h N D v) (hy : srcA h 1 y = some (M.length, ic M)) (hle : D.length + M.length ≤ N) (hN : N ≤ 4294967296) {K : AV → H → Prop} (hK : ∀ v' h', Cat h0 h' N (D ++ M) v' → K v' h') : appendA h 3 1 8 v y K := by
  unfold appendA
  rw [hy]
  simp only
  rcases hc with ⟨e0, rfl, rfl⟩ | ⟨b, e0, rfl, hb, f, hg⟩
  · rw [if_pos (by omega)]
    exact hK _ _ (.inl ⟨e0, rfl, rfl⟩)
  · simp only
    by_cases q : M.length = 0
    · rw [if_pos q]
      have : M = [] := List.eq_nil_of_length_eq_zero q
      subst this
      exact hK _ _ (.inr ⟨b, e0, by simp, hb, f, by simpa using hg⟩)
    · rw [if_neg q, hg]
      simp only
      have hlen : (ic D ++ zc (N - D.length)).length = N := by rw [List.length_append, ic_len, zc, List.length_replicate]; omega
      refine ⟨⟨trivial, trivial, by unfold most; omega, by rw [hlen]; omega⟩, ?_⟩
      rw [if_pos (by rw [hlen]; omega)]
      have hw := write_mid (vs := ic M) hg (by rw [ic_len, zc, List.length_replicate]; omega) (ic_leaves M)
      rw [ic_len] at hw
      rw [Nat.zero_add, Nat.mul_one, hw, memA_some]
      refine hK _ _ (.inr ⟨b, e0, by rw [List.length_append], hb, f.set' hb, ?_⟩)
      rw [H.get_same, ic_app, List.length_append, ic_len, zc, zc, List.drop_replicate, Nat.sub_sub]
theorem concat_c {vs : AV} {vl : List AV} {Ls : List (List Int)} (rs : Row h vs vl.length 1 vl) (rr : RowsI h vl Ls) (hl : vl.length ≤ 4294967296) (hN : Ls.flatten.length ≤ 4294967296) {K : AV → H → Prop}
    (hK : ∀ v h', Fr [] h h' → Own h h' 3 1 v Ls.flatten.length (ic Ls.flatten) → K v h') : DP PK 63 [vs] h K := by
  refine runB63 ?_
  unfold sh63
  have hlen := rr.1
  refine join_r (fun (J : AV → H → Prop) => J (.int .i64 Ls.flatten.length) h) ?_ fun J hJ => ?_
  · -- the rows, one behind the other
    have go : ∀ (v : AV) (h1 : H), Cat h h1 Ls.flatten.length [] v → joinA (fun (newslice6' : AV) (h : H) => K newslice6' h) fun J =>
        valA (lenA false vs) h1 fun t26 h => loopA (fun N l h => argA l 0 fun newslice6 => argA l 1 fun t27 => valA (binOp .lss .num t27 t26) h fun t28 h => condA t28
          (valA (iaA 1 vs t27) h fun t29 h => valA (ldA h none t29) h fun t30 h => appendA h 3 1 8 newslice6 t30 fun t33 h => valA (binOp .add .num t27 (.int .i64 1)) h fun t34 h => N [t33, t34] h)
          (J newslice6 h)) [v, .int .i64 0] h := by
      intro v h1 hc
      refine join_r (fun (J : AV → H → Prop) => ∀ v h', Cat h h' Ls.flatten.length Ls.flatten v → J v h') (fun v h' c => ?_) fun J hJ => ?_
      · refine hK v h' c.fr ⟨by rw [ic_len]; omega, ?_⟩
        rcases c with ⟨h0, rfl, rfl⟩ | ⟨b, h0, rfl, hb, f, hg⟩
        · exact .inl ⟨h0, rfl⟩
        · exact .inr ⟨b, rfl, hb, by rw [hg, Nat.sub_self]; simp [zc]⟩
      have rs1 := rs.fr hc.fr
      rw [rs1.len, valA_some]
      refine loop_r (vl.length + 1) (fun k ls h2 => ∃ (i : Nat) (v : AV), ls = [v, .int .i64 i] ∧ i ≤ vl.length ∧ Cat h h2 Ls.flatten.length (Ls.take i).flatten v ∧ k = vl.length + 1 - i) ⟨0, v, rfl, by omega, by simpa using hc, rfl⟩ ?_
      rintro k ls h2 ⟨i, v, rfl, hi, hc, rfl⟩
      by_cases q : (i : Int) < vl.length
      · have hi' : i < vl.length := by omega
        obtain ⟨x, hx⟩ : ∃ x, vl[i]? = some x := ⟨vl[i], by simp [hi']⟩
        obtain ⟨L, hL⟩ : ∃ L, Ls[i]? = some L := ⟨Ls[i]'(by omega), by simp [show i < Ls.length by omega]⟩
        have rx := (rr.2 i x L hx hL).fr hc.fr
        have en : IntKind.i64.wrap ((i : Int) + 1) = ((i + 1 : Nat) : Int) := by rw [i64_id (by omega) (by omega)]; rfl
        simp only [argA_0, argA_1, b_lss, valA_some, q, decide_true, condA_t]
        refine (rs.fr hc.fr).get (x := x) (by omega) (by omega) (by rw [Int.toNat_natCast]; exact hx) ?_
        have fs := flat_snoc hL
        have fl := flat_le Ls (i + 1)
        rw [fs, List.length_append] at fl
        refine cat_append hc rx.src fl hN fun v' h3 hc3 => ?_
        rw [b_add, en, valA_some]
        exact ⟨vl.length + 1 - (i + 1), by omega, i + 1, v', rfl, by omega, by rw [fs]; exact hc3, rfl⟩
      · have : i = vl.length := by omega
        subst this
        simp only [argA_0, argA_1, b_lss, valA_some, q, decide_false, condA_f]
        rw [hlen, List.take_length] at hc
        exact hJ _ _ hc
    refine grow_c hN (fun h0 => go _ _ (.inl ⟨h0, rfl, rfl⟩)) fun h0 b hb => go _ _ (.inr ⟨b, h0, rfl, hb, (Fr.refl _ _).set' hb, by rw [H.get_same]; simp [ic]⟩)
  · -- how many there are
    rw [rs.len, valA_some]
    refine loop_r (vl.length + 1) (fun k ls h2 => ∃ i : Nat, ls = [.int .i64 (Ls.take i).flatten.length, .int .i64 i] ∧ i ≤ vl.length ∧ h2 = h ∧ k = vl.length + 1 - i) ⟨0, by simp, by omega, rfl, rfl⟩ ?_
    rintro k ls h2 ⟨i, rfl, hi, rfl, rfl⟩
    by_cases q : (i : Int) < vl.length
    · have hi' : i < vl.length := by omega
      obtain ⟨x, hx⟩ : ∃ x, vl[i]? = some x := ⟨vl[i], by simp [hi']⟩
      obtain ⟨L, hL⟩ : ∃ L, Ls[i]? = some L := ⟨Ls[i]'(by omega), by simp [show i < Ls.length by omega]⟩
      have rx := rr.2 i x L hx hL
      have en : IntKind.i64.wrap ((i : Int) + 1) = ((i + 1 : Nat) : Int) := by rw [i64_id (by omega) (by omega)]; rfl
      have fs := flat_snoc hL
      have fl := flat_le Ls (i + 1)
      rw [fs, List.length_append] at fl
      have ea : IntKind.i64.wrap (((Ls.take i).flatten.length : Int) + L.length) = ((Ls.take (i + 1)).flatten.length : Nat) := by
        rw [fs, List.length_append, i64_id (by omega) (by omega)]; omega
      have q2 : ¬ (((Ls.take (i + 1)).flatten.length : Int) < 0) := by omega
      simp only [argA_0, argA_1, b_lss, valA_some, q, decide_true, condA_t]
      refine join_r (fun (J : AV → H → Prop) => ∀ n, n = AV.int .i64 ((Ls.take (i + 1)).flatten.length : Nat) → J n h2) (fun n hn => ?_) fun J hJ => ?_
      · rw [b_add, en, valA_some, hn]
        exact ⟨vl.length + 1 - (i + 1), by omega, i + 1, rfl, by omega, rfl, rfl⟩
      · refine rs.get (x := x) (by omega) (by omega) (by rw [Int.toNat_natCast]; exact hx) ?_
        rw [rx.len, valA_some, b_add, ea, valA_some, b_lss, valA_some]
        simp only [q2, decide_false, condA_f]
        exact hJ _ rfl
    · have : i = vl.length := by omega
      subst this
      simp only [argA_0, argA_1, b_lss, valA_some, q, decide_false, condA_f]
      rw [hlen, List.take_length]
      exact hJ
theorem at_own {b n k : Nat} {cs : List AV} {e : Nat} {c : Cap} (hg : h.get b = some (.live cs e true)) {i : Int} (h0 : 0 ≤ i) (h1 : i < n) {x : AV} (hx : cs[k + i.toNat]? = some x) {K : AV → H → Prop} (hK : K x h) : valA (iaA 1 (.sl b k n c) (.int .i64 i)) h fun a h => valA (ldA h none a) h K := by
  have : iaA 1 (.sl b k n c) (.int .i64 i) = some (.ptr b (k + i.toNat * 1)) := by simp only [iaA_s, h0, h1, and_self, if_true]
  rw [this, valA_some, ldA_n, Nat.mul_one, cell_of hg, hx]
  exact hK
theorem compact_nil (K : AV → H → Prop) : DP PK 65 [.nilsl] h K = K .nilsl h := by
  refine callB_eq (runB65 ?_) K
  unfold sh65
  simp only [go_sem, reduceIte, Nat.reduceAdd, Nat.reduceSub, Nat.reduceMul, Nat.reducePow, Nat.reduceLT, Nat.reduceLeDiff, Nat.reduceEqDiff, Int.reduceAdd, Int.reduceSub, Int.reduceMul, Int.reduceNeg, Int.reducePow, Int.reduceLT, Int.reduceLE, Int.reduceEq, Int.reduceNe, Int.reduceToNat, Int.toNat_natCast, Nat.zero_add, Nat.add_zero, Nat.mul_one, Nat.one_mul, Bool.not_true, Bool.not_false, ne_eq, not_true_eq_false, not_false_eq_true, Bool.false_eq_true, and_self]
theorem compact_c {b : Nat} {L : List Int} (hg : h.get b = some (.live (ic L) 3 true)) (hn : L.length ≤ 4294967296) {K : AV → H → Prop} (hK : ∀ cs, cs.length = L.length - (cmp L).length → leaves cs = true → K (.sl b 0 (cmp L).length (.more 1)) (h.set b (.live (ic (cmp L) ++ cs) 3 true))) : DP PK 65 [.sl b 0 L.length (.more 1)] h K := by
  refine runB65 ?_
  unfold sh65
  rw [lenA_l, valA_some, b_lss, valA_some]
  have hself : ∀ cs, ic L = cs → h.set b (.live cs 3 true) = h := fun cs e => by
    apply H.ext'; intro k; rw [H.get_set]; split
    · rename_i hk; rw [hk, hg, e]
    · rfl
  have done : cmp L = L → K (.sl b 0 L.length (.more 1)) h := fun e => by
    have := hK [] (by rw [e]; simp) rfl
    rw [e, List.append_nil, hself _ rfl] at this
    exact this
  by_cases q : (L.length : Int) < 2
  · simp only [q, decide_true, condA_t]
    refine done ?_
    match L, q with
    | [], _ => rfl
    | [x], _ => rfl
    | x :: y :: l, q => simp at q; omega
  · simp only [q, decide_false, condA_f]
    refine join_r (fun (J : H → Prop) => cmp L = L → J h) done fun J hJ => ?_
    refine loop_r L.length (fun k ls h2 => ∃ i : Nat, ls = [.int .i64 i] ∧ 1 ≤ i ∧ i ≤ L.length ∧ cmp (L.take i) = L.take i ∧ h2 = h ∧ k = L.length + 1 - i) ⟨1, rfl, by omega, by omega, ?_, rfl, by omega⟩ ?_
    · match L, q with
      | [], q => simp at q
      | x :: l, _ => simp [cmp, cmpStep]
    rintro k ls h2 ⟨i, rfl, h1, hi, hc, rfl, rfl⟩
    rw [argA_0, valA_some, b_lss, valA_some]
    by_cases q : (i : Int) < L.length
    · have hi' : i < L.length := by omega
      obtain ⟨x, hx⟩ : ∃ x, L[i]? = some x := ⟨L[i], by simp [hi']⟩
      obtain ⟨y, hy⟩ : ∃ y, L[i - 1]? = some y := ⟨L[i - 1]'(by omega), by simp [show i - 1 < L.length by omega]⟩
      have hl : (L.take i).getLast? = some y := by have := take_last hy; rwa [Nat.sub_add_cancel h1] at this
      have en : IntKind.i64.wrap ((i : Int) + 1) = ((i + 1 : Nat) : Int) := by rw [i64_id (by omega) (by omega)]; rfl
      have ep : IntKind.i64.wrap ((i : Int) - 1) = ((i - 1 : Nat) : Int) := by rw [i64_id (by omega) (by omega)]; omega
      simp only [q, decide_true, condA_t]
      refine join_r (fun (J : AV → H → Prop) => cmp (L.take (i + 1)) = L.take (i + 1) → J (.int .i64 i) h2) (fun hc => ?_) fun J2 hJ2 => ?_
      · rw [b_add, en, valA_some]
        exact ⟨L.length + 1 - (i + 1), by omega, i + 1, rfl, by omega, by omega, hc, rfl, rfl⟩
      refine at_own hg (by omega) (by omega) (x := .int .i64 x) (by rw [Int.toNat_natCast, Nat.zero_add]; exact ic_get hx) ?_
      rw [b_sub, ep, valA_some]
      refine at_own hg (by omega) (by omega) (x := .int .i64 y) (by rw [Int.toNat_natCast, Nat.zero_add]; exact ic_get hy) ?_
      rw [b_eql, valA_some]
      by_cases z : x = y
      · subst z
        simp only [decide_true, condA_t]
        have s1 : sliceOp (.row 1) (.sl b 0 L.length (.more 1)) (some (.int .i64 i)) none none = some (.sl b i (L.length - i) (.more 1)) := by
          have a1 : (0 : Int) ≤ i := by omega
          have a2 : i ≤ L.length := hi
          simp [sliceOp, Cap.fits, slBounds, loB, hiB, natOf, within, Cap.less, a1, a2]
        rw [s1, valA_some]
        -- the rest is moved down
        have e0 : cmp (L.take (i + 1)) = L.take i := by rw [take_snoc hx, cmp_same hl, hc]
        refine join_r (fun (J : AV → H → Prop) => ∀ cs, cs.length = L.length - (cmp L).length → J (.int .i64 (cmp L).length) (h2.set b (.live (ic (cmp L) ++ cs) 3 true))) (fun cs hcs => ?_) fun J3 hJ3 => ?_
        · have hle := cmp_len L
          have a1 : (0 : Int) ≤ (cmp L).length := by omega
          have s2 : sliceOp (.row 1) (.sl b 0 L.length (.more 1)) (some (.int .i64 (cmp L).length)) none none = some (.sl b (cmp L).length (L.length - (cmp L).length) (.more 1)) := by
            simp [sliceOp, Cap.fits, slBounds, loB, hiB, natOf, within, Cap.less, a1, hle]
          have s3 : sliceOp (.row 1) (.sl b 0 L.length (.more 1)) none (some (.int .i64 (cmp L).length)) none = some (.sl b 0 (cmp L).length (.more 1)) := by
            simp [sliceOp, Cap.fits, slBounds, loB, hiB, natOf, within, Cap.less, a1, hle]
          rw [s2, valA_some]
          unfold clearA
          simp only
          split
          · rename_i h0
            rw [s3, valA_some]
            have : cs = [] := List.eq_nil_of_length_eq_zero (by omega)
            exact hK cs hcs (by rw [this]; rfl)
          · have hw := write_mid (h := h2.set b (.live (ic (cmp L) ++ cs) 3 true)) (b := b) (e := 3) (pre := ic (cmp L)) (cs := cs) (vs := zc (L.length - (cmp L).length)) (H.get_same ..) (by rw [zc, List.length_replicate]; omega) (leaves_replicate _ _ _)
            rw [ic_len] at hw
            rw [repCells_int]
            show memA ((h2.set b (.live (ic (cmp L) ++ cs) 3 true)).write b (cmp L).length (zc (L.length - (cmp L).length))) .undef _
            rw [hw, memA_some, s3, valA_some, set_set_h, List.drop_eq_nil_of_le (by rw [zc, List.length_replicate]; omega), List.append_nil]
            exact hK _ (by rw [zc, List.length_replicate]) (leaves_replicate _ _ _)
        refine loop_r L.length (fun k ls h3 => ∃ j : Nat, ls = [.int .i64 (cmp (L.take (i + j))).length, .int .i64 j] ∧ 1 ≤ j ∧ i + j ≤ L.length ∧ (cmp (L.take (i + j))).length + 1 ≤ i + j ∧
          (∃ cs, h3 = h2.set b (.live cs 3 true) ∧ cs.length = L.length ∧ cs.take (cmp (L.take (i + j))).length = ic (cmp (L.take (i + j))) ∧ ∀ k x, i + j - 1 ≤ k → L[k]? = some x → cs[k]? = some (.int .i64 x)) ∧ k = L.length + 1 - j)
          ⟨1, ?_, by omega, by omega, ?_, ⟨ic L, (hself _ rfl).symm, ic_len L, ?_, fun k x _ hx => ic_get hx⟩, rfl⟩ ?_
        · rw [e0, List.length_take, Nat.min_eq_left hi]; rfl
        · rw [e0, List.length_take, Nat.min_eq_left hi]; omega
        · rw [e0, List.length_take, Nat.min_eq_left hi, ic_take]
        rintro k ls h3 ⟨j, rfl, j1, hj, jl, ⟨cs, rfl, cl, ct, cr⟩, rfl⟩
        rw [argA_0, argA_1, lenA_l, valA_some, b_lss, valA_some]
        have gb : (h2.set b (.live cs 3 true)).get b = some (.live cs 3 true) := H.get_same ..
        by_cases q : (j : Int) < ((L.length - i : Nat) : Int)
        · have hj' : i + j < L.length := by omega
          obtain ⟨u, hu⟩ : ∃ u, L[i + j]? = some u := ⟨L[i + j], by simp [hj']⟩
          obtain ⟨w, hw⟩ : ∃ w, L[i + j - 1]? = some w := ⟨L[i + j - 1]'(by omega), by simp [show i + j - 1 < L.length by omega]⟩
          have ll : (L.take (i + j)).getLast? = some w := by have := take_last hw; rwa [Nat.sub_add_cancel (by omega)] at this
          have en : IntKind.i64.wrap ((j : Int) + 1) = ((j + 1 : Nat) : Int) := by rw [i64_id (by omega) (by omega)]; rfl
          have ep : IntKind.i64.wrap ((j : Int) - 1) = ((j - 1 : Nat) : Int) := by rw [i64_id (by omega) (by omega)]; omega
          have ek : IntKind.i64.wrap (((cmp (L.take (i + j))).length : Int) + 1) = (((cmp (L.take (i + j))).length + 1 : Nat) : Int) := by rw [i64_id (by omega) (by omega)]; rfl
          simp only [q, decide_true, condA_t]
          refine join_r (fun (J : AV → H → Prop) => ∀ h4, (cmp (L.take (i + j + 1))).length + 1 ≤ i + j + 1 → (∃ cs, h4 = h2.set b (.live cs 3 true) ∧ cs.length = L.length ∧ cs.take (cmp (L.take (i + j + 1))).length = ic (cmp (L.take (i + j + 1))) ∧ ∀ k x, i + j ≤ k → L[k]? = some x → cs[k]? = some (.int .i64 x)) → J (.int .i64 (cmp (L.take (i + j + 1))).length) h4) (fun h4 l4 c4 => ?_) fun J4 hJ4 => ?_
          · rw [b_add, en, valA_some]
            exact ⟨L.length + 1 - (j + 1), by omega, j + 1, rfl, by omega, by omega, l4, c4, rfl⟩
          refine at_own gb (by omega) (by omega) (x := .int .i64 u) (by rw [Int.toNat_natCast]; exact cr _ _ (by omega) hu) ?_
          rw [b_sub, ep, valA_some]
          refine at_own gb (by omega) (by omega) (x := .int .i64 w) (by rw [Int.toNat_natCast, show i + (j - 1) = i + j - 1 by omega]; exact cr _ _ (by omega) hw) ?_
          rw [b_neq, valA_some]
          by_cases z : u = w
          · subst z
            have e1 : cmp (L.take (i + j + 1)) = cmp (L.take (i + j)) := by rw [take_snoc hu, cmp_same ll]
            simp only [ne_eq, not_true_eq_false, decide_false, condA_f]
            have := hJ4 _ (by rw [e1]; omega) ⟨cs, rfl, cl, by rw [e1]; exact ct, fun k x hk => cr k x (by omega)⟩
            rw [e1] at this; exact this
          · have e1 : cmp (L.take (i + j + 1)) = cmp (L.take (i + j)) ++ [u] := by
              rw [take_snoc hu, cmp_other (by rw [ll]; intro h; injection h with h; exact z h.symm)]
            have e2 : (cmp (L.take (i + j + 1))).length = (cmp (L.take (i + j))).length + 1 := by rw [e1]; simp
            have hcl : (cmp (L.take (i + j))).length < L.length := by omega
            simp only [ne_eq, z, not_false_eq_true, decide_true, condA_t]
            refine at_own gb (by omega) (by omega) (x := .int .i64 u) (by rw [Int.toNat_natCast]; exact cr _ _ (by omega) hu) ?_
            have ia : iaA 1 (.sl b 0 L.length (.more 1)) (.int .i64 ((cmp (L.take (i + j))).length : Nat)) = some (.ptr b (cmp (L.take (i + j))).length) := by
              have a1 : (0 : Int) ≤ ((cmp (L.take (i + j))).length : Nat) := by omega
              have a2 : (((cmp (L.take (i + j))).length : Nat) : Int) < L.length := by omega
              simp only [iaA_s, a1, a2, and_self, if_true, Int.toNat_natCast, Nat.zero_add, Nat.mul_one]
            rw [ia, valA_some, st_one gb (by omega), memA_some, b_add, ek, valA_some, ← e2]
            refine hJ4 _ (by omega) ⟨_, set_set_h, by rw [List.length_set]; exact cl, ?_, fun k x hk hx => ?_⟩
            · rw [e2, List.take_add_one, List.take_set_of_le (Nat.le_refl _), ct, List.getElem?_set_self (by omega), e1, ic_app]
              rfl
            · rw [List.getElem?_set_ne (by omega)]
              exact cr k x (by omega) hx
        · have hjn : i + j = L.length := by omega
          simp only [q, decide_false, condA_f]
          rw [hjn, List.take_length] at ct
          have hle := cmp_len L
          rw [hjn, List.take_length]
          have := hJ3 (cs.drop (cmp L).length) (by rw [List.length_drop]; omega)
          rw [← ct, List.take_append_drop] at this
          exact this
      · simp only [z, decide_false, condA_f]
        refine hJ2 ?_
        rw [take_snoc hx, cmp_other (by rw [hl]; intro h; injection h with h; exact z h.symm), hc]
    · have : i = L.length := by omega
      subst this
      rw [List.take_length] at hc
      simp only [q, decide_false, condA_f]
      exact hJ hc
end
end Go.Proofs.YtdljelicbnjfjaaGreat.X
set_option linter.unusedVariables false
set_option linter.unusedSimpArgs false
set_option maxRecDepth 20000
namespace Go.Proofs.YtdljelicbnjfjaaGreat.X
open Go Go.RowKit
section
variable {h : H} {PK : H → Prop}
theorem st_all {b e n : Nat} {zs cs : List AV} (hb : h.get b = some (.live zs e true)) (hz : zs.length = n) (hl : cs.length = n) (hv : leaves cs = true) : stA h n (.ptr b 0) (.agg cs) = some (h.set b (.live cs e true)) := by
  have ec : (AV.agg cs).cells = cs := rfl
  simp only [stA_p, ec, hl, if_true]
  have := write_mid (pre := []) hb (by omega) hv
  rw [List.nil_append, List.drop_eq_nil_of_le (by omega), List.append_nil] at this
  exact this
theorem ld_all {b e n : Nat} {cs : List AV} {o : Bool} (hb : h.get b = some (.live cs e o)) (hl : cs.length = n) : ldA h (some n) (.ptr b 0) = some (.agg cs) := by
  refine ldA_read (H.read_eq hb (by omega) ?_)
  rw [List.drop_zero, List.take_of_length_le (by omega)]
theorem sort_c {h0 : H} {v : AV} {L : List Int} (o : Own h0 h 3 1 v L.length (ic L)) (hn : L.length ≤ 4294967296) {K : AV → H → Prop} (h1 : v = .nilsl → L = [] → K (.tup []) h)
    (h2 : ∀ b, v = .sl b 0 L.length (.more 1) → h0.get b = none → K (.tup []) (h.set b (.live (ic (sorted L)) 3 true))) : DP PK 64 [v] h K := by
  have p1 : (64 : Nat) ≠ S1.must := by decide
  have p2 : (64 : Nat) ≠ S1.hold := by decide
  have p3 : S1.isLive 64 = false := by rfl
  have p4 : S1.isSort 64 = true := by rfl
  rcases o.2 with ⟨e, rfl⟩ | ⟨b, rfl, hb, hg⟩
  · rw [show DP PK 64 [.nilsl] h K = K (.tup []) h from callB_sort0 p1 p2 p3 p4 K]
    exact h1 rfl (List.eq_nil_of_length_eq_zero e)
  · by_cases hz : L.length = 0
    · have : L = [] := List.eq_nil_of_length_eq_zero hz
      subst this
      refine callB_known p1 p2 (by rfl) fun m r => ?_
      unfold evKnown
      rw [p3]
      have e : h.set b (.live (ic (sorted [])) 3 true) = h := by
        apply H.ext'; intro k; rw [H.get_set]; split
        · rename_i hk; rw [hk, hg, show sorted [] = [] from List.eq_nil_of_length_eq_zero (sorted_len [])]
        · rfl
      have := h2 b rfl hb
      rw [e] at this
      exact ⟨_, m, h, rfl, r, Keep.refl _ _, this⟩
    · have hr : h.read b 0 L.length = some (ic L) := H.read_eq hg (by rw [ic_len]; omega) (by rw [List.drop_zero, List.take_of_length_le (by rw [ic_len]; omega)])
      have hi : ∀ L, intsOf (ic L) = some L := by
        intro L
        induction L with
        | nil => rfl
        | cons x L ih => simp only [ic, List.map_cons, intsOf]; rw [show List.map (fun n => AV.int .i64 n) L = ic L from rfl, ih]
      have hw : h.write b 0 ((sorted L).map fun n => .int .i64 n) = some (h.set b (.live (ic (sorted L)) 3 true)) := by
        have := write_mid (pre := []) (vs := ic (sorted L)) hg (by simp [ic, sorted_len]) (ic_leaves _)
        rw [List.nil_append, List.drop_eq_nil_of_le (by simp [ic, sorted_len]), List.append_nil] at this
        exact this
      rw [show DP PK 64 [.sl b 0 L.length (.more 1)] h K = K (.tup []) _ from callB_sort p1 p2 p3 p4 hz (by omega) hr (hi L) hw K]
      exact h2 b rfl hb
def joinT (a b : Ty) : Ty := ⟨a.imm || b.imm, ljoin (a.sh ++ b.sh)⟩
theorem join_c {a b : Ty} {ca cb : List AV} (ra : tyR h a ca) (rb : tyR h b cb) (hl : a.sh.length + b.sh.length ≤ 4294967296) {K : AV → H → Prop} (hK : ∀ c h', Fr [] h h' → tyR h' (joinT a b) c → K (.agg c) h') : DP PK 21 [.agg ca, .agg cb] h K := by
  refine runB21 ?_
  unfold sh21
  refine ty_box ra fun p h1 f1 hp gp ra1 => ?_
  refine ty_box (rb.fr f1) fun q h2 f2 hq gq rb1 => ?_
  refine box_r rfl fun t ht => ?_
  have f3 : Fr [] h2 (h2.set t (.live [.bool false, .nilsl] 46 true)) := (Fr.refl _ _).set' ht
  have gt : (h2.set t (.live [.bool false, .nilsl] 46 true)).get t = some (.live [.bool false, .nilsl] 46 true) := H.get_same ..
  generalize h2.set t (.live [.bool false, .nilsl] 46 true) = h3 at f3 gt
  obtain ⟨va, rfl, qa⟩ := (ra1.fr f2).fr f3
  obtain ⟨vb, rfl, qb⟩ := rb1.fr f3
  have gp := f3 p _ (by simp) (f2 p _ (by simp) gp)
  have gq := f3 q _ (by simp) gq
  have f : Fr [] h h3 := f1.trans (f2.trans f3)
  have cell : ∀ {h'}, Fr [] h3 h' → h'.cell p 0 = some (.bool a.imm) ∧ h'.cell q 0 = some (.bool b.imm) := fun f' => ⟨by rw [cell_of (f' p _ (by simp) gp)]; rfl, by rw [cell_of (f' q _ (by simp) gq)]; rfl⟩
  refine fld_r (v := va) (by rw [cell_of gp]; rfl) ?_
  refine fld_r (v := vb) (by rw [cell_of gq]; rfl) ?_
  rw [fill2 qa.one.1 qa.one.2 qb.one.1 qb.one.2]
  refine lit_r (by simp [leaves, qa.one.1, qb.one.1]) rfl fun m h4 f4 rm => ?_
  have rr : RowsI h4 [va, vb] [a.sh, b.sh] := ⟨rfl, fun i v L h1 h2 => by
    match i with
    | 0 => simp at h1 h2; subst h1 h2; exact qa.fr f4
    | 1 => simp at h1 h2; subst h1 h2; exact qb.fr f4
    | i + 2 => simp at h1⟩
  have hN : [a.sh, b.sh].flatten.length ≤ 4294967296 := by simp; omega
  have hfl : [a.sh, b.sh].flatten = a.sh ++ b.sh := by simp
  refine concat_c (vl := [va, vb]) rm rr (by simp) hN fun v h5 f5 o5 => ?_
  rw [hfl] at o5 hN
  -- what comes behind
  have f4' : Fr [] h3 h5 := f4.trans f5
  have fin : ∀ (w : AV) (h6 : H), Fr [] h3 h6 → Row h6 w (joinT a b).sh.length 1 (ic (joinT a b).sh) → (∀ b off n c, w = .sl b off n c → h3.get b = none) → (valA (buildA (fillV [.bool false, .nilsl] [(0, 1, .bool (a.imm || b.imm)), (1, 1, w)])) h6 fun t22 h => memA (stA h 2 (.ptr t 0) t22) .undef fun _ h => valA (ldA h (some 2) (.ptr t 0)) h fun res x => K res h) := by
    intro w h6 f6 rw6 hnw
    rw [fill2 rfl rfl rw6.one.1 rw6.one.2, buildA_s, valA_some]
    have g6 := f6 t _ (by simp) gt
    have lv : leaves [.bool (a.imm || b.imm), w] = true := by simp [leaves, rw6.one.1]; rfl
    rw [st_all (n := 2) (cs := [.bool (a.imm || b.imm), w]) g6 rfl rfl lv, memA_some, ld_all (n := 2) (cs := [.bool (a.imm || b.imm), w]) (H.get_same ..) rfl, valA_some]
    have f7 : Fr [] h (h6.set t (.live [.bool (a.imm || b.imm), w] 46 true)) := by
      have ht0 : h.get t = none := (f1.trans f2).free ht
      exact (f.trans f6).set' ht0
    refine hK _ _ f7 ⟨w, rfl, rw6.mono fun b' off cap ob e hg => ?_⟩
    have hbt : b' ≠ t := fun e2 => by
      have := hnw _ _ _ _ e
      rw [e2, gt] at this; cases this
    rw [H.get_other _ _ hbt]; exact hg
  -- the same for each way of the first parts
  have mid : ∀ (v : AV) (h6 : H), Fr [] h3 h6 → (∀ K' : AV → H → Prop, (∀ w h7, Fr [] h3 h7 → Row h7 w (joinT a b).sh.length 1 (ic (joinT a b).sh) → (∀ b off n c, w = .sl b off n c → h3.get b = none) → K' w h7) → DP never 65 [v] h6 K') →
      (valA (faA 0 (.ptr p 0)) h6 fun t14 h => valA (ldA h none t14) h fun t15 h => whenA t15 false (fun K => valA (faA 0 (.ptr q 0)) h K) h fun t17 h => whenA t15 false (fun K => valA (ldA h none t17) h K) h fun t18 h =>
        valA (pickA t15 (.bool true) t18) h fun t19 h => DP never 65 [v] h fun t21 h => againK (whenP t15 false (valA (ldA h none t17) h (fun v _ => v = t18))) <|
        valA (buildA (fillV [.bool false, .nilsl] [(0, 1, t19), (1, 1, t21)])) h fun t22 h => memA (stA h 2 (.ptr t 0) t22) .undef fun _ h => valA (ldA h (some 2) (.ptr t 0)) h fun res x => K res h) := by
    intro v h6 f6 hc
    obtain ⟨c1, c2⟩ := cell f6
    refine fld_r c1 ?_
    cases hai : a.imm with
    | true =>
      rw [hai] at fin
      simp only [whenA_tf, pickA_b, if_true, valA_some, whenP_tf, againK_t]
      exact hc _ fun w h7 f7 r7 n7 => fin w h7 f7 r7 n7
    | false =>
      rw [hai] at fin
      simp only [whenA_ff, faA_p, valA_some, ldA_n, Nat.zero_add, c2, pickA_b, Bool.false_eq_true, if_false]
      refine hc _ fun w h7 f7 r7 n7 => ?_
      obtain ⟨d1, d2⟩ := cell f7
      simp only [whenP_ff, d2, valA_some, againK_t]
      exact fin w h7 f7 r7 n7
  refine sort_c o5 hN (fun e eL => ?_) fun b5 e hb5 => ?_
  · subst e
    refine mid _ _ f4' fun K' hK' => ?_
    rw [compact_nil]
    refine hK' _ _ f4' ?_ fun _ _ _ _ e => by cases e
    have : (joinT a b).sh = [] := by show ljoin (a.sh ++ b.sh) = []; rw [eL]; rfl
    rw [this]; exact Row.nil _ _
  · subst e
    have hb3 : h3.get b5 = none := f4.free hb5
    refine mid _ _ (f4'.set' hb3) fun K' hK' => ?_
    have e1 : (AV.sl b5 0 (a.sh ++ b.sh).length (.more 1)) = .sl b5 0 (sorted (a.sh ++ b.sh)).length (.more 1) := by rw [sorted_len]
    rw [e1]
    refine compact_c (H.get_same ..) (by rw [sorted_len]; exact hN) fun cs hcs lcs => ?_
    rw [set_set_h]
    have e2 : cmp (sorted (a.sh ++ b.sh)) = (joinT a b).sh := join_same _
    rw [e2]
    refine hK' _ _ (f4'.set' hb3) ⟨by rw [ic_len]; omega, .inr ⟨b5, 0, _, rfl, rfl, H.read_eq (H.get_same ..) (by rw [List.length_append, ic_len]; omega) ?_⟩⟩ fun _ _ _ _ e => by injection e with e; rw [← e]; exact hb3
    rw [List.drop_zero, Nat.mul_one, ← ic_len, List.take_left]
end
end Go.Proofs.YtdljelicbnjfjaaGreat.X
set_option linter.unusedVariables false
set_option linter.unusedSimpArgs false
set_option maxRecDepth 20000
namespace Go.Proofs.YtdljelicbnjfjaaGreat.X
open Go Go.RowKit
section
variable {h : H} {PK : H → Prop}
theorem ljoin_len (L : List Int) : (ljoin L).length ≤ L.length := by
  have step : ∀ (s : Int) (l : List Int), (insF s l).1.length = l.length + (if (insF s l).2 then 1 else 0) := fun s l => by
    refine snoc_ind (P := fun l => (insF s l).1.length = l.length + (if (insF s l).2 then 1 else 0)) rfl (fun M x ih => ?_) l
    rw [insF_snoc]
    unfold insStep
    cases hp : (insF s M).2 <;> rw [hp] at ih
    · by_cases q : s < x <;> simp [q] at ih ⊢ <;> omega
    · simp at ih ⊢; omega
  refine snoc_ind (P := fun L => (ljoin L).length ≤ L.length) (Nat.le_refl _) (fun M x ih => ?_) L
  rw [ljoin_snoc]
  unfold insU
  have := step x (ljoin M)
  split
  · simp; omega
  · split
    · rename_i hp; rw [hp] at this; simp at this ⊢; omega
    · rename_i hp; rw [if_neg hp] at this; simp at this ⊢; omega
end
end Go.Proofs.YtdljelicbnjfjaaGreat.X
set_option linter.unusedVariables false
set_option linter.unusedSimpArgs false
set_option maxRecDepth 20000
namespace Go.Proofs.YtdljelicbnjfjaaGreat.X
open Go Go.RowKit
def H.wo (h : H) (rb : Nat) : H := ⟨fun k => if k = rb then none else h.get k, by
  obtain ⟨n, hn⟩ := h.fin
  exact ⟨n, fun k hk => by split; · rfl
                           · exact hn k hk⟩⟩
theorem H.get_wo (h : H) (rb k : Nat) : (h.wo rb).get k = if k = rb then none else h.get k := rfl
theorem Fr.wo {h h' : H} {rb : Nat} (f : Fr [rb] h h') : Fr [] (h.wo rb) (h'.wo rb) := fun c o _ x => by
  rw [H.get_wo] at x ⊢; split at x
  · cases x
  · rename_i q; rw [if_neg q]; exact f c o (by simpa using q) x
structure RS where
  pos : Nat
  bad : Bool
structure RdE (e : Nat) (h : H) (rb : Nat) (vB : AV) (B : List Nat) (s : RS) : Prop where
  g : h.get rb = some (.live [vB, .int .i64 s.pos, .bool s.bad] e true)
  row : Row (h.wo rb) vB B.length 1 (bc B)
  pos : s.pos ≤ B.length
  lt : ∀ d ∈ B, d < 256
  len : B.length ≤ 4294967296
  some : 0 < B.length
section
variable {h : H} {rb e : Nat} {vB : AV} {B : List Nat} {s : RS}
theorem RdE.cell (r : RdE e h rb vB B s) (off : Nat) : h.cell rb off = [vB, AV.int .i64 s.pos, .bool s.bad][off]? := cell_of r.g off
theorem RdE.keep (r : RdE e h rb vB B s) {h' : H} (f : Fr [] h h') : RdE e h' rb vB B s := ⟨f rb _ (by simp) r.g, r.row.fr (f.weaken (S' := [rb]) (by simp)).wo, r.pos, r.lt, r.len, r.some⟩
theorem RdE.put (r : RdE e h rb vB B s) (s' : RS) (hp : s'.pos ≤ B.length) {cs : List AV} (hc : cs = [vB, .int .i64 s'.pos, .bool s'.bad]) : RdE e (h.set rb (.live cs e true)) rb vB B s' ∧ Fr [rb] h (h.set rb (.live cs e true)) := by
  have f : Fr [rb] h (h.set rb (.live cs e true)) := Fr.put (by simp)
  exact ⟨⟨by rw [H.get_same, hc], r.row.fr f.wo, hp, r.lt, r.len, r.some⟩, f⟩
end
end Go.Proofs.YtdljelicbnjfjaaGreat.X
set_option linter.unusedVariables false
set_option linter.unusedSimpArgs false
set_option maxRecDepth 20000
namespace Go.Proofs.YtdljelicbnjfjaaGreat.X
open Go Go.RowKit
noncomputable def H.only (h : H) (P : Nat → Prop) : H := ⟨fun k => open Classical in if P k then h.get k else none, by
  obtain ⟨n, hn⟩ := h.fin
  exact ⟨n, fun k hk => by split; · exact hn k hk
                           · rfl⟩⟩
theorem only_fr {h h' : H} {P P' : Nat → Prop} (hk : ∀ k o, P k → h.get k = some o → P' k ∧ h'.get k = some o) : Fr [] (h.only P) (h'.only P') := fun k o _ x => by
  simp only [H.only] at x ⊢
  split at x
  · rename_i p
    obtain ⟨q1, q2⟩ := hk k o p x
    rw [if_pos q1]; exact q2
  · cases x
noncomputable abbrev H.new (h0 h : H) : H := h.only fun k => h0.get k = none
theorem new_mono {h h1 h2 h' : H} {S : List Nat} (f : Fr S h2 h') (hr : ∀ k ∈ S, h1.get k ≠ none) (ha : ∀ k, h.get k ≠ none → h1.get k ≠ none) : Fr [] (H.new h1 h2) (H.new h h') :=
  only_fr fun k o p x => ⟨by
    by_cases q : h.get k = none
    · exact q
    · exact absurd p (ha k q), f k o (fun e => hr k e p) x⟩
theorem overlay_end' : ∀ (vs cs pre : List AV), vs.length = cs.length → overlay (pre ++ cs) pre.length vs = pre ++ vs
  | [], cs, pre, hl => by
    have : cs = [] := List.eq_nil_of_length_eq_zero (by simpa using hl.symm)
    subst this; rfl
  | v :: vs, [], pre, hl => by simp at hl
  | v :: vs, c :: cs, pre, hl => by
    have := overlay_end' vs cs (pre ++ [v]) (by simpa using hl)
    simp only [List.length_append, List.length_singleton, List.append_assoc, List.singleton_append] at this
    rw [overlay, List.set_append_right _ _ (Nat.le_refl _)]
    simpa using this
theorem Own.wo {h0 h : H} {rb ty esz n : Nat} {v : AV} {cs : List AV} (o : Own (h0.wo rb) h ty esz v n cs) {cs' : List AV} {ty' : Nat} (hr : h.get rb = some (.live cs' ty' true)) (ht : ty ≠ ty') : Own (h0.wo rb) (h.wo rb) ty esz v n cs :=
  o.keep fun c n' p e ob hg => by
    rw [H.get_wo, if_neg]
    · exact hg
    · intro z; exact o.ne hr ht n' p (by rw [e, z])
end Go.Proofs.YtdljelicbnjfjaaGreat.X
set_option linter.unusedVariables false
set_option linter.unusedSimpArgs false
set_option maxRecDepth 20000
namespace Go.Proofs.YtdljelicbnjfjaaGreat.X
open Go Go.RowKit
theorem agg_st {h : H} {d e n : Nat} {cs c : List AV} (hd : h.get d = Option.some (.live cs e true)) (hcs : cs.length = n) (hc : c.length = n) (hl : leaves c = true) : stA h n (.ptr d 0) (.agg c) = some (h.set d (.live c e true)) := by
  have ec : (AV.agg c).cells = c := rfl
  simp only [stA_p, ec, hc, if_true]
  unfold H.write
  rw [hd]
  simp only [hl, and_true]
  rw [if_pos (by omega)]
  have := overlay_end' c cs [] (by omega)
  simp only [List.nil_append, List.length_nil] at this
  rw [this]
section
variable {h : H} {rb e : Nat} {vB : AV} {B : List Nat} {s : RS}
theorem RdE.re (r : RdE e h rb vB B s) {h' : H} (f : Fr [rb] h h') {s' : RS} (g : h'.get rb = Option.some (.live [vB, .int .i64 s'.pos, .bool s'.bad] e true)) (hp : s'.pos ≤ B.length) : RdE e h' rb vB B s' := ⟨g, r.row.fr f.wo, hp, r.lt, r.len, r.some⟩
theorem RdE.ne (r : RdE e h rb vB B s) {d : Nat} (hd : h.get d = none) : d ≠ rb := fun e => by rw [e, r.g] at hd; cases hd
structure RdDE (E : Nat) (h h1 hi : H) (rb d : Nat) (vB : AV) (B : List Nat) (s : RS) (cs : List AV) (e : Nat) : Prop where
  f : Fr [rb] h hi
  g : Fr [rb, d] h1 hi
  a0 : ∀ k, h.get k ≠ none → h1.get k ≠ none
  a : ∀ k, h1.get k ≠ none → hi.get k ≠ none
  k1 : ∀ k ∈ [rb, d], h1.get k ≠ none
  hd : h.get d = none
  r : RdE E hi rb vB B s
  gd : hi.get d = some (.live cs e true)
section
variable {h h1 hi h2 h' : H} {rb d e E : Nat} {vB : AV} {B : List Nat} {s s' : RS} {cs : List AV}
theorem RdE.box (r : RdE E h rb vB B s) (hd : h.get d = none) : RdDE E h (h.set d (.live cs e true)) (h.set d (.live cs e true)) rb d vB B s cs e := by
  have f : Fr [] h (h.set d (.live cs e true)) := (Fr.refl _ _).set' hd
  have hr := r.ne hd
  refine ⟨f.more, Fr.refl _ _, fun k hk => ?_, fun k hk => hk, fun k hk => ?_, hd, r.keep f, H.get_same ..⟩
  · rw [H.get_other _ _ (fun e => hk (by rw [e]; exact hd))]; exact hk
  · simp only [List.mem_cons, List.not_mem_nil, or_false] at hk
    rcases hk with rfl | rfl
    · rw [H.get_other _ _ hr.symm, r.g]; simp
    · rw [H.get_same]; simp
theorem RdDE.ne (q : RdDE E h h1 hi rb d vB B s cs e) (r : RdE E h rb vB B s') : d ≠ rb := r.ne q.hd
theorem RdDE.put (q : RdDE E h h1 hi rb d vB B s cs e) {s0 : RS} (r : RdE E h rb vB B s0) {cs' cs'' : List AV} (hc : cs'' = cs') : RdDE E h h1 (hi.set d (.live cs'' e true)) rb d vB B s cs' e := by
  subst hc
  have f' : Fr [rb] h (hi.set d (.live cs'' e true)) := q.f.set' q.hd
  refine ⟨f', q.g.trans (Fr.put (by simp)), q.a0, fun k hk => ?_, q.k1, q.hd, r.re f' (by rw [H.get_other _ _ (r.ne q.hd).symm]; exact q.r.g) q.r.pos, H.get_same ..⟩
  rw [H.get_set]; split
  · simp
  · exact q.a k hk
theorem RdDE.fin (q : RdDE E h h1 hi rb d vB B s cs e) : Fr [] (H.new h1 h2) (H.new h h2) := new_mono (S := []) (Fr.refl _ _) (by simp) q.a0
theorem RdDE.cell (q : RdDE E h h1 hi rb d vB B s cs e) (off : Nat) : hi.cell d off = cs[off]? := cell_of q.gd off
theorem RdDE.read (q : RdDE E h h1 hi rb d vB B s cs e) {n : Nat} (hn : cs.length = n) : hi.read d 0 n = some cs := H.read_eq q.gd (by omega) (by rw [List.drop_zero, List.take_of_length_le (by omega)])
theorem RdDE.st (q : RdDE E h h1 hi rb d vB B s cs e) {s0 : RS} (r : RdE E h rb vB B s0) {off : Nat} {v : AV} {cs' : List AV} (hc : cs.set off v = cs') (ho : off < cs.length) (hv : v.leaf = true) (hv' : v.cells = [v]) {K : AV → H → Prop}
    (hK : ∀ h', Fr [rb, d] hi h' → RdDE E h h1 h' rb d vB B s cs' e → K .undef h') : valA (faA off (.ptr d 0)) hi fun t h => memA (stA h 1 t v) .undef K := by
  rw [faA_p, valA_some, Nat.zero_add, st_val q.gd ho hv hv', memA_some]
  exact hK _ (Fr.put (by simp)) (q.put r hc)
theorem RdDE.done (q : RdDE E h h1 hi rb d vB B s cs e) {s0 : RS} (r : RdE E h rb vB B s0) {n : Nat} (hn : cs.length = n) (hl : leaves cs = true) {K : AV → H → Prop}
    (hK : ∀ h', Fr [rb, d] hi h' → RdDE E h h1 h' rb d vB B s cs e → K (.agg cs) h') : valA (ldA hi (some n) (.ptr d 0)) hi fun t h => memA (stA h n (.ptr d 0) t) .undef fun _ h => valA (ldA h (some n) (.ptr d 0)) h fun res _ => K res h := by
  have q' := q.put r (cs'' := cs) rfl
  rw [ldA_read (q.read hn), valA_some, agg_st q.gd hn hn hl, memA_some, ldA_read (q'.read hn), valA_some]
  exact hK _ (Fr.put (by simp)) q'
end
end
section
variable {rb : Nat} {B : List Nat}
theorem RowOf.all {α : Type} {h : H} {esz : Nat} {R : α → List AV → Prop} {P : α → Prop} {v : AV} {l : List α} (r : RowOf h esz (fun x c => R x c ∧ P x) v l) {x : α} (hx : x ∈ l) : P x := by
  obtain ⟨css, h1, h2, _, _⟩ := r
  obtain ⟨i, hi, rfl⟩ := List.getElem_of_mem hx
  have hc : i < css.length := by omega
  exact (h2 i l[i] css[i] (by simp [hi]) (by simp [hc])).2
def R3 (h : H) (x : Ins) (vl vm vv : AV) : Prop := Row h vl x.l.length 1 (ic x.l) ∧ Row h vm x.m.length 1 (ic x.m) ∧ Row h vv x.live.length 1 (ic x.live)
theorem R3.fr {h h' : H} {x : Ins} {vl vm vv : AV} (f : Fr [] h h') (r : R3 h x vl vm vv) : R3 h' x vl vm vv := ⟨r.1.fr f, r.2.1.fr f, r.2.2.fr f⟩
end
end Go.Proofs.YtdljelicbnjfjaaGreat.X
set_option linter.unusedVariables false
set_option linter.unusedSimpArgs false
set_option maxRecDepth 20000
namespace Go.Proofs.YtdljelicbnjfjaaGreat.X
open Go Go.RowKit
def shT : Sh := .st [.bool, .sl (.int .i64)]
section
variable {h : H} {l : List AV}
theorem liesL_nil (hl : LiesL h [] l) : l = [] := by simpa only [LiesL] using hl
theorem liesL_cons {s : Sh} {ss : List Sh} (hl : LiesL h (s :: ss) l) : ∃ l1 l2, l = l1 ++ l2 ∧ Lies h s l1 ∧ LiesL h ss l2 := by simpa only [LiesL] using hl
theorem lies_nums (hl : Lies h (.sl (.int .i64)) l) : ∃ v L, l = [v] ∧ Row h v L.length 1 (ic L) ∧ rgs L := by
  obtain ⟨v, L, q1, q2, q3, q4⟩ := lies_ints hl
  exact ⟨v, L, q1, q2, q4, q3⟩
theorem lies_ty (hl : Lies h shT l) : ∃ x, tyR h x l ∧ x.ok ∧ l.length = 2 := by
  unfold shT at hl; simp only [Lies] at hl
  obtain ⟨_, _, rfl, h1, hl⟩ := liesL_cons hl
  obtain ⟨_, _, rfl, h2, hl⟩ := liesL_cons hl
  obtain rfl := liesL_nil hl
  obtain ⟨b, rfl⟩ := lies_bool h1
  obtain ⟨v, L, rfl, r, o⟩ := lies_nums h2
  exact ⟨⟨b, L⟩, ⟨v, rfl, r⟩, o, rfl⟩
end
end Go.Proofs.YtdljelicbnjfjaaGreat.X
set_option linter.unusedVariables false
set_option linter.unusedSimpArgs false
set_option maxRecDepth 20000
namespace Go.Proofs.YtdljelicbnjfjaaGreat.X
open Go Go.RowKit
section
variable {h : H} {PK : H → Prop}
theorem rows_eq_iff {A B : List Int} (hl : A.length = B.length) : A = B ↔ ∀ (i : Nat) x y, A[i]? = some x → B[i]? = some y → x = y := by
  constructor
  · rintro rfl i x y h1 h2; rw [h1] at h2; injection h2
  · intro hh
    apply List.ext_getElem hl
    intro i h1 h2
    exact hh i _ _ (by simp [h1]) (by simp [h2])
theorem alike_c {va vb : AV} {A B : List Int} (ra : Row h va A.length 1 (ic A)) (rb : Row h vb B.length 1 (ic B)) (hl : A.length ≤ reachBytes) (K : AV → H → Prop) : DP PK 25 [va, vb] h K = K (.bool (decide (A = B))) h := by
  refine callB_eq (runB25 ?_) K
  unfold sh25
  have hr : reachBytes ≤ 4611686018427387903 := by decide
  rw [ra.len, valA_some, rb.len, valA_some, b_neq, valA_some]
  by_cases q : A.length = B.length
  · have q' : (A.length : Int) = B.length := by omega
    simp only [ne_eq, q', not_true_eq_false, decide_false, condA_f]
    refine join_r (fun (J : H → Prop) => A = B → J h) (fun e => by rw [decide_eq_true e]; simp) fun J hJ => ?_
    rw [valA_some]
    refine loop_r (A.length + 1) (fun k ls h2 => ∃ i : Nat, ls = [.int .i64 i] ∧ i ≤ A.length ∧ (∀ (j : Nat) x y, j < i → A[j]? = some x → B[j]? = some y → x = y) ∧ h2 = h ∧ k = A.length + 1 - i) ⟨0, rfl, by omega, fun j x y hj => by omega, rfl, rfl⟩ ?_
    rintro k ls h2 ⟨i, rfl, hi, ha, rfl, rfl⟩
    rw [argA_0, b_lss, valA_some]
    by_cases z : (i : Int) < B.length
    · have hi' : i < A.length := by omega
      obtain ⟨x, hx⟩ : ∃ x, A[i]? = some x := ⟨A[i], by simp [hi']⟩
      obtain ⟨y, hy⟩ : ∃ y, B[i]? = some y := ⟨B[i]'(by omega), by simp [show i < B.length by omega]⟩
      have en : IntKind.i64.wrap ((i : Int) + 1) = ((i + 1 : Nat) : Int) := by rw [i64_id (by omega) (by omega)]; rfl
      simp only [z, decide_true, condA_t]
      refine ra.get (x := .int .i64 x) (by omega) (by omega) (by rw [Int.toNat_natCast]; exact ic_get hx) ?_
      refine rb.get (x := .int .i64 y) (by omega) (by omega) (by rw [Int.toNat_natCast]; exact ic_get hy) ?_
      rw [b_neq, valA_some]
      by_cases e : x = y
      · subst e
        simp only [ne_eq, not_true_eq_false, decide_false, condA_f, b_add, valA_some, en]
        refine ⟨A.length + 1 - (i + 1), by omega, i + 1, rfl, by omega, fun j u w hj hu hw => ?_, trivial, rfl⟩
        by_cases hji : j = i
        · subst hji; rw [hx] at hu; rw [hy] at hw; injection hu with hu; injection hw with hw; omega
        · exact ha j u w (by omega) hu hw
      · have : ¬ A = B := fun ab => e ((rows_eq_iff q).1 ab i x y hx hy)
        simp only [ne_eq, e, not_false_eq_true, decide_true, condA_t, this, decide_false]
        exact ⟨trivial, trivial⟩
    · simp only [z, decide_false, condA_f]
      refine hJ ((rows_eq_iff q).2 fun j x y hx hy => ha j x y ?_ hx hy)
      obtain ⟨hj, _⟩ := List.getElem?_eq_some_iff.1 hx
      omega
  · have q' : ¬ (A.length : Int) = B.length := by omega
    have : ¬ A = B := fun ab => q (by rw [ab])
    simp only [ne_eq, q', not_false_eq_true, decide_true, condA_t, this, decide_false]
    exact ⟨trivial, trivial⟩
def inB (c : List AV) (b : Nat) : Prop := ∃ x off n k, c = [x, .sl b off n k]
theorem tyR.alive {t : Ty} {c : List AV} (r : tyR h t c) {b : Nat} (i : inB c b) : h.get b ≠ none := by
  obtain ⟨v, rfl, q⟩ := r
  obtain ⟨x, off, n, k, e⟩ := i
  injection e with _ e; injection e with e
  rcases q.2 with ⟨_, e3⟩ | ⟨b', off', cap, e3, _, hr⟩
  · rw [e3] at e; cases e
  · rw [e3] at e; injection e with e; subst e
    unfold H.read at hr
    intro hn; rw [hn] at hr; cases hr
theorem tyR.set {t : Ty} {c : List AV} (r : tyR h t c) {p : Nat} {o : Obj} (hn : ¬ inB c p) : tyR (h.set p o) t c := by
  obtain ⟨v, rfl, q⟩ := r
  refine ⟨v, rfl, q.mono fun b off cap ob e hg => ?_⟩
  rw [H.get_other _ _ (fun e2 => hn ⟨_, off, _, cap, by rw [← e2, e]⟩)]; exact hg
def shortT (t : Ty) : Ty := ⟨t.imm, t.sh.take 60⟩
theorem short_c {t : Ty} {c : List AV} (r : tyR h t c) (hl : t.sh.length ≤ reachBytes) {K : AV → H → Prop} (hK : ∀ c' h', Fr [] h h' → tyR h' (shortT t) c' → (∀ b, inB c' b → inB c b) → K (.agg c') h') : DP PK 20 [.agg c] h K := by
  refine runB20 ?_
  unfold sh20
  refine ty_box r fun p h1 f1 hp gp r1 => ?_
  refine box_r rfl fun d hd => ?_
  have f2 : Fr [] h1 (h1.set d (.live [.bool false, .nilsl] 46 true)) := (Fr.refl _ _).set' hd
  have gd : (h1.set d (.live [.bool false, .nilsl] 46 true)).get d = some (.live [.bool false, .nilsl] 46 true) := H.get_same ..
  have hpd : p ≠ d := fun e => by rw [e, hd] at gp; cases gp
  generalize h1.set d (.live [.bool false, .nilsl] 46 true) = h2 at f2 gd
  have gp2 := f2 p _ (by simp) gp
  obtain ⟨v, rfl, q⟩ := r1.fr f2
  have f := f1.trans f2
  have hd0 : h.get d = none := f1.free hd
  have hvn : ∀ b off n c, v = .sl b off n c → h.get b ≠ none := fun b off n c e => r.alive ⟨_, off, n, c, by rw [e]⟩
  -- what comes behind
  refine join_r (fun (J : H → Prop) => ∀ w h3, Fr [] h h3 → h3.get p = some (.live [.bool t.imm, w] 46 true) → h3.get d = some (.live [.bool false, .nilsl] 46 true) → Row h3 w (shortT t).sh.length 1 (ic (shortT t).sh) → (∀ b off n c, w = .sl b off n c → ∃ off n c, v = .sl b off n c) → J h3) (fun w h3 f3 g3 gd3 r3 hw => ?_) fun J hJ => ?_
  · have lv : leaves [.bool t.imm, w] = true := by simp [leaves, r3.one.1]; rfl
    rw [ld_all (n := 2) (cs := [.bool t.imm, w]) g3 rfl, valA_some, st_all (n := 2) (cs := [.bool t.imm, w]) gd3 rfl rfl lv, memA_some, ld_all (n := 2) (cs := [.bool t.imm, w]) (H.get_same ..) rfl, valA_some]
    refine hK _ _ (f3.set' hd0) ⟨w, rfl, r3.mono fun b off cap ob e hg => ?_⟩ fun b ⟨x, off, n, k, e⟩ => by
      injection e with _ e; injection e with e
      obtain ⟨o', n', c', e3⟩ := hw _ _ _ _ e
      exact ⟨_, o', n', c', by rw [e3]⟩
    rw [H.get_other _ _ (fun e2 => by obtain ⟨_, _, _, e3⟩ := hw _ _ _ _ e; exact hvn _ _ _ _ e3 (by rw [e2]; exact hd0))]; exact hg
  refine fld_r (v := v) (by rw [cell_of gp2]; rfl) ?_
  rw [q.len, valA_some, b_gtr, valA_some]
  by_cases z : (60 : Int) < t.sh.length
  · simp only [z, decide_true, condA_t]
    refine fld_r (v := v) (by rw [cell_of gp2]; rfl) ?_
    obtain ⟨v', w1, w2⟩ := sl_none q (j := 60) (by omega) (by omega)
    have e60 : AV.int .i64 ((60 : Nat) : Int) = .int .i64 60 := rfl
    rw [e60] at w1
    rw [w1, valA_some, faA_p, valA_some, Nat.zero_add, st_val gp2 (by simp) w2.one.1 w2.one.2, memA_some]
    have hp0 : h.get p = none := hp
    have e2 : (shortT t).sh.length = 60 := by unfold shortT; rw [List.length_take]; omega
    have e3 : ic (shortT t).sh = (ic t.sh).take (60 * 1) := by unfold shortT; rw [Nat.mul_one, ic_take]
    have hv' : ∀ b off n c, v' = .sl b off n c → ∃ off n c, v = .sl b off n c := fun b off n c e => by
      rcases q.2 with ⟨h0, _⟩ | ⟨b0, off0, cap0, e4, hfit, hr⟩
      · omega
      · rw [e4] at w1
        simp only [sliceOp, hfit, if_true] at w1
        split at w1
        · injection w1 with w1; rw [e] at w1; injection w1 with w1; rw [← w1]; exact ⟨_, _, _, e4⟩
        · cases w1
    refine hJ v' _ (f.set' hp0) (by rw [H.get_same]; rfl) (by rw [H.get_other _ _ (fun e => hpd e.symm)]; exact gd) ?_ hv'
    rw [e2, e3]
    exact w2.mono fun b off cap ob e hg => by
      rw [H.get_other _ _ (fun e2 => by obtain ⟨_, _, _, e3⟩ := hv' _ _ _ _ e; exact hvn _ _ _ _ e3 (by rw [e2]; exact hp0))]; exact hg
  · simp only [z, decide_false, condA_f]
    have e2 : shortT t = t := by unfold shortT; rw [List.take_of_length_le (by omega)]
    exact hJ v _ f gp2 gd (by rw [e2]; exact q) fun b off n c e => ⟨_, _, _, e⟩
theorem lives5 (K : AV → H → Prop) : DP PK 26 [] h K = K (.bool true) h := callB_live (by decide) (by decide) (by rfl) K
def TyBox (h : H) (p : Nat) (t : Ty) : Prop := ∃ c, h.get p = some (.live c 46 true) ∧ tyR h t c
theorem TyBox.fr {h' : H} {p : Nat} {t : Ty} (b : TyBox h p t) (f : Fr [] h h') : TyBox h' p t := by
  obtain ⟨c, g, r⟩ := b
  exact ⟨c, f p _ (by simp) g, r.fr f⟩
theorem tyR.len {t : Ty} {c : List AV} (r : tyR h t c) : c.length = 2 := by obtain ⟨v, rfl, _⟩ := r; rfl
theorem TyBox.ld {p : Nat} {t : Ty} (b : TyBox h p t) : ∃ c, ldA h (some 2) (.ptr p 0) = some (.agg c) ∧ tyR h t c := by
  obtain ⟨c, g, r⟩ := b
  exact ⟨c, ld_all g r.len, r⟩
theorem tyst_r {p : Nat} {c : List AV} {t : Ty} {zs : List AV} (hg : h.get p = some (.live zs 46 true)) (hz : zs.length = 2) (r : tyR h t c) (hn : ¬ inB c p) {K : AV → H → Prop} (hK : (h.set p (.live c 46 true)).get p = some (.live c 46 true) → tyR (h.set p (.live c 46 true)) t c → K .undef (h.set p (.live c 46 true))) : memA (stA h 2 (.ptr p 0) (.agg c)) .undef K := by
  rw [st_all hg hz r.len r.leaves, memA_some]
  exact hK (H.get_same ..) (r.set hn)
end
end Go.Proofs.YtdljelicbnjfjaaGreat.X
set_option linter.unusedVariables false
set_option linter.unusedSimpArgs false
set_option maxRecDepth 20000
namespace Go.Proofs.YtdljelicbnjfjaaGreat.X
open Go Go.RowKit
theorem subT_iff (a b : Ty) : subT a b = true ↔ (a.imm = true → b.imm = true) ∧ ∀ x ∈ a.sh, x ∈ b.sh := by
  unfold subT
  rw [Bool.and_eq_true, List.all_eq_true]
  constructor
  · rintro ⟨h1, h2⟩
    refine ⟨fun h => ?_, fun x hx => of_decide_eq_true (h2 x hx)⟩
    rw [h] at h1; simpa using h1
  · rintro ⟨h1, h2⟩
    refine ⟨?_, fun x hx => decide_eq_true (h2 x hx)⟩
    cases ha : a.imm with
    | true => rw [h1 ha]; rfl
    | false => simp
theorem mem_join (a b : Ty) (x : Int) : x ∈ (joinT a b).sh ↔ x ∈ a.sh ∨ x ∈ b.sh := by
  show x ∈ ljoin (a.sh ++ b.sh) ↔ _
  rw [(ljoin_ok _).2, List.mem_append]
theorem subT_refl (a : Ty) : subT a a = true := (subT_iff a a).2 ⟨id, fun _ => id⟩
theorem subT_trans {a b c : Ty} (h1 : subT a b = true) (h2 : subT b c = true) : subT a c = true := by
  obtain ⟨i1, m1⟩ := (subT_iff a b).1 h1
  obtain ⟨i2, m2⟩ := (subT_iff b c).1 h2
  exact (subT_iff a c).2 ⟨fun h => i2 (i1 h), fun x hx => m2 x (m1 x hx)⟩
theorem sub_join_l (a b : Ty) : subT a (joinT a b) = true := (subT_iff _ _).2 ⟨fun h => by show (a.imm || b.imm) = true; rw [h]; rfl, fun x hx => (mem_join a b x).2 (.inl hx)⟩
theorem sub_join_r (a b : Ty) : subT b (joinT a b) = true := (subT_iff _ _).2 ⟨fun h => by show (a.imm || b.imm) = true; rw [h]; simp, fun x hx => (mem_join a b x).2 (.inr hx)⟩
theorem join_least {a b c : Ty} (h1 : subT a c = true) (h2 : subT b c = true) : subT (joinT a b) c = true := by
  obtain ⟨i1, m1⟩ := (subT_iff a c).1 h1
  obtain ⟨i2, m2⟩ := (subT_iff b c).1 h2
  refine (subT_iff _ _).2 ⟨fun h => ?_, fun x hx => ?_⟩
  · rcases Bool.or_eq_true_iff.1 (show (a.imm || b.imm) = true from h) with h | h
    · exact i1 h
    · exact i2 h
  · rcases (mem_join a b x).1 hx with h | h
    · exact m1 x h
    · exact m2 x h
theorem join_comm (a b : Ty) : joinT b a = joinT a b := by
  have e : (joinT b a).sh = (joinT a b).sh := rise_eq (ljoin_ok _).1 (ljoin_ok _).1 fun x => by rw [mem_join, mem_join]; exact _root_.or_comm
  have e2 : (joinT b a).imm = (joinT a b).imm := Bool.or_comm ..
  cases h1 : joinT b a; cases h2 : joinT a b
  rw [h1, h2] at e e2
  simp only at e e2
  rw [e, e2]
theorem short_len (t : Ty) : (shortT t).sh.length ≤ 60 := by unfold shortT; rw [List.length_take]; omega
theorem joinT_len (a b : Ty) : (joinT a b).sh.length ≤ a.sh.length + b.sh.length := by
  have := ljoin_len (a.sh ++ b.sh)
  rw [List.length_append] at this
  exact this
end Go.Proofs.YtdljelicbnjfjaaGreat.X
set_option linter.unusedVariables false
set_option linter.unusedSimpArgs false
set_option maxRecDepth 20000
namespace Go.Proofs.YtdljelicbnjfjaaGreat.X
open Go Go.RowKit
section
variable {h : H}
structure TB (h : H) (p : Nat) (c : List AV) (t : Ty) : Prop where
  get : h.get p = some (.live c 46 true)
  ty : tyR h t c
theorem TB.fr {h' : H} {p : Nat} {c : List AV} {t : Ty} (b : TB h p c t) (f : Fr [] h h') : TB h' p c t := ⟨f p _ (by simp) b.get, b.ty.fr f⟩
theorem TB.ld {p : Nat} {c : List AV} {t : Ty} (b : TB h p c t) : ldA h (some 2) (.ptr p 0) = some (.agg c) := ld_all b.get b.ty.len
theorem TB.set {p : Nat} {c : List AV} {t : Ty} (b : TB h p c t) {q : Nat} {o : Obj} (hq : p ≠ q) (hn : ¬ inB c q) : TB (h.set q o) p c t := ⟨by rw [H.get_other _ _ hq]; exact b.get, b.ty.set hn⟩
theorem TB.sub {p q : Nat} {a b : Ty} {ca cb : List AV} (ba : TB h p ca a) (bb : TB h q cb b) (oa : a.sh.length ≤ reachBytes) (ob : b.sh.length ≤ reachBytes) {K : AV → H → Prop} (hK : ∀ h', Fr [] h h' → K (.bool (subT a b)) h') :
    valA (ldA h (some 2) (.ptr p 0)) h fun x h => valA (ldA h (some 2) (.ptr q 0)) h fun y h => DP never 23 [x, y] h K := by
  rw [ba.ld, valA_some, bb.ld, valA_some]
  exact sub_c ba.ty bb.ty oa ob hK
theorem law6 (h : H) (ls : List (List AV)) (hl : LiesA h [shT, shT, shT] ls) : DP never 6 (argsOf [shT, shT, shT] ls) h yes := by
  obtain ⟨la, ls, rfl, ha, hl⟩ := liesA_cons hl
  obtain ⟨lb, ls, rfl, hb, hl⟩ := liesA_cons hl
  obtain ⟨lc, ls, rfl, hc, hl⟩ := liesA_cons hl
  obtain rfl := liesA_nil hl
  obtain ⟨a, ra, oa, _⟩ := lies_ty ha
  obtain ⟨b, rb, ob, _⟩ := lies_ty hb
  obtain ⟨c, rc, oc, _⟩ := lies_ty hc
  have hrb : 60 ≤ reachBytes := by decide
  have hrb2 : 120 ≤ reachBytes := by decide
  show DP never 6 [.agg la, .agg lb, .agg lc] h yes
  refine runB6 ?_
  unfold sh6
  refine ty_box ra fun p h1 f1 hp gp ra1 => ?_
  refine ty_box (rb.fr f1) fun q h2 f2 hq gq rb1 => ?_
  refine ty_box ((rc.fr f1).fr f2) fun r h3 f3 hr gr rc1 => ?_
  have hpq : p ≠ q := fun e => by rw [← e, gp] at hq; cases hq
  have gp := f2 p _ (by simp) gp
  have hpr : p ≠ r := fun e => by rw [← e, gp] at hr; cases hr
  have hqr : q ≠ r := fun e => by rw [← e, gq] at hr; cases hr
  have gp := f3 p _ (by simp) gp
  have gq := f3 q _ (by simp) gq
  have hq0 : h.get q = none := f1.free hq
  have hr0 : h.get r = none := (f1.trans f2).free hr
  rw [ld_all gp ra.len, valA_some, ld_all gq rb.len, valA_some, ld_all gr rc.len, valA_some]
  refine short_c ((ra1.fr f2).fr f3) oa.1 fun ca h4 f4 ra4 ia => ?_
  have gp := f4 p _ (by simp) gp
  have gq := f4 q _ (by simp) gq
  have gr := f4 r _ (by simp) gr
  refine ⟨by rw [ld_all gq rb.len]; rfl, by rw [ld_all gr rc.len]; rfl, ?_⟩
  refine short_c ((rb1.fr f3).fr f4) ob.1 fun cb h5 f5 rb5 ib => ?_
  have gp := f5 p _ (by simp) gp
  have gq := f5 q _ (by simp) gq
  have gr := f5 r _ (by simp) gr
  refine ⟨by rw [ld_all gr rc.len]; rfl, ?_⟩
  refine short_c ((rc1.fr f4).fr f5) oc.1 fun cc h6 f6 rc6 ic => ?_
  have gp := f6 p _ (by simp) gp
  have gq := f6 q _ (by simp) gq
  have gr := f6 r _ (by simp) gr
  have ra6 := (ra4.fr f5).fr f6
  have rb6 := rb5.fr f6
  have fa : ∀ z, inB ca z → h.get z ≠ none := fun z i => ra.alive (ia z i)
  have fb : ∀ z, inB cb z → h.get z ≠ none := fun z i => rb.alive (ib z i)
  have fc : ∀ z, inB cc z → h.get z ≠ none := fun z i => rc.alive (ic z i)
  refine tyst_r gp ra.len ra6 (fun i => fa _ i hp) fun gp ra7 => ?_
  have gq : (h6.set p (.live ca 46 true)).get q = some (.live lb 46 true) := by rw [H.get_other _ _ (fun e => hpq e.symm)]; exact gq
  have gr : (h6.set p (.live ca 46 true)).get r = some (.live lc 46 true) := by rw [H.get_other _ _ (fun e => hpr e.symm)]; exact gr
  have rb7 := rb6.set (o := .live ca 46 true) (fun i => fb _ i hp)
  have rc7 := rc6.set (o := .live ca 46 true) (fun i => fc _ i hp)
  generalize h6.set p (.live ca 46 true) = h7 at gp gq gr ra7 rb7 rc7
  have P : TB h7 p ca (shortT a) := ⟨gp, ra7⟩
  refine tyst_r gq rb.len rb7 (fun i => fb _ i hq0) fun gq rb8 => ?_
  have gr : (h7.set q (.live cb 46 true)).get r = some (.live lc 46 true) := by rw [H.get_other _ _ (fun e => hqr e.symm)]; exact gr
  have P := P.set (q := q) (o := .live cb 46 true) hpq (fun i => fa _ i hq0)
  have rc8 := rc7.set (o := .live cb 46 true) (fun i => fc _ i hq0)
  generalize h7.set q (.live cb 46 true) = h8 at gq gr P rb8 rc8
  have Q : TB h8 q cb (shortT b) := ⟨gq, rb8⟩
  refine tyst_r gr rc.len rc8 (fun i => fc _ i hr0) fun gr rc9 => ?_
  have P := P.set (q := r) (o := .live cc 46 true) hpr (fun i => fa _ i hr0)
  have Q := Q.set (q := r) (o := .live cc 46 true) hqr (fun i => fb _ i hr0)
  have R : TB _ r cc (shortT c) := ⟨gr, rc9⟩
  generalize h8.set r (.live cc 46 true) = h9 at P Q R
  have sa := short_len a
  have sb := short_len b
  have sc := short_len c
  generalize shortT a = A at P sa
  generalize shortT b = B at Q sb
  generalize shortT c = D at R sc
  rw [P.ld, valA_some, Q.ld, valA_some]
  refine join_c P.ty Q.ty (by omega) fun cj h10 f10 r10 => ?_
  have P := P.fr f10
  have Q := Q.fr f10
  have R := R.fr f10
  refine box_r rfl fun j hj => ?_
  have fj : Fr [] h10 (h10.set j (.live [.bool false, .nilsl] 46 true)) := (Fr.refl _ _).set' hj
  have gj : (h10.set j (.live [.bool false, .nilsl] 46 true)).get j = some (.live [.bool false, .nilsl] 46 true) := H.get_same ..
  generalize h10.set j (.live [.bool false, .nilsl] 46 true) = h11 at fj gj
  refine tyst_r gj rfl (r10.fr fj) (fun i => r10.alive i hj) fun gj rj => ?_
  have fj2 := fj.set' (o := .live cj 46 true) hj
  have J : TB _ j cj (joinT A B) := ⟨gj, rj⟩
  generalize h11.set j (.live cj 46 true) = h12 at fj2 J
  have P := P.fr fj2
  have Q := Q.fr fj2
  have R := R.fr fj2
  have lj := joinT_len A B
  have oj : (joinT A B).sh.length ≤ reachBytes := by omega
  have oA : A.sh.length ≤ reachBytes := by omega
  have oB : B.sh.length ≤ reachBytes := by omega
  have oD : D.sh.length ≤ reachBytes := by omega
  refine P.sub P oA oA fun h13 f13 => ?_
  have P := P.fr f13
  have Q := Q.fr f13
  have R := R.fr f13
  have J := J.fr f13
  rw [subT_refl]
  -- the last part
  have tail : ∀ h', Fr [] h13 h' → valA (ldA h' (some 2) (.ptr q 0)) h' fun t64 h => valA (ldA h (some 2) (.ptr p 0)) h fun t65 h => DP never 21 [t64, t65] h fun t66 h => boxA h [.bool false, .nilsl] 46 fun k8 h => memA (stA h 2 k8 t66) .undef fun _ h =>
      valA (faA 0 k8) h fun t67 h => valA (ldA h none t67) h fun t68 h => valA (faA 0 (.ptr j 0)) h fun t69 h => valA (ldA h none t69) h fun t70 h => valA (binOp .eql .bool t68 t70) h fun t71 h =>
      whenA t71 true (fun K => valA (faA 1 k8) h K) h fun t73 h => whenA t71 true (fun K => valA (ldA h none t73) h K) h fun t74 h => whenA t71 true (fun K => valA (faA 1 (.ptr j 0)) h K) h fun t75 h => whenA t71 true (fun K => valA (ldA h none t75) h K) h fun t76 h =>
      whenA t71 true (fun K => DP never 25 [t74, t76] h K) h fun t77 h => valA (pickA t71 t77 (.bool false)) h fun t78 h => whenA t78 true (fun K => DP never 26 [] h K) h fun t80 h => valA (pickA t78 t80 (.bool false)) h fun t81 h => yes t81 h := by
    intro h14 f14
    have P := P.fr f14
    have Q := Q.fr f14
    have J := J.fr f14
    rw [Q.ld, valA_some, P.ld, valA_some]
    refine join_c Q.ty P.ty (by omega) fun ck h15 f15 r15 => ?_
    rw [join_comm] at r15
    have J := J.fr f15
    refine box_r rfl fun k hk => ?_
    have fk : Fr [] h15 (h15.set k (.live [.bool false, .nilsl] 46 true)) := (Fr.refl _ _).set' hk
    have gk : (h15.set k (.live [.bool false, .nilsl] 46 true)).get k = some (.live [.bool false, .nilsl] 46 true) := H.get_same ..
    generalize h15.set k (.live [.bool false, .nilsl] 46 true) = h16 at fk gk
    refine tyst_r gk rfl (r15.fr fk) (fun i => r15.alive i hk) fun gk rk => ?_
    have J := J.fr (fk.set' (o := .live ck 46 true) hk)
    generalize h16.set k (.live ck 46 true) = h17 at gk rk J
    obtain ⟨vk, rfl, qk⟩ := rk
    obtain ⟨gj, vj, rfl, qj⟩ := J
    have x0 : h17.cell k 0 = some (.bool (joinT A B).imm) := by rw [cell_of gk]; rfl
    have x1 : h17.cell k 1 = some vk := by rw [cell_of gk]; rfl
    have y0 : h17.cell j 0 = some (.bool (joinT A B).imm) := by rw [cell_of gj]; rfl
    have y1 : h17.cell j 1 = some vj := by rw [cell_of gj]; rfl
    have al := fun K => alike_c (PK := never) qk qj oj K
    simp only [go_sem, reduceIte, Nat.reduceAdd, Nat.reduceSub, Nat.reduceMul, Nat.reducePow, Nat.reduceLT, Nat.reduceLeDiff, Nat.reduceEqDiff, Int.reduceAdd, Int.reduceSub, Int.reduceMul, Int.reduceNeg, Int.reducePow, Int.reduceLT, Int.reduceLE, Int.reduceEq, Int.reduceNe, Int.reduceToNat, Int.toNat_natCast, Nat.zero_add, Nat.add_zero, Nat.mul_one, Nat.one_mul, Bool.not_true, Bool.not_false, ne_eq, not_true_eq_false, not_false_eq_true, Bool.false_eq_true, x0, x1, y0, y1, al, lives5]
    rfl
  -- behind the first test
  have mid : ∀ h', Fr [] h13 h' → (valA (ldA h' (some 2) (.ptr p 0)) h' fun t50 h => valA (ldA h (some 2) (.ptr r 0)) h fun t51 h => DP never 23 [t50, t51] h fun t52 h =>
      whenA t52 true (fun K => valA (ldA h (some 2) (.ptr q 0)) h K) h fun t54 h => whenA t52 true (fun K => valA (ldA h (some 2) (.ptr r 0)) h K) h fun t55 h => whenA t52 true (fun K => DP never 23 [t54, t55] h K) h fun t56 h => valA (pickA t52 t56 (.bool false)) h fun t57 h =>
      whenA t57 true (fun K => valA (ldA h (some 2) (.ptr j 0)) h K) h fun t59 h => whenA t57 true (fun K => valA (ldA h (some 2) (.ptr r 0)) h K) h fun t60 h => whenA t57 true (fun K => DP never 23 [t59, t60] h K) h fun t61 h => whenA t57 true (fun K => valA (unOp .not t61) h K) h fun t62 h =>
      valA (pickA t57 t62 (.bool false)) h fun t63 h => condA t63 (yes (.bool false) h) (valA (ldA h (some 2) (.ptr q 0)) h fun t64 h => valA (ldA h (some 2) (.ptr p 0)) h fun t65 h => DP never 21 [t64, t65] h fun t66 h => boxA h [.bool false, .nilsl] 46 fun k8 h => memA (stA h 2 k8 t66) .undef fun _ h =>
      valA (faA 0 k8) h fun t67 h => valA (ldA h none t67) h fun t68 h => valA (faA 0 (.ptr j 0)) h fun t69 h => valA (ldA h none t69) h fun t70 h => valA (binOp .eql .bool t68 t70) h fun t71 h =>
      whenA t71 true (fun K => valA (faA 1 k8) h K) h fun t73 h => whenA t71 true (fun K => valA (ldA h none t73) h K) h fun t74 h => whenA t71 true (fun K => valA (faA 1 (.ptr j 0)) h K) h fun t75 h => whenA t71 true (fun K => valA (ldA h none t75) h K) h fun t76 h =>
      whenA t71 true (fun K => DP never 25 [t74, t76] h K) h fun t77 h => valA (pickA t71 t77 (.bool false)) h fun t78 h => whenA t78 true (fun K => DP never 26 [] h K) h fun t80 h => valA (pickA t78 t80 (.bool false)) h fun t81 h => yes t81 h)) := by
    intro h14 f14
    refine (P.fr f14).sub (R.fr f14) oA oD fun h15 f15 => ?_
    have f15 := f14.trans f15
    cases u1 : subT A D with
    | false =>
      simp only [whenA_ft, whenA_u, pickA_b, Bool.false_eq_true, if_false, valA_some, condA_f]
      exact tail _ f15
    | true =>
      simp only [whenA_tt]
      refine (Q.fr f15).sub (R.fr f15) oB oD fun h16 f16 => ?_
      have f16 := f15.trans f16
      cases u2 : subT B D with
      | false =>
        simp only [whenA_ft, whenA_u, pickA_b, if_true, Bool.false_eq_true, if_false, valA_some, condA_f]
        exact tail _ f16
      | true =>
        simp only [pickA_b, if_true, valA_some, whenA_tt]
        refine (J.fr f16).sub (R.fr f16) oj oD fun h17 f17 => ?_
        rw [join_least u1 u2]
        simp only [u_not, Bool.not_true, valA_some, pickA_b, if_true, condA_f]
        exact tail _ (f16.trans f17)
  have nxt : ∀ (Z : H → Prop) (h' : H), Fr [] h13 h' → (∀ h'', Fr [] h13 h'' → Z h'') → (valA (ldA h' (some 2) (.ptr p 0)) h' fun t39 h => valA (ldA h (some 2) (.ptr j 0)) h fun t40 h => DP never 23 [t39, t40] h fun t41 h => valA (unOp .not t41) h fun t42 h =>
      whenA t42 false (fun K => valA (ldA h (some 2) (.ptr q 0)) h K) h fun t45 h => whenA t42 false (fun K => valA (ldA h (some 2) (.ptr j 0)) h K) h fun t46 h => whenA t42 false (fun K => DP never 23 [t45, t46] h K) h fun t47 h => whenA t42 false (fun K => valA (unOp .not t47) h K) h fun t48 h =>
      valA (pickA t42 (.bool true) t48) h fun t49 h => condA t49 (yes (.bool false) h) (Z h)) := by
    intro Z h' f' hZ
    refine (P.fr f').sub (J.fr f') oA oj fun h14 f14 => ?_
    have f14 := f'.trans f14
    rw [sub_join_l, u_not, Bool.not_true, valA_some]
    simp only [whenA_ff]
    refine (Q.fr f14).sub (J.fr f14) oB oj fun h15 f15 => ?_
    rw [sub_join_r, u_not, Bool.not_true, valA_some]
    simp only [pickA_b, Bool.false_eq_true, if_false, valA_some, condA_f]
    exact hZ _ (f14.trans f15)
  rw [u_not, Bool.not_true, valA_some]
  simp only [whenA_ff]
  refine P.sub Q oA oB fun h14 f14 => ?_
  cases s1 : subT A B with
  | false =>
    simp only [whenA_ff, whenA_ft, whenA_u, pickA_b, Bool.false_eq_true, if_false, if_true, valA_some]
    exact nxt _ _ f14 mid
  | true =>
    simp only [whenA_ff, whenA_tt]
    refine (Q.fr f14).sub (R.fr f14) oB oD fun h15 f15 => ?_
    have f15 := f14.trans f15
    cases s2 : subT B D with
    | false =>
      simp only [whenA_ff, whenA_ft, whenA_u, pickA_b, Bool.false_eq_true, if_false, if_true, valA_some]
      exact nxt _ _ f15 mid
    | true =>
      simp only [pickA_b, if_true, valA_some, whenA_tt]
      refine (P.fr f15).sub (R.fr f15) oA oD fun h16 f16 => ?_
      have f16 := f15.trans f16
      rw [subT_trans s1 s2]
      simp only [u_not, Bool.not_true, whenA_ff, whenA_tt, pickA_b, Bool.false_eq_true, if_false, if_true, valA_some]
      exact nxt _ _ f16 mid
end
end Go.Proofs.YtdljelicbnjfjaaGreat.X
