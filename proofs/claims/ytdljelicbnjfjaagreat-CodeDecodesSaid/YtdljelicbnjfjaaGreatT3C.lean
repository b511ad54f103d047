/- What the law law3 needs: texts of one's own, put together; functions' contracts and plain facts. -/
import Derived.Test.YtdljelicbnjfjaaGreatT3B
set_option linter.unusedVariables false
set_option linter.unusedSimpArgs false
set_option maxRecDepth 20000
namespace Go.Proofs.YtdljelicbnjfjaaGreat.X
open Go Go.RowKit
section
variable {h : H} {K : AV → H → Prop}
theorem fld_r {b off : Nat} {v : AV} (hc : h.cell b off = some v) (hK : K v h) : valA (faA off (.ptr b 0)) h fun t h => valA (ldA h none t) h K := by
  rw [faA_p, valA_some, ldA_n, Nat.zero_add, hc]; exact hK
theorem fill1 {z v : AV} (h1 : v.leaf = true) (h2 : v.cells = [v]) : fillV [z] [(0, 1, v)] = some [v] := by
  simp [fillV, h2, leaves, h1, overlay]
theorem fill2 {z z' v w : AV} (h1 : v.leaf = true) (h2 : v.cells = [v]) (h3 : w.leaf = true) (h4 : w.cells = [w]) : fillV [z, z'] [(0, 1, v), (1, 1, w)] = some [v, w] := by
  simp [fillV, h2, h4, leaves, h1, h3, overlay]
theorem lit_r {e n : Nat} {cs : List AV} (hl : leaves cs = true) (hn : cs.length = n) (hK : ∀ m h', Fr [] h h' → Row h' (.sl m 0 n (.exact n)) n 1 cs → K (.sl m 0 n (.exact n)) h') : mkslA h e n (some cs) K := by
  refine ⟨hl, fun m hm => ?_⟩
  refine hK m _ ((Fr.refl _ _).set' hm) ⟨by omega, .inr ⟨m, 0, _, rfl, rfl, H.read_eq (H.get_same ..) (by omega) (by rw [List.drop_zero, List.take_of_length_le (by omega)])⟩⟩
theorem scan_r {α : Type} {esz ty : Nat} {zs : List AV} {lv : AV} {l : List α} {Rel : H → α → List AV → Prop} (hmono : ∀ {h h' : H} {x c}, Fr [] h h' → Rel h x c → Rel h' x c) (hleaf : ∀ {h : H} {x c}, Rel h x c → leaves c = true) (hz : zs.length = esz) (lz : leaves zs = true)
    (r : RowOf h esz (Rel h) lv l) (hl : l.length ≤ reachBytes) {P : α → Bool} {X J : H → Prop} {BODY : (List AV → H → Prop) → AV → AV → H → Prop}
    (hX : ∀ h2, Fr [] h h2 → l.any P = true → X h2) (hJ : ∀ h2, Fr [] h h2 → l.any P = false → J h2)
    (hB : ∀ (N : List AV → H → Prop) (i : Nat) x, x ∈ l → IntKind.i64.wrap ((i : Int) + 1) = ((i + 1 : Nat) : Int) → ∀ h1 d c, Fr [] h h1 → h1.get d = some (.live c ty true) → Rel h1 x c → c.length = esz →
      (∀ h2, Fr [] h1 h2 → P x = false → N [.int .i64 ((i + 1 : Nat) : Int)] h2) → (∀ h2, Fr [] h1 h2 → P x = true → X h2) → BODY N (.int .i64 i) (.ptr d 0) h1) :
    loopA (fun N l' h => argA l' 0 fun t51 => valA (binOp .lss .num t51 (.int .i64 l.length)) h fun t52 h => condA t52
      (valA (iaA esz lv t51) h fun t53 h => valA (ldA h (some esz) t53) h fun t54 h => boxA h zs ty fun d h => memA (stA h esz d t54) .undef fun _ h => BODY N t51 d h) (J h)) [.int .i64 0] h := by
  have hr : reachBytes ≤ 4611686018427387903 := by decide
  refine loop_r (l.length + 1) (fun k ls h2 => ∃ i : Nat, ls = [.int .i64 i] ∧ i ≤ l.length ∧ l.any P = (l.drop i).any P ∧ Fr [] h h2 ∧ k = l.length + 1 - i) ⟨0, rfl, by omega, rfl, Fr.refl _ _, rfl⟩ ?_
  rintro k ls h2 ⟨i, rfl, hi, ha, f, rfl⟩
  by_cases q : (i : Int) < l.length
  · have hi' : i < l.length := by omega
    obtain ⟨x, hx⟩ : ∃ x, l[i]? = some x := ⟨l[i], by simp [hi']⟩
    have hd : l.drop i = x :: l.drop (i + 1) := by
      rw [List.drop_eq_getElem_cons hi']; congr 1
      rw [List.getElem?_eq_getElem hi'] at hx; injection hx
    rw [hd, List.any_cons] at ha
    obtain ⟨b, o, c, e1, e2, e3, e4, e5⟩ := (r.mono f fun _ _ _ z => hmono f z).el hx
    have en : IntKind.i64.wrap ((i : Int) + 1) = ((i + 1 : Nat) : Int) := by rw [i64_id (by omega) (by omega)]; rfl
    simp only [argA_0, b_lss, valA_some, q, decide_true, condA_t, e1, ldA_read e4]
    refine box_r lz fun d hdd => ?_
    rw [copy_st e3 hz (hleaf e2), memA_some]
    have fd : Fr [] h2 (h2.set d (.live c ty true)) := (Fr.refl _ _).set' hdd
    refine hB _ i x (List.mem_of_getElem? hx) en _ d c (f.trans fd) (H.get_same ..) (hmono fd e2) e3 (fun h3 f3 hp => ?_) fun h3 f3 hp => ?_
    · rw [hp, Bool.false_or] at ha
      exact ⟨l.length + 1 - (i + 1), by omega, i + 1, rfl, by omega, ha, (f.trans fd).trans f3, rfl⟩
    · rw [hp, Bool.true_or] at ha
      exact hX h3 ((f.trans fd).trans f3) ha
  · have : l.drop i = [] := List.drop_eq_nil_of_le (by omega)
    rw [this] at ha
    simp only [argA_0, b_lss, valA_some, q, decide_false, condA_f]
    exact hJ h2 f ha
theorem scan1_r {α : Type} {lv : AV} {l : List α} {val : α → AV} (r : Row h lv l.length 1 (l.map val)) (hl : l.length ≤ reachBytes) {P : α → Bool} {X J : H → Prop} {BODY : (List AV → H → Prop) → AV → AV → H → Prop}
    (hX : ∀ h2, Fr [] h h2 → l.any P = true → X h2) (hJ : ∀ h2, Fr [] h h2 → l.any P = false → J h2)
    (hB : ∀ (N : List AV → H → Prop) (i : Nat) x, x ∈ l → IntKind.i64.wrap ((i : Int) + 1) = ((i + 1 : Nat) : Int) → ∀ h1, Fr [] h h1 →
      (∀ h2, Fr [] h1 h2 → P x = false → N [.int .i64 ((i + 1 : Nat) : Int)] h2) → (∀ h2, Fr [] h1 h2 → P x = true → X h2) → BODY N (.int .i64 i) (val x) h1) :
    loopA (fun N l' h => argA l' 0 fun t51 => valA (binOp .lss .num t51 (.int .i64 l.length)) h fun t52 h => condA t52
      (valA (iaA 1 lv t51) h fun t53 h => valA (ldA h none t53) h fun t54 h => BODY N t51 t54 h) (J h)) [.int .i64 0] h := by
  have hr : reachBytes ≤ 4611686018427387903 := by decide
  refine loop_r (l.length + 1) (fun k ls h2 => ∃ i : Nat, ls = [.int .i64 i] ∧ i ≤ l.length ∧ l.any P = (l.drop i).any P ∧ Fr [] h h2 ∧ k = l.length + 1 - i) ⟨0, rfl, by omega, rfl, Fr.refl _ _, rfl⟩ ?_
  rintro k ls h2 ⟨i, rfl, hi, ha, f, rfl⟩
  by_cases q : (i : Int) < l.length
  · have hi' : i < l.length := by omega
    obtain ⟨x, hx⟩ : ∃ x, l[i]? = some x := ⟨l[i], by simp [hi']⟩
    have hd : l.drop i = x :: l.drop (i + 1) := by
      rw [List.drop_eq_getElem_cons hi']; congr 1
      rw [List.getElem?_eq_getElem hi'] at hx; injection hx
    rw [hd, List.any_cons] at ha
    obtain ⟨b, o, e1, e2⟩ := (r.fr f).at (i := i) (x := val x) (by omega) q (by rw [Int.toNat_natCast, List.getElem?_map, hx]; rfl)
    have en : IntKind.i64.wrap ((i : Int) + 1) = ((i + 1 : Nat) : Int) := by rw [i64_id (by omega) (by omega)]; rfl
    simp only [argA_0, b_lss, valA_some, q, decide_true, condA_t, e1, ldA_n, e2]
    refine hB _ i x (List.mem_of_getElem? hx) en _ f (fun h3 f3 hp => ?_) fun h3 f3 hp => ?_
    · rw [hp, Bool.false_or] at ha
      exact ⟨l.length + 1 - (i + 1), by omega, i + 1, rfl, by omega, ha, f.trans f3, rfl⟩
    · rw [hp, Bool.true_or] at ha
      exact hX h3 (f.trans f3) ha
  · have : l.drop i = [] := List.drop_eq_nil_of_le (by omega)
    rw [this] at ha
    simp only [argA_0, b_lss, valA_some, q, decide_false, condA_f]
    exact hJ h2 f ha
theorem strs_row {v : AV} {l : List (List UInt8)} (r : RowOf h 1 stR v l) : Row h v l.length 1 (l.map AV.str) := by
  obtain ⟨css, h1, h2, h3, r⟩ := r
  have : css.flatten = l.map AV.str := by
    have e : css = l.map fun s => [AV.str s] := by
      apply List.ext_getElem?
      intro i
      by_cases hi : i < css.length
      · have hil : i < l.length := by omega
        have := h2 i l[i] css[i] (by simp [hil]) (by simp [hi])
        rw [List.getElem?_eq_getElem hi, List.getElem?_map, List.getElem?_eq_getElem hil, this]; rfl
      · rw [List.getElem?_eq_none (by omega), List.getElem?_eq_none (by simp; omega)]
    rw [e]
    clear e h1 h2 h3 r
    induction l with
    | nil => rfl
    | cons x l ih => simp [ih]
  rw [← this]; exact r
/-! ### In one chain of conditions -/
def OverC (F : Nat) : Prop := ∀ {h : H} {lv : AV} {vks : List (AV × Nat)}, Row h lv vks.length 1 (vks.map Prod.fst) → lensOk vks → vks.length ≤ reachBytes → ∀ (most : Int) {K : AV → H → Prop}, (∀ h', Fr [] h h' → K (.bool (overN most vks)) h') → C F [.int .i64 most, lv] h K
theorem over1_r {F : Nat} (hF : OverC F) {ty : Nat} {z v : AV} {n : Nat} (ho : v.leaf = true ∧ v.cells = [v]) (hl : lenA false v = some (.int .i64 n)) {most : Int} (hK : ∀ h', Fr [] h h' → K (.bool (decide (most < (n : Int)))) h') :
    mkslA h ty 1 (fillV [z] [(0, 1, v)]) fun t h => C F [.int .i64 most, t] h K := by
  rw [fill1 ho.1 ho.2]
  refine lit_r (by simp [leaves, ho.1]) rfl fun m h1 f1 r1 => ?_
  refine hF (vks := [(v, n)]) r1 (fun q hq => ?_) (show 1 ≤ reachBytes by decide) most fun h2 f2 => ?_
  · simp at hq; subst hq; exact ⟨ho.1, hl⟩
  · have := hK h2 (f1.trans f2)
    simpa [overN] using this
theorem over2_r {F : Nat} (hF : OverC F) {ty : Nat} {z z' v w : AV} {n k : Nat} (ho : v.leaf = true ∧ v.cells = [v]) (ho' : w.leaf = true ∧ w.cells = [w]) (hl : lenA false v = some (.int .i64 n)) (hl' : lenA false w = some (.int .i64 k)) {most : Int} (hK : ∀ h', Fr [] h h' → K (.bool (decide (most < (n : Int)) || decide (most < (k : Int)))) h') :
    mkslA h ty 2 (fillV [z, z'] [(0, 1, v), (1, 1, w)]) fun t h => C F [.int .i64 most, t] h K := by
  rw [fill2 ho.1 ho.2 ho'.1 ho'.2]
  refine lit_r (by simp [leaves, ho.1, ho'.1]) rfl fun m h1 f1 r1 => ?_
  refine hF (vks := [(v, n), (w, k)]) r1 (fun q hq => ?_) (show 2 ≤ reachBytes by decide) most fun h2 f2 => ?_
  · simp at hq; rcases hq with rfl | rfl
    · exact ⟨ho.1, hl⟩
    · exact ⟨ho'.1, hl'⟩
  · have := hK h2 (f1.trans f2)
    simpa [overN] using this
theorem chunkO {F : Nat} (hF : OverC F) {p : Bool} {b off ty n : Nat} {z v : AV} (hc : h.cell b off = some v) (ho : v.leaf = true ∧ v.cells = [v]) (hl : lenA false v = some (.int .i64 n)) {most : Int} (hK : ∀ h', Fr [] h h' → K (.bool (p || decide (most < (n : Int)))) h') :
    whenA (.bool p) false (fun K => valA (faA off (.ptr b 0)) h K) h fun t19 h =>
    whenA (.bool p) false (fun K => valA (ldA h none t19) h K) h fun t20 h =>
    whenA (.bool p) false (fun K => mkslA h ty 1 (fillV [z] [(0, 1, t20)]) K) h fun t21 h =>
    whenA (.bool p) false (fun K => C F [.int .i64 most, t21] h K) h fun t22 h =>
    valA (pickA (.bool p) (.bool true) t22) h fun t23 h => K t23 h := by
  cases p with
  | true =>
    simp only [whenA_tf, pickA_b, if_true, valA_some]
    exact hK h (Fr.refl _ _)
  | false =>
    simp only [whenA_ff, pickA_b, Bool.false_eq_true, if_false, valA_some, faA_p, ldA_n, Nat.zero_add, hc]
    exact over1_r hF ho hl fun h' f => hK h' f
theorem chunkO2 {F : Nat} (hF : OverC F) {p : Bool} {b off off' ty n k : Nat} {z z' v w : AV} (hc : h.cell b off = some v) (hc' : h.cell b off' = some w) (ho : v.leaf = true ∧ v.cells = [v]) (ho' : w.leaf = true ∧ w.cells = [w]) (hl : lenA false v = some (.int .i64 n)) (hl' : lenA false w = some (.int .i64 k)) {most : Int}
    (hK : ∀ h', Fr [] h h' → K (.bool (p || (decide (most < (n : Int)) || decide (most < (k : Int))))) h') :
    whenA (.bool p) false (fun K => valA (faA off (.ptr b 0)) h K) h fun t25 h =>
    whenA (.bool p) false (fun K => valA (ldA h none t25) h K) h fun t26 h =>
    whenA (.bool p) false (fun K => valA (faA off' (.ptr b 0)) h K) h fun t27 h =>
    whenA (.bool p) false (fun K => valA (ldA h none t27) h K) h fun t28 h =>
    whenA (.bool p) false (fun K => mkslA h ty 2 (fillV [z, z'] [(0, 1, t26), (1, 1, t28)]) K) h fun t29 h =>
    whenA (.bool p) false (fun K => C F [.int .i64 most, t29] h K) h fun t30 h =>
    valA (pickA (.bool p) (.bool true) t30) h fun t31 h => K t31 h := by
  cases p with
  | true =>
    simp only [whenA_tf, pickA_b, if_true, valA_some]
    exact hK h (Fr.refl _ _)
  | false =>
    simp only [whenA_ff, pickA_b, Bool.false_eq_true, if_false, valA_some, faA_p, ldA_n, Nat.zero_add, hc, hc']
    exact over2_r hF ho ho' hl hl' fun h' f => hK h' f
theorem chunkW {p : Bool} {b off : Nat} {v : AV} {l : List (List UInt8)} (hc : h.cell b off = some v) (r : Row h v l.length 1 (l.map AV.str)) (hl : l.length ≤ reachBytes) (hK : K (.bool (p || l.any fun s => decide (16384 < (s.length : Int)))) h) :
    whenA (.bool p) false (fun K => valA (faA off (.ptr b 0)) h K) h fun t39 h =>
    whenA (.bool p) false (fun K => valA (ldA h none t39) h K) h fun t40 h =>
    whenA (.bool p) false (fun K => C 136 [t40] h K) h fun t41 h =>
    valA (pickA (.bool p) (.bool true) t41) h fun t42 h => K t42 h := by
  cases p with
  | true =>
    simp only [whenA_tf, pickA_b, if_true, valA_some]
    exact hK
  | false =>
    simp only [whenA_ff, pickA_b, Bool.false_eq_true, if_false, valA_some, faA_p, ldA_n, Nat.zero_add, hc]
    exact wide_c r hl hK
theorem chunkW1 {p : Bool} {b off ty : Nat} {z : AV} {s : List UInt8} (hc : h.cell b off = some (.str s)) (hK : ∀ h', Fr [] h h' → K (.bool (p || decide (16384 < (s.length : Int)))) h') :
    whenA (.bool p) false (fun K => valA (faA off (.ptr b 0)) h K) h fun t72 h =>
    whenA (.bool p) false (fun K => valA (ldA h none t72) h K) h fun t73 h =>
    whenA (.bool p) false (fun K => mkslA h ty 1 (fillV [z] [(0, 1, t73)]) K) h fun t74 h =>
    whenA (.bool p) false (fun K => C 136 [t74] h K) h fun t75 h =>
    valA (pickA (.bool p) (.bool true) t75) h fun t76 h => K t76 h := by
  cases p with
  | true =>
    simp only [whenA_tf, pickA_b, if_true, valA_some]
    exact hK h (Fr.refl _ _)
  | false =>
    simp only [whenA_ff, pickA_b, Bool.false_eq_true, if_false, valA_some, faA_p, ldA_n, Nat.zero_add, hc]
    rw [fill1 (v := .str s) rfl rfl]
    refine lit_r rfl rfl fun m h1 f1 r1 => ?_
    refine wide_c (l := [s]) r1 (show 1 ≤ reachBytes by decide) ?_
    have := hK h1 f1
    simpa using this
theorem chunkR {p : Bool} {b off n : Nat} {v : AV} {sb : Bool} {most : Int} (hc : h.cell b off = some v) (hl : lenA sb v = some (.int .i64 n)) (hK : K (.bool (p || decide (most < (n : Int)))) h) :
    whenA (.bool p) false (fun K => valA (faA off (.ptr b 0)) h K) h fun t23 h =>
    whenA (.bool p) false (fun K => valA (ldA h none t23) h K) h fun t24 h =>
    whenA (.bool p) false (fun K => valA (lenA sb t24) h K) h fun t25 h =>
    whenA (.bool p) false (fun K => valA (binOp .gtr .num t25 (.int .i64 most)) h K) h fun t26 h =>
    valA (pickA (.bool p) (.bool true) t26) h fun t27 h => K t27 h := by
  cases p with
  | true =>
    simp only [whenA_tf, pickA_b, if_true, valA_some]
    exact hK
  | false =>
    simp only [whenA_ff, pickA_b, Bool.false_eq_true, if_false, valA_some, faA_p, ldA_n, Nat.zero_add, hc, hl, b_gtr]
    exact hK
end
end Go.Proofs.YtdljelicbnjfjaaGreat.X
set_option linter.unusedVariables false
set_option linter.unusedSimpArgs false
set_option maxRecDepth 20000
namespace Go.Proofs.YtdljelicbnjfjaaGreat.X
open Go Go.RowKit
def bigS (s : List UInt8) : Bool := decide (16384 < (s.length : Int))
def bigTy (t : Ty) : Bool := decide (512 < (t.sh.length : Int))
def bigShp (s : Shp) : Bool := decide (200 < (s.fs.length : Int)) || decide (16384 < (s.name.length : Int))
def bigIns (x : Ins) : Bool := (decide (1024 < (x.l.length : Int)) || decide (1024 < (x.m.length : Int))) || decide (200 < (x.live.length : Int))
def bigBlks : Int → List Blk → Bool × Int
  | n, [] => (false, n)
  | n, b :: l => if (decide (20000 < n + b.code.length) || decide (200 < (b.inn.length : Int))) || b.code.any bigIns then (true, n) else bigBlks (n + b.code.length) l
def bigFns : Int → List Fn → Bool
  | _, [] => false
  | n, f :: l => if (decide (200 < f.slots) || decide (200 < (f.params.length : Int))) || decide (2000 < (f.blocks.length : Int)) then true else (bigBlks n f.blocks).1 || bigFns (bigBlks n f.blocks).2 l
def bigTop (m : Img) : Bool := (((decide (1024 < (m.types.length : Int)) || decide (512 < (m.shapes.length : Int))) || decide (256 < (m.strs.length : Int))) || decide (256 < (m.names.length : Int))) || decide (1024 < (m.fns.length : Int))
def bigN (m : Img) : Bool := bigTop m || (m.strs.any bigS || (m.names.any bigS || (m.types.any bigTy || (m.shapes.any bigShp || bigFns 0 m.fns))))
section
variable {h : H}
theorem bigIns_c {x : Ins} {c : List AV} {d : Nat} (hd : h.get d = some (.live c 55 true)) (r : insR h x c) {K : AV → H → Prop} (hK : ∀ h', Fr [] h h' → K (.bool (bigIns x)) h') :
    valA (faA 6 (.ptr d 0)) h fun t127 h => valA (ldA h none t127) h fun t128 h => valA (faA 7 (.ptr d 0)) h fun t129 h => valA (ldA h none t129) h fun t130 h =>
    mkslA h 36 2 (fillV [.nilsl, .nilsl] [(0, 1, t128), (1, 1, t130)]) fun t131 h => C 137 [(.int .i64 1024), t131] h fun t132 h =>
    whenA t132 false (fun K => valA (faA 8 (.ptr d 0)) h K) h fun t134 h => whenA t132 false (fun K => valA (ldA h none t134) h K) h fun t135 h =>
    whenA t132 false (fun K => mkslA h 36 1 (fillV [.nilsl] [(0, 1, t135)]) K) h fun t136 h => whenA t132 false (fun K => C 137 [(.int .i64 200), t136] h K) h fun t137 h =>
    valA (pickA t132 (.bool true) t137) h fun t138 h => K t138 h := by
  obtain ⟨vl, vm, vv, rfl, q1, q2, q3⟩ := r
  have cd : ∀ o v, (insC x vl vm vv)[o]? = some v → h.cell d o = some v := fun o v e => by rw [cell_of hd]; exact e
  refine fld_r (cd 6 _ rfl) (fld_r (cd 7 _ rfl) ?_)
  refine over2_r over69_c q1.one q2.one q1.len q2.len fun h1 f1 => ?_
  have cd1 := cell_fr f1 (cd 8 _ rfl)
  refine chunkO over69_c cd1 q3.one (q3.fr f1).len fun h2 f2 => ?_
  exact hK h2 (f1.trans f2)
set_option maxHeartbeats 1000000 in
theorem big_c {m : Img} {c : List AV} (r : imgR h m c) (ok : m.ok) {K : AV → H → Prop} (hK : ∀ h', Fr [] h h' → K (.bool (bigN m)) h') : C 87 [.agg c] h K := by
  refine run87 ?_
  have hl := r.leaves
  have ec : (AV.agg c).cells = c := rfl
  obtain ⟨⟨k1, k1'⟩, ⟨k2, k2'⟩, ⟨k3, k3'⟩, ⟨k4, k4'⟩, ⟨k5, k5'⟩, _⟩ := ok
  unfold sh87
  rw [ec]
  refine box_r hl fun b hb => ?_
  have f : Fr [] h (h.set b (.live c 28 true)) := (Fr.refl _ _).set' hb
  have gb : (h.set b (.live c 28 true)).get b = some (.live c 28 true) := H.get_same ..
  have r1 := r.fr f
  generalize h.set b (.live c 28 true) = h1 at *
  obtain ⟨vt, vs, vx, vn, vf, rfl, r1, r2, r3, r4, r5⟩ := r1
  have cb : ∀ {h2}, Fr [] h1 h2 → ∀ o v, ([vt, vs, vx, vn, vf, AV.int .i64 m.main, .int .i64 m.exn] : List AV)[o]? = some v → h2.cell b o = some v := fun f2 o v e => by rw [cell_of (f2 b _ (by simp) gb)]; exact e
  refine fld_r (cb (Fr.refl _ _) 0 _ rfl) ?_
  refine over1_r over64_c r1.one r1.len fun h2 f2 => ?_
  refine chunkO over65_c (cb f2 1 _ rfl) r2.one r2.len fun h3 f3 => ?_
  have f13 := f2.trans f3
  refine chunkO2 over66_c (cb f13 2 _ rfl) (cb f13 3 _ rfl) r3.one r4.one r3.len r4.len fun h4 f4 => ?_
  have f14 := f13.trans f4
  refine chunkO over67_c (cb f14 4 _ rfl) r5.one r5.len fun h5 f5 => ?_
  have f15 := f14.trans f5
  refine chunkW (cb f15 2 _ rfl) ((strs_row r3).fr f15) k3 ?_
  refine chunkW (cb f15 3 _ rfl) ((strs_row r4).fr f15) k4 ?_
  have eT : (((((decide (1024 < (m.types.length : Int)) || decide (512 < (m.shapes.length : Int))) || (decide (256 < (m.strs.length : Int)) || decide (256 < (m.names.length : Int)))) || decide (1024 < (m.fns.length : Int))) || m.strs.any fun s => decide (16384 < (s.length : Int))) || m.names.any fun s => decide (16384 < (s.length : Int))) =
      (bigTop m || (m.strs.any bigS || m.names.any bigS)) := by
    unfold bigTop
    show ((_ || m.strs.any bigS) || m.names.any bigS) = _
    simp only [Bool.or_assoc]
  rw [eT]
  have eN : bigN m = ((bigTop m || (m.strs.any bigS || m.names.any bigS)) || (m.types.any bigTy || (m.shapes.any bigShp || bigFns 0 m.fns))) := by unfold bigN; simp only [Bool.or_assoc]
  rw [eN] at hK
  cases hT : (bigTop m || (m.strs.any bigS || m.names.any bigS)) with
  | true =>
    rw [hT, Bool.true_or] at hK
    rw [condA_t]
    exact hK h5 (f.trans f15)
  | false =>
    rw [hT, Bool.false_or] at hK
    rw [condA_f]
    clear hT eT eN
    refine join_r (fun (J : H → Prop) => ∀ h', Fr [] h1 h' → m.types.any bigTy = false → J h') ?_ fun J hJ => ?_
    · intro h6 f16 hty
      rw [hty, Bool.false_or] at hK
      refine join_r (fun (J : H → Prop) => ∀ h', Fr [] h1 h' → m.shapes.any bigShp = false → J h') ?_ fun J hJ => ?_
      · intro h7 f17 hsh
        rw [hsh, Bool.false_or] at hK
        refine join_r (fun (J : H → Prop) => ∀ h', Fr [] h1 h' → bigFns 0 m.fns = false → J h') (fun h' f' e => by have := hK h' (f.trans f'); rw [e] at this; exact this) fun J hJ => ?_
        refine fld_r (cb f17 4 _ rfl) ?_
        rw [r5.len, valA_some]
        refine loop_r (m.fns.length + 1) (fun k ls h2 => ∃ (i : Nat) (n : Int), ls = [.int .i64 (20000 - n), .int .i64 i] ∧ i ≤ m.fns.length ∧ 0 ≤ n ∧ n ≤ 20000 ∧ Fr [] h1 h2 ∧ bigFns 0 m.fns = bigFns n (m.fns.drop i) ∧ k = m.fns.length + 1 - i) ⟨0, 0, rfl, by omega, by omega, by omega, f17, rfl, rfl⟩ ?_
        rintro k ls h8 ⟨i, n, rfl, hi, n0, n1, f18, hbf, rfl⟩
        have hr : reachBytes ≤ 4611686018427387903 := by decide
        by_cases q : (i : Int) < m.fns.length
        · have hi' : i < m.fns.length := by omega
          obtain ⟨x, hx⟩ : ∃ x, m.fns[i]? = some x := ⟨m.fns[i], by simp [hi']⟩
          have hd : m.fns.drop i = x :: m.fns.drop (i + 1) := by
            rw [List.drop_eq_getElem_cons hi']; congr 1
            rw [List.getElem?_eq_getElem hi'] at hx; injection hx
          rw [hd, bigFns] at hbf
          obtain ⟨o1, o2, o3, o4, o5⟩ := k5' x (List.mem_of_getElem? hx)
          obtain ⟨bo, o, c, e1, e2, e3, e4, e5⟩ := (r5.mono f18 fun _ _ _ z => z.fr f18).el hx
          have en : IntKind.i64.wrap ((i : Int) + 1) = ((i + 1 : Nat) : Int) := by rw [i64_id (by omega) (by omega)]; rfl
          simp only [argA_0, argA_1, b_lss, valA_some, q, decide_true, condA_t, joinA, e1, ldA_read e4]
          refine box_r rfl fun d hdd => ?_
          rw [copy_st e3 rfl e2.leaves, memA_some]
          have fd : Fr [] h8 (h8.set d (.live c 39 true)) := (Fr.refl _ _).set' hdd
          have gd : (h8.set d (.live c 39 true)).get d = some (.live c 39 true) := H.get_same ..
          have f19 := f18.trans fd
          have e2' := e2.fr fd
          generalize h8.set d (.live c 39 true) = h9 at *
          obtain ⟨vp, vb, rfl, q1, q2⟩ := e2'
          have cd : ∀ {h3}, Fr [] h9 h3 → ∀ o w, ([vp, AV.int .i64 x.result, .int .i64 x.slots, vb] : List AV)[o]? = some w → h3.cell d o = some w := fun f3 o w e => by rw [cell_of (f3 d _ (by simp) gd)]; exact e
          refine fld_r (cd (Fr.refl _ _) 2 _ rfl) ?_
          rw [b_gtr, valA_some]
          refine chunkO over69_c (cd (Fr.refl _ _) 0 _ rfl) q1.one q1.len fun h10 f10 => ?_
          refine chunkO over70_c (cd f10 3 _ rfl) q2.one q2.len fun h11 f11 => ?_
          have f911 := f10.trans f11
          cases hp : ((decide (200 < x.slots) || decide (200 < (x.params.length : Int))) || decide (2000 < (x.blocks.length : Int))) with
          | true =>
            rw [hp, if_pos rfl] at hbf
            rw [hbf] at hK
            rw [condA_t]
            exact hK h11 (f.trans (f19.trans f911))
          | false =>
            rw [hp, if_neg (by decide)] at hbf
            rw [condA_f]
            refine fld_r (cd f911 3 _ rfl) ?_
            rw [q2.len, valA_some]
            refine loop_r (x.blocks.length + 1) (fun k ls h2 => ∃ (j : Nat) (n' : Int), ls = [.int .i64 (20000 - n'), .int .i64 j] ∧ j ≤ x.blocks.length ∧ 0 ≤ n' ∧ n' ≤ 20000 ∧ Fr [] h9 h2 ∧ bigBlks n x.blocks = bigBlks n' (x.blocks.drop j) ∧ k = x.blocks.length + 1 - j) ⟨0, n, rfl, by omega, n0, n1, f911, rfl, rfl⟩ ?_
            rintro k ls h12 ⟨j, n', rfl, hj, n0', n1', f912, hbb, rfl⟩
            by_cases q' : (j : Int) < x.blocks.length
            · have hj' : j < x.blocks.length := by omega
              obtain ⟨y, hy⟩ : ∃ y, x.blocks[j]? = some y := ⟨x.blocks[j], by simp [hj']⟩
              have hd2 : x.blocks.drop j = y :: x.blocks.drop (j + 1) := by
                rw [List.drop_eq_getElem_cons hj']; congr 1
                rw [List.getElem?_eq_getElem hj'] at hy; injection hy
              rw [hd2, bigBlks] at hbb
              obtain ⟨p1, p2, p3⟩ := o5 y (List.mem_of_getElem? hy)
              obtain ⟨bo2, oo2, c2, e1', e2', e3', e4', e5'⟩ := (q2.mono f912 fun _ _ _ z => z.fr f912).el hy
              have en2 : IntKind.i64.wrap ((j : Int) + 1) = ((j + 1 : Nat) : Int) := by rw [i64_id (by omega) (by omega)]; rfl
              simp only [argA_0, argA_1, b_lss, valA_some, q', decide_true, condA_t, e1', ldA_read e4']
              refine box_r rfl fun d2 hdd2 => ?_
              rw [copy_st e3' rfl e2'.leaves, memA_some]
              have fd2 : Fr [] h12 (h12.set d2 (.live c2 42 true)) := (Fr.refl _ _).set' hdd2
              have gd2 : (h12.set d2 (.live c2 42 true)).get d2 = some (.live c2 42 true) := H.get_same ..
              have f913 := f912.trans fd2
              have e2'' := e2'.fr fd2
              generalize h12.set d2 (.live c2 42 true) = h13 at *
              obtain ⟨vi, vc, rfl, q3, q4⟩ := e2''
              have cd2 : ∀ {h3}, Fr [] h13 h3 → ∀ o w, ([vi, vc] : List AV)[o]? = some w → h3.cell d2 o = some w := fun f3 o w e => by rw [cell_of (f3 d2 _ (by simp) gd2)]; exact e
              have es : IntKind.i64.wrap (20000 - n' - (y.code.length : Int)) = 20000 - (n' + y.code.length) := by rw [i64_id (by omega) (by omega)]; omega
              have el : decide ((20000 : Int) - (n' + y.code.length) < 0) = decide (20000 < n' + (y.code.length : Int)) := by
                rw [decide_eq_decide]; omega
              refine fld_r (cd2 (Fr.refl _ _) 1 _ rfl) ?_
              rw [q4.len, valA_some, b_sub, valA_some, es, b_lss, valA_some, el]
              refine chunkO over69_c (cd2 (Fr.refl _ _) 0 _ rfl) q3.one q3.len fun h14 f14' => ?_
              cases hp2 : (decide (20000 < n' + (y.code.length : Int)) || decide (200 < (y.inn.length : Int))) with
              | true =>
                rw [hp2, Bool.true_or, if_pos rfl] at hbb
                rw [hbb, Bool.true_or] at hbf
                rw [hbf] at hK
                rw [condA_t]
                exact hK h14 (f.trans (f19.trans (f913.trans f14')))
              | false =>
                rw [hp2, Bool.false_or] at hbb
                simp only [Bool.or_eq_false_iff, decide_eq_false_iff_not] at hp2
                rw [condA_f]
                refine fld_r (cd2 f14' 1 _ rfl) ?_
                rw [q4.len, valA_some]
                refine scan_r (esz := 9) (ty := 55) (zs := [.int .i64 0, .int .i64 0, .int .i64 0, .int .i64 0, .int .i64 0, .int .i64 0, .nilsl, .nilsl, .nilsl]) (lv := vc) (Rel := insR) (P := bigIns) (X := K (.bool true)) (fun f r => r.fr f) (fun r => r.leaves) rfl rfl (q4.mono f14' fun _ _ _ z => z.fr f14') p2
                  (fun h2 f2 e => ?_) (fun h2 f2 e => ?_) fun N i' z hz en3 h2 d3 c3 f2 gd3 rr hcl hN hX => ?_
                · rw [e, if_pos rfl] at hbb
                  rw [hbb, Bool.true_or] at hbf
                  rw [hbf] at hK
                  exact hK h2 (f.trans (f19.trans ((f913.trans f14').trans f2)))
                · rw [e, if_neg (by decide)] at hbb
                  rw [b_add, valA_some, en2]
                  exact ⟨x.blocks.length + 1 - (j + 1), by omega, j + 1, n' + y.code.length, rfl, by omega, by omega, by omega, (f913.trans f14').trans f2, hbb, rfl⟩
                · refine bigIns_c gd3 rr fun h3 f3 => ?_
                  cases hp3 : bigIns z with
                  | true => rw [condA_t]; exact hX h3 f3 hp3
                  | false => rw [condA_f, b_add, valA_some, en3]; exact hN h3 f3 hp3
            · have : x.blocks.drop j = [] := List.drop_eq_nil_of_le (by omega)
              rw [this, bigBlks] at hbb
              rw [hbb, Bool.false_or] at hbf
              simp only [argA_0, argA_1, b_lss, valA_some, q', decide_false, condA_f, b_add, en]
              exact ⟨m.fns.length + 1 - (i + 1), by omega, i + 1, n', rfl, by omega, n0', n1', f19.trans f912, hbf, rfl⟩
        · have : m.fns.drop i = [] := List.drop_eq_nil_of_le (by omega)
          rw [this, bigFns] at hbf
          simp only [argA_0, argA_1, b_lss, valA_some, q, decide_false, condA_f]
          exact hJ h8 f18 hbf
      · refine fld_r (cb f16 1 _ rfl) ?_
        rw [r2.len, valA_some]
        refine scan_r (esz := 3) (ty := 61) (zs := [.int .i64 0, .nilsl, .str []]) (lv := vs) (Rel := shR) (P := bigShp) (X := K (.bool true)) (fun f r => r.fr f) (fun r => r.leaves) rfl rfl (r2.mono f16 fun _ _ _ z => z.fr f16) k2 (fun h2 f2 e => by rw [e, Bool.true_or] at hK; exact hK h2 (f.trans (f16.trans f2))) (fun h2 f2 e => hJ h2 (f16.trans f2) e) fun N i x hx en h2 d c f2 gd rr hcl hN hX => ?_
        obtain ⟨v, rfl, q1⟩ := rr
        have cd : ∀ {h3}, Fr [] h2 h3 → ∀ o w, ([AV.int .i64 x.kind, v, .str x.name] : List AV)[o]? = some w → h3.cell d o = some w := fun f3 o w e => by rw [cell_of (f3 d _ (by simp) gd)]; exact e
        refine fld_r (cd (Fr.refl _ _) 1 _ rfl) ?_
        refine over1_r over69_c q1.one q1.len fun h3 f3 => ?_
        refine chunkW1 (cd f3 2 _ rfl) fun h4 f4 => ?_
        show condA (.bool (bigShp x)) _ _
        cases hp : bigShp x with
        | true => rw [condA_t]; exact hX h4 (f3.trans f4) hp
        | false => rw [condA_f, b_add, valA_some, en]; exact hN h4 (f3.trans f4) hp
    · refine fld_r (cb f15 0 _ rfl) ?_
      rw [r1.len, valA_some]
      refine scan_r (esz := 2) (ty := 46) (zs := [.bool false, .nilsl]) (lv := vt) (Rel := tyR) (P := bigTy) (X := K (.bool true)) (fun f r => r.fr f) (fun r => r.leaves) rfl rfl (r1.mono f15 fun _ _ _ z => z.fr f15) k1 (fun h2 f2 e => by rw [e, Bool.true_or] at hK; exact hK h2 (f.trans (f15.trans f2))) (fun h2 f2 e => hJ h2 (f15.trans f2) e) fun N i x hx en h2 d c f2 gd rr hcl hN hX => ?_
      obtain ⟨v, rfl, q1⟩ := rr
      have cd : ∀ o w, ([AV.bool x.imm, v] : List AV)[o]? = some w → h2.cell d o = some w := fun o w e => by rw [cell_of gd]; exact e
      refine fld_r (cd 1 _ rfl) ?_
      refine over1_r over69_c q1.one q1.len fun h3 f3 => ?_
      show condA (.bool (bigTy x)) _ _
      cases hp : bigTy x with
      | true => rw [condA_t]; exact hX h3 f3 hp
      | false => rw [condA_f, b_add, valA_some, en]; exact hN h3 f3 hp
end
end Go.Proofs.YtdljelicbnjfjaaGreat.X
set_option linter.unusedVariables false
set_option linter.unusedSimpArgs false
set_option maxRecDepth 20000
namespace Go.Proofs.YtdljelicbnjfjaaGreat.X
open Go Go.RowKit
section
variable {h : H}
set_option maxHeartbeats 1000000 in
theorem rbig_c {m : Img} {c : List AV} (r : imgR h m c) (ok : m.ok) {K : AV → H → Prop} (hK : ∀ h', Fr [] h h' → K (.bool (bigN m)) h') : C 61 [.agg c] h K := by
  refine run61 ?_
  have hl := r.leaves
  have ec : (AV.agg c).cells = c := rfl
  obtain ⟨⟨k1, k1'⟩, ⟨k2, k2'⟩, ⟨k3, k3'⟩, ⟨k4, k4'⟩, ⟨k5, k5'⟩, _⟩ := ok
  unfold sh61
  rw [ec]
  refine box_r hl fun b hb => ?_
  have f : Fr [] h (h.set b (.live c 28 true)) := (Fr.refl _ _).set' hb
  have gb : (h.set b (.live c 28 true)).get b = some (.live c 28 true) := H.get_same ..
  have r1 := r.fr f
  generalize h.set b (.live c 28 true) = h1 at *
  obtain ⟨vt, vs, vx, vn, vf, rfl, r1, r2, r3, r4, r5⟩ := r1
  have cb : ∀ {h2}, Fr [] h1 h2 → ∀ o v, ([vt, vs, vx, vn, vf, AV.int .i64 m.main, .int .i64 m.exn] : List AV)[o]? = some v → h2.cell b o = some v := fun f2 o v e => by rw [cell_of (f2 b _ (by simp) gb)]; exact e
  refine fld_r (cb (Fr.refl _ _) 0 _ rfl) ?_
  rw [r1.len, valA_some, b_gtr, valA_some]
  refine chunkR (cb (Fr.refl _ _) 1 _ rfl) r2.len (chunkR (cb (Fr.refl _ _) 2 _ rfl) r3.len (chunkR (cb (Fr.refl _ _) 3 _ rfl) r4.len (chunkR (cb (Fr.refl _ _) 4 _ rfl) r5.len ?_)))
  show condA (.bool (bigTop m)) _ _
  have eN : bigN m = (bigTop m || (m.types.any bigTy || (m.shapes.any bigShp || (m.strs.any bigS || (m.names.any bigS || bigFns 0 m.fns))))) := by
    unfold bigN
    cases bigTop m <;> cases m.types.any bigTy <;> cases m.shapes.any bigShp <;> cases m.strs.any bigS <;> cases m.names.any bigS <;> rfl
  rw [eN] at hK
  cases hT : bigTop m with
  | true =>
    rw [hT, Bool.true_or] at hK
    rw [condA_t]
    exact hK h1 f
  | false =>
    rw [hT, Bool.false_or] at hK
    rw [condA_f]
    clear hT
    refine join_r (fun (J : H → Prop) => ∀ h', Fr [] h1 h' → m.types.any bigTy = false → J h') ?_ fun J hJ => ?_
    · intro h6 f16 hty
      rw [hty, Bool.false_or] at hK
      refine join_r (fun (J : H → Prop) => ∀ h', Fr [] h1 h' → m.shapes.any bigShp = false → J h') ?_ fun J hJ => ?_
      · intro h7 f17 hsh
        rw [hsh, Bool.false_or] at hK
        refine join_r (fun (J : H → Prop) => ∀ h', Fr [] h1 h' → m.strs.any bigS = false → J h') ?_ fun J hJ => ?_
        · intro h71 f171 hst
          rw [hst, Bool.false_or] at hK
          refine join_r (fun (J : H → Prop) => ∀ h', Fr [] h1 h' → m.names.any bigS = false → J h') ?_ fun J hJ => ?_
          · intro h72 f17 hnm
            rw [hnm, Bool.false_or] at hK
            refine join_r (fun (J : H → Prop) => ∀ h', Fr [] h1 h' → bigFns 0 m.fns = false → J h') (fun h' f' e => by have := hK h' (f.trans f'); rw [e] at this; exact this) fun J hJ => ?_
            refine fld_r (cb f17 4 _ rfl) ?_
            rw [r5.len, valA_some]
            refine loop_r (m.fns.length + 1) (fun k ls h2 => ∃ (i : Nat) (n : Int), ls = [.int .i64 n, .int .i64 i] ∧ i ≤ m.fns.length ∧ 0 ≤ n ∧ n ≤ 20000 ∧ Fr [] h1 h2 ∧ bigFns 0 m.fns = bigFns n (m.fns.drop i) ∧ k = m.fns.length + 1 - i) ⟨0, 0, rfl, by omega, by omega, by omega, f17, rfl, rfl⟩ ?_
            rintro k ls h8 ⟨i, n, rfl, hi, n0, n1, f18, hbf, rfl⟩
            have hr : reachBytes ≤ 4611686018427387903 := by decide
            by_cases q : (i : Int) < m.fns.length
            · have hi' : i < m.fns.length := by omega
              obtain ⟨x, hx⟩ : ∃ x, m.fns[i]? = some x := ⟨m.fns[i], by simp [hi']⟩
              have hd : m.fns.drop i = x :: m.fns.drop (i + 1) := by
                rw [List.drop_eq_getElem_cons hi']; congr 1
                rw [List.getElem?_eq_getElem hi'] at hx; injection hx
              rw [hd, bigFns] at hbf
              obtain ⟨o1, o2, o3, o4, o5⟩ := k5' x (List.mem_of_getElem? hx)
              obtain ⟨bo, o, c, e1, e2, e3, e4, e5⟩ := (r5.mono f18 fun _ _ _ z => z.fr f18).el hx
              have en : IntKind.i64.wrap ((i : Int) + 1) = ((i + 1 : Nat) : Int) := by rw [i64_id (by omega) (by omega)]; rfl
              simp only [argA_0, argA_1, b_lss, valA_some, q, decide_true, condA_t, joinA, e1, ldA_read e4]
              refine box_r rfl fun d hdd => ?_
              rw [copy_st e3 rfl e2.leaves, memA_some]
              have fd : Fr [] h8 (h8.set d (.live c 39 true)) := (Fr.refl _ _).set' hdd
              have gd : (h8.set d (.live c 39 true)).get d = some (.live c 39 true) := H.get_same ..
              have f19 := f18.trans fd
              have e2' := e2.fr fd
              generalize h8.set d (.live c 39 true) = h9 at *
              obtain ⟨vp, vb, rfl, q1, q2⟩ := e2'
              have cd : ∀ {h3}, Fr [] h9 h3 → ∀ o w, ([vp, AV.int .i64 x.result, .int .i64 x.slots, vb] : List AV)[o]? = some w → h3.cell d o = some w := fun f3 o w e => by rw [cell_of (f3 d _ (by simp) gd)]; exact e
              refine fld_r (cd (Fr.refl _ _) 2 _ rfl) ?_
              rw [b_gtr, valA_some]
              refine chunkR (cd (Fr.refl _ _) 0 _ rfl) q1.len ?_
              refine chunkR (cd (Fr.refl _ _) 3 _ rfl) q2.len ?_
              have f911 := Fr.refl [] h9
              cases hp : ((decide (200 < x.slots) || decide (200 < (x.params.length : Int))) || decide (2000 < (x.blocks.length : Int))) with
              | true =>
                rw [hp, if_pos rfl] at hbf
                rw [hbf] at hK
                rw [condA_t]
                exact hK h9 (f.trans f19)
              | false =>
                rw [hp, if_neg (by decide)] at hbf
                rw [condA_f]
                refine fld_r (cd f911 3 _ rfl) ?_
                rw [q2.len, valA_some]
                refine loop_r (x.blocks.length + 1) (fun k ls h2 => ∃ (j : Nat) (n' : Int), ls = [.int .i64 n', .int .i64 j] ∧ j ≤ x.blocks.length ∧ 0 ≤ n' ∧ n' ≤ 20000 ∧ Fr [] h9 h2 ∧ bigBlks n x.blocks = bigBlks n' (x.blocks.drop j) ∧ k = x.blocks.length + 1 - j) ⟨0, n, rfl, by omega, n0, n1, f911, rfl, rfl⟩ ?_
                rintro k ls h12 ⟨j, n', rfl, hj, n0', n1', f912, hbb, rfl⟩
                by_cases q' : (j : Int) < x.blocks.length
                · have hj' : j < x.blocks.length := by omega
                  obtain ⟨y, hy⟩ : ∃ y, x.blocks[j]? = some y := ⟨x.blocks[j], by simp [hj']⟩
                  have hd2 : x.blocks.drop j = y :: x.blocks.drop (j + 1) := by
                    rw [List.drop_eq_getElem_cons hj']; congr 1
                    rw [List.getElem?_eq_getElem hj'] at hy; injection hy
                  rw [hd2, bigBlks] at hbb
                  obtain ⟨p1, p2, p3⟩ := o5 y (List.mem_of_getElem? hy)
                  obtain ⟨bo2, oo2, c2, e1', e2', e3', e4', e5'⟩ := (q2.mono f912 fun _ _ _ z => z.fr f912).el hy
                  have en2 : IntKind.i64.wrap ((j : Int) + 1) = ((j + 1 : Nat) : Int) := by rw [i64_id (by omega) (by omega)]; rfl
                  simp only [argA_0, argA_1, b_lss, valA_some, q', decide_true, condA_t, e1', ldA_read e4']
                  refine box_r rfl fun d2 hdd2 => ?_
                  rw [copy_st e3' rfl e2'.leaves, memA_some]
                  have fd2 : Fr [] h12 (h12.set d2 (.live c2 42 true)) := (Fr.refl _ _).set' hdd2
                  have gd2 : (h12.set d2 (.live c2 42 true)).get d2 = some (.live c2 42 true) := H.get_same ..
                  have f913 := f912.trans fd2
                  have e2'' := e2'.fr fd2
                  generalize h12.set d2 (.live c2 42 true) = h13 at *
                  obtain ⟨vi, vc, rfl, q3, q4⟩ := e2''
                  have cd2 : ∀ {h3}, Fr [] h13 h3 → ∀ o w, ([vi, vc] : List AV)[o]? = some w → h3.cell d2 o = some w := fun f3 o w e => by rw [cell_of (f3 d2 _ (by simp) gd2)]; exact e
                  have es : IntKind.i64.wrap (n' + (y.code.length : Int)) = n' + y.code.length := i64_id (by omega) (by omega)
                  refine fld_r (cd2 (Fr.refl _ _) 1 _ rfl) ?_
                  rw [q4.len, valA_some, b_add, valA_some, es, b_gtr, valA_some]
                  refine chunkR (cd2 (Fr.refl _ _) 0 _ rfl) q3.len ?_
                  have f14' := Fr.refl [] h13
                  cases hp2 : (decide (20000 < n' + (y.code.length : Int)) || decide (200 < (y.inn.length : Int))) with
                  | true =>
                    rw [hp2, Bool.true_or, if_pos rfl] at hbb
                    rw [hbb, Bool.true_or] at hbf
                    rw [hbf] at hK
                    rw [condA_t]
                    exact hK h13 (f.trans (f19.trans f913))
                  | false =>
                    rw [hp2, Bool.false_or] at hbb
                    simp only [Bool.or_eq_false_iff, decide_eq_false_iff_not] at hp2
                    rw [condA_f]
                    refine fld_r (cd2 f14' 1 _ rfl) ?_
                    rw [q4.len, valA_some]
                    refine scan_r (esz := 9) (ty := 55) (zs := [.int .i64 0, .int .i64 0, .int .i64 0, .int .i64 0, .int .i64 0, .int .i64 0, .nilsl, .nilsl, .nilsl]) (lv := vc) (Rel := insR) (P := bigIns) (X := K (.bool true)) (fun f r => r.fr f) (fun r => r.leaves) rfl rfl (q4.mono f14' fun _ _ _ z => z.fr f14') p2
                      (fun h2 f2 e => ?_) (fun h2 f2 e => ?_) fun N i' z hz en3 h2 d3 c3 f2 gd3 rr hcl hN hX => ?_
                    · rw [e, if_pos rfl] at hbb
                      rw [hbb, Bool.true_or] at hbf
                      rw [hbf] at hK
                      exact hK h2 (f.trans (f19.trans ((f913.trans f14').trans f2)))
                    · rw [e, if_neg (by decide)] at hbb
                      rw [b_add, valA_some, en2]
                      exact ⟨x.blocks.length + 1 - (j + 1), by omega, j + 1, n' + y.code.length, rfl, by omega, by omega, by omega, (f913.trans f14').trans f2, hbb, rfl⟩
                    · obtain ⟨vl, vm, vv, rfl, t1, t2, t3⟩ := rr
                      have cd3 : ∀ o w, (insC z vl vm vv)[o]? = some w → h2.cell d3 o = some w := fun o w e => by rw [cell_of gd3]; exact e
                      refine fld_r (cd3 6 _ rfl) ?_
                      rw [t1.len, valA_some, b_gtr, valA_some]
                      refine chunkR (cd3 7 _ rfl) t2.len (chunkR (cd3 8 _ rfl) t3.len ?_)
                      have f3 := Fr.refl [] h2
                      show condA (.bool (bigIns z)) _ _
                      cases hp3 : bigIns z with
                      | true => rw [condA_t]; exact hX h2 f3 hp3
                      | false => rw [condA_f, b_add, valA_some, en3]; exact hN h2 f3 hp3
                · have : x.blocks.drop j = [] := List.drop_eq_nil_of_le (by omega)
                  rw [this, bigBlks] at hbb
                  rw [hbb, Bool.false_or] at hbf
                  simp only [argA_0, argA_1, b_lss, valA_some, q', decide_false, condA_f, b_add, en]
                  exact ⟨m.fns.length + 1 - (i + 1), by omega, i + 1, n', rfl, by omega, n0', n1', f19.trans f912, hbf, rfl⟩
            · have : m.fns.drop i = [] := List.drop_eq_nil_of_le (by omega)
              rw [this, bigFns] at hbf
              simp only [argA_0, argA_1, b_lss, valA_some, q, decide_false, condA_f]
              exact hJ h8 f18 hbf
          · refine fld_r (cb f171 3 _ rfl) ?_
            rw [r4.len, valA_some]
            refine scan1_r (P := bigS) (X := K (.bool true)) ((strs_row r4).fr f171) k4 (fun h2 f2 e => by rw [e, Bool.true_or] at hK; exact hK h2 (f.trans (f171.trans f2))) (fun h2 f2 e => hJ h2 (f171.trans f2) e) fun N i x hx en h2 f2 hN hX => ?_
            rw [show lenA true (AV.str x) = some (.int .i64 x.length) from rfl, valA_some, b_gtr, valA_some]
            show condA (.bool (bigS x)) _ _
            cases hp : bigS x with
            | true => rw [condA_t]; exact hX h2 (Fr.refl _ _) hp
            | false => rw [condA_f, b_add, valA_some, en]; exact hN h2 (Fr.refl _ _) hp
        · refine fld_r (cb f17 2 _ rfl) ?_
          rw [r3.len, valA_some]
          refine scan1_r (P := bigS) (X := K (.bool true)) ((strs_row r3).fr f17) k3 (fun h2 f2 e => by rw [e, Bool.true_or] at hK; exact hK h2 (f.trans (f17.trans f2))) (fun h2 f2 e => hJ h2 (f17.trans f2) e) fun N i x hx en h2 f2 hN hX => ?_
          rw [show lenA true (AV.str x) = some (.int .i64 x.length) from rfl, valA_some, b_gtr, valA_some]
          show condA (.bool (bigS x)) _ _
          cases hp : bigS x with
          | true => rw [condA_t]; exact hX h2 (Fr.refl _ _) hp
          | false => rw [condA_f, b_add, valA_some, en]; exact hN h2 (Fr.refl _ _) hp
      · refine fld_r (cb f16 1 _ rfl) ?_
        rw [r2.len, valA_some]
        refine scan_r (esz := 3) (ty := 61) (zs := [.int .i64 0, .nilsl, .str []]) (lv := vs) (Rel := shR) (P := bigShp) (X := K (.bool true)) (fun f r => r.fr f) (fun r => r.leaves) rfl rfl (r2.mono f16 fun _ _ _ z => z.fr f16) k2 (fun h2 f2 e => by rw [e, Bool.true_or] at hK; exact hK h2 (f.trans (f16.trans f2))) (fun h2 f2 e => hJ h2 (f16.trans f2) e) fun N i x hx en h2 d c f2 gd rr hcl hN hX => ?_
        obtain ⟨v, rfl, q1⟩ := rr
        have cd : ∀ o w, ([AV.int .i64 x.kind, v, .str x.name] : List AV)[o]? = some w → h2.cell d o = some w := fun o w e => by rw [cell_of gd]; exact e
        refine fld_r (cd 1 _ rfl) ?_
        rw [q1.len, valA_some, b_gtr, valA_some]
        refine chunkR (cd 2 _ rfl) (n := x.name.length) rfl ?_
        show condA (.bool (bigShp x)) _ _
        cases hp : bigShp x with
        | true => rw [condA_t]; exact hX h2 (Fr.refl _ _) hp
        | false => rw [condA_f, b_add, valA_some, en]; exact hN h2 (Fr.refl _ _) hp
    · refine fld_r (cb (Fr.refl _ _) 0 _ rfl) ?_
      rw [r1.len, valA_some]
      refine scan_r (esz := 2) (ty := 46) (zs := [.bool false, .nilsl]) (lv := vt) (Rel := tyR) (P := bigTy) (X := K (.bool true)) (fun f r => r.fr f) (fun r => r.leaves) rfl rfl r1 k1 (fun h2 f2 e => by rw [e, Bool.true_or] at hK; exact hK h2 (f.trans f2)) (fun h2 f2 e => hJ h2 f2 e) fun N i x hx en h2 d c f2 gd rr hcl hN hX => ?_
      obtain ⟨v, rfl, q1⟩ := rr
      have cd : ∀ o w, ([AV.bool x.imm, v] : List AV)[o]? = some w → h2.cell d o = some w := fun o w e => by rw [cell_of gd]; exact e
      refine fld_r (cd 1 _ rfl) ?_
      rw [q1.len, valA_some, b_gtr, valA_some]
      show condA (.bool (bigTy x)) _ _
      cases hp : bigTy x with
      | true => rw [condA_t]; exact hX h2 (Fr.refl _ _) hp
      | false => rw [condA_f, b_add, valA_some, en]; exact hN h2 (Fr.refl _ _) hp
end
end Go.Proofs.YtdljelicbnjfjaaGreat.X
set_option linter.unusedVariables false
set_option linter.unusedSimpArgs false
set_option maxRecDepth 20000
namespace Go.Proofs.YtdljelicbnjfjaaGreat.X
open Go Go.RowKit
def notPlain (x : Ins) : Bool := !plainN x
def badBlk (b : Blk) : Bool := b.code.any notPlain
def badFn (f : Fn) : Bool := f.blocks.any badBlk
def checkN (m : Img) : Int := if bigN m then 2 else if m.fns.any badFn then 1 else 0
section
variable {h : H}
theorem rcheck_c {m : Img} {c : List AV} (r : imgR h m c) (ok : m.ok) {K : AV → H → Prop} (hK : ∀ h', Fr [] h h' → K (.int .i64 (checkN m)) h') : C 19 [.agg c] h K := by
  refine run19 ?_
  have hl := r.leaves
  have ec : (AV.agg c).cells = c := rfl
  obtain ⟨vt, vs, vx, vn, vf, hcs, _⟩ := id r
  have hcl : c.length = 7 := by rw [hcs]; rfl
  unfold sh19
  rw [ec]
  refine box_r hl fun b hb => ?_
  have f : Fr [] h (h.set b (.live c 28 true)) := (Fr.refl _ _).set' hb
  have gb : (h.set b (.live c 28 true)).get b = some (.live c 28 true) := H.get_same ..
  have r1 := r.fr f
  have rd : (h.set b (.live c 28 true)).read b 0 7 = some c := H.read_eq gb (by omega) (by rw [List.drop_zero, List.take_of_length_le (by omega)])
  generalize h.set b (.live c 28 true) = h1 at *
  rw [ldA_read rd, valA_some]
  refine rbig_c r1 ok fun h2 f2 => ?_
  have ff := f.trans f2
  cases hb : bigN m with
  | true =>
    have e : checkN m = 2 := by unfold checkN; rw [hb]; rfl
    rw [e] at hK
    rw [condA_t]
    exact hK h2 ff
  | false =>
    have e : checkN m = if m.fns.any badFn then 1 else 0 := by unfold checkN; rw [hb]; rfl
    rw [e] at hK
    rw [condA_f]
    obtain ⟨⟨k1, k1'⟩, ⟨k2, k2'⟩, ⟨k3, k3'⟩, ⟨k4, k4'⟩, ⟨k5, k5'⟩, _⟩ := ok
    have r2 := r1.fr f2
    have gb2 := f2 b _ (by simp) gb
    obtain ⟨vt, vs, vx, vn, vf, rfl, _, _, _, _, r5⟩ := r2
    refine join_r (fun (J : H → Prop) => ∀ h', Fr [] h2 h' → m.fns.any badFn = false → J h') (fun h' f' e => by have := hK h' (ff.trans f'); rw [e] at this; exact this) fun J hJ => ?_
    refine fld_r (v := vf) (by rw [cell_of gb2]; rfl) ?_
    rw [r5.len, valA_some]
    simp only [joinA]
    refine scan_r (esz := 4) (ty := 39) (zs := [.nilsl, .int .i64 0, .int .i64 0, .nilsl]) (lv := vf) (Rel := fnR) (P := badFn) (X := K (.int .i64 1)) (fun f r => r.fr f) (fun r => r.leaves) rfl rfl r5 k5 (fun h3 f3 e => by have := hK h3 (ff.trans f3); rw [e] at this; exact this) (fun h3 f3 e => hJ h3 f3 e) fun N i x hx en h3 d c f3 gd rr hcl hN hX => ?_
    obtain ⟨o1, o2, o3, o4, o5⟩ := k5' x hx
    obtain ⟨vp, vb, rfl, q1, q2⟩ := rr
    refine fld_r (v := vb) (by rw [cell_of gd]; rfl) ?_
    rw [q2.len, valA_some]
    refine scan_r (esz := 2) (ty := 42) (zs := [.nilsl, .nilsl]) (lv := vb) (Rel := blkR) (P := badBlk) (X := K (.int .i64 1)) (fun f r => r.fr f) (fun r => r.leaves) rfl rfl q2 o4 (fun h4 f4 e => hX h4 f4 e) (fun h4 f4 e => by rw [b_add, valA_some, en]; exact hN h4 f4 e) fun N' j y hy en' h4 d' c' f4 gd' rr' hcl' hN' hX' => ?_
    obtain ⟨p1, p2, p3⟩ := o5 y hy
    obtain ⟨vi, vc, rfl, q3, q4⟩ := rr'
    refine fld_r (v := vc) (by rw [cell_of gd']; rfl) ?_
    rw [q4.len, valA_some]
    refine scan_r (esz := 9) (ty := 55) (zs := [.int .i64 0, .int .i64 0, .int .i64 0, .int .i64 0, .int .i64 0, .int .i64 0, .nilsl, .nilsl, .nilsl]) (lv := vc) (Rel := insR) (P := notPlain) (X := K (.int .i64 1)) (fun f r => r.fr f) (fun r => r.leaves) rfl rfl q4 p2 (fun h5 f5 e => hX' h5 f5 e) (fun h5 f5 e => by rw [b_add, valA_some, en']; exact hN' h5 f5 e) fun N'' k z hz en'' h5 d'' c'' f5 gd'' rr'' hcl'' hN'' hX'' => ?_
    have rd2 : h5.read d'' 0 9 = some c'' := H.read_eq gd'' (by omega) (by rw [List.drop_zero, List.take_of_length_le (by omega)])
    rw [ldA_read rd2, valA_some]
    refine rplain_c rr'' fun h6 f6 => ?_
    rw [u_not, valA_some]
    show condA (.bool (notPlain z)) _ _
    cases hp : notPlain z with
    | true => rw [condA_t]; exact hX'' h6 f6 hp
    | false => rw [condA_f, b_add, valA_some, en'']; exact hN'' h6 f6 hp
theorem check38_c {x : Ins} {c : List AV} (r : insR h x c) {K : AV → H → Prop} (hK : ∀ h', Fr [] h h' → K (.bool (notPlain x)) h') : C 89 [.agg c] h K := by
  refine run89 ?_
  have hl := r.leaves
  have ec : (AV.agg c).cells = c := rfl
  obtain ⟨vl, vm, vv, hcs, _⟩ := id r
  have hcl : c.length = 9 := by rw [hcs]; rfl
  unfold sh89
  rw [ec]
  refine box_r hl fun b hb => ?_
  have f : Fr [] h (h.set b (.live c 55 true)) := (Fr.refl _ _).set' hb
  have rd : (h.set b (.live c 55 true)).read b 0 9 = some c := H.read_eq (H.get_same ..) (by omega) (by rw [List.drop_zero, List.take_of_length_le (by omega)])
  rw [ldA_read rd, valA_some]
  refine plain_c (r.fr f) fun h2 f2 => ?_
  rw [u_not, valA_some]
  exact hK h2 (f.trans f2)
theorem idx71_c {lv : AV} {l : List Ins} (r : RowOf h 9 (insR h) lv l) (hl : l.length ≤ reachBytes) {K : AV → H → Prop} (hK : ∀ h' (n : Int), Fr [] h h' → (0 ≤ n ↔ l.any notPlain = true) → K (.int .i64 n) h') : C 139 [lv, .fn 89 [] []] h K := by
  refine run139 ?_
  have hr : reachBytes ≤ 4611686018427387903 := by decide
  simp only [sh139, go_sem, reduceIte, Nat.reduceAdd, Nat.reduceSub, Nat.reduceMul, Nat.reducePow, Nat.reduceLT, Nat.reduceLeDiff, Nat.reduceEqDiff, Int.reduceAdd, Int.reduceSub, Int.reduceMul, Int.reduceNeg, Int.reducePow, Int.reduceLT, Int.reduceLE, Int.reduceEq, Int.reduceNe, Int.reduceToNat, Int.toNat_natCast, Nat.zero_add, Nat.add_zero, Nat.mul_one, Nat.one_mul, Bool.not_true, Bool.not_false, ne_eq, not_true_eq_false, not_false_eq_true, Bool.false_eq_true, r.len]
  refine join_r (fun (J : H → Prop) => ∀ h', Fr [] h h' → l.any notPlain = false → J h') (fun h' f' e => hK h' _ f' (by rw [e]; simp)) fun J hJ => ?_
  refine loop_r (l.length + 1) (fun k ls h2 => ∃ i : Nat, ls = [.int .i64 i] ∧ i ≤ l.length ∧ l.any notPlain = (l.drop i).any notPlain ∧ Fr [] h h2 ∧ k = l.length + 1 - i) ⟨0, rfl, by omega, rfl, Fr.refl _ _, rfl⟩ ?_
  rintro k ls h2 ⟨i, rfl, hi, ha, f, rfl⟩
  by_cases q : (i : Int) < l.length
  · have hi' : i < l.length := by omega
    obtain ⟨x, hx⟩ : ∃ x, l[i]? = some x := ⟨l[i], by simp [hi']⟩
    have hd : l.drop i = x :: l.drop (i + 1) := by
      rw [List.drop_eq_getElem_cons hi']; congr 1
      rw [List.getElem?_eq_getElem hi'] at hx; injection hx
    rw [hd, List.any_cons] at ha
    obtain ⟨b, o, c, e1, e2, e3, e4, e5⟩ := (r.mono f fun _ _ _ z => z.fr f).el hx
    have en : IntKind.i64.wrap ((i : Int) + 1) = ((i + 1 : Nat) : Int) := by rw [i64_id (by omega) (by omega)]; rfl
    simp only [argA_0, b_lss, valA_some, q, decide_true, condA_t, e1, ldA_read e4, callvA_f, List.cons_append, List.nil_append, List.append_nil]
    refine check38_c e2 fun h3 f3 => ?_
    cases hp : notPlain x with
    | true =>
      rw [hp, Bool.true_or] at ha
      rw [condA_t]
      exact hK h3 i (f.trans f3) (by rw [ha]; simp)
    | false =>
      rw [hp, Bool.false_or] at ha
      rw [condA_f]
      simp only [go_sem, reduceIte, Nat.reduceAdd, Nat.reduceSub, Nat.reduceMul, Nat.reducePow, Nat.reduceLT, Nat.reduceLeDiff, Nat.reduceEqDiff, Int.reduceAdd, Int.reduceSub, Int.reduceMul, Int.reduceNeg, Int.reducePow, Int.reduceLT, Int.reduceLE, Int.reduceEq, Int.reduceNe, Int.reduceToNat, Int.toNat_natCast, Nat.zero_add, Nat.add_zero, Nat.mul_one, Nat.one_mul, Bool.not_true, Bool.not_false, ne_eq, not_true_eq_false, not_false_eq_true, Bool.false_eq_true, en]
      exact ⟨l.length + 1 - (i + 1), by omega, i + 1, rfl, by omega, ha, f.trans f3, rfl⟩
  · have : l.drop i = [] := List.drop_eq_nil_of_le (by omega)
    rw [this] at ha
    simp only [go_sem, reduceIte, Nat.reduceAdd, Nat.reduceSub, Nat.reduceMul, Nat.reducePow, Nat.reduceLT, Nat.reduceLeDiff, Nat.reduceEqDiff, Int.reduceAdd, Int.reduceSub, Int.reduceMul, Int.reduceNeg, Int.reducePow, Int.reduceLT, Int.reduceLE, Int.reduceEq, Int.reduceNe, Int.reduceToNat, Int.toNat_natCast, Nat.zero_add, Nat.add_zero, Nat.mul_one, Nat.one_mul, Bool.not_true, Bool.not_false, ne_eq, not_true_eq_false, not_false_eq_true, Bool.false_eq_true, q]
    exact hJ h2 f ha
theorem contains37_c {lv : AV} {l : List Ins} (r : RowOf h 9 (insR h) lv l) (hl : l.length ≤ reachBytes) {K : AV → H → Prop} (hK : ∀ h', Fr [] h h' → K (.bool (l.any notPlain)) h') : C 88 [lv, .fn 89 [] []] h K := by
  refine run88 ?_
  unfold sh88
  refine idx71_c r hl fun h' n f' hn => ?_
  have hK := hK h' f'
  cases ha : l.any notPlain with
  | true =>
    rw [ha] at hK
    have : 0 ≤ n := hn.2 ha
    simp only [go_sem, reduceIte, Nat.reduceAdd, Nat.reduceSub, Nat.reduceMul, Nat.reducePow, Nat.reduceLT, Nat.reduceLeDiff, Nat.reduceEqDiff, Int.reduceAdd, Int.reduceSub, Int.reduceMul, Int.reduceNeg, Int.reducePow, Int.reduceLT, Int.reduceLE, Int.reduceEq, Int.reduceNe, Int.reduceToNat, Int.toNat_natCast, Nat.zero_add, Nat.add_zero, Nat.mul_one, Nat.one_mul, Bool.not_true, Bool.not_false, ne_eq, not_true_eq_false, not_false_eq_true, Bool.false_eq_true, this]; exact hK
  | false =>
    rw [ha] at hK
    have : ¬ 0 ≤ n := fun q => by rw [hn.1 q] at ha; cases ha
    simp only [go_sem, reduceIte, Nat.reduceAdd, Nat.reduceSub, Nat.reduceMul, Nat.reducePow, Nat.reduceLT, Nat.reduceLeDiff, Nat.reduceEqDiff, Int.reduceAdd, Int.reduceSub, Int.reduceMul, Int.reduceNeg, Int.reducePow, Int.reduceLT, Int.reduceLE, Int.reduceEq, Int.reduceNe, Int.reduceToNat, Int.toNat_natCast, Nat.zero_add, Nat.add_zero, Nat.mul_one, Nat.one_mul, Bool.not_true, Bool.not_false, ne_eq, not_true_eq_false, not_false_eq_true, Bool.false_eq_true, this]; exact hK
theorem check_c {m : Img} {c : List AV} (r : imgR h m c) (ok : m.ok) {K : AV → H → Prop} (hK : ∀ h', Fr [] h h' → K (.int .i64 (checkN m)) h') : C 43 [.agg c] h K := by
  refine run43 ?_
  have hl := r.leaves
  have ec : (AV.agg c).cells = c := rfl
  obtain ⟨vt, vs, vx, vn, vf, hcs, _⟩ := id r
  have hcl : c.length = 7 := by rw [hcs]; rfl
  unfold sh43
  rw [ec]
  refine box_r hl fun b hb => ?_
  have f : Fr [] h (h.set b (.live c 28 true)) := (Fr.refl _ _).set' hb
  have gb : (h.set b (.live c 28 true)).get b = some (.live c 28 true) := H.get_same ..
  have r1 := r.fr f
  have rd : (h.set b (.live c 28 true)).read b 0 7 = some c := H.read_eq gb (by omega) (by rw [List.drop_zero, List.take_of_length_le (by omega)])
  generalize h.set b (.live c 28 true) = h1 at *
  rw [ldA_read rd, valA_some]
  refine big_c r1 ok fun h2 f2 => ?_
  have ff := f.trans f2
  cases hb : bigN m with
  | true =>
    have e : checkN m = 2 := by unfold checkN; rw [hb]; rfl
    rw [e] at hK
    rw [condA_t]
    exact hK h2 ff
  | false =>
    have e : checkN m = if m.fns.any badFn then 1 else 0 := by unfold checkN; rw [hb]; rfl
    rw [e] at hK
    rw [condA_f]
    obtain ⟨⟨k1, k1'⟩, ⟨k2, k2'⟩, ⟨k3, k3'⟩, ⟨k4, k4'⟩, ⟨k5, k5'⟩, _⟩ := ok
    have r2 := r1.fr f2
    have gb2 := f2 b _ (by simp) gb
    obtain ⟨vt, vs, vx, vn, vf, rfl, _, _, _, _, r5⟩ := r2
    refine join_r (fun (J : H → Prop) => ∀ h', Fr [] h2 h' → m.fns.any badFn = false → J h') (fun h' f' e => by have := hK h' (ff.trans f'); rw [e] at this; exact this) fun J hJ => ?_
    refine fld_r (v := vf) (by rw [cell_of gb2]; rfl) ?_
    rw [r5.len, valA_some]
    simp only [joinA]
    refine scan_r (esz := 4) (ty := 39) (zs := [.nilsl, .int .i64 0, .int .i64 0, .nilsl]) (lv := vf) (Rel := fnR) (P := badFn) (X := K (.int .i64 1)) (fun f r => r.fr f) (fun r => r.leaves) rfl rfl r5 k5 (fun h3 f3 e => by have := hK h3 (ff.trans f3); rw [e] at this; exact this) (fun h3 f3 e => hJ h3 f3 e) fun N i x hx en h3 d c f3 gd rr hcl hN hX => ?_
    obtain ⟨o1, o2, o3, o4, o5⟩ := k5' x hx
    obtain ⟨vp, vb, rfl, q1, q2⟩ := rr
    refine fld_r (v := vb) (by rw [cell_of gd]; rfl) ?_
    rw [q2.len, valA_some]
    refine scan_r (esz := 2) (ty := 42) (zs := [.nilsl, .nilsl]) (lv := vb) (Rel := blkR) (P := badBlk) (X := K (.int .i64 1)) (fun f r => r.fr f) (fun r => r.leaves) rfl rfl q2 o4 (fun h4 f4 e => hX h4 f4 e) (fun h4 f4 e => by rw [b_add, valA_some, en]; exact hN h4 f4 e) fun N' j y hy en' h4 d' c' f4 gd' rr' hcl' hN' hX' => ?_
    obtain ⟨p1, p2, p3⟩ := o5 y hy
    obtain ⟨vi, vc, rfl, q3, q4⟩ := rr'
    refine fld_r (v := vc) (by rw [cell_of gd']; rfl) ?_
    refine contains37_c q4 p2 fun h5 f5 => ?_
    show condA (.bool (badBlk y)) _ _
    cases hp : badBlk y with
    | true => rw [condA_t]; exact hX' h5 f5 hp
    | false => rw [condA_f, b_add, valA_some, en']; exact hN' h5 f5 hp
end
end Go.Proofs.YtdljelicbnjfjaaGreat.X
set_option linter.unusedVariables false
set_option linter.unusedSimpArgs false
set_option maxRecDepth 20000
namespace Go.Proofs.YtdljelicbnjfjaaGreat.X
open Go Go.RowKit
theorem WS.base {h0 h1 h : H} {v : AV} {L : List Nat} (s : WS h1 h v L) (f : Fr [] h0 h1) : WS h0 h v L := by
  rcases s with s | ⟨m, q1, q2, q3⟩
  · refine .inl ⟨s.1, ?_⟩
    rcases s.2 with z | ⟨b, z1, z2, z3⟩
    · exact .inl z
    · exact .inr ⟨b, z1, f.free z2, z3⟩
  · exact .inr ⟨m, q1, f.free q2, q3⟩
theorem lit_head {h : H} {K : AV → H → Prop} (hK : ∀ m, h.get m = none → K (.sl m 0 4 (.exact 4)) (h.set m (.live (bc headB) 5 true))) :
    mkslA h 5 4 (fillV [(.int .u8 0), (.int .u8 0), (.int .u8 0), (.int .u8 0)] [(0, 1, (.int .u8 66)), (1, 1, (.int .u8 69)), (2, 1, (.int .u8 76)), (3, 1, (.int .u8 49))]) K := ⟨rfl, hK⟩
section
variable {h : H}
set_option maxHeartbeats 1000000 in
theorem encode_c {m : Img} {c : List AV} (r : imgR h m c) (ok : m.ok) (hm : (bytesI m).length ≤ most) {K : AV → H → Prop} (hE : checkN m ≠ 0 → ∀ h', Fr [] h h' → K (.tup [.nilsl, .int .i64 (checkN m)]) h')
    (hK : checkN m = 0 → ∀ v h', Fr [] h h' → WS h h' v (bytesI m) → K (.tup [v, .int .i64 0]) h') : C 58 [.agg c] h K := by
  refine run58 ?_
  have hl := r.leaves
  have ec : (AV.agg c).cells = c := rfl
  obtain ⟨vt, vs, vx, vn, vf, hcs, _⟩ := id r
  have hcl : c.length = 7 := by rw [hcs]; rfl
  unfold sh58
  rw [ec]
  refine box_r hl fun b hb => ?_
  have f : Fr [] h (h.set b (.live c 28 true)) := (Fr.refl _ _).set' hb
  have gb : (h.set b (.live c 28 true)).get b = some (.live c 28 true) := H.get_same ..
  have r1 := r.fr f
  have rd : (h.set b (.live c 28 true)).read b 0 7 = some c := H.read_eq gb (by omega) (by rw [List.drop_zero, List.take_of_length_le (by omega)])
  generalize h.set b (.live c 28 true) = h1 at *
  rw [ldA_read rd, valA_some]
  refine check_c r1 ok fun h2 f2 => ?_
  have ff := f.trans f2
  by_cases he : checkN m = 0
  · rw [he]
    rw [b_neq, valA_some, decide_eq_false (by simp), condA_f]
    refine lit_head fun p hp => ?_
    have gp : (h2.set p (.live (bc headB) 5 true)).get p = some (.live (bc headB) 5 true) := H.get_same ..
    have ek : keepA (h2.set p (.live (bc headB) 5 true)) (.sl p 0 4 (.exact 4)) = some (.sl p 0 4 (.exact 4)) := by simp only [keepA, gp]; rfl
    rw [ek, valA_some, show buildA (fillV [.nilsl] [(0, 1, AV.sl p 0 4 (.exact 4))]) = some (.agg [.sl p 0 4 (.exact 4)]) from rfl, valA_some]
    have fp : Fr [] h2 (h2.set p (.live (bc headB) 5 true)) := (Fr.refl _ _).set' hp
    generalize h2.set p (.live (bc headB) 5 true) = h3 at *
    refine box_r (cs := [.sl p 0 4 (.exact 4)]) rfl fun wb hwb => ?_
    have hpw : p ≠ wb := fun e => by rw [e, hwb] at gp; cases gp
    have w : W h2 (h3.set wb (.live [.sl p 0 4 (.exact 4)] 121 true)) wb headB :=
      ⟨fp.set' (fp.free hwb), fp.free hwb, _, H.get_same .., .inr ⟨p, rfl, hp, by rw [H.get_other _ _ hpw]; exact gp⟩⟩
    have r2 := r1.fr f2
    have gb2 := f2 b _ (by simp) gb
    clear rd
    change valA _ (h3.set wb (.live [.sl p 0 4 (.exact 4)] 121 true)) _
    generalize h3.set wb (.live [.sl p 0 4 (.exact 4)] 121 true) = h4 at *
    obtain ⟨⟨k1, k1'⟩, ⟨k2, k2'⟩, ⟨k3, k3'⟩, ⟨k4, k4'⟩, ⟨k5, k5'⟩, k6, k7⟩ := ok
    obtain ⟨wt, ws, wx, wn, wf, hcs2, r11, r12, r13, r14, r15⟩ := r2
    have cb : ∀ {h5 L}, W h2 h5 wb L → ∀ o v, c[o]? = some v → h5.cell b o = some v := fun w o v e => by rw [cell_of (w.fr b _ (by simp) gb2)]; exact e
    subst hcs2
    unfold bytesI at hm
    simp only [List.append_assoc] at hm
    refine fld_r (cb w 0 _ rfl) ?_
    refine manyTy_c w r11 (fun _ _ r => tyR.leaves r) k1 (app_le hm) (fun x hx c r => wkind_c r (k1' x hx)) fun h5 w5 _ => ?_
    rw [← List.append_assoc] at hm
    refine fld_r (cb w5 1 _ rfl) ?_
    refine manyShp_c w5 r12 (fun _ _ r => shR.leaves r) k2 (app_le hm) (fun x hx c r => wshape_c r (k2' x hx)) fun h6 w6 _ => ?_
    rw [← List.append_assoc] at hm
    refine fld_r (cb w6 2 _ rfl) ?_
    refine manyStr_c w6 (strs_row r13) (B := textB) k3 (app_le hm) (fun x hx h L w hm K hK => wtext_c w (k3' x hx) hm hK) fun h7 w7 _ => ?_
    rw [← List.append_assoc] at hm
    refine fld_r (cb w7 3 _ rfl) ?_
    refine manyStr_c w7 (strs_row r14) (B := textB) k4 (app_le hm) (fun x hx h L w hm K hK => wtext_c w (k4' x hx) hm hK) fun h8 w8 _ => ?_
    rw [← List.append_assoc] at hm
    refine fld_r (cb w8 4 _ rfl) ?_
    refine manyFn_c w8 r15 (fun _ _ r => fnR.leaves r) k5 (app_le hm) (fun x hx c r => wfunction_c r (k5' x hx)) fun h9 w9 _ => ?_
    rw [← List.append_assoc] at hm
    refine fld_r (cb w9 5 _ rfl) ?_
    refine wnum_c w9 k6 (app_le hm) fun h10 w10 _ => ?_
    rw [← List.append_assoc] at hm
    refine fld_r (cb w10 6 _ rfl) ?_
    refine wnum_c w10 k7 hm fun h11 w11 _ => ?_
    obtain ⟨v, q1, q2⟩ := w11.st
    simp only [nilcA_p, valA_some]
    refine fld_r (v := v) (by rw [cell_of q1]; rfl) ?_
    exact hK he v h11 (ff.trans w11.fr) (q2.base ff)
  · rw [b_neq, valA_some, decide_eq_true (by simpa using he), condA_t]
    exact hE he h2 ff
end
end Go.Proofs.YtdljelicbnjfjaaGreat.X
set_option linter.unusedVariables false
set_option linter.unusedSimpArgs false
set_option maxRecDepth 20000
namespace Go.Proofs.YtdljelicbnjfjaaGreat.X
open Go Go.RowKit
def H.wo (h : H) (rb : Nat) : H := ⟨fun k => if k = rb then none else h.get k, by
  obtain ⟨n, hn⟩ := h.fin
  exact ⟨n, fun k hk => by split; · rfl
                           · exact hn k hk⟩⟩
theorem H.get_wo (h : H) (rb k : Nat) : (h.wo rb).get k = if k = rb then none else h.get k := rfl
theorem Fr.of_wo (h : H) (rb : Nat) : Fr [] (h.wo rb) h := fun c o _ x => by
  rw [H.get_wo] at x; split at x
  · cases x
  · exact x
theorem Fr.wo {h h' : H} {rb : Nat} (f : Fr [rb] h h') : Fr [] (h.wo rb) (h'.wo rb) := fun c o _ x => by
  rw [H.get_wo] at x ⊢; split at x
  · cases x
  · rename_i q; rw [if_neg q]; exact f c o (by simpa using q) x
theorem Fr.wo1 {h h' : H} {rb : Nat} (f : Fr [rb] h h') : Fr [] (h.wo rb) h' := f.wo.trans (Fr.of_wo h' rb)
structure RS where
  pos : Nat
  bad : Bool
def longR (B : List Nat) (s : RS) : Int × RS := match decS B s.pos with
  | (n, a, true) => (n, ⟨a.toNat, s.bad⟩)
  | (_, _, false) => (0, ⟨s.pos, true⟩)
def countBad (B : List Nat) (r : Int × RS) : Bool := r.2.bad || (decide (r.1 < 0) || decide ((B.length : Int) - r.2.pos < r.1))
def countR (B : List Nat) (s : RS) : Nat × RS := let r := longR B s; (if countBad B r then 0 else r.1.toNat, ⟨r.2.pos, countBad B r⟩)
def textR (B : List Nat) (s : RS) : List UInt8 × RS := let r := countR B s; (((B.drop r.2.pos).take r.1).map UInt8.ofNat, ⟨r.2.pos + r.1, r.2.bad⟩)
structure RdE (e : Nat) (h : H) (rb : Nat) (vB : AV) (B : List Nat) (s : RS) : Prop where
  g : h.get rb = some (.live [vB, .int .i64 s.pos, .bool s.bad] e true)
  row : Row (h.wo rb) vB B.length 1 (bc B)
  pos : s.pos ≤ B.length
  lt : ∀ d ∈ B, d < 256
  len : B.length ≤ 4294967296
  some : 0 < B.length
abbrev Rd := RdE 67
theorem decS_facts {B : List Nat} {p : Nat} {n a : Int} (h : decS B p = (n, a, true)) : rg n ∧ (p : Int) ≤ a ∧ a ≤ B.length ∧ (p : Int) < a := by
  unfold decS at h
  split at h
  · cases h
  · rename_i q
    cases hc : cut (B.drop (p : Int).toNat) 10 with
    | none => rw [hc] at h; cases h
    | some t =>
      rw [hc] at h
      simp only at h
      split at h
      · rename_i hv
        injection h with h1 h2; injection h2 with h2 h3
        have hl : ∀ (l : List Nat) (k : Nat) (t : List Nat), cut l k = some t → t.length ≤ l.length ∧ 0 < t.length := by
          intro l
          induction l with
          | nil => intro k t ht; cases ht
          | cons d l ih =>
            intro k t ht
            cases k with
            | zero => cases ht
            | succ k =>
              rw [cut] at ht
              split at ht
              · injection ht with ht; subst ht; simp
              · cases hcl : cut l k with
                | none => rw [hcl] at ht; cases ht
                | some t' =>
                  rw [hcl] at ht
                  injection ht with ht; subst ht
                  have := ih k t' hcl
                  simp; omega
        have := hl _ _ _ hc
        rw [List.length_drop] at this
        have hu : rg (unz (val t)) := by unfold rg unz; split <;> omega
        rw [← h1]
        refine ⟨hu, by omega, by omega, by omega⟩
      · cases h
theorem longR_facts (B : List Nat) (s : RS) (hs : s.pos ≤ B.length) : rg (longR B s).1 ∧ s.pos ≤ (longR B s).2.pos ∧ (longR B s).2.pos ≤ B.length := by
  unfold longR
  cases h : decS B s.pos with
  | mk n r =>
    obtain ⟨a, ok⟩ := r
    cases ok with
    | true =>
      have := decS_facts h
      exact ⟨this.1, by show s.pos ≤ a.toNat; omega, by show a.toNat ≤ _; omega⟩
    | false => exact ⟨(show rg 0 by unfold rg; omega), Nat.le_refl _, hs⟩
theorem countR_facts (B : List Nat) (s : RS) (hs : s.pos ≤ B.length) : s.pos ≤ (countR B s).2.pos ∧ (countR B s).2.pos + (countR B s).1 ≤ B.length := by
  have := longR_facts B s hs
  unfold countR
  simp only
  refine ⟨this.2.1, ?_⟩
  cases hb : countBad B (longR B s) with
  | true => rw [if_pos rfl]; exact this.2.2
  | false =>
    rw [if_neg (by decide)]
    unfold countBad at hb
    simp only [Bool.or_eq_false_iff, decide_eq_false_iff_not] at hb
    omega
section
variable {h : H} {rb e : Nat} {vB : AV} {B : List Nat} {s : RS}
theorem RdE.cell (r : RdE e h rb vB B s) (off : Nat) : h.cell rb off = [vB, AV.int .i64 s.pos, .bool s.bad][off]? := cell_of r.g off
theorem RdE.keep (r : RdE e h rb vB B s) {h' : H} (f : Fr [] h h') : RdE e h' rb vB B s := ⟨f rb _ (by simp) r.g, r.row.fr (f.weaken (S' := [rb]) (by simp)).wo, r.pos, r.lt, r.len, r.some⟩
theorem RdE.put (r : RdE e h rb vB B s) (s' : RS) (hp : s'.pos ≤ B.length) {cs : List AV} (hc : cs = [vB, .int .i64 s'.pos, .bool s'.bad]) : RdE e (h.set rb (.live cs e true)) rb vB B s' ∧ Fr [rb] h (h.set rb (.live cs e true)) := by
  have f : Fr [rb] h (h.set rb (.live cs e true)) := Fr.put (by simp)
  exact ⟨⟨by rw [H.get_same, hc], r.row.fr f.wo, hp, r.lt, r.len, r.some⟩, f⟩
theorem long_c (r : Rd h rb vB B s) {K : AV → H → Prop} (hK : ∀ h', Fr [rb] h h' → Rd h' rb vB B (longR B s).2 → K (.int .i64 (longR B s).1) h') : C 86 [.ptr rb 0] h K := by
  refine run86 ?_
  have hl := r.len; have hp := r.pos
  simp only [sh86, go_sem, reduceIte, Nat.reduceAdd, Nat.reduceSub, Nat.reduceMul, Nat.reducePow, Nat.reduceLT, Nat.reduceLeDiff, Nat.reduceEqDiff, Int.reduceAdd, Int.reduceSub, Int.reduceMul, Int.reduceNeg, Int.reducePow, Int.reduceLT, Int.reduceLE, Int.reduceEq, Int.reduceNe, Int.reduceToNat, Int.toNat_natCast, Nat.zero_add, Nat.add_zero, Nat.mul_one, Nat.one_mul, Bool.not_true, Bool.not_false, ne_eq, not_true_eq_false, not_false_eq_true, Bool.false_eq_true, r.cell]
  refine get_c (r.row.fr (Fr.of_wo h rb)) r.lt (by omega) (by omega) (by omega) ?_
  unfold longR at hK
  cases hd : decS B s.pos with
  | mk n x =>
    obtain ⟨a, ok⟩ := x
    rw [hd] at hK
    cases ok with
    | true =>
      have hf := decS_facts hd
      have st := st_val r.g (off := 1) (v := .int .i64 a) (by simp) rfl rfl
      have ha : ((a.toNat : Nat) : Int) = a := by omega
      obtain ⟨r', f'⟩ := r.put ⟨a.toNat, s.bad⟩ (by show a.toNat ≤ _; omega) (cs := [vB, AV.int .i64 s.pos, .bool s.bad].set 1 (.int .i64 a)) (by simp only [ha]; rfl)
      simp only [decV, go_sem, reduceIte, Nat.reduceAdd, Nat.reduceSub, Nat.reduceMul, Nat.reducePow, Nat.reduceLT, Nat.reduceLeDiff, Nat.reduceEqDiff, Int.reduceAdd, Int.reduceSub, Int.reduceMul, Int.reduceNeg, Int.reducePow, Int.reduceLT, Int.reduceLE, Int.reduceEq, Int.reduceNe, Int.reduceToNat, Int.toNat_natCast, Nat.zero_add, Nat.add_zero, Nat.mul_one, Nat.one_mul, Bool.not_true, Bool.not_false, ne_eq, not_true_eq_false, not_false_eq_true, Bool.false_eq_true, st]
      exact hK _ f' r'
    | false =>
      have st := st_val r.g (off := 2) (v := .bool true) (by simp) rfl rfl
      obtain ⟨r', f'⟩ := r.put ⟨s.pos, true⟩ r.pos (cs := [vB, AV.int .i64 s.pos, .bool s.bad].set 2 (.bool true)) rfl
      simp only [decV, go_sem, reduceIte, Nat.reduceAdd, Nat.reduceSub, Nat.reduceMul, Nat.reducePow, Nat.reduceLT, Nat.reduceLeDiff, Nat.reduceEqDiff, Int.reduceAdd, Int.reduceSub, Int.reduceMul, Int.reduceNeg, Int.reducePow, Int.reduceLT, Int.reduceLE, Int.reduceEq, Int.reduceNe, Int.reduceToNat, Int.toNat_natCast, Nat.zero_add, Nat.add_zero, Nat.mul_one, Nat.one_mul, Bool.not_true, Bool.not_false, ne_eq, not_true_eq_false, not_false_eq_true, Bool.false_eq_true, st]
      exact hK _ f' r'
theorem rnum_c (r : Rd h rb vB B s) {K : AV → H → Prop} (hK : ∀ h', Fr [rb] h h' → Rd h' rb vB B (longR B s).2 → K (.int .i64 (longR B s).1) h') : C 42 [.ptr rb 0] h K := by
  refine run42 ?_
  unfold sh42
  exact long_c r hK
theorem count_c (r : Rd h rb vB B s) {K : AV → H → Prop} (hK : ∀ h', Fr [rb] h h' → Rd h' rb vB B (countR B s).2 → K (.int .i64 ((countR B s).1 : Nat)) h') : C 82 [.ptr rb 0] h K := by
  refine run82 ?_
  unfold sh82
  refine rnum_c r fun h1 f1 r1 => ?_
  have hf := longR_facts B s r.pos
  unfold countR countBad at hK
  simp only at hK
  generalize longR B s = x at *
  obtain ⟨n, t⟩ := x
  simp only at hK r1 hf ⊢
  have hl := r.len
  have es : IntKind.i64.wrap ((B.length : Int) - (t.pos : Int)) = B.length - t.pos := i64_id (by omega) (by omega)
  have hrl := (r1.row.fr (Fr.of_wo h1 rb)).len
  refine join_r (fun (J : H → Prop) => ∀ h2, Fr [rb] h1 h2 → Rd h2 rb vB B ⟨t.pos, t.bad || (decide (n < 0) || decide ((B.length : Int) - t.pos < n))⟩ → J h2) ?_ fun J hJ => ?_
  · intro h2 f2 r2
    have hK := hK h2 (f1.trans f2) r2
    cases hb : (t.bad || (decide (n < 0) || decide ((B.length : Int) - t.pos < n))) with
    | true =>
      rw [hb] at hK r2
      simp only [go_sem, reduceIte, Nat.reduceAdd, Nat.reduceSub, Nat.reduceMul, Nat.reducePow, Nat.reduceLT, Nat.reduceLeDiff, Nat.reduceEqDiff, Int.reduceAdd, Int.reduceSub, Int.reduceMul, Int.reduceNeg, Int.reducePow, Int.reduceLT, Int.reduceLE, Int.reduceEq, Int.reduceNe, Int.reduceToNat, Int.toNat_natCast, Nat.zero_add, Nat.add_zero, Nat.mul_one, Nat.one_mul, Bool.not_true, Bool.not_false, ne_eq, not_true_eq_false, not_false_eq_true, Bool.false_eq_true, r2.cell]
      exact hK
    | false =>
      rw [hb] at hK r2
      have hn : ((n.toNat : Nat) : Int) = n := by simp only [Bool.or_eq_false_iff, decide_eq_false_iff_not] at hb; omega
      simp only [go_sem, reduceIte, Nat.reduceAdd, Nat.reduceSub, Nat.reduceMul, Nat.reducePow, Nat.reduceLT, Nat.reduceLeDiff, Nat.reduceEqDiff, Int.reduceAdd, Int.reduceSub, Int.reduceMul, Int.reduceNeg, Int.reducePow, Int.reduceLT, Int.reduceLE, Int.reduceEq, Int.reduceNe, Int.reduceToNat, Int.toNat_natCast, Nat.zero_add, Nat.add_zero, Nat.mul_one, Nat.one_mul, Bool.not_true, Bool.not_false, ne_eq, not_true_eq_false, not_false_eq_true, Bool.false_eq_true, r2.cell]
      simpa [hn] using hK
  · have st := st_val r1.g (off := 2) (v := .bool true) (by simp) rfl rfl
    obtain ⟨r', f'⟩ := r1.put ⟨t.pos, true⟩ hf.2.2 (cs := [vB, AV.int .i64 t.pos, .bool t.bad].set 2 (.bool true)) rfl
    by_cases c1 : n < 0
    · simp only [go_sem, reduceIte, Nat.reduceAdd, Nat.reduceSub, Nat.reduceMul, Nat.reducePow, Nat.reduceLT, Nat.reduceLeDiff, Nat.reduceEqDiff, Int.reduceAdd, Int.reduceSub, Int.reduceMul, Int.reduceNeg, Int.reducePow, Int.reduceLT, Int.reduceLE, Int.reduceEq, Int.reduceNe, Int.reduceToNat, Int.toNat_natCast, Nat.zero_add, Nat.add_zero, Nat.mul_one, Nat.one_mul, Bool.not_true, Bool.not_false, ne_eq, not_true_eq_false, not_false_eq_true, Bool.false_eq_true, c1, st]
      refine hJ _ f' ?_
      simp only [c1, decide_true, Bool.true_or, Bool.or_true]; exact r'
    · by_cases c2 : (B.length : Int) - t.pos < n
      · simp only [go_sem, reduceIte, Nat.reduceAdd, Nat.reduceSub, Nat.reduceMul, Nat.reducePow, Nat.reduceLT, Nat.reduceLeDiff, Nat.reduceEqDiff, Int.reduceAdd, Int.reduceSub, Int.reduceMul, Int.reduceNeg, Int.reducePow, Int.reduceLT, Int.reduceLE, Int.reduceEq, Int.reduceNe, Int.reduceToNat, Int.toNat_natCast, Nat.zero_add, Nat.add_zero, Nat.mul_one, Nat.one_mul, Bool.not_true, Bool.not_false, ne_eq, not_true_eq_false, not_false_eq_true, Bool.false_eq_true, c1, r1.cell, hrl, es, c2, st]
        refine hJ _ f' ?_
        simp only [c2, decide_true, Bool.or_true]; exact r'
      · simp only [go_sem, reduceIte, Nat.reduceAdd, Nat.reduceSub, Nat.reduceMul, Nat.reducePow, Nat.reduceLT, Nat.reduceLeDiff, Nat.reduceEqDiff, Int.reduceAdd, Int.reduceSub, Int.reduceMul, Int.reduceNeg, Int.reducePow, Int.reduceLT, Int.reduceLE, Int.reduceEq, Int.reduceNe, Int.reduceToNat, Int.toNat_natCast, Nat.zero_add, Nat.add_zero, Nat.mul_one, Nat.one_mul, Bool.not_true, Bool.not_false, ne_eq, not_true_eq_false, not_false_eq_true, Bool.false_eq_true, c1, r1.cell, hrl, es, c2]
        refine hJ h1 (Fr.refl _ _) ?_
        simp only [c1, c2, decide_false, Bool.or_false]; exact r1
theorem rtext_c (r : Rd h rb vB B s) {K : AV → H → Prop} (hK : ∀ h', Fr [rb] h h' → Rd h' rb vB B (textR B s).2 → K (.str (textR B s).1) h') : C 39 [.ptr rb 0] h K := by
  refine run39 ?_
  unfold sh39
  refine count_c r fun h1 f1 r1 => ?_
  have hf := countR_facts B s r.pos
  unfold textR at hK
  simp only at hK
  generalize countR B s = x at *
  obtain ⟨n, t⟩ := x
  simp only at hK r1 hf ⊢
  have hl := r.len
  have ea : IntKind.i64.wrap ((t.pos : Int) + (n : Nat)) = ((t.pos + n : Nat) : Int) := by rw [i64_id (by omega) (by omega)]; rfl
  obtain ⟨v', w1, w2⟩ := (r1.row.fr (Fr.of_wo h1 rb)).slice (k := .i64) (k' := .i64) (i := t.pos) (j := ((t.pos + n : Nat) : Int)) (by omega) (by omega) (by omega) r.some
  have e2 : ((t.pos + n : Nat) : Int).toNat - ((t.pos : Nat) : Int).toNat = n := by omega
  rw [e2, Int.toNat_natCast, Nat.mul_one, Nat.mul_one, bc_drop] at w2
  have w2 : Row h1 v' ((B.drop t.pos).take n).length 1 (bc ((B.drop t.pos).take n)) := by
    have : ((B.drop t.pos).take n).length = n := by rw [List.length_take, List.length_drop]; omega
    rw [this]; exact w2
  have st := st_val r1.g (off := 1) (v := .int .i64 ((t.pos + n : Nat) : Int)) (by simp) rfl rfl
  obtain ⟨r', f'⟩ := r1.put ⟨t.pos + n, t.bad⟩ hf.2 (cs := [vB, AV.int .i64 t.pos, .bool t.bad].set 1 (.int .i64 ((t.pos + n : Nat) : Int))) rfl
  simp only [go_sem, reduceIte, Nat.reduceAdd, Nat.reduceSub, Nat.reduceMul, Nat.reducePow, Nat.reduceLT, Nat.reduceLeDiff, Nat.reduceEqDiff, Int.reduceAdd, Int.reduceSub, Int.reduceMul, Int.reduceNeg, Int.reducePow, Int.reduceLT, Int.reduceLE, Int.reduceEq, Int.reduceNe, Int.reduceToNat, Int.toNat_natCast, Nat.zero_add, Nat.add_zero, Nat.mul_one, Nat.one_mul, Bool.not_true, Bool.not_false, ne_eq, not_true_eq_false, not_false_eq_true, Bool.false_eq_true, r1.cell, ea, w1, w2.b2s, st]
  exact hK _ (f1.trans f') r'
end
end Go.Proofs.YtdljelicbnjfjaaGreat.X
