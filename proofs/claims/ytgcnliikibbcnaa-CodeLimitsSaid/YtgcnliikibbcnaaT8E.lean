/- What the law law8 needs: texts of one's own, put together; functions' contracts and plain facts. -/
import Derived.Test.YtgcnliikibbcnaaT8D
set_option linter.unusedVariables false
set_option linter.unusedSimpArgs false
set_option maxRecDepth 20000
namespace Go.Proofs.Ytgcnliikibbcnaa.X
open Go Go.RowKit
theorem any_rep {α : Type} (p : α → Bool) (n : Nat) (x : α) (h : p x = false) : (List.replicate n x).any p = false := by
  rw [List.any_eq_false]
  intro y hy
  rw [List.eq_of_mem_replicate hy, h]; simp
theorem sum_rep {α : Type} (w : α → Nat) (n : Nat) (x : α) : sumN w (List.replicate n x) = n * w x := by
  unfold sumN; rw [List.map_replicate, List.sum_replicate_nat]
def zFn : Fn := ⟨[], 0, 0, []⟩
def zBlk : Blk := ⟨[], []⟩
theorem fns_rep (n : Nat) : ∀ k : Int, bigFns k (List.replicate n zFn) = false := by
  induction n with
  | zero => intro k; rfl
  | succ n ih => intro k; rw [List.replicate_succ, bigFns]; simp [zFn, bigBlks]; exact ih k
theorem blks_rep (n : Nat) : ∀ k : Int, k ≤ 20000 → bigBlks k (List.replicate n zBlk) = (false, k) := by
  induction n with
  | zero => intro k _; rfl
  | succ n ih =>
    intro k hk
    rw [List.replicate_succ, bigBlks]
    have : ¬ 20000 < k := by omega
    simp [zBlk, this]; exact ih k hk
theorem rep_rgs {n : Nat} (h : n ≤ reachBytes) : rgs (List.replicate n 0) := ⟨by simpa using h, fun x hx => by rw [List.eq_of_mem_replicate hx]; exact rg0⟩
theorem rep_ok {α : Type} {P : α → Prop} {n : Nat} {x : α} (h : n ≤ reachBytes) (hx : P x) : (List.replicate n x).length ≤ reachBytes ∧ ∀ y ∈ List.replicate n x, P y := ⟨by simpa using h, fun y hy => by rw [List.eq_of_mem_replicate hy]; exact hx⟩
theorem one_ok {α : Type} {P : α → Prop} {x : α} (hx : P x) : [x].length ≤ reachBytes ∧ ∀ y ∈ [x], P y := rep_ok (n := 1) (by decide) hx
theorem nil_ok {α : Type} {P : α → Prop} : ([] : List α).length ≤ reachBytes ∧ ∀ y ∈ ([] : List α), P y := ⟨by simp, by simp⟩
theorem le_ok {n : Nat} (h : n ≤ 2100) : n ≤ reachBytes := Nat.le_trans h (by decide)
theorem zFn_ok : zFn.ok := ⟨rgs_nil, rg0, rg0, nil_ok⟩
theorem zBlk_ok : zBlk.ok := ⟨rgs_nil, nil_ok⟩
theorem rg_small {n : Nat} (h : n ≤ 2100) : rg (n : Int) := by unfold rg; omega
def xIns (l live : List Int) : Ins := ⟨5, 0, 0, 0, 0, 0, l, [], live⟩
theorem xIns_ok {l live : List Int} (h1 : rgs l) (h2 : rgs live) : (xIns l live).ok := ⟨⟨(by show rg 5; unfold rg; omega), rg0, rg0, rg0, rg0, rg0⟩, h1, rgs_nil, h2⟩
theorem xIns_plain (l live : List Int) : plainN (xIns l live) = true := by simp [plainN, xIns, usesN, usesL, hasL]
/-- All that is asked of an image that goes up to a limit. -/
def Lim (N : Nat) (mo : Int) (m : Img) : Prop := m.ok ∧ wImg m ≤ 10000 ∧ checkN m = if mo < (N : Int) then 2 else 0
section
variable {N : Nat}
theorem check_if {m : Img} {p : Prop} [Decidable p] (h : bigN m = decide p) (h2 : m.fns.any badFn = false) : checkN m = if p then 2 else 0 := by
  unfold checkN; rw [h, h2]; simp
theorem lim0 (h : N ≤ 2100) : Lim N 1024 ⟨List.replicate N ⟨false, []⟩, [], [], [], [], 0, 0⟩ :=
  ⟨⟨rep_ok (le_ok h) rgs_nil, nil_ok, nil_ok, nil_ok, nil_ok, rg0, rg0⟩, by simp [wImg, sum_rep, wTy]; simp [sumN]; omega, check_if (by unfold bigN; simp only [any_rep bigTy N ⟨false, []⟩ rfl]; simp [bigTop, bigFns]) rfl⟩
theorem lim1 (h : N ≤ 2100) : Lim N 512 ⟨[], List.replicate N ⟨0, [], []⟩, [], [], [], 0, 0⟩ :=
  ⟨⟨nil_ok, rep_ok (le_ok h) ⟨rg0, rgs_nil, by simp⟩, nil_ok, nil_ok, nil_ok, rg0, rg0⟩, by simp [wImg, sum_rep, wShp]; simp [sumN]; omega, check_if (by unfold bigN; simp only [any_rep bigShp N ⟨0, [], []⟩ rfl]; simp [bigTop, bigFns]) rfl⟩
theorem lim2 (h : N ≤ 2100) : Lim N 256 ⟨[], [], List.replicate N [], [], [], 0, 0⟩ :=
  ⟨⟨nil_ok, nil_ok, rep_ok (le_ok h) (by simp), nil_ok, nil_ok, rg0, rg0⟩, by simp [wImg, sum_rep, wStr]; simp [sumN]; omega, check_if (by unfold bigN; simp only [any_rep bigS N [] rfl]; simp [bigTop, bigFns]) rfl⟩
theorem lim3 (h : N ≤ 2100) : Lim N 256 ⟨[], [], [], List.replicate N [], [], 0, 0⟩ :=
  ⟨⟨nil_ok, nil_ok, nil_ok, rep_ok (le_ok h) (by simp), nil_ok, rg0, rg0⟩, by simp [wImg, sum_rep, wStr]; simp [sumN]; omega, check_if (by unfold bigN; simp only [any_rep bigS N [] rfl]; simp [bigTop, bigFns]) rfl⟩
theorem lim4 (h : N ≤ 2100) : Lim N 1024 ⟨[], [], [], [], List.replicate N zFn, 0, 0⟩ :=
  ⟨⟨nil_ok, nil_ok, nil_ok, nil_ok, rep_ok (le_ok h) zFn_ok, rg0, rg0⟩, by simp [wImg, sum_rep, wFn, zFn]; simp [sumN]; omega, check_if (by unfold bigN; simp only [fns_rep]; simp [bigTop]) (any_rep _ _ _ rfl)⟩
theorem lim5 (h : N ≤ 2100) : Lim N 512 ⟨[⟨false, List.replicate N 0⟩], [], [], [], [], 0, 0⟩ :=
  ⟨⟨one_ok (rep_rgs (le_ok h)), nil_ok, nil_ok, nil_ok, nil_ok, rg0, rg0⟩, by simp [wImg, sumN, wTy]; omega, check_if (by unfold bigN; simp [bigTop, bigFns, bigTy]) rfl⟩
theorem lim6 (h : N ≤ 2100) : Lim N 200 ⟨[], [⟨0, List.replicate N 0, []⟩], [], [], [], 0, 0⟩ :=
  ⟨⟨nil_ok, one_ok ⟨rg0, rep_rgs (le_ok h), by simp⟩, nil_ok, nil_ok, nil_ok, rg0, rg0⟩, by simp [wImg, sumN, wShp]; omega, check_if (by unfold bigN; simp [bigTop, bigFns, bigShp]) rfl⟩
theorem lim7 (h : N ≤ 2100) : Lim N 200 ⟨[], [], [], [], [⟨[], 0, N, []⟩], 0, 0⟩ :=
  ⟨⟨nil_ok, nil_ok, nil_ok, nil_ok, one_ok ⟨rgs_nil, rg0, rg_small h, nil_ok⟩, rg0, rg0⟩, by simp [wImg, sumN, wFn], check_if (by unfold bigN; simp [bigTop, bigFns, bigBlks]) rfl⟩
theorem lim8 (h : N ≤ 2100) : Lim N 200 ⟨[], [], [], [], [⟨List.replicate N 0, 0, 0, []⟩], 0, 0⟩ :=
  ⟨⟨nil_ok, nil_ok, nil_ok, nil_ok, one_ok ⟨rep_rgs (le_ok h), rg0, rg0, nil_ok⟩, rg0, rg0⟩, by simp [wImg, sumN, wFn]; omega, check_if (by unfold bigN; simp [bigTop, bigFns, bigBlks]) rfl⟩
theorem lim9 (h : N ≤ 2100) : Lim N 2000 ⟨[], [], [], [], [⟨[], 0, 0, List.replicate N zBlk⟩], 0, 0⟩ :=
  ⟨⟨nil_ok, nil_ok, nil_ok, nil_ok, one_ok ⟨rgs_nil, rg0, rg0, rep_ok (le_ok h) zBlk_ok⟩, rg0, rg0⟩, by simp [wImg, sumN, wFn]; simp [wBlk, zBlk, sumN]; omega, check_if (by unfold bigN; simp [bigTop, bigFns, blks_rep]) (by simp only [List.any_cons, List.any_nil, badFn, Bool.or_false]; exact any_rep _ _ _ rfl)⟩
theorem lim10 (h : N ≤ 2100) : Lim N 200 ⟨[], [], [], [], [⟨[], 0, 0, [⟨List.replicate N 0, []⟩]⟩], 0, 0⟩ :=
  ⟨⟨nil_ok, nil_ok, nil_ok, nil_ok, one_ok ⟨rgs_nil, rg0, rg0, one_ok ⟨rep_rgs (le_ok h), nil_ok⟩⟩, rg0, rg0⟩, by simp [wImg, sumN, wFn, wBlk]; omega, check_if (by unfold bigN; simp [bigTop, bigFns, bigBlks]; split <;> simp_all) rfl⟩
theorem lim11 (h : N ≤ 2100) : Lim N 1024 (imgX (xIns (List.replicate N 0) [])) :=
  ⟨imgX_ok (xIns_ok (rep_rgs (le_ok h)) rgs_nil), by simp [wImg, imgX, sumN, wFn, wBlk, wIns, xIns]; omega, check_if (by unfold bigN; simp [imgX, bigTop, bigFns, bigBlks, bigIns, xIns]; split <;> simp_all) (by simp [imgX, badFn, badBlk, notPlain, xIns_plain])⟩
theorem lim12 (h : N ≤ 2100) : Lim N 200 (imgX (xIns [] (List.replicate N 0))) :=
  ⟨imgX_ok (xIns_ok rgs_nil (rep_rgs (le_ok h))), by simp [wImg, imgX, sumN, wFn, wBlk, wIns, xIns]; omega, check_if (by unfold bigN; simp [imgX, bigTop, bigFns, bigBlks, bigIns, xIns]; split <;> simp_all) (by simp [imgX, badFn, badBlk, notPlain, xIns_plain])⟩
end
end Go.Proofs.Ytgcnliikibbcnaa.X
set_option linter.unusedVariables false
set_option linter.unusedSimpArgs false
set_option maxRecDepth 20000
namespace Go.Proofs.Ytgcnliikibbcnaa.X
open Go Go.RowKit
/-- Memory without some blocks. -/
noncomputable abbrev Ws (S : List Nat) (h : H) : H := h.only fun k => k ∉ S
theorem ws_fr {S : List Nat} {h h' : H} (f : Fr S h h') : Fr [] (Ws S h) (Ws S h') := only_fr fun k o p x => ⟨p, f k o p x⟩
theorem ws_le (S : List Nat) (h : H) : Fr [] (Ws S h) h := only_le h _
theorem ws_get {S : List Nat} {h : H} {m : Nat} {o : Obj} (hm : m ∉ S) (g : h.get m = some o) : (Ws S h).get m = some o := by
  simp only [H.only]; rw [if_pos hm]; exact g
section
variable {S : List Nat} {h : H}
/-- A row of one element. -/
theorem one_w {α : Type} {Rel : H → α → List AV → Prop} (hmono : ∀ {h h' : H} {x c}, Fr [] h h' → Rel h x c → Rel h' x c) (ha : ∀ k ∈ S, h.get k ≠ none) {n ty : Nat} {Z c : List AV} {x : α} (hz : Z.length = n) (hc : c.length = n) (lc : leaves c = true) (r : Rel (Ws S h) x c) {K : AV → H → Prop}
    (hK : ∀ m h', Fr [] h h' → RowOf (Ws S h') n (Rel (Ws S h')) (.sl m 0 1 (.exact 1)) [x] → K (.sl m 0 1 (.exact 1)) h') : mkslA h ty 1 (fillV Z [(0, n, .agg c)]) K := by
  rw [fill_agg hz hc lc]
  refine ⟨lc, fun m hm => ?_⟩
  have f : Fr [] h (h.set m (.live c ty true)) := (Fr.refl _ _).set' hm
  have hmS : m ∉ S := fun q => ha m q hm
  have g := ws_get hmS (H.get_same h m (.live c ty true))
  refine hK m _ f ⟨[c], rfl, fun i y d hy hd => ?_, by simp [hc], by simp [hc], .inr ⟨m, 0, _, rfl, rfl, H.read_eq g (by simp [hc]) (by simp [← hc])⟩⟩
  cases i with
  | zero => simp at hy hd; subst hy; subst hd; exact hmono (ws_fr (f.weaken (by simp))) r
  | succ i => simp at hy
theorem rep_cells (zero : List AV) : ∀ n : Nat, repCells zero n = (List.replicate n zero).flatten
  | 0 => rfl
  | n + 1 => by rw [repCells, rep_cells zero n, List.replicate_succ, List.flatten_cons]
theorem leaves_rep {zero : List AV} (h : leaves zero = true) : ∀ n : Nat, leaves (repCells zero n) = true
  | 0 => rfl
  | n + 1 => by rw [repCells, leaves_append, h, leaves_rep h n]; rfl
/-- A row of elements that are all alike. -/
theorem mk_w {α : Type} {Rel : H → α → List AV → Prop} (ha : ∀ k ∈ S, h.get k ≠ none) {e bytes N n : Nat} {zero : List AV} {x : α} (hn : N ≤ 2100) (hb : bytes ≤ 1000) (hz : zero.length = n) (lz : leaves zero = true) (r : ∀ h, Rel h x zero) {K : AV → H → Prop}
    (hK : ∀ m h', Fr [] h h' → RowOf (Ws S h') n (Rel (Ws S h')) (.sl m 0 N (.exact N)) (List.replicate N x) → K (.sl m 0 N (.exact N)) h') : mksA h e zero bytes (.int .i64 N) (.int .i64 N) K := by
  have hN : natOf (.int .i64 (N : Int)) = some N := by
    have : (0 : Int) ≤ N := by omega
    simp only [natOf, this, if_true, Int.toNat_natCast]
  unfold mksA
  rw [hN]
  have hm : N * bytes ≤ 2100 * 1000 := Nat.mul_le_mul hn hb
  refine ⟨⟨Nat.le_refl _, by rw [most_47]; omega, by omega⟩, leaves_rep lz N, fun m hm => ?_⟩
  have f : Fr [] h (h.set m (.live (repCells zero N) e true)) := (Fr.refl _ _).set' hm
  have hmS : m ∉ S := fun q => ha m q hm
  have g := ws_get hmS (H.get_same h m (.live (repCells zero N) e true))
  have hl : (List.replicate N zero).flatten.length = N * n := by rw [flat_len (e := n) (fun c hc => by rw [List.eq_of_mem_replicate hc, hz])]; simp
  refine hK m _ f ⟨List.replicate N zero, by simp, fun i y d hy hd => ?_, fun c hc => by rw [List.eq_of_mem_replicate hc, hz], by rw [hl]; simp, .inr ⟨m, 0, .exact N, by rw [List.length_replicate], rfl, H.read_eq g (by rw [rep_cells, hl]; simp) (by rw [rep_cells, List.drop_zero, List.take_of_length_le (by rw [hl]; simp)])⟩⟩
  rw [List.eq_of_mem_replicate (List.mem_of_getElem? hy), List.eq_of_mem_replicate (List.mem_of_getElem? hd)]; exact r _
theorem ints_w (ha : ∀ k ∈ S, h.get k ≠ none) {e N : Nat} (hn : N ≤ 2100) {K : AV → H → Prop}
    (hK : ∀ m h', Fr [] h h' → Row (Ws S h') (.sl m 0 N (.exact N)) (List.replicate N (0 : Int)).length 1 (ic (List.replicate N 0)) → K (.sl m 0 N (.exact N)) h') : mksA h e [.int .i64 0] 8 (.int .i64 N) (.int .i64 N) K :=
  mk_w (Rel := relI) (n := 1) (x := 0) ha hn (by decide) rfl rfl (fun _ => ⟨rfl, rg0⟩) fun m h' f r => hK m h' f (ints_row r).1
end
/-- The law's three boxes. -/
structure Box3 (hB h : H) (b6 b7 b8 : Nat) (z6 z7 z8 : List AV) : Prop where
  f : Fr [b6, b7, b8] hB h
  g6 : h.get b6 = some (.live z6 34 true)
  g7 : h.get b7 = some (.live z7 24 true)
  g8 : h.get b8 = some (.live z8 51 true)
  d67 : b6 ≠ b7
  d68 : b6 ≠ b8
  d78 : b7 ≠ b8
section
variable {hB h h' : H} {b6 b7 b8 : Nat} {z6 z7 z8 : List AV}
theorem Box3.new (g : Box3 hB h b6 b7 b8 z6 z7 z8) (f : Fr [] h h') : Box3 hB h' b6 b7 b8 z6 z7 z8 := ⟨g.f.trans f.more, f _ _ (by simp) g.g6, f _ _ (by simp) g.g7, f _ _ (by simp) g.g8, g.d67, g.d68, g.d78⟩
theorem Box3.alive (g : Box3 hB h b6 b7 b8 z6 z7 z8) : ∀ k ∈ [b6, b7, b8], h.get k ≠ none := by
  intro k hk
  simp only [List.mem_cons, List.not_mem_nil, or_false] at hk
  rcases hk with rfl | rfl | rfl
  · rw [g.g6]; simp
  · rw [g.g7]; simp
  · rw [g.g8]; simp
theorem Box3.set6 (g : Box3 hB h b6 b7 b8 z6 z7 z8) {off : Nat} {v : AV} (ho : off < z6.length) (hv : v.leaf = true) (hv' : v.cells = [v]) {K : H → Prop} (hK : ∀ h', Fr [b6, b7, b8] h h' → Box3 hB h' b6 b7 b8 (z6.set off v) z7 z8 → K h') :
    valA (faA off (.ptr b6 0)) h fun t h => memA (stA h 1 t v) .undef fun _ h => K h := by
  rw [faA_p, valA_some, Nat.zero_add, st_val g.g6 ho hv hv', memA_some]
  have f : Fr [b6, b7, b8] h (h.set b6 (.live (z6.set off v) 34 true)) := Fr.put (by simp)
  exact hK _ f ⟨g.f.trans f, H.get_same .., by rw [H.get_other _ _ g.d67.symm]; exact g.g7, by rw [H.get_other _ _ g.d68.symm]; exact g.g8, g.d67, g.d68, g.d78⟩
theorem Box3.set7 (g : Box3 hB h b6 b7 b8 z6 z7 z8) {off : Nat} {v : AV} (ho : off < z7.length) (hv : v.leaf = true) (hv' : v.cells = [v]) {K : H → Prop} (hK : ∀ h', Fr [b6, b7, b8] h h' → Box3 hB h' b6 b7 b8 z6 (z7.set off v) z8 → K h') :
    valA (faA off (.ptr b7 0)) h fun t h => memA (stA h 1 t v) .undef fun _ h => K h := by
  rw [faA_p, valA_some, Nat.zero_add, st_val g.g7 ho hv hv', memA_some]
  have f : Fr [b6, b7, b8] h (h.set b7 (.live (z7.set off v) 24 true)) := Fr.put (by simp)
  exact hK _ f ⟨g.f.trans f, by rw [H.get_other _ _ g.d67]; exact g.g6, H.get_same .., by rw [H.get_other _ _ g.d78.symm]; exact g.g8, g.d67, g.d68, g.d78⟩
theorem Box3.set8 (g : Box3 hB h b6 b7 b8 z6 z7 z8) {off : Nat} {v : AV} (ho : off < z8.length) (hv : v.leaf = true) (hv' : v.cells = [v]) {K : H → Prop} (hK : ∀ h', Fr [b6, b7, b8] h h' → Box3 hB h' b6 b7 b8 z6 z7 (z8.set off v) → K h') :
    valA (faA off (.ptr b8 0)) h fun t h => memA (stA h 1 t v) .undef fun _ h => K h := by
  rw [faA_p, valA_some, Nat.zero_add, st_val g.g8 ho hv hv', memA_some]
  have f : Fr [b6, b7, b8] h (h.set b8 (.live (z8.set off v) 51 true)) := Fr.put (by simp)
  exact hK _ f ⟨g.f.trans f, by rw [H.get_other _ _ g.d68]; exact g.g6, by rw [H.get_other _ _ g.d78]; exact g.g7, H.get_same .., g.d67, g.d68, g.d78⟩
theorem Box3.read7 (g : Box3 hB h b6 b7 b8 z6 z7 z8) (hl : z7.length = 9) : h.read b7 0 9 = some z7 := H.read_eq g.g7 (by omega) (by rw [List.drop_zero, List.take_of_length_le (by omega)])
theorem Box3.read8 (g : Box3 hB h b6 b7 b8 z6 z7 z8) (hl : z8.length = 4) : h.read b8 0 4 = some z8 := H.read_eq g.g8 (by omega) (by rw [List.drop_zero, List.take_of_length_le (by omega)])
abbrev zI : List AV := [.int .i64 5, .int .i64 0, .int .i64 0, .int .i64 0, .int .i64 0, .int .i64 0, .nilsl, .nilsl, .nilsl]
abbrev zF : List AV := [.nilsl, .int .i64 0, .int .i64 0, .nilsl]
abbrev zM : List AV := [.nilsl, .nilsl, .nilsl, .nilsl, .nilsl, .int .i64 0, .int .i64 0]
/-- What lies there at the end: such an image. -/
def Done (N : Nat) (hB : H) (b6 b7 b8 : Nat) (J : AV → H → Prop) : Prop := ∀ (mo : Int) (m : Img) (c z7 z8 : List AV) (h' : H), Box3 hB h' b6 b7 b8 c z7 z8 → imgR (Ws [b6, b7, b8] h') m c → Lim N mo m → J (.int .i64 mo) h'
end
theorem law8 (h : H) (ls : List (List AV)) (hl : LiesA h [.int .i64, .int .i64] ls) : C 8 (argsOf [.int .i64, .int .i64] ls) h yes := by
  obtain ⟨l0, ls, rfl, h0, hl⟩ := liesA_cons hl
  obtain ⟨l1, ls, rfl, h1, hl⟩ := liesA_cons hl
  obtain rfl := liesA_nil hl
  obtain ⟨wh, rfl, o0⟩ := lies_num h0
  obtain ⟨nn, rfl, o1⟩ := lies_num h1
  show C 8 [.int .i64 wh, .int .i64 nn] h yes
  refine run8 ?_
  unfold sh8
  obtain ⟨N, hN, e2⟩ : ∃ N : Nat, N ≤ 2100 ∧ mxA [.int .i64 0, .int .i64 (if 2100 < nn then 2100 else nn)] = some (.int .i64 N) := by
    refine ⟨(if 0 < (if 2100 < nn then 2100 else nn) then (if 2100 < nn then 2100 else nn) else 0 : Int).toNat, by split <;> split <;> omega, ?_⟩
    simp only [mxA, maxInt, if_true, Option.some.injEq, AV.int.injEq, true_and]
    split <;> split <;> omega
  have e1 : mnA [.int .i64 nn, .int .i64 2100] = some (.int .i64 (if 2100 < nn then 2100 else nn)) := by simp [mnA, minInt]
  rw [e1, valA_some, e2, valA_some]
  refine box_r rfl fun b6 hb6 => ?_
  have g6 : (h.set b6 (.live zM 34 true)).get b6 = some (.live zM 34 true) := H.get_same ..
  change valA _ (h.set b6 (.live zM 34 true)) _
  generalize h.set b6 (.live zM 34 true) = h1 at *
  rw [show buildA (fillV [AV.int .i64 0, .int .i64 0, .int .i64 0, .int .i64 0, .int .i64 0, .int .i64 0, .nilsl, .nilsl, .nilsl] [(0, 1, AV.int .i64 5)]) = some (.agg zI) from rfl, valA_some]
  refine box_r rfl fun b7 hb7 => ?_
  rw [show stA (h1.set b7 (.live [AV.int .i64 0, .int .i64 0, .int .i64 0, .int .i64 0, .int .i64 0, .int .i64 0, .nilsl, .nilsl, .nilsl] 24 true)) 9 (.ptr b7 0) (.agg zI) = some (h1.set b7 (.live zI 24 true)) from copy_st rfl rfl rfl, memA_some]
  have d67 : b6 ≠ b7 := fun e => by rw [← e, g6] at hb7; cases hb7
  have g6 : (h1.set b7 (.live zI 24 true)).get b6 = some (.live zM 34 true) := by rw [H.get_other _ _ d67]; exact g6
  have g7 : (h1.set b7 (.live zI 24 true)).get b7 = some (.live zI 24 true) := H.get_same ..
  generalize h1.set b7 (.live zI 24 true) = h2 at *
  rw [show buildA (fillV [AV.nilsl, .int .i64 0, .int .i64 0, .nilsl] []) = some (.agg zF) from rfl, valA_some]
  refine box_r rfl fun b8 hb8 => ?_
  rw [show stA (h2.set b8 (.live [AV.nilsl, .int .i64 0, .int .i64 0, .nilsl] 51 true)) 4 (.ptr b8 0) (.agg zF) = some (h2.set b8 (.live zF 51 true)) from copy_st rfl rfl rfl, memA_some]
  have d68 : b6 ≠ b8 := fun e => by rw [← e, g6] at hb8; cases hb8
  have d78 : b7 ≠ b8 := fun e => by rw [← e, g7] at hb8; cases hb8
  have g : Box3 (h2.set b8 (.live zF 51 true)) (h2.set b8 (.live zF 51 true)) b6 b7 b8 zM zI zF := ⟨Fr.refl _ _, by rw [H.get_other _ _ d68]; exact g6, by rw [H.get_other _ _ d78]; exact g7, H.get_same .., d67, d68, d78⟩
  generalize h2.set b8 (.live zF 51 true) = hB at *
  refine join_r (Done N hB b6 b7 b8) ?_ fun J hJ => ?_
  · intro mo m c z7 z8 h' g r ⟨ok, hw, hc⟩
    have r := r.fr (ws_le _ _)
    have hlen := img_le ok
    have cl := r.shape.1
    have rd : ∀ {h2 : H}, Fr [] h' h2 → h2.read b6 0 7 = some c := fun f => H.read_eq (f b6 _ (by simp) g.g6) (by omega) (by rw [List.drop_zero, List.take_of_length_le (by omega)])
    rw [ldA_read (rd (Fr.refl _ _)), valA_some]
    by_cases q : mo < (N : Int)
    · rw [if_pos q] at hc
      refine encode_c r ok (by rw [most_47]; omega) (fun _ h3 f3 => ?_) (fun q => by rw [hc] at q; cases q)
      rw [ext2, hc]
      simp only [go_sem, reduceIte, Nat.reduceAdd, Nat.reduceSub, Nat.reduceMul, Nat.reducePow, Nat.reduceLT, Nat.reduceLeDiff, Nat.reduceEqDiff, Int.reduceAdd, Int.reduceSub, Int.reduceMul, Int.reduceNeg, Int.reducePow, Int.reduceLT, Int.reduceLE, Int.reduceEq, Int.reduceNe, Int.reduceToNat, Int.toNat_natCast, Nat.zero_add, Nat.add_zero, Nat.mul_one, Nat.one_mul, Bool.not_true, Bool.not_false, ne_eq, not_true_eq_false, not_false_eq_true, Bool.false_eq_true, q]
      exact lives_c fun _ _ => rfl
    · rw [if_neg q] at hc
      refine encode_c r ok (by rw [most_47]; omega) (fun q => absurd hc q) fun _ v h3 f3 w3 => ?_
      rw [ext2, show binOp .gtr .num (.int .i64 (N : Int)) (.int .i64 mo) = some (.bool (decide (mo < (N : Int)))) by simp only [go_sem, reduceIte, Nat.reduceAdd, Nat.reduceSub, Nat.reduceMul, Nat.reducePow, Nat.reduceLT, Nat.reduceLeDiff, Nat.reduceEqDiff, Int.reduceAdd, Int.reduceSub, Int.reduceMul, Int.reduceNeg, Int.reducePow, Int.reduceLT, Int.reduceLE, Int.reduceEq, Int.reduceNe, Int.reduceToNat, Int.toNat_natCast, Nat.zero_add, Nat.add_zero, Nat.mul_one, Nat.one_mul, Bool.not_true, Bool.not_false, ne_eq, not_true_eq_false, not_false_eq_true, Bool.false_eq_true], valA_some, decide_eq_false q, condA_f]
      refine decode_c w3.row (bytes_lt m) (by omega) fun h4 c4 f4 i4 o4 => ?_
      rw [decode_fw ok hc] at i4 o4 ⊢
      rw [ext2]
      refine imgbox_r i4 rfl rfl rfl fun d h5 f5 hd gd rd5 => ?_
      have f35 := (f3.trans f4).trans f5
      simp only [go_sem, reduceIte, Nat.reduceAdd, Nat.reduceSub, Nat.reduceMul, Nat.reducePow, Nat.reduceLT, Nat.reduceLeDiff, Nat.reduceEqDiff, Int.reduceAdd, Int.reduceSub, Int.reduceMul, Int.reduceNeg, Int.reducePow, Int.reduceLT, Int.reduceLE, Int.reduceEq, Int.reduceNe, Int.reduceToNat, Int.toNat_natCast, Nat.zero_add, Nat.add_zero, Nat.mul_one, Nat.one_mul, Bool.not_true, Bool.not_false, ne_eq, not_true_eq_false, not_false_eq_true, Bool.false_eq_true, rd5, rd f35]
      refine same_c (i4.fr f5) (r.fr f35) ok ok fun h6 f6 => ?_
      rw [eqB_self]
      simp only [go_sem, reduceIte, Nat.reduceAdd, Nat.reduceSub, Nat.reduceMul, Nat.reducePow, Nat.reduceLT, Nat.reduceLeDiff, Nat.reduceEqDiff, Int.reduceAdd, Int.reduceSub, Int.reduceMul, Int.reduceNeg, Int.reducePow, Int.reduceLT, Int.reduceLE, Int.reduceEq, Int.reduceNe, Int.reduceToNat, Int.toNat_natCast, Nat.zero_add, Nat.add_zero, Nat.mul_one, Nat.one_mul, Bool.not_true, Bool.not_false, ne_eq, not_true_eq_false, not_false_eq_true, Bool.false_eq_true]
      exact lives_c fun _ _ => rfl
  by_cases q0 : wh = 0
  · rw [b_eql, valA_some, decide_eq_true q0, condA_t]
    refine mk_w (S := [b6, b7, b8]) (Rel := tyR) (n := 2) (x := ⟨false, []⟩) g.alive hN (by decide) rfl rfl (fun _ => ⟨_, rfl, Row.nil ..⟩) fun m1 h2 f2 w => ?_
    have g := g.new f2
    refine g.set6 (by decide) rfl rfl fun h2 f2 g => ?_
    have w := RowOf.up (R := tyR) (fun f r => tyR.fr f r) w (ws_fr (S := [b6, b7, b8]) f2)
    exact hJ 1024 _ _ _ _ _ g ⟨_, _, _, _, _, rfl, w, RowOf.nil .., RowOf.nil .., RowOf.nil .., RowOf.nil ..⟩ (lim0 hN)
  rw [b_eql, valA_some, decide_eq_false q0, condA_f]
  by_cases q1 : wh = 1
  · rw [b_eql, valA_some, decide_eq_true q1, condA_t]
    refine mk_w (S := [b6, b7, b8]) (Rel := shR) (n := 3) (x := ⟨0, [], []⟩) g.alive hN (by decide) rfl rfl (fun _ => ⟨_, rfl, Row.nil ..⟩) fun m1 h2 f2 w => ?_
    have g := g.new f2
    refine g.set6 (by decide) rfl rfl fun h2 f2 g => ?_
    have w := RowOf.up (R := shR) (fun f r => shR.fr f r) w (ws_fr (S := [b6, b7, b8]) f2)
    exact hJ 512 _ _ _ _ _ g ⟨_, _, _, _, _, rfl, RowOf.nil .., w, RowOf.nil .., RowOf.nil .., RowOf.nil ..⟩ (lim1 hN)
  rw [b_eql, valA_some, decide_eq_false q1, condA_f]
  by_cases q2 : wh = 2
  · rw [b_eql, valA_some, decide_eq_true q2, condA_t]
    refine mk_w (S := [b6, b7, b8]) (Rel := fun _ => stR) (n := 1) (x := []) g.alive hN (by decide) rfl rfl (fun _ => rfl) fun m1 h2 f2 w => ?_
    have g := g.new f2
    refine g.set6 (by decide) rfl rfl fun h2 f2 g => ?_
    have w := w.mono (ws_fr (S := [b6, b7, b8]) f2) fun _ _ _ x => x
    exact hJ 256 _ _ _ _ _ g ⟨_, _, _, _, _, rfl, RowOf.nil .., RowOf.nil .., w, RowOf.nil .., RowOf.nil ..⟩ (lim2 hN)
  rw [b_eql, valA_some, decide_eq_false q2, condA_f]
  by_cases q3 : wh = 3
  · rw [b_eql, valA_some, decide_eq_true q3, condA_t]
    refine mk_w (S := [b6, b7, b8]) (Rel := fun _ => stR) (n := 1) (x := []) g.alive hN (by decide) rfl rfl (fun _ => rfl) fun m1 h2 f2 w => ?_
    have g := g.new f2
    refine g.set6 (by decide) rfl rfl fun h2 f2 g => ?_
    have w := w.mono (ws_fr (S := [b6, b7, b8]) f2) fun _ _ _ x => x
    exact hJ 256 _ _ _ _ _ g ⟨_, _, _, _, _, rfl, RowOf.nil .., RowOf.nil .., RowOf.nil .., w, RowOf.nil ..⟩ (lim3 hN)
  rw [b_eql, valA_some, decide_eq_false q3, condA_f]
  by_cases q4 : wh = 4
  · rw [b_eql, valA_some, decide_eq_true q4, condA_t]
    refine mk_w (S := [b6, b7, b8]) (Rel := fnR) (n := 4) (x := zFn) g.alive hN (by decide) rfl rfl (fun _ => ⟨_, _, rfl, Row.nil .., RowOf.nil ..⟩) fun m1 h2 f2 w => ?_
    have g := g.new f2
    refine g.set6 (by decide) rfl rfl fun h2 f2 g => ?_
    have w := RowOf.up (R := fnR) (fun f r => fnR.fr f r) w (ws_fr (S := [b6, b7, b8]) f2)
    exact hJ 1024 _ _ _ _ _ g ⟨_, _, _, _, _, rfl, RowOf.nil .., RowOf.nil .., RowOf.nil .., RowOf.nil .., w⟩ (lim4 hN)
  rw [b_eql, valA_some, decide_eq_false q4, condA_f]
  by_cases q5 : wh = 5
  · rw [b_eql, valA_some, decide_eq_true q5, condA_t]
    refine ints_w (S := [b6, b7, b8]) g.alive hN fun m1 h2 f2 w => ?_
    have g := g.new f2
    rw [show buildA (fillV ([.bool false, .nilsl] : List AV) [(1, 1, .sl m1 0 N (.exact N))]) = some (.agg (List.set ([.bool false, .nilsl] : List AV) 1 (.sl m1 0 N (.exact N)))) from rfl, valA_some]
    refine one_w (S := [b6, b7, b8]) (Rel := tyR) (fun f r => tyR.fr f r) (n := 2) (x := ⟨false, List.replicate N 0⟩) g.alive rfl rfl rfl ⟨_, rfl, w⟩ fun m2 h2 f2 w' => ?_
    have g := g.new f2
    refine g.set6 (by decide) rfl rfl fun h2 f2 g => ?_
    have w' := RowOf.up (R := tyR) (fun f r => tyR.fr f r) w' (ws_fr (S := [b6, b7, b8]) f2)
    exact hJ 512 _ _ _ _ _ g ⟨_, _, _, _, _, rfl, w', RowOf.nil .., RowOf.nil .., RowOf.nil .., RowOf.nil ..⟩ (lim5 hN)
  rw [b_eql, valA_some, decide_eq_false q5, condA_f]
  by_cases q6 : wh = 6
  · rw [b_eql, valA_some, decide_eq_true q6, condA_t]
    refine ints_w (S := [b6, b7, b8]) g.alive hN fun m1 h2 f2 w => ?_
    have g := g.new f2
    rw [show buildA (fillV ([.int .i64 0, .nilsl, .str []] : List AV) [(1, 1, .sl m1 0 N (.exact N))]) = some (.agg (List.set ([.int .i64 0, .nilsl, .str []] : List AV) 1 (.sl m1 0 N (.exact N)))) from rfl, valA_some]
    refine one_w (S := [b6, b7, b8]) (Rel := shR) (fun f r => shR.fr f r) (n := 3) (x := ⟨0, List.replicate N 0, []⟩) g.alive rfl rfl rfl ⟨_, rfl, w⟩ fun m2 h2 f2 w' => ?_
    have g := g.new f2
    refine g.set6 (by decide) rfl rfl fun h2 f2 g => ?_
    have w' := RowOf.up (R := shR) (fun f r => shR.fr f r) w' (ws_fr (S := [b6, b7, b8]) f2)
    exact hJ 200 _ _ _ _ _ g ⟨_, _, _, _, _, rfl, RowOf.nil .., w', RowOf.nil .., RowOf.nil .., RowOf.nil ..⟩ (lim6 hN)
  rw [b_eql, valA_some, decide_eq_false q6, condA_f]
  by_cases q7 : wh = 7
  · rw [b_eql, valA_some, decide_eq_true q7, condA_t]
    refine g.set8 (by decide) rfl rfl fun h2 f2 g => ?_
    rw [ldA_read (g.read8 rfl), valA_some]
    refine one_w (S := [b6, b7, b8]) (Rel := fnR) (fun f r => fnR.fr f r) (n := 4) (x := ⟨[], 0, N, []⟩) g.alive rfl rfl rfl ⟨_, _, rfl, Row.nil .., RowOf.nil ..⟩ fun m1 h2 f2 w => ?_
    have g := g.new f2
    refine g.set6 (by decide) rfl rfl fun h2 f2 g => ?_
    have w := RowOf.up (R := fnR) (fun f r => fnR.fr f r) w (ws_fr (S := [b6, b7, b8]) f2)
    exact hJ 200 _ _ _ _ _ g ⟨_, _, _, _, _, rfl, RowOf.nil .., RowOf.nil .., RowOf.nil .., RowOf.nil .., w⟩ (lim7 hN)
  rw [b_eql, valA_some, decide_eq_false q7, condA_f]
  by_cases q8 : wh = 8
  · rw [b_eql, valA_some, decide_eq_true q8, condA_t]
    refine ints_w (S := [b6, b7, b8]) g.alive hN fun m1 h2 f2 w => ?_
    have g := g.new f2
    refine g.set8 (by decide) rfl rfl fun h2 f2 g => ?_
    have w := w.fr (ws_fr (S := [b6, b7, b8]) f2)
    rw [ldA_read (g.read8 rfl), valA_some]
    refine one_w (S := [b6, b7, b8]) (Rel := fnR) (fun f r => fnR.fr f r) (n := 4) (x := ⟨List.replicate N 0, 0, 0, []⟩) g.alive rfl rfl rfl ⟨_, _, rfl, w, RowOf.nil ..⟩ fun m2 h2 f2 w' => ?_
    have g := g.new f2
    refine g.set6 (by decide) rfl rfl fun h2 f2 g => ?_
    have w' := RowOf.up (R := fnR) (fun f r => fnR.fr f r) w' (ws_fr (S := [b6, b7, b8]) f2)
    exact hJ 200 _ _ _ _ _ g ⟨_, _, _, _, _, rfl, RowOf.nil .., RowOf.nil .., RowOf.nil .., RowOf.nil .., w'⟩ (lim8 hN)
  rw [b_eql, valA_some, decide_eq_false q8, condA_f]
  by_cases q9 : wh = 9
  · rw [b_eql, valA_some, decide_eq_true q9, condA_t]
    refine mk_w (S := [b6, b7, b8]) (Rel := blkR) (n := 2) (x := zBlk) g.alive hN (by decide) rfl rfl (fun _ => ⟨_, _, rfl, Row.nil .., RowOf.nil ..⟩) fun m1 h2 f2 w => ?_
    have g := g.new f2
    refine g.set8 (by decide) rfl rfl fun h2 f2 g => ?_
    have w := RowOf.up (R := blkR) (fun f r => blkR.fr f r) w (ws_fr (S := [b6, b7, b8]) f2)
    rw [ldA_read (g.read8 rfl), valA_some]
    refine one_w (S := [b6, b7, b8]) (Rel := fnR) (fun f r => fnR.fr f r) (n := 4) (x := ⟨[], 0, 0, List.replicate N zBlk⟩) g.alive rfl rfl rfl ⟨_, _, rfl, Row.nil .., w⟩ fun m2 h2 f2 w' => ?_
    have g := g.new f2
    refine g.set6 (by decide) rfl rfl fun h2 f2 g => ?_
    have w' := RowOf.up (R := fnR) (fun f r => fnR.fr f r) w' (ws_fr (S := [b6, b7, b8]) f2)
    exact hJ 2000 _ _ _ _ _ g ⟨_, _, _, _, _, rfl, RowOf.nil .., RowOf.nil .., RowOf.nil .., RowOf.nil .., w'⟩ (lim9 hN)
  rw [b_eql, valA_some, decide_eq_false q9, condA_f]
  by_cases q10 : wh = 10
  · rw [b_eql, valA_some, decide_eq_true q10, condA_t]
    refine ints_w (S := [b6, b7, b8]) g.alive hN fun m1 h2 f2 w => ?_
    have g := g.new f2
    rw [show buildA (fillV ([.nilsl, .nilsl] : List AV) [(0, 1, .sl m1 0 N (.exact N))]) = some (.agg (List.set ([.nilsl, .nilsl] : List AV) 0 (.sl m1 0 N (.exact N)))) from rfl, valA_some]
    refine one_w (S := [b6, b7, b8]) (Rel := blkR) (fun f r => blkR.fr f r) (n := 2) (x := ⟨List.replicate N 0, []⟩) g.alive rfl rfl rfl ⟨_, _, rfl, w, RowOf.nil ..⟩ fun m2 h2 f2 w1 => ?_
    have g := g.new f2
    refine g.set8 (by decide) rfl rfl fun h2 f2 g => ?_
    have w1 := RowOf.up (R := blkR) (fun f r => blkR.fr f r) w1 (ws_fr (S := [b6, b7, b8]) f2)
    rw [ldA_read (g.read8 rfl), valA_some]
    refine one_w (S := [b6, b7, b8]) (Rel := fnR) (fun f r => fnR.fr f r) (n := 4) (x := ⟨[], 0, 0, [⟨List.replicate N 0, []⟩]⟩) g.alive rfl rfl rfl ⟨_, _, rfl, Row.nil .., w1⟩ fun m3 h2 f2 w2 => ?_
    have g := g.new f2
    refine g.set6 (by decide) rfl rfl fun h2 f2 g => ?_
    have w2 := RowOf.up (R := fnR) (fun f r => fnR.fr f r) w2 (ws_fr (S := [b6, b7, b8]) f2)
    exact hJ 200 _ _ _ _ _ g ⟨_, _, _, _, _, rfl, RowOf.nil .., RowOf.nil .., RowOf.nil .., RowOf.nil .., w2⟩ (lim10 hN)
  rw [b_eql, valA_some, decide_eq_false q10, condA_f]
  by_cases q11 : wh = 11
  · rw [b_eql, valA_some, decide_eq_true q11, condA_t]
    refine ints_w (S := [b6, b7, b8]) g.alive hN fun m1 h2 f2 w => ?_
    have g := g.new f2
    refine g.set7 (by decide) rfl rfl fun h2 f2 g => ?_
    have w := w.fr (ws_fr (S := [b6, b7, b8]) f2)
    rw [ldA_read (g.read7 rfl), valA_some]
    refine one_w (S := [b6, b7, b8]) (Rel := insR) (fun f r => insR.fr f r) (n := 9) (x := xIns (List.replicate N 0) ([])) g.alive rfl rfl rfl ⟨_, _, _, rfl, w, Row.nil .., Row.nil ..⟩ fun m2 h2 f2 w1 => ?_
    have g := g.new f2
    rw [show buildA (fillV ([.nilsl, .nilsl] : List AV) [(1, 1, .sl m2 0 1 (.exact 1))]) = some (.agg (List.set ([.nilsl, .nilsl] : List AV) 1 (.sl m2 0 1 (.exact 1)))) from rfl, valA_some]
    refine one_w (S := [b6, b7, b8]) (Rel := blkR) (fun f r => blkR.fr f r) (n := 2) (x := ⟨[], [xIns (List.replicate N 0) ([])]⟩) g.alive rfl rfl rfl ⟨_, _, rfl, Row.nil .., w1⟩ fun m3 h2 f2 w2 => ?_
    have g := g.new f2
    rw [show buildA (fillV ([.nilsl, .int .i64 0, .int .i64 0, .nilsl] : List AV) [(3, 1, .sl m3 0 1 (.exact 1))]) = some (.agg (List.set ([.nilsl, .int .i64 0, .int .i64 0, .nilsl] : List AV) 3 (.sl m3 0 1 (.exact 1)))) from rfl, valA_some]
    refine one_w (S := [b6, b7, b8]) (Rel := fnR) (fun f r => fnR.fr f r) (n := 4) (x := ⟨[], 0, 0, [⟨[], [xIns (List.replicate N 0) ([])]⟩]⟩) g.alive rfl rfl rfl ⟨_, _, rfl, Row.nil .., w2⟩ fun m4 h2 f2 w3 => ?_
    have g := g.new f2
    refine g.set6 (by decide) rfl rfl fun h2 f2 g => ?_
    have w3 := RowOf.up (R := fnR) (fun f r => fnR.fr f r) w3 (ws_fr (S := [b6, b7, b8]) f2)
    exact hJ 1024 _ _ _ _ _ g ⟨_, _, _, _, _, rfl, RowOf.nil .., RowOf.nil .., RowOf.nil .., RowOf.nil .., w3⟩ (lim11 hN)
  rw [b_eql, valA_some, decide_eq_false q11, condA_f]
  by_cases q12 : wh = 12
  · rw [b_eql, valA_some, decide_eq_true q12, condA_t]
    refine ints_w (S := [b6, b7, b8]) g.alive hN fun m1 h2 f2 w => ?_
    have g := g.new f2
    refine g.set7 (by decide) rfl rfl fun h2 f2 g => ?_
    have w := w.fr (ws_fr (S := [b6, b7, b8]) f2)
    rw [ldA_read (g.read7 rfl), valA_some]
    refine one_w (S := [b6, b7, b8]) (Rel := insR) (fun f r => insR.fr f r) (n := 9) (x := xIns ([]) (List.replicate N 0)) g.alive rfl rfl rfl ⟨_, _, _, rfl, Row.nil .., Row.nil .., w⟩ fun m2 h2 f2 w1 => ?_
    have g := g.new f2
    rw [show buildA (fillV ([.nilsl, .nilsl] : List AV) [(1, 1, .sl m2 0 1 (.exact 1))]) = some (.agg (List.set ([.nilsl, .nilsl] : List AV) 1 (.sl m2 0 1 (.exact 1)))) from rfl, valA_some]
    refine one_w (S := [b6, b7, b8]) (Rel := blkR) (fun f r => blkR.fr f r) (n := 2) (x := ⟨[], [xIns ([]) (List.replicate N 0)]⟩) g.alive rfl rfl rfl ⟨_, _, rfl, Row.nil .., w1⟩ fun m3 h2 f2 w2 => ?_
    have g := g.new f2
    rw [show buildA (fillV ([.nilsl, .int .i64 0, .int .i64 0, .nilsl] : List AV) [(3, 1, .sl m3 0 1 (.exact 1))]) = some (.agg (List.set ([.nilsl, .int .i64 0, .int .i64 0, .nilsl] : List AV) 3 (.sl m3 0 1 (.exact 1)))) from rfl, valA_some]
    refine one_w (S := [b6, b7, b8]) (Rel := fnR) (fun f r => fnR.fr f r) (n := 4) (x := ⟨[], 0, 0, [⟨[], [xIns ([]) (List.replicate N 0)]⟩]⟩) g.alive rfl rfl rfl ⟨_, _, rfl, Row.nil .., w2⟩ fun m4 h2 f2 w3 => ?_
    have g := g.new f2
    refine g.set6 (by decide) rfl rfl fun h2 f2 g => ?_
    have w3 := RowOf.up (R := fnR) (fun f r => fnR.fr f r) w3 (ws_fr (S := [b6, b7, b8]) f2)
    exact hJ 200 _ _ _ _ _ g ⟨_, _, _, _, _, rfl, RowOf.nil .., RowOf.nil .., RowOf.nil .., RowOf.nil .., w3⟩ (lim12 hN)
  rw [b_eql, valA_some, decide_eq_false q12, condA_f]
  exact lives_c fun _ _ => rfl
end Go.Proofs.Ytgcnliikibbcnaa.X
