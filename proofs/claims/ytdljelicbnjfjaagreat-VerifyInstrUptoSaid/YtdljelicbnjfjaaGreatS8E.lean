/- What the law needs (5): the plain machine, functions' contracts, plain facts; put together out of texts of one's own. -/
import Derived.Test.YtdljelicbnjfjaaGreatS8D
set_option linter.unusedVariables false
set_option linter.unusedSimpArgs false
set_option maxRecDepth 100000
namespace Go.Proofs.YtdljelicbnjfjaaGreat.X
open Go Go.RowKit
section
variable {h : H}
set_option maxHeartbeats 1000000 in
theorem rbig_c {m : Img} {c : List AV} (r : imgR h m c) (ok : m.ok) {K : AV -> H -> Prop} (hK : ∀ h',Fr [] h h' -> K (.bool (MP m)) h') : C 61 [.agg c] h K:=by
 refine run61 ?_
 have hl:=r.leaves
 have ec : (AV.agg c).cells = c:=rfl
 obtain ⟨⟨k1,k1'⟩,⟨k2,k2'⟩,⟨k3,k3'⟩,⟨k4,k4'⟩,⟨k5,k5'⟩,_⟩:=ok
 unfold sh61 zL zE zF zH
 rw [ec]
 refine BH hl fun b hb=>?_
 have f : Fr [] h (h.set b (.live c 28 true)):=(Fr.refl _ _).set' hb
 have gb : (h.set b (.live c 28 true)).get b = some (.live c 28 true):=H.get_same ..
 have r1:=r.fr f
 generalize h.set b (.live c 28 true) = h1 at *
 obtain ⟨vt,vs,vx,vn,vf,rfl,r1,r2,r3,r4,r5⟩:=r1
 have cb : ∀ {h2},Fr [] h1 h2 -> ∀ o v,([vt,vs,vx,vn,vf,AV.int .i64 m.main,.int .i64 m.exn] : List AV)[o]? = some v -> h2.cell b o = some v:=fun f2 o v e=>by rw [AD (f2 b _ (by simp) gb)]; exact e
 refine BC (cb (Fr.refl _ _) 0 _ rfl) ?_
 rw [r1.len,AB,J9,AB]
 refine HQ (cb (Fr.refl _ _) 1 _ rfl) r2.len (HQ (cb (Fr.refl _ _) 2 _ rfl) r3.len (HQ (cb (Fr.refl _ _) 3 _ rfl) r4.len (HQ (cb (Fr.refl _ _) 4 _ rfl) r5.len ?_)))
 show AC (.bool (HR m)) _ _
 have eN : MP m = (HR m || (m.types.any IX || (m.shapes.any FY || (m.strs.any G1 || (m.names.any G1 || DV 0 m.fns))))):=by
  unfold MP
  cases HR m <;> cases m.types.any IX <;> cases m.shapes.any FY <;> cases m.strs.any G1 <;> cases m.names.any G1 <;> rfl
 rw [eN] at hK
 cases hT : HR m with
 | true=>
  rw [hT,Bool.true_or] at hK
  rw [AZ]
  exact hK h1 f
 | false=>
  rw [hT,Bool.false_or] at hK
  rw [AO]
  clear hT
  refine AI (fun (J : H -> Prop)=>∀ h',Fr [] h1 h' -> m.types.any IX = false -> J h') ?_ fun J hJ=>?_
  ·intro h6 f16 hty
   rw [hty,Bool.false_or] at hK
   refine AI (fun (J : H -> Prop)=>∀ h',Fr [] h1 h' -> m.shapes.any FY = false -> J h') ?_ fun J hJ=>?_
   ·intro h7 f17 hsh
    rw [hsh,Bool.false_or] at hK
    refine AI (fun (J : H -> Prop)=>∀ h',Fr [] h1 h' -> m.strs.any G1 = false -> J h') ?_ fun J hJ=>?_
    ·intro h71 f171 hst
     rw [hst,Bool.false_or] at hK
     refine AI (fun (J : H -> Prop)=>∀ h',Fr [] h1 h' -> m.names.any G1 = false -> J h') ?_ fun J hJ=>?_
     ·intro h72 f17 hnm
      rw [hnm,Bool.false_or] at hK
      refine AI (fun (J : H -> Prop)=>∀ h',Fr [] h1 h' -> DV 0 m.fns = false -> J h') (fun h' f' e=>by have:=hK h' (f.trans f'); rw [e] at this; exact this) fun J hJ=>?_
      refine BC (cb f17 4 _ rfl) ?_
      rw [r5.len,AB]
      refine AS (m.fns.length + 1) (fun k ls h2=>∃ (i : Nat) (n : Int),ls = [.int .i64 n,.int .i64 i] /\ i <= m.fns.length /\ 0 <= n /\ n <= 20000 /\ Fr [] h1 h2 /\ DV 0 m.fns = DV n (m.fns.drop i) /\ k = m.fns.length + 1 - i) ⟨0,0,rfl,by omega,by omega,by omega,f17,rfl,rfl⟩ ?_
      rintro k ls h8 ⟨i,n,rfl,hi,n0,n1,f18,hbf,rfl⟩
      have hr : reachBytes <= 4611686018427387903:=by decide
      by_cases q : (i : Int) < m.fns.length
      ·have hi' : i < m.fns.length:=by omega
       obtain ⟨x,hx⟩ : ∃ x,m.fns[i]? = some x:=⟨m.fns[i],by simp [hi']⟩
       have hd : m.fns.drop i = x :: m.fns.drop (i + 1):=by
        rw [List.drop_eq_getElem_cons hi']; congr 1
        rw [List.getElem?_eq_getElem hi'] at hx; injection hx
       rw [hd,DV] at hbf
       obtain ⟨o1,o2,o3,o4,o5⟩:=k5' x (List.mem_of_getElem? hx)
       obtain ⟨bo,o,c,e1,e2,e3,e4,e5⟩:=(r5.mono f18 fun _ _ _ z=>z.fr f18).el hx
       have en : IntKind.i64.wrap ((i : Int) + 1) = ((i + 1 : Nat) : Int):=by rw [A0 (by omega) (by omega)]; rfl
       simp only [BE,CJ,BO,AB,q,decide_true,AZ,AJ,e1,CK e4]
       refine BH rfl fun d hdd=>?_
       rw [HG e3 rfl e2.leaves,A3]
       have fd : Fr [] h8 (h8.set d (.live c 39 true)):=(Fr.refl _ _).set' hdd
       have gd : (h8.set d (.live c 39 true)).get d = some (.live c 39 true):=H.get_same ..
       have f19:=f18.trans fd
       have e2':=e2.fr fd
       generalize h8.set d (.live c 39 true) = h9 at *
       obtain ⟨vp,vb,rfl,q1,q2⟩:=e2'
       have cd : ∀ {h3},Fr [] h9 h3 -> ∀ o w,([vp,AV.int .i64 x.result,.int .i64 x.slots,vb] : List AV)[o]? = some w -> h3.cell d o = some w:=fun f3 o w e=>by rw [AD (f3 d _ (by simp) gd)]; exact e
       refine BC (cd (Fr.refl _ _) 2 _ rfl) ?_
       rw [J9,AB]
       refine HQ (cd (Fr.refl _ _) 0 _ rfl) q1.len ?_
       refine HQ (cd (Fr.refl _ _) 3 _ rfl) q2.len ?_
       have f911:=Fr.refl [] h9
       cases hp : ((decide (200 < x.slots) || decide (200 < (x.params.length : Int))) || decide (2000 < (x.blocks.length : Int))) with
       | true=>
        rw [hp,if_pos rfl] at hbf
        rw [hbf] at hK
        rw [AZ]
        exact hK h9 (f.trans f19)
       | false=>
        rw [hp,if_neg (by decide)] at hbf
        rw [AO]
        refine BC (cd f911 3 _ rfl) ?_
        rw [q2.len,AB]
        refine AS (x.blocks.length + 1) (fun k ls h2=>∃ (j : Nat) (n' : Int),ls = [.int .i64 n',.int .i64 j] /\ j <= x.blocks.length /\ 0 <= n' /\ n' <= 20000 /\ Fr [] h9 h2 /\ D4 n x.blocks = D4 n' (x.blocks.drop j) /\ k = x.blocks.length + 1 - j) ⟨0,n,rfl,by omega,n0,n1,f911,rfl,rfl⟩ ?_
        rintro k ls h12 ⟨j,n',rfl,hj,n0',n1',f912,hbb,rfl⟩
        by_cases q' : (j : Int) < x.blocks.length
        ·have hj' : j < x.blocks.length:=by omega
         obtain ⟨y,hy⟩ : ∃ y,x.blocks[j]? = some y:=⟨x.blocks[j],by simp [hj']⟩
         have hd2 : x.blocks.drop j = y :: x.blocks.drop (j + 1):=by
          rw [List.drop_eq_getElem_cons hj']; congr 1
          rw [List.getElem?_eq_getElem hj'] at hy; injection hy
         rw [hd2,D4] at hbb
         obtain ⟨p1,p2,p3⟩:=o5 y (List.mem_of_getElem? hy)
         obtain ⟨bo2,oo2,c2,e1',e2',e3',e4',e5'⟩:=(q2.mono f912 fun _ _ _ z=>z.fr f912).el hy
         have en2 : IntKind.i64.wrap ((j : Int) + 1) = ((j + 1 : Nat) : Int):=by rw [A0 (by omega) (by omega)]; rfl
         simp only [BE,CJ,BO,AB,q',decide_true,AZ,e1',CK e4']
         refine BH rfl fun d2 hdd2=>?_
         rw [HG e3' rfl e2'.leaves,A3]
         have fd2 : Fr [] h12 (h12.set d2 (.live c2 42 true)):=(Fr.refl _ _).set' hdd2
         have gd2 : (h12.set d2 (.live c2 42 true)).get d2 = some (.live c2 42 true):=H.get_same ..
         have f913:=f912.trans fd2
         have e2'':=e2'.fr fd2
         generalize h12.set d2 (.live c2 42 true) = h13 at *
         obtain ⟨vi,vc,rfl,q3,q4⟩:=e2''
         have cd2 : ∀ {h3},Fr [] h13 h3 -> ∀ o w,([vi,vc] : List AV)[o]? = some w -> h3.cell d2 o = some w:=fun f3 o w e=>by rw [AD (f3 d2 _ (by simp) gd2)]; exact e
         have es : IntKind.i64.wrap (n' + (y.code.length : Int)) = n' + y.code.length:=A0 (by omega) (by omega)
         refine BC (cd2 (Fr.refl _ _) 1 _ rfl) ?_
         rw [q4.len,AB,BS,AB,es,J9,AB]
         refine HQ (cd2 (Fr.refl _ _) 0 _ rfl) q3.len ?_
         have f14':=Fr.refl [] h13
         cases hp2 : (decide (20000 < n' + (y.code.length : Int)) || decide (200 < (y.inn.length : Int))) with
         | true=>
          rw [hp2,Bool.true_or,if_pos rfl] at hbb
          rw [hbb,Bool.true_or] at hbf
          rw [hbf] at hK
          rw [AZ]
          exact hK h13 (f.trans (f19.trans f913))
         | false=>
          rw [hp2,Bool.false_or] at hbb
          simp only [Bool.or_eq_false_iff,decide_eq_false_iff_not] at hp2
          rw [AO]
          refine BC (cd2 f14' 1 _ rfl) ?_
          rw [q4.len,AB]
          refine GO (esz:=9) (ty:=55) (zs:=[.int .i64 0,.int .i64 0,.int .i64 0,.int .i64 0,.int .i64 0,.int .i64 0,.nilsl,.nilsl,.nilsl]) (lv:=vc) (Rel:=insR) (P:=IV) (X:=K (.bool true)) (fun f r=>r.fr f) (fun r=>r.leaves) rfl rfl (q4.mono f14' fun _ _ _ z=>z.fr f14') p2
           (fun h2 f2 e=>?_) (fun h2 f2 e=>?_) fun N i' z hz en3 h2 d3 c3 f2 gd3 rr hcl hN hX=>?_
          ·rw [e,if_pos rfl] at hbb
           rw [hbb,Bool.true_or] at hbf
           rw [hbf] at hK
           exact hK h2 (f.trans (f19.trans ((f913.trans f14').trans f2)))
          ·rw [e,if_neg (by decide)] at hbb
           rw [BS,AB,en2]
           exact ⟨x.blocks.length + 1 - (j + 1),by omega,j + 1,n' + y.code.length,rfl,by omega,by omega,by omega,(f913.trans f14').trans f2,hbb,rfl⟩
          ·obtain ⟨vl,vm,vv,rfl,t1,t2,t3⟩:=rr
           have cd3 : ∀ o w,(IM z vl vm vv)[o]? = some w -> h2.cell d3 o = some w:=fun o w e=>by rw [AD gd3]; exact e
           refine BC (cd3 6 _ rfl) ?_
           rw [t1.len,AB,J9,AB]
           refine HQ (cd3 7 _ rfl) t2.len (HQ (cd3 8 _ rfl) t3.len ?_)
           have f3:=Fr.refl [] h2
           show AC (.bool (IV z)) _ _
           cases hp3 : IV z with
           | true=>rw [AZ]; exact hX h2 f3 hp3
           | false=>rw [AO,BS,AB,en3]; exact hN h2 f3 hp3
        ·have : x.blocks.drop j = []:=List.drop_eq_nil_of_le (by omega)
         rw [this,D4] at hbb
         rw [hbb,Bool.false_or] at hbf
         simp only [BE,CJ,BO,AB,q',decide_false,AO,BS,en]
         exact ⟨m.fns.length + 1 - (i + 1),by omega,i + 1,n',rfl,by omega,n0',n1',f19.trans f912,hbf,rfl⟩
      ·have : m.fns.drop i = []:=List.drop_eq_nil_of_le (by omega)
       rw [this,DV] at hbf
       simp only [BE,CJ,BO,AB,q,decide_false,AO]
       exact hJ h8 f18 hbf
     ·refine BC (cb f171 3 _ rfl) ?_
      rw [r4.len,AB]
      refine U0 (P:=G1) (X:=K (.bool true)) ((HW r4).fr f171) k4 (fun h2 f2 e=>by rw [e,Bool.true_or] at hK; exact hK h2 (f.trans (f171.trans f2))) (fun h2 f2 e=>hJ h2 (f171.trans f2) e) fun N i x hx en h2 f2 hN hX=>?_
      rw [show AF true (AV.str x) = some (.int .i64 x.length) from rfl,AB,J9,AB]
      show AC (.bool (G1 x)) _ _
      cases hp : G1 x with
      | true=>rw [AZ]; exact hX h2 (Fr.refl _ _) hp
      | false=>rw [AO,BS,AB,en]; exact hN h2 (Fr.refl _ _) hp
    ·refine BC (cb f17 2 _ rfl) ?_
     rw [r3.len,AB]
     refine U0 (P:=G1) (X:=K (.bool true)) ((HW r3).fr f17) k3 (fun h2 f2 e=>by rw [e,Bool.true_or] at hK; exact hK h2 (f.trans (f17.trans f2))) (fun h2 f2 e=>hJ h2 (f17.trans f2) e) fun N i x hx en h2 f2 hN hX=>?_
     rw [show AF true (AV.str x) = some (.int .i64 x.length) from rfl,AB,J9,AB]
     show AC (.bool (G1 x)) _ _
     cases hp : G1 x with
     | true=>rw [AZ]; exact hX h2 (Fr.refl _ _) hp
     | false=>rw [AO,BS,AB,en]; exact hN h2 (Fr.refl _ _) hp
   ·refine BC (cb f16 1 _ rfl) ?_
    rw [r2.len,AB]
    refine GO (esz:=3) (ty:=61) (zs:=[.int .i64 0,.nilsl,.str []]) (lv:=vs) (Rel:=shR) (P:=FY) (X:=K (.bool true)) (fun f r=>r.fr f) (fun r=>r.leaves) rfl rfl (r2.mono f16 fun _ _ _ z=>z.fr f16) k2 (fun h2 f2 e=>by rw [e,Bool.true_or] at hK; exact hK h2 (f.trans (f16.trans f2))) (fun h2 f2 e=>hJ h2 (f16.trans f2) e) fun N i x hx en h2 d c f2 gd rr hcl hN hX=>?_
    obtain ⟨v,rfl,q1⟩:=rr
    have cd : ∀ o w,([AV.int .i64 x.kind,v,.str x.name] : List AV)[o]? = some w -> h2.cell d o = some w:=fun o w e=>by rw [AD gd]; exact e
    refine BC (cd 1 _ rfl) ?_
    rw [q1.len,AB,J9,AB]
    refine HQ (cd 2 _ rfl) (n:=x.name.length) rfl ?_
    show AC (.bool (FY x)) _ _
    cases hp : FY x with
    | true=>rw [AZ]; exact hX h2 (Fr.refl _ _) hp
    | false=>rw [AO,BS,AB,en]; exact hN h2 (Fr.refl _ _) hp
  ·refine BC (cb (Fr.refl _ _) 0 _ rfl) ?_
   rw [r1.len,AB]
   refine GO (esz:=2) (ty:=46) (zs:=[.bool false,.nilsl]) (lv:=vt) (Rel:=tyR) (P:=IX) (X:=K (.bool true)) (fun f r=>r.fr f) (fun r=>r.leaves) rfl rfl r1 k1 (fun h2 f2 e=>by rw [e,Bool.true_or] at hK; exact hK h2 (f.trans f2)) (fun h2 f2 e=>hJ h2 f2 e) fun N i x hx en h2 d c f2 gd rr hcl hN hX=>?_
   obtain ⟨v,rfl,q1⟩:=rr
   have cd : ∀ o w,([AV.bool x.imm,v] : List AV)[o]? = some w -> h2.cell d o = some w:=fun o w e=>by rw [AD gd]; exact e
   refine BC (cd 1 _ rfl) ?_
   rw [q1.len,AB,J9,AB]
   show AC (.bool (IX x)) _ _
   cases hp : IX x with
   | true=>rw [AZ]; exact hX h2 (Fr.refl _ _) hp
   | false=>rw [AO,BS,AB,en]; exact hN h2 (Fr.refl _ _) hp
end
def DQ (x : Ins) : Bool:=!LX x
def OW (b : Blk) : Bool:=b.code.any DQ
def OV (f : Fn) : Bool:=f.blocks.any OW
def DU (m : Img) : Int:=if MP m then 2 else if m.fns.any OV then 1 else 0
section
variable {h : H}
theorem XT {m : Img} {c : List AV} (r : imgR h m c) (ok : m.ok) {K : AV -> H -> Prop} (hK : ∀ h',Fr [] h h' -> K (.int .i64 (DU m)) h') : C 19 [.agg c] h K:=by
 refine run19 ?_
 have hl:=r.leaves
 have ec : (AV.agg c).cells = c:=rfl
 obtain ⟨vt,vs,vx,vn,vf,hcs,_⟩:=id r
 have hcl : c.length = 7:=by rw [hcs]; rfl
 unfold sh19 zF
 rw [ec]
 refine BH hl fun b hb=>?_
 have f : Fr [] h (h.set b (.live c 28 true)):=(Fr.refl _ _).set' hb
 have gb : (h.set b (.live c 28 true)).get b = some (.live c 28 true):=H.get_same ..
 have r1:=r.fr f
 have rd : (h.set b (.live c 28 true)).read b 0 7 = some c:=H.read_eq gb (by omega) (by rw [List.drop_zero,List.take_of_length_le (by omega)])
 generalize h.set b (.live c 28 true) = h1 at *
 rw [CK rd,AB]
 refine rbig_c r1 ok fun h2 f2=>?_
 have ff:=f.trans f2
 cases hb : MP m with
 | true=>
  have e : DU m = 2:=by unfold DU; rw [hb]; rfl
  rw [e] at hK
  rw [AZ]
  exact hK h2 ff
 | false=>
  have e : DU m = if m.fns.any OV then 1 else 0:=by unfold DU; rw [hb]; rfl
  rw [e] at hK
  rw [AO]
  obtain ⟨⟨k1,k1'⟩,⟨k2,k2'⟩,⟨k3,k3'⟩,⟨k4,k4'⟩,⟨k5,k5'⟩,_⟩:=ok
  have r2:=r1.fr f2
  have gb2:=f2 b _ (by simp) gb
  obtain ⟨vt,vs,vx,vn,vf,rfl,_,_,_,_,r5⟩:=r2
  refine AI (fun (J : H -> Prop)=>∀ h',Fr [] h2 h' -> m.fns.any OV = false -> J h') (fun h' f' e=>by have:=hK h' (ff.trans f'); rw [e] at this; exact this) fun J hJ=>?_
  refine BC (v:=vf) (by rw [AD gb2]; rfl) ?_
  rw [r5.len,AB]
  simp only [AJ]
  refine GO (esz:=4) (ty:=39) (zs:=[.nilsl,.int .i64 0,.int .i64 0,.nilsl]) (lv:=vf) (Rel:=fnR) (P:=OV) (X:=K (.int .i64 1)) (fun f r=>r.fr f) (fun r=>r.leaves) rfl rfl r5 k5 (fun h3 f3 e=>by have:=hK h3 (ff.trans f3); rw [e] at this; exact this) (fun h3 f3 e=>hJ h3 f3 e) fun N i x hx en h3 d c f3 gd rr hcl hN hX=>?_
  obtain ⟨o1,o2,o3,o4,o5⟩:=k5' x hx
  obtain ⟨vp,vb,rfl,q1,q2⟩:=rr
  refine BC (v:=vb) (by rw [AD gd]; rfl) ?_
  rw [q2.len,AB]
  refine GO (esz:=2) (ty:=42) (zs:=[.nilsl,.nilsl]) (lv:=vb) (Rel:=blkR) (P:=OW) (X:=K (.int .i64 1)) (fun f r=>r.fr f) (fun r=>r.leaves) rfl rfl q2 o4 (fun h4 f4 e=>hX h4 f4 e) (fun h4 f4 e=>by rw [BS,AB,en]; exact hN h4 f4 e) fun N' j y hy en' h4 d' c' f4 gd' rr' hcl' hN' hX'=>?_
  obtain ⟨p1,p2,p3⟩:=o5 y hy
  obtain ⟨vi,vc,rfl,q3,q4⟩:=rr'
  refine BC (v:=vc) (by rw [AD gd']; rfl) ?_
  rw [q4.len,AB]
  refine GO (esz:=9) (ty:=55) (zs:=[.int .i64 0,.int .i64 0,.int .i64 0,.int .i64 0,.int .i64 0,.int .i64 0,.nilsl,.nilsl,.nilsl]) (lv:=vc) (Rel:=insR) (P:=DQ) (X:=K (.int .i64 1)) (fun f r=>r.fr f) (fun r=>r.leaves) rfl rfl q4 p2 (fun h5 f5 e=>hX' h5 f5 e) (fun h5 f5 e=>by rw [BS,AB,en']; exact hN' h5 f5 e) fun N'' k z hz en'' h5 d'' c'' f5 gd'' rr'' hcl'' hN'' hX''=>?_
  have rd2 : h5.read d'' 0 9 = some c'':=H.read_eq gd'' (by omega) (by rw [List.drop_zero,List.take_of_length_le (by omega)])
  rw [CK rd2,AB]
  refine XQ rr'' fun h6 f6=>?_
  rw [RK,AB]
  show AC (.bool (DQ z)) _ _
  cases hp : DQ z with
  | true=>rw [AZ]; exact hX'' h6 f6 hp
  | false=>rw [AO,BS,AB,en'']; exact hN'' h6 f6 hp
theorem WR {x : Ins} {c : List AV} (r : insR h x c) {K : AV -> H -> Prop} (hK : ∀ h',Fr [] h h' -> K (.bool (DQ x)) h') : C 89 [.agg c] h K:=by
 refine run89 ?_
 have hl:=r.leaves
 have ec : (AV.agg c).cells = c:=rfl
 obtain ⟨vl,vm,vv,hcs,_⟩:=id r
 have hcl : c.length = 9:=by rw [hcs]; rfl
 unfold sh89
 rw [ec]
 refine BH hl fun b hb=>?_
 have f : Fr [] h (h.set b (.live c 55 true)):=(Fr.refl _ _).set' hb
 have rd : (h.set b (.live c 55 true)).read b 0 9 = some c:=H.read_eq (H.get_same ..) (by omega) (by rw [List.drop_zero,List.take_of_length_le (by omega)])
 rw [CK rd,AB]
 refine plain_c (r.fr f) fun h2 f2=>?_
 rw [RK,AB]
 exact hK h2 (f.trans f2)
theorem idx71_c {lv : AV} {l : List Ins} (r : RowOf h 9 (insR h) lv l) (hl : l.length <= reachBytes) {K : AV -> H -> Prop} (hK : ∀ h' (n : Int),Fr [] h h' -> (0 <= n ↔ l.any DQ = true) -> K (.int .i64 n) h') : C 139 [lv,.fn 89 [] []] h K:=by
 refine run139 ?_
 have hr : reachBytes <= 4611686018427387903:=by decide
 simp only [sh139,go_sem,reduceIte,r.len]
 refine AI (fun (J : H -> Prop)=>∀ h',Fr [] h h' -> l.any DQ = false -> J h') (fun h' f' e=>hK h' _ f' (by rw [e]; simp)) fun J hJ=>?_
 refine AS (l.length + 1) (fun k ls h2=>∃ i : Nat,ls = [.int .i64 i] /\ i <= l.length /\ l.any DQ = (l.drop i).any DQ /\ Fr [] h h2 /\ k = l.length + 1 - i) ⟨0,rfl,by omega,rfl,Fr.refl _ _,rfl⟩ ?_
 rintro k ls h2 ⟨i,rfl,hi,ha,f,rfl⟩
 by_cases q : (i : Int) < l.length
 ·have hi' : i < l.length:=by omega
  obtain ⟨x,hx⟩ : ∃ x,l[i]? = some x:=⟨l[i],by simp [hi']⟩
  have hd : l.drop i = x :: l.drop (i + 1):=by
   rw [List.drop_eq_getElem_cons hi']; congr 1
   rw [List.getElem?_eq_getElem hi'] at hx; injection hx
  rw [hd,List.any_cons] at ha
  obtain ⟨b,o,c,e1,e2,e3,e4,e5⟩:=(r.mono f fun _ _ _ z=>z.fr f).el hx
  have en : IntKind.i64.wrap ((i : Int) + 1) = ((i + 1 : Nat) : Int):=by rw [A0 (by omega) (by omega)]; rfl
  simp only [BE,BO,AB,q,decide_true,AZ,e1,CK e4,bO,List.cons_append,List.nil_append,List.append_nil]
  refine WR e2 fun h3 f3=>?_
  cases hp : DQ x with
  | true=>
   rw [hp,Bool.true_or] at ha
   rw [AZ]
   exact hK h3 i (f.trans f3) (by rw [ha]; simp)
  | false=>
   rw [hp,Bool.false_or] at ha
   rw [AO]
   simp only [go_sem,reduceIte,en]
   exact ⟨l.length + 1 - (i + 1),by omega,i + 1,rfl,by omega,ha,f.trans f3,rfl⟩
 ·have : l.drop i = []:=List.drop_eq_nil_of_le (by omega)
  rw [this] at ha
  simp only [go_sem,reduceIte,q]
  exact hJ h2 f ha
theorem Q7 {lv : AV} {l : List Ins} (r : RowOf h 9 (insR h) lv l) (hl : l.length <= reachBytes) {K : AV -> H -> Prop} (hK : ∀ h',Fr [] h h' -> K (.bool (l.any DQ)) h') : C 88 [lv,.fn 89 [] []] h K:=by
 refine run88 ?_
 unfold sh88
 refine idx71_c r hl fun h' n f' hn=>?_
 have hK:=hK h' f'
 cases ha : l.any DQ with
 | true=>
  rw [ha] at hK
  have : 0 <= n:=hn.2 ha
  simp only [go_sem,reduceIte,this]; exact hK
 | false=>
  rw [ha] at hK
  have : ¬ 0 <= n:=fun q=>by rw [hn.1 q] at ha; cases ha
  simp only [go_sem,reduceIte,this]; exact hK
theorem check_c {m : Img} {c : List AV} (r : imgR h m c) (ok : m.ok) {K : AV -> H -> Prop} (hK : ∀ h',Fr [] h h' -> K (.int .i64 (DU m)) h') : C 43 [.agg c] h K:=by
 refine run43 ?_
 have hl:=r.leaves
 have ec : (AV.agg c).cells = c:=rfl
 obtain ⟨vt,vs,vx,vn,vf,hcs,_⟩:=id r
 have hcl : c.length = 7:=by rw [hcs]; rfl
 unfold sh43 zF
 rw [ec]
 refine BH hl fun b hb=>?_
 have f : Fr [] h (h.set b (.live c 28 true)):=(Fr.refl _ _).set' hb
 have gb : (h.set b (.live c 28 true)).get b = some (.live c 28 true):=H.get_same ..
 have r1:=r.fr f
 have rd : (h.set b (.live c 28 true)).read b 0 7 = some c:=H.read_eq gb (by omega) (by rw [List.drop_zero,List.take_of_length_le (by omega)])
 generalize h.set b (.live c 28 true) = h1 at *
 rw [CK rd,AB]
 refine big_c r1 ok fun h2 f2=>?_
 have ff:=f.trans f2
 cases hb : MP m with
 | true=>
  have e : DU m = 2:=by unfold DU; rw [hb]; rfl
  rw [e] at hK
  rw [AZ]
  exact hK h2 ff
 | false=>
  have e : DU m = if m.fns.any OV then 1 else 0:=by unfold DU; rw [hb]; rfl
  rw [e] at hK
  rw [AO]
  obtain ⟨⟨k1,k1'⟩,⟨k2,k2'⟩,⟨k3,k3'⟩,⟨k4,k4'⟩,⟨k5,k5'⟩,_⟩:=ok
  have r2:=r1.fr f2
  have gb2:=f2 b _ (by simp) gb
  obtain ⟨vt,vs,vx,vn,vf,rfl,_,_,_,_,r5⟩:=r2
  refine AI (fun (J : H -> Prop)=>∀ h',Fr [] h2 h' -> m.fns.any OV = false -> J h') (fun h' f' e=>by have:=hK h' (ff.trans f'); rw [e] at this; exact this) fun J hJ=>?_
  refine BC (v:=vf) (by rw [AD gb2]; rfl) ?_
  rw [r5.len,AB]
  simp only [AJ]
  refine GO (esz:=4) (ty:=39) (zs:=[.nilsl,.int .i64 0,.int .i64 0,.nilsl]) (lv:=vf) (Rel:=fnR) (P:=OV) (X:=K (.int .i64 1)) (fun f r=>r.fr f) (fun r=>r.leaves) rfl rfl r5 k5 (fun h3 f3 e=>by have:=hK h3 (ff.trans f3); rw [e] at this; exact this) (fun h3 f3 e=>hJ h3 f3 e) fun N i x hx en h3 d c f3 gd rr hcl hN hX=>?_
  obtain ⟨o1,o2,o3,o4,o5⟩:=k5' x hx
  obtain ⟨vp,vb,rfl,q1,q2⟩:=rr
  refine BC (v:=vb) (by rw [AD gd]; rfl) ?_
  rw [q2.len,AB]
  refine GO (esz:=2) (ty:=42) (zs:=[.nilsl,.nilsl]) (lv:=vb) (Rel:=blkR) (P:=OW) (X:=K (.int .i64 1)) (fun f r=>r.fr f) (fun r=>r.leaves) rfl rfl q2 o4 (fun h4 f4 e=>hX h4 f4 e) (fun h4 f4 e=>by rw [BS,AB,en]; exact hN h4 f4 e) fun N' j y hy en' h4 d' c' f4 gd' rr' hcl' hN' hX'=>?_
  obtain ⟨p1,p2,p3⟩:=o5 y hy
  obtain ⟨vi,vc,rfl,q3,q4⟩:=rr'
  refine BC (v:=vc) (by rw [AD gd']; rfl) ?_
  refine Q7 q4 p2 fun h5 f5=>?_
  show AC (.bool (OW y)) _ _
  cases hp : OW y with
  | true=>rw [AZ]; exact hX' h5 f5 hp
  | false=>rw [AO,BS,AB,en']; exact hN' h5 f5 hp
end
theorem WS.base {h0 h1 h : H} {v : AV} {L : List Nat} (s : WS h1 h v L) (f : Fr [] h0 h1) : WS h0 h v L:=by
 rcases s with s | ⟨m,q1,q2,q3⟩
 ·refine .inl ⟨s.1,?_⟩
  rcases s.2 with z | ⟨b,z1,z2,z3⟩
  ·exact .inl z
  ·exact .inr ⟨b,z1,f.free z2,z3⟩
 ·exact .inr ⟨m,q1,f.free q2,q3⟩
def H.wo (h : H) (rb : Nat) : H:=⟨fun k=>if k = rb then none else h.get k,by
 obtain ⟨n,hn⟩:=h.fin
 exact ⟨n,fun k hk=>by
  split
  ·rfl
  ·exact hn k hk⟩⟩
theorem H.get_wo (h : H) (rb k : Nat) : (h.wo rb).get k = if k = rb then none else h.get k:=rfl
theorem Fr.wo {h h' : H} {rb : Nat} (f : Fr [rb] h h') : Fr [] (h.wo rb) (h'.wo rb):=fun c o _ x=>by
 rw [H.get_wo] at x ⊢; split at x
 ·cases x
 ·rename_i q; rw [if_neg q]; exact f c o (by simpa using q) x
structure RS where
 pos : Nat
 bad : Bool
structure RdE (e : Nat) (h : H) (rb : Nat) (vB : AV) (B : List Nat) (s : RS) : Prop where
 g : h.get rb = some (.live [vB,.int .i64 s.pos,.bool s.bad] e true)
 row : Row (h.wo rb) vB B.length 1 (bc B)
 pos : s.pos <= B.length
 lt : ∀ d ∈ B,d < 256
 len : B.length <= 4294967296
 some : 0 < B.length
section
variable {h : H} {rb e : Nat} {vB : AV} {B : List Nat} {s : RS}
theorem RdE.cell (r : RdE e h rb vB B s) (off : Nat) : h.cell rb off = [vB,AV.int .i64 s.pos,.bool s.bad][off]?:=AD r.g off
theorem RdE.keep (r : RdE e h rb vB B s) {h' : H} (f : Fr [] h h') : RdE e h' rb vB B s:=⟨f rb _ (by simp) r.g,r.row.fr (f.weaken (S':=[rb]) (by simp)).wo,r.pos,r.lt,r.len,r.some⟩
theorem RdE.put (r : RdE e h rb vB B s) (s' : RS) (hp : s'.pos <= B.length) {cs : List AV} (hc : cs = [vB,.int .i64 s'.pos,.bool s'.bad]) : RdE e (h.set rb (.live cs e true)) rb vB B s' /\ Fr [rb] h (h.set rb (.live cs e true)):=by
 have f : Fr [rb] h (h.set rb (.live cs e true)):=Fr.put (by simp)
 exact ⟨⟨by rw [H.get_same,hc],r.row.fr f.wo,hp,r.lt,r.len,r.some⟩,f⟩
end
noncomputable def H.only (h : H) (P : Nat -> Prop) : H:=⟨fun k=>open Classical in if P k then h.get k else none,by
 obtain ⟨n,hn⟩:=h.fin
 exact ⟨n,fun k hk=>by
  split
  ·exact hn k hk
  ·rfl⟩⟩
theorem only_fr {h h' : H} {P P' : Nat -> Prop} (hk : ∀ k o,P k -> h.get k = some o -> P' k /\ h'.get k = some o) : Fr [] (h.only P) (h'.only P'):=fun k o _ x=>by
 simp only [H.only] at x ⊢
 split at x
 ·rename_i p
  obtain ⟨q1,q2⟩:=hk k o p x
  rw [if_pos q1]; exact q2
 ·cases x
noncomputable abbrev H.new (h0 h : H) : H:=h.only fun k=>h0.get k = none
theorem R5 {h h1 h2 h' : H} {S : List Nat} (f : Fr S h2 h') (hr : ∀ k ∈ S,h1.get k ≠ none) (ha : ∀ k,h.get k ≠ none -> h1.get k ≠ none) : Fr [] (H.new h1 h2) (H.new h h'):=
 only_fr fun k o p x=>⟨by
  by_cases q : h.get k = none
  ·exact q
  ·exact absurd p (ha k q),f k o (fun e=>hr k e p) x⟩
theorem bY {h h' : H} {rb : Nat} (f : Fr [rb] h h') (hr : h'.get rb ≠ none) : ∀ k,h.get k ≠ none -> h'.get k ≠ none:=fun k hk=>by
 by_cases e : k = rb
 ·rw [e]; exact hr
 ·obtain ⟨o,ho⟩:=Option.ne_none_iff_exists'.1 hk
  rw [f k o (by simpa using e) ho]; simp
theorem RowOf.nil' {α : Type} (h : H) (esz : Nat) (Rel : α -> List AV -> Prop) : RowOf h esz Rel .nilsl []:=RowOf.nil h esz Rel
theorem IH : ∀ (vs cs pre : List AV),vs.length = cs.length -> overlay (pre ++ cs) pre.length vs = pre ++ vs
 | [],cs,pre,hl=>by
  have : cs = []:=List.eq_nil_of_length_eq_zero (by simpa using hl.symm)
  subst this; rfl
 | v :: vs,[],pre,hl=>by simp at hl
 | v :: vs,c :: cs,pre,hl=>by
  have:=IH vs cs (pre ++ [v]) (by simpa using hl)
  simp only [List.length_append,List.length_singleton,List.append_assoc,List.singleton_append] at this
  rw [overlay,List.set_append_right _ _ (Nat.le_refl _)]
  simpa using this
theorem GV {zs c : List AV} {n : Nat} (hz : zs.length = n) (hc : c.length = n) (hl : leaves c = true) : AG zs [(0,n,.agg c)] = some c:=by
 have e : (AV.agg c).cells = c:=rfl
 unfold AG
 rw [e,if_pos ⟨hc,by omega,hl⟩,AG]
 have:=IH c zs [] (by omega)
 simpa using this
theorem MY {css : List (List AV)} (h : ∀ c ∈ css,leaves c = true) : leaves css.flatten = true:=by
 induction css with
 | nil=>rfl
 | cons c css ih=>rw [List.flatten_cons,EA,h c (by simp),ih fun d hd=>h d (by simp [hd])]; rfl
theorem Own.wo {h0 h : H} {rb ty esz n : Nat} {v : AV} {cs : List AV} (o : Own (h0.wo rb) h ty esz v n cs) {cs' : List AV} {ty' : Nat} (hr : h.get rb = some (.live cs' ty' true)) (ht : ty ≠ ty') : Own (h0.wo rb) (h.wo rb) ty esz v n cs:=
 o.keep fun c n' p e ob hg=>by
  rw [H.get_wo,if_neg]
  ·exact hg
  ·intro z; exact o.ne hr ht n' p (by rw [e,z])
theorem rg0 : rg 0:=by unfold rg; omega
theorem agg_st {h : H} {d e n : Nat} {cs c : List AV} (hd : h.get d = Option.some (.live cs e true)) (hcs : cs.length = n) (hc : c.length = n) (hl : leaves c = true) : stA h n (.ptr d 0) (.agg c) = some (h.set d (.live c e true)):=by
 have ec : (AV.agg c).cells = c:=rfl
 simp only [HY,ec,hc,if_true]
 unfold H.write
 rw [hd]
 simp only [hl,and_true]
 rw [if_pos (by omega)]
 have:=IH c cs [] (by omega)
 simp only [List.nil_append,List.length_nil] at this
 rw [this]
section
variable {h : H} {rb e : Nat} {vB : AV} {B : List Nat} {s : RS}
theorem RdE.re (r : RdE e h rb vB B s) {h' : H} (f : Fr [rb] h h') {s' : RS} (g : h'.get rb = Option.some (.live [vB,.int .i64 s'.pos,.bool s'.bad] e true)) (hp : s'.pos <= B.length) : RdE e h' rb vB B s':=⟨g,r.row.fr f.wo,hp,r.lt,r.len,r.some⟩
theorem RdE.ne (r : RdE e h rb vB B s) {d : Nat} (hd : h.get d = none) : d ≠ rb:=fun e=>by rw [e,r.g] at hd; cases hd
structure RdDE (E : Nat) (h h1 hi : H) (rb d : Nat) (vB : AV) (B : List Nat) (s : RS) (cs : List AV) (e : Nat) : Prop where
 f : Fr [rb] h hi
 g : Fr [rb,d] h1 hi
 a0 : ∀ k,h.get k ≠ none -> h1.get k ≠ none
 a : ∀ k,h1.get k ≠ none -> hi.get k ≠ none
 k1 : ∀ k ∈ [rb,d],h1.get k ≠ none
 hd : h.get d = none
 r : RdE E hi rb vB B s
 gd : hi.get d = some (.live cs e true)
section
variable {h h1 hi h2 h' : H} {rb d e E : Nat} {vB : AV} {B : List Nat} {s s' : RS} {cs : List AV}
theorem RdE.box (r : RdE E h rb vB B s) (hd : h.get d = none) : RdDE E h (h.set d (.live cs e true)) (h.set d (.live cs e true)) rb d vB B s cs e:=by
 have f : Fr [] h (h.set d (.live cs e true)):=(Fr.refl _ _).set' hd
 have hr:=r.ne hd
 refine ⟨f.more,Fr.refl _ _,fun k hk=>?_,fun k hk=>hk,fun k hk=>?_,hd,r.keep f,H.get_same ..⟩
 ·rw [H.get_other _ _ (fun e=>hk (by rw [e]; exact hd))]; exact hk
 ·simp only [List.mem_cons,List.not_mem_nil,or_false] at hk
  rcases hk with rfl | rfl
  ·rw [H.get_other _ _ hr.symm,r.g]; simp
  ·rw [H.get_same]; simp
theorem RdDE.ne (q : RdDE E h h1 hi rb d vB B s cs e) (r : RdE E h rb vB B s') : d ≠ rb:=r.ne q.hd
theorem Fr.rd (f : Fr [rb] h h') : Fr [rb,d] h h':=f.weaken fun k hk=>by simp at hk ⊢; exact .inl hk
theorem RdDE.call (q : RdDE E h h1 hi rb d vB B s cs e) (hn : d ≠ rb) (f2 : Fr [rb] hi h2) (r2 : RdE E h2 rb vB B s') : RdDE E h h1 h2 rb d vB B s' cs e:=
 ⟨q.f.trans f2,q.g.trans f2.rd,q.a0,fun k hk=>bY f2 (by rw [r2.g]; simp) k (q.a k hk),q.k1,q.hd,r2,f2 d _ (by simpa using hn) q.gd⟩
theorem RdDE.put (q : RdDE E h h1 hi rb d vB B s cs e) {s0 : RS} (r : RdE E h rb vB B s0) {cs' cs'' : List AV} (hc : cs'' = cs') : RdDE E h h1 (hi.set d (.live cs'' e true)) rb d vB B s cs' e:=by
 subst hc
 have f' : Fr [rb] h (hi.set d (.live cs'' e true)):=q.f.set' q.hd
 refine ⟨f',q.g.trans (Fr.put (by simp)),q.a0,fun k hk=>?_,q.k1,q.hd,r.re f' (by rw [H.get_other _ _ (r.ne q.hd).symm]; exact q.r.g) q.r.pos,H.get_same ..⟩
 rw [H.get_set]; split
 ·simp
 ·exact q.a k hk
theorem RdDE.val (q : RdDE E h h1 hi rb d vB B s cs e) (f : Fr [rb,d] h2 h') : Fr [] (H.new hi h2) (H.new h1 h'):=R5 f (fun k hk=>q.a k (q.k1 k hk)) q.a
theorem RdDE.fin (q : RdDE E h h1 hi rb d vB B s cs e) : Fr [] (H.new h1 h2) (H.new h h2):=R5 (S:=[]) (Fr.refl _ _) (by simp) q.a0
theorem RdDE.cell (q : RdDE E h h1 hi rb d vB B s cs e) (off : Nat) : hi.cell d off = cs[off]?:=AD q.gd off
theorem RdDE.read (q : RdDE E h h1 hi rb d vB B s cs e) {n : Nat} (hn : cs.length = n) : hi.read d 0 n = some cs:=H.read_eq q.gd (by omega) (by rw [List.drop_zero,List.take_of_length_le (by omega)])
theorem RdDE.st (q : RdDE E h h1 hi rb d vB B s cs e) {s0 : RS} (r : RdE E h rb vB B s0) {off : Nat} {v : AV} {cs' : List AV} (hc : cs.set off v = cs') (ho : off < cs.length) (hv : v.leaf = true) (hv' : v.cells = [v]) {K : AV -> H -> Prop}
  (hK : ∀ h',Fr [rb,d] hi h' -> RdDE E h h1 h' rb d vB B s cs' e -> K .undef h') : AA (faA off (.ptr d 0)) hi fun t h=>AM (stA h 1 t v) .undef K:=by
 rw [H8,AB,Nat.zero_add,I1 q.gd ho hv hv',A3]
 exact hK _ (Fr.put (by simp)) (q.put r hc)
theorem RdDE.done (q : RdDE E h h1 hi rb d vB B s cs e) {s0 : RS} (r : RdE E h rb vB B s0) {n : Nat} (hn : cs.length = n) (hl : leaves cs = true) {K : AV -> H -> Prop}
  (hK : ∀ h',Fr [rb,d] hi h' -> RdDE E h h1 h' rb d vB B s cs e -> K (.agg cs) h') : AA (ldA hi (some n) (.ptr d 0)) hi fun t h=>AM (stA h n (.ptr d 0) t) .undef fun _ h=>AA (ldA h (some n) (.ptr d 0)) h fun res _=>K res h:=by
 have q':=q.put r (cs'':=cs) rfl
 rw [CK (q.read hn),AB,agg_st q.gd hn hn hl,A3,CK (q'.read hn),AB]
 exact hK _ (Fr.put (by simp)) q'
end
end
section
variable {rb : Nat} {B : List Nat}
theorem RowOf.all {α : Type} {h : H} {esz : Nat} {R : α -> List AV -> Prop} {P : α -> Prop} {v : AV} {l : List α} (r : RowOf h esz (fun x c=>R x c /\ P x) v l) {x : α} (hx : x ∈ l) : P x:=by
 obtain ⟨css,h1,h2,_,_⟩:=r
 obtain ⟨i,hi,rfl⟩:=List.getElem_of_mem hx
 have hc : i < css.length:=by omega
 exact (h2 i l[i] css[i] (by simp [hi]) (by simp [hc])).2
def R3 (h : H) (x : Ins) (vl vm vv : AV) : Prop:=Row h vl x.l.length 1 (ic x.l) /\ Row h vm x.m.length 1 (ic x.m) /\ Row h vv x.live.length 1 (ic x.live)
theorem R3.fr {h h' : H} {x : Ins} {vl vm vv : AV} (f : Fr [] h h') (r : R3 h x vl vm vv) : R3 h' x vl vm vv:=⟨r.1.fr f,r.2.1.fr f,r.2.2.fr f⟩
end
theorem RowOf.both {α : Type} {h : H} {esz : Nat} {R : α -> List AV -> Prop} {P : α -> Prop} {v : AV} {l : List α} (r : RowOf h esz (fun x c=>R x c /\ P x) v l) : RowOf h esz R v l /\ ∀ x ∈ l,P x:=
 ⟨r.mono (Fr.refl _ _) fun _ _ _ q=>q.1,fun _ hx=>r.all hx⟩
def shI : Sh:=.st [.int .i64,.int .i64,.int .i64,.int .i64,.int .i64,.int .i64,.sl (.int .i64),.sl (.int .i64),.sl (.int .i64)]
def XD : Sh:=.st [.sl (.int .i64),.sl shI]
def shF : Sh:=.st [.sl (.int .i64),.int .i64,.int .i64,.sl XD]
def shS : Sh:=.st [.int .i64,.sl (.int .i64),.str]
def shT : Sh:=.st [.bool,.sl (.int .i64)]
def shM : Sh:=.st [.sl shT,.sl shS,.sl .str,.sl .str,.sl shF,.int .i64,.int .i64]
section
variable {h : H} {l : List AV}
theorem GE (hl : LiesL h [] l) : l = []:=by simpa only [LiesL] using hl
theorem A6 {s : Sh} {ss : List Sh} (hl : LiesL h (s :: ss) l) : ∃ l1 l2,l = l1 ++ l2 /\ DO h s l1 /\ LiesL h ss l2:=by simpa only [LiesL] using hl
theorem DZ (hl : DO h (.int .i64) l) : ∃ n,l = [.int .i64 n] /\ rg n:=by
 obtain ⟨n,rfl,q,q'⟩:=YB hl
 exact ⟨n,rfl,by unfold rg; omega⟩
theorem FD (hl : DO h (.sl (.int .i64)) l) : ∃ v L,l = [v] /\ Row h v L.length 1 (ic L) /\ rgs L:=by
 obtain ⟨v,L,q1,q2,q3,q4⟩:=WC hl
 exact ⟨v,L,q1,q2,q4,q3⟩
theorem PT (hl : DO h .str l) : ∃ s : List UInt8,l = [.str s] /\ s.length <= reachBytes:=by simpa only [DO] using hl
theorem FC {α : Type} {s : Sh} {esz : Nat} {Rel : α -> List AV -> Prop} {P : α -> Prop} (hE : ∀ c,DO h s c -> ∃ x,Rel x c /\ P x /\ c.length = esz) (hl : DO h (.sl s) l) :
  ∃ v xs,l = [v] /\ RowOf h esz Rel v xs /\ xs.length <= reachBytes /\ ∀ x ∈ xs,P x:=by
 simp only [DO] at hl
 rcases hl with rfl | ⟨b,ei,css,rfl,hb,hm,hcs⟩
 ·exact ⟨.nilsl,[],rfl,RowOf.nil _ _ _,by simp,by simp⟩
 ·obtain ⟨xs,h1,h2,h3,h4⟩ : ∃ xs : List α,css.length = xs.length /\ (∀ (i : Nat) (x : α) (c : List AV),xs[i]? = some x -> css[i]? = some c -> Rel x c) /\ (∀ c ∈ css,c.length = esz) /\ ∀ x ∈ xs,P x:=by
   clear hb hm
   induction css with
   | nil=>exact ⟨[],rfl,by simp,by simp,by simp⟩
   | cons c css ih=>
    obtain ⟨xs,i1,i2,i3,i4⟩:=ih fun c hc=>hcs c (by simp [hc])
    obtain ⟨x,j1,j2,j3⟩:=hE c (hcs c (by simp))
    refine ⟨x :: xs,by simp [i1],?_,?_,?_⟩
    ·intro i y d hy hd
     cases i with
     | zero=>simp at hy hd; subst hy; subst hd; exact j1
     | succ i=>exact i2 i y d (by simpa using hy) (by simpa using hd)
    ·intro d hd
     rcases List.mem_cons.1 hd with rfl | hd
     ·exact j3
     ·exact i3 d hd
    ·intro y hy
     rcases List.mem_cons.1 hy with rfl | hy
     ·exact j2
     ·exact i4 y hy
  have hfl:=EB h3
  refine ⟨_,xs,rfl,⟨css,h1,h2,h3,by rw [hfl,h1],.inr ⟨b,0,.any,by rw [h1],rfl,?_⟩⟩,by omega,h4⟩
  refine H.read_eq hb (by rw [hfl,h1]; omega) ?_
  rw [List.drop_zero,List.take_of_length_le (by rw [hfl,h1]; omega)]
theorem lies_ty (hl : DO h shT l) : ∃ x,tyR h x l /\ x.ok /\ l.length = 2:=by
 unfold shT at hl; simp only [DO] at hl
 obtain ⟨_,_,rfl,h1,hl⟩:=A6 hl
 obtain ⟨_,_,rfl,h2,hl⟩:=A6 hl
 obtain rfl:=GE hl
 obtain ⟨b,rfl⟩:=WD h1
 obtain ⟨v,L,rfl,r,o⟩:=FD h2
 exact ⟨⟨b,L⟩,⟨v,rfl,r⟩,o,rfl⟩
theorem TW (hl : DO h shS l) : ∃ x,shR h x l /\ x.ok /\ l.length = 3:=by
 unfold shS at hl; simp only [DO] at hl
 obtain ⟨_,_,rfl,h1,hl⟩:=A6 hl
 obtain ⟨_,_,rfl,h2,hl⟩:=A6 hl
 obtain ⟨_,_,rfl,h3,hl⟩:=A6 hl
 obtain rfl:=GE hl
 obtain ⟨n,rfl,o1⟩:=DZ h1
 obtain ⟨v,L,rfl,r,o⟩:=FD h2
 obtain ⟨s,rfl,o3⟩:=PT h3
 exact ⟨⟨n,L,s⟩,⟨v,rfl,r⟩,⟨o1,o,o3⟩,rfl⟩
theorem N5 (hl : DO h shI l) : ∃ x,insR h x l /\ x.ok /\ l.length = 9:=by
 unfold shI at hl; simp only [DO] at hl
 obtain ⟨_,_,rfl,h1,hl⟩:=A6 hl
 obtain ⟨_,_,rfl,h2,hl⟩:=A6 hl
 obtain ⟨_,_,rfl,h3,hl⟩:=A6 hl
 obtain ⟨_,_,rfl,h4,hl⟩:=A6 hl
 obtain ⟨_,_,rfl,h5,hl⟩:=A6 hl
 obtain ⟨_,_,rfl,h6,hl⟩:=A6 hl
 obtain ⟨_,_,rfl,h7,hl⟩:=A6 hl
 obtain ⟨_,_,rfl,h8,hl⟩:=A6 hl
 obtain ⟨_,_,rfl,h9,hl⟩:=A6 hl
 obtain rfl:=GE hl
 obtain ⟨n1,rfl,o1⟩:=DZ h1
 obtain ⟨n2,rfl,o2⟩:=DZ h2
 obtain ⟨n3,rfl,o3⟩:=DZ h3
 obtain ⟨n4,rfl,o4⟩:=DZ h4
 obtain ⟨n5,rfl,o5⟩:=DZ h5
 obtain ⟨n6,rfl,o6⟩:=DZ h6
 obtain ⟨v7,L7,rfl,r7,o7⟩:=FD h7
 obtain ⟨v8,L8,rfl,r8,o8⟩:=FD h8
 obtain ⟨v9,L9,rfl,r9,o9⟩:=FD h9
 exact ⟨⟨n1,n2,n3,n4,n5,n6,L7,L8,L9⟩,⟨v7,v8,v9,rfl,r7,r8,r9⟩,⟨⟨o1,o2,o3,o4,o5,o6⟩,o7,o8,o9⟩,rfl⟩
theorem YC (hl : DO h XD l) : ∃ x,blkR h x l /\ x.ok /\ l.length = 2:=by
 unfold XD at hl; simp only [DO] at hl
 obtain ⟨_,_,rfl,h1,hl⟩:=A6 hl
 obtain ⟨_,_,rfl,h2,hl⟩:=A6 hl
 obtain rfl:=GE hl
 obtain ⟨v,L,rfl,r,o⟩:=FD h1
 obtain ⟨v2,L2,rfl,r2,o2⟩:=FC (fun c=>N5) h2
 exact ⟨⟨L,L2⟩,⟨v,v2,rfl,r,r2⟩,⟨o,o2⟩,rfl⟩
theorem lies_fn (hl : DO h shF l) : ∃ x,fnR h x l /\ x.ok /\ l.length = 4:=by
 unfold shF at hl; simp only [DO] at hl
 obtain ⟨_,_,rfl,h1,hl⟩:=A6 hl
 obtain ⟨_,_,rfl,h2,hl⟩:=A6 hl
 obtain ⟨_,_,rfl,h3,hl⟩:=A6 hl
 obtain ⟨_,_,rfl,h4,hl⟩:=A6 hl
 obtain rfl:=GE hl
 obtain ⟨v,L,rfl,r,o⟩:=FD h1
 obtain ⟨n2,rfl,o2⟩:=DZ h2
 obtain ⟨n3,rfl,o3⟩:=DZ h3
 obtain ⟨v2,L2,rfl,r2,o4⟩:=FC (fun c=>YC) h4
 exact ⟨⟨L,n2,n3,L2⟩,⟨v,v2,rfl,r,r2⟩,⟨o,o2,o3,o4⟩,rfl⟩
theorem YA (hl : DO h shM l) : ∃ m,imgR h m l /\ m.ok:=by
 unfold shM at hl; simp only [DO] at hl
 obtain ⟨_,_,rfl,h1,hl⟩:=A6 hl
 obtain ⟨_,_,rfl,h2,hl⟩:=A6 hl
 obtain ⟨_,_,rfl,h3,hl⟩:=A6 hl
 obtain ⟨_,_,rfl,h4,hl⟩:=A6 hl
 obtain ⟨_,_,rfl,h5,hl⟩:=A6 hl
 obtain ⟨_,_,rfl,h6,hl⟩:=A6 hl
 obtain ⟨_,_,rfl,h7,hl⟩:=A6 hl
 obtain rfl:=GE hl
 have hs : ∀ c,DO h .str c -> ∃ x,stR x c /\ x.length <= reachBytes /\ c.length = 1:=fun c hc=>by
  obtain ⟨s,rfl,o⟩:=PT hc
  exact ⟨s,rfl,o,rfl⟩
 obtain ⟨v1,L1,rfl,r1,o1⟩:=FC (fun c=>lies_ty) h1
 obtain ⟨v2,L2,rfl,r2,o2⟩:=FC (fun c=>TW) h2
 obtain ⟨v3,L3,rfl,r3,o3⟩:=FC hs h3
 obtain ⟨v4,L4,rfl,r4,o4⟩:=FC hs h4
 obtain ⟨v5,L5,rfl,r5,o5⟩:=FC (fun c=>lies_fn) h5
 obtain ⟨n6,rfl,o6⟩:=DZ h6
 obtain ⟨n7,rfl,o7⟩:=DZ h7
 exact ⟨⟨L1,L2,L3,L4,L5,n6,n7⟩,⟨v1,v2,v3,v4,v5,rfl,r1,r2,r3,r4,r5⟩,⟨o1,o2,o3,o4,o5,o6,o7⟩⟩
end
section
variable {h : H} {PK : H -> Prop}
def inB (c : List AV) (b : Nat) : Prop:=∃ x off n k,c = [x,.sl b off n k]
theorem tyR.alive {t : Ty} {c : List AV} (r : tyR h t c) {b : Nat} (i : inB c b) : h.get b ≠ none:=by
 obtain ⟨v,rfl,q⟩:=r
 obtain ⟨x,off,n,k,e⟩:=i
 injection e with _ e; injection e with e
 rcases q.2 with ⟨_,e3⟩ | ⟨b',off',cap,e3,_,hr⟩
 ·rw [e3] at e; cases e
 ·rw [e3] at e; injection e with e; subst e
  unfold H.read at hr
  intro hn; rw [hn] at hr; cases hr
theorem tyR.set {t : Ty} {c : List AV} (r : tyR h t c) {p : Nat} {o : Obj} (hn : ¬ inB c p) : tyR (h.set p o) t c:=by
 obtain ⟨v,rfl,q⟩:=r
 refine ⟨v,rfl,q.mono fun b off cap ob e hg=>?_⟩
 rw [H.get_other _ _ (fun e2=>hn ⟨_,off,_,cap,by rw [<- e2,e]⟩)]; exact hg
def TyBox (h : H) (p : Nat) (t : Ty) : Prop:=∃ c,h.get p = some (.live c 46 true) /\ tyR h t c
theorem TyBox.fr {h' : H} {p : Nat} {t : Ty} (b : TyBox h p t) (f : Fr [] h h') : TyBox h' p t:=by
 obtain ⟨c,g,r⟩:=b
 exact ⟨c,f p _ (by simp) g,r.fr f⟩
theorem tyR.len {t : Ty} {c : List AV} (r : tyR h t c) : c.length = 2:=by obtain ⟨v,rfl,_⟩:=r; rfl
theorem TyBox.ld {p : Nat} {t : Ty} (b : TyBox h p t) : ∃ c,ldA h (some 2) (.ptr p 0) = some (.agg c) /\ tyR h t c:=by
 obtain ⟨c,g,r⟩:=b
 exact ⟨c,EH g r.len,r⟩
end
theorem X7 (a b : Ty) (x : Int) : x ∈ (C4 a b).sh ↔ x ∈ a.sh \/ x ∈ b.sh:=by
 show x ∈ EU (a.sh ++ b.sh) ↔ _
 rw [(N3 _).2,List.mem_append]
abbrev Sl:=Option Ty
def H3 : Ty:=⟨false,[]⟩
def BF : Ty:=⟨true,[]⟩
def DK (s : Int) : Ty:=⟨false,[s]⟩
def Img.ty (m : Img) (t : Int) : Ty:=m.types.getD t.toNat H3
def Img.shp (m : Img) (s : Int) : Shp:=m.shapes.getD s.toNat ⟨0,[],[]⟩
def Img.isTy (m : Img) (t : Int) : Bool:=decide (0 <= t) && decide (t < m.types.length)
def Img.isFn (m : Img) (f : Int) : Bool:=decide (0 <= f) && decide (f < m.fns.length)
def Img.fn (m : Img) (f : Int) : Fn:=m.fns.getD f.toNat ⟨[],0,0,[]⟩
def CN (AQ : Int) : Int -> List Int -> Bool
 | _,[]=>true
 | last,x :: l=>(decide (last < x) && decide (x < AQ)) && CN AQ x l
def ME (m : Img) (f : Fn) (i : Nat) (inn : List Int) : Bool:=
 decide ((inn.length : Int) = f.slots) && (List.range inn.length).all fun k=>
  let t:=inn.getD k 0
  (decide (t = -1) || m.isTy t) && (!decide (i = 0) || decide (t = if k < f.params.length then f.params.getD k 0 else -1))
def DA (m : Img) (f : Fn) : Bool:=
 f.params.all m.isTy && m.isTy f.result && decide (0 <= f.slots) && decide ((f.params.length : Int) <= f.slots) && !f.blocks.isEmpty &&
  (List.range f.blocks.length).all fun i=>ME m f i (f.blocks.getD i ⟨[],[]⟩).inn
def CU (m : Img) (s : Shp) : Bool:=
 decide (1 <= s.kind) && decide (s.kind <= 3) && (!decide (s.kind = 2) || decide (s.fs.length = 1)) && (!decide (s.kind = 3) || decide (s.fs.length = 0)) && s.fs.all m.isTy
def P7 (m : Img) : Bool:=
 (!m.types.isEmpty && !m.shapes.isEmpty && (m.ty 0).imm && (m.ty 0).sh.isEmpty && decide ((m.shp 0).kind = 3)) &&
 m.types.all (fun t=>CN m.shapes.length (-1) t.sh) && m.shapes.all (CU m) &&
 (m.isTy m.exn && (m.ty m.exn).imm && (m.ty m.exn).sh.all fun s=>decide ((m.shp s).kind = 1)) &&
 (m.isFn m.main && (m.fn m.main).params.isEmpty) && m.fns.all (DA m)
def CM (m : Img) (inn : List Int) : List Sl:=inn.map fun t=>if t < 0 then none else some (m.ty t)
def atS (l : List Sl) (i : Int) : Sl:=if 0 <= i then l.getD i.toNat none else none
def isS (l : List Sl) (i : Int) (t : Ty) : Bool:=match atS l i with | some x=>G0 x t | none=>false
def B5 (m : Img) (l : List Sl) (i : Int) (k1 k2 : Int) : Option (List Int):=match atS l i with
 | some t=>if !t.imm && !t.sh.isEmpty && t.sh.all (fun s=>decide ((m.shp s).kind = k1) || decide ((m.shp s).kind = k2)) then some t.sh else none
 | none=>none
def BQ (m : Img) (k : Int) (s : Int) : Bool:=decide (0 <= k) && decide (k < (m.shp s).fs.length)
def BM (m : Img) (k : Int) (s : Int) : Ty:=m.ty ((m.shp s).fs.getD k.toNat 0)
def DB (m : Img) (sh : List Int) (k : Int) : Option Ty:=if sh.all (BQ m k) then some ((sh.map (BM m k)).foldl C4 H3) else none
def CX (m : Img) (l : List Sl) (i : Int) (sh : List Int) (k : Int) : Bool:=sh.all fun s=>BQ m k s && isS l i (BM m k s)
def CC (m : Img) (l : List Sl) (xs want : List Int) : Bool:=decide (xs.length = want.length) && (xs.zip want).all fun p=>isS l p.1 (m.ty p.2)
def CE (l : List Sl) (live : List Int) : Option (List Sl):=
 if CN l.length (-1) live && live.all (fun i=>(atS l i).isSome) then some ((List.range l.length).map fun i : Nat=>if (i : Int) ∈ live then l.getD i none else none) else none
def BI (l : List Sl) (i : Int) (t : Ty) : Option (List Sl):=if 0 <= i /\ i < l.length then some (l.set i.toNat (some t)) else none
def BB (m : Img) (f : Fn) (l : List Sl) (b : Int) : Bool:=(decide (0 <= b) && decide (b < f.blocks.length)) &&
 (List.range (f.blocks.getD b.toNat ⟨[],[]⟩).inn.length).all fun k=>let t:=(f.blocks.getD b.toNat ⟨[],[]⟩).inn.getD k 0; decide (t < 0) || isS l k (m.ty t)
def BU (n : Int) : Bool:=decide (-4611686018427387904 <= n) && decide (n < 4611686018427387904)
def CF (m : Img) (f : Fn) (l : List Sl) (x : Ins) : Option (List Sl):=
 let num:=fun ok : Bool=>if ok then BI l x.d BF else none
 let keep:=fun ok : Bool=>if ok then some l else none
 let make:=fun (t : Ty) (ok : Bool)=>if ok then (CE l x.live).bind fun n=>BI n x.d t else none
 if x.op = 1 then num (BU x.n)
 else if x.op = 2 then make (DK 0) (decide (0 <= x.a) && decide (x.a < m.strs.length))
 else if x.op = 3 then (atS l x.a).bind fun t=>BI l x.d t
 else if x.op = 4 then num (decide (1 <= x.n) && decide (x.n <= 8) && isS l x.a BF && isS l x.b BF)
 else if x.op = 5 then make (DK x.a) (decide (0 <= x.a) && decide (x.a < m.shapes.length) && decide ((m.shp x.a).kind = 1) && CC m l x.l (m.shp x.a).fs)
 else if x.op = 6 then (B5 m l x.a 1 1).bind fun sh=>(DB m sh x.b).bind fun t=>BI l x.d t
 else if x.op = 7 then keep ((atS l x.c).isSome && match B5 m l x.a 1 1 with | some sh=>CX m l x.c sh x.b | none=>false)
 else if x.op = 8 then make (DK x.a) (decide (0 <= x.a) && decide (x.a < m.shapes.length) && decide ((m.shp x.a).kind = 2) && isS l x.b BF && CC m l [x.c] (m.shp x.a).fs)
 else if x.op = 9 then (if isS l x.b BF then B5 m l x.a 2 2 else none).bind fun sh=>(DB m sh 0).bind fun t=>BI l x.d t
 else if x.op = 10 then keep (isS l x.b BF && match B5 m l x.a 2 2 with | some sh=>CX m l x.c sh 0 | none=>false)
 else if x.op = 11 then num (B5 m l x.a 2 3).isSome
 else if x.op = 12 then num ((B5 m l x.a 3 3).isSome && isS l x.b BF)
 else if x.op = 13 then make (DK 0) ((B5 m l x.a 3 3).isSome && (B5 m l x.b 3 3).isSome)
 else if x.op = 14 then num ((B5 m l x.a 3 3).isSome && (B5 m l x.b 3 3).isSome)
 else if x.op = 15 then num true
 else if x.op = 16 then keep (isS l x.a BF)
 else if x.op = 17 then
  if m.isFn x.a && CC m l x.l (m.fn x.a).params then
   (CE l x.live).bind fun n=>
    if (if x.b = -1 then decide (x.c = 0) else match BI n x.c (m.ty m.exn) with | some w=>BB m f w x.b | none=>false) then BI n x.d (m.ty (m.fn x.a).result) else none
  else none
 else none
def CW (ok : Int -> Bool) (go : Int -> Int -> Bool) : Option Int -> List Int -> Bool
 | _,[]=>true
 | _,[_]=>false
 | last,x :: b :: l=>(match last with | some y=>decide (y < x) | none=>true) && ok x && go x b && CW ok go (some x) l
def CL : List Int -> List Int
 | x :: _ :: l=>x :: CL l
 | _=>[]
def DW (m : Img) (f : Fn) (l : List Sl) (x : Ins) : Bool:=match atS l x.a with
 | some t=>decide (x.l.length % 2 = 0) && decide (x.m.length % 2 = 0) && (!t.imm || !decide (x.b = -1)) &&
   (decide (x.b = -1) || BB m f (l.set x.a.toNat (some BF)) x.b) &&
   CW BU (fun _ b=>BB m f (l.set x.a.toNat (some BF)) b) none x.l &&
   CW (fun s=>decide (0 <= s) && decide (s < m.shapes.length)) (fun s b=>BB m f (l.set x.a.toNat (some (DK s))) b) none x.m &&
   t.sh.all fun s=>decide (s ∈ CL x.m)
 | none=>false
def BW (m : Img) (f : Fn) (l : List Sl) (x : Ins) : Bool:=
 if x.op = 18 then BB m f l x.a
 else if x.op = 19 then isS l x.a BF && BB m f l x.b && BB m f l x.c
 else if x.op = 20 then DW m f l x
 else if x.op = 21 then m.isFn x.a && CC m l x.l (m.fn x.a).params && G0 (m.ty (m.fn x.a).result) (m.ty f.result)
 else if x.op = 22 then isS l x.a (m.ty f.result)
 else if x.op = 23 then isS l x.a (m.ty m.exn)
 else false
def J8 (m : Img) (f : Fn) : List Ins -> Nat -> List Sl -> Option Nat
 | [],i,_=>some i
 | x :: xs,i,l=>
  if 18 <= x.op then (if xs.isEmpty && BW m f l x then none else some i)
  else match CF m f l x with | some l'=>J8 m f xs (i + 1) l' | none=>some i
def DJ (m : Img) (f : Fn) (b : Blk) : Option Nat:=J8 m f b.code 0 (CM m b.inn)
def E1 (m : Img) (f : Fn) : List Blk -> Nat -> Option (Nat × Nat)
 | [],_=>none
 | b :: bs,k=>match DJ m f b with | some n=>some (k,n) | none=>E1 m f bs (k + 1)
def M6 (m : Img) : List Fn -> Nat -> Option (Nat × Nat × Nat)
 | [],_=>none
 | f :: fs,i=>match E1 m f f.blocks 0 with | some (k,n)=>some (i,k,n) | none=>M6 m fs (i + 1)
def GW (m : Img) (whole : Bool) : Int × Int × Int × Bool:=
 if whole then (match M6 m m.fns 0 with | some (i,k,n)=>(i,k,n,false) | none=>(0,0,0,true)) else (-1,-1,-1,false)
def slR (h : H) (x : Sl) (c : List AV) : Prop:=match x with
 | some t=>∃ v,c = [.bool t.imm,v,.bool false] /\ Row h v t.sh.length 1 (ic t.sh)
 | none=>∃ i v,c = [.bool i,v,.bool true] /\ v.leaf = true /\ v.cells = [v]
theorem slR.fr {h h' : H} {x : Sl} {c : List AV} (r : slR h x c) (f : Fr [] h h') : slR h' x c:=by
 cases x with
 | none=>exact r
 | some t=>obtain ⟨v,e,r⟩:=r; exact ⟨v,e,r.fr f⟩
theorem GQ (h : H) : tyR h H3 [.bool false,.nilsl]:=⟨.nilsl,rfl,Row.nil h 1⟩
theorem LV {h : H} {b o n k : Nat} {c : List AV} (hr : h.read b o n = some c) (hk : k <= n) : h.read b o k = some (c.take k):=by
 unfold H.read at hr ⊢
 split at hr
 ·rename_i known e own hg
  split at hr
  ·rename_i q
   injection hr with hr
   rw [if_pos (by omega),<- hr,List.take_take,Nat.min_eq_left hk]
  ·cases hr
 ·cases hr
theorem O9 {h : H} {b e : Nat} {cs vs : List AV} (hg : h.get b = some (.live cs e true)) (hl : vs.length = cs.length) (hv : leaves vs = true) : h.write b 0 vs = some (h.set b (.live vs e true)):=by
 have e1 : h.set b (.live cs e true) = h:=H.ext' fun k=>by
  by_cases q : k = b
  ·subst q; rw [H.get_same,hg]
  ·rw [H.get_other _ _ q]
 have:=HT (h:=h) (b:=b) (e:=e) (cs:=cs) (vs:=vs) hl hv
 rw [e1] at this; exact this
section
variable {PK : H -> Prop} {h : H}
theorem PI {v : AV} {l : List Sl} (r : RowOf h 3 (slR h) v l) (i : Int) {K : AV -> H -> Prop} (hK : ∀ h' c,Fr [] h h' -> (∀ t,atS l i = some t -> tyR h' t c) -> leaves c = true -> c.length = 2 -> K (.tup [.agg c,.bool (atS l i).isSome]) h') : DP PK 207 [v,.int .i64 i] h K:=by
 refine runB207 ?_
 unfold sh207 zE zV zH
 refine BH rfl fun q hq=>?_
 have f0 : Fr [] h (h.set q (.live [.bool false,.nilsl] 46 true)):=Fr.new hq
 have gq : (h.set q (.live [.bool false,.nilsl] 46 true)).get q = some (.live [.bool false,.nilsl] 46 true):=H.get_same ..
 have r0 : RowOf (h.set q (.live [.bool false,.nilsl] 46 true)) 3 (slR h) v l:=r.mono f0 fun _ _ _ x=>x
 have f1 : ∀ c : List AV,Fr [] h ((h.set q (.live [.bool false,.nilsl] 46 true)).set q (.live c 46 true)):=fun c=>f0.set' hq
 generalize h.set q (.live [.bool false,.nilsl] 46 true) = h1 at *
 have put : ∀ c : List AV,c.length = 2 -> leaves c = true -> stA h1 2 (.ptr q 0) (.agg c) = some (h1.set q (.live c 46 true)) /\ ldA (h1.set q (.live c 46 true)) (some 2) (.ptr q 0) = some (.agg c):=fun c hc hl=>by
  obtain ⟨x,y,rfl⟩ : ∃ x y,c = [x,y]:=by
   match c,hc with
   | [x,y],_=>exact ⟨x,y,rfl⟩
  have ec : (AV.agg [x,y]).cells = [x,y]:=rfl
  refine ⟨?_,?_⟩
  ·rw [HY,ec,if_pos (by rfl)]
   exact O9 gq rfl hl
  ·rw [MZ,H.read_eq (n:=2) (H.get_same ..) (by simp) rfl]; rfl
 have none' : atS l i = none -> ∀ (hb : AT (AG [.bool false,.nilsl] []) = some (.agg [.bool false,.nilsl])),AM (stA h1 2 (.ptr q 0) (.agg [.bool false,.nilsl])) .undef fun _ h=>AA (ldA h (some 2) (.ptr q 0)) h fun res _=>K (.tup [res,.bool false]) h:=fun e _=>by
  have pt:=put [.bool false,.nilsl] rfl rfl
  rw [pt.1,A3,pt.2,AB]
  have:=hK (h1.set q (.live [.bool false,.nilsl] 46 true)) [.bool false,.nilsl] (f1 _) (fun t ht=>by rw [e] at ht; cases ht) rfl rfl
  rw [e] at this
  exact this
 have eb : AT (AG [.bool false,.nilsl] []) = some (.agg [.bool false,.nilsl]):=rfl
 by_cases i0 : i < 0
 ·have e : atS l i = none:=by unfold atS; rw [if_neg (by omega)]
  have:=none' e eb
  simp only [go_sem,reduceIte,i0,eb]
  exact this
 ·by_cases i1 : i < (l.length : Int)
  ·have i1' : ¬ (l.length : Int) <= i:=by omega
   obtain ⟨x,hx⟩ : ∃ x,l[i.toNat]? = some x:=⟨l[i.toNat]'(by omega),by simp [show i.toNat < l.length by omega]⟩
   obtain ⟨b,o,c,q1,q2,q3,q4,q5⟩:=r0.el hx
   have hi : ((i.toNat : Nat) : Int) = i:=by omega
   rw [hi] at q1
   have e : atS l i = x:=by unfold atS; rw [if_pos (by omega),List.getD_eq_getElem?_getD,hx]; rfl
   have c2:=q5 2 (by decide)
   cases x with
   | none=>
    obtain ⟨bi,w,rfl,_⟩:=q2
    have c2 : h1.cell b (o + 2) = some (.bool true):=c2
    have:=none' e eb
    simp only [go_sem,reduceIte,i0,r0.len,i1',q1,c2,eb]
    exact this
   | some t=>
    obtain ⟨w,rfl,rw'⟩:=q2
    have c2 : h1.cell b (o + 2) = some (.bool false):=c2
    have rd : h1.read b o 2 = some [.bool t.imm,w]:=LV q4 (by decide)
    have hlv : leaves [.bool t.imm,w] = true:=by simp only [leaves,rw'.one.1]; rfl
    have pt:=put [.bool t.imm,w] rfl hlv
    have:=hK (h1.set q (.live [.bool t.imm,w] 46 true)) [.bool t.imm,w] (f1 _) (fun t' ht=>by rw [e] at ht; injection ht with ht; subst ht; exact ⟨w,rfl,rw'.fr (f1 _)⟩) hlv rfl
    rw [e] at this
    have rd3 : (h1.set q (.live [.bool t.imm,w] 46 true)).read q 0 2 = some [.bool t.imm,w]:=H.read_eq (H.get_same ..) (by simp) rfl
    simp only [go_sem,reduceIte,i0,r0.len,i1',q1,c2,rd,Nat.add_zero,pt.1,rd3]
    exact this
  ·have i1' : (l.length : Int) <= i:=by omega
   have e : atS l i = none:=by unfold atS; rw [if_pos (by omega),List.getD_eq_getElem?_getD,List.getElem?_eq_none (by omega)]; rfl
   have:=none' e eb
   simp only [go_sem,reduceIte,i0,r0.len,i1',eb]
   exact this
theorem MU {v : AV} {l : List Sl} (r : RowOf h 3 (slR h) v l) (i : Int) {t : Ty} {ct : List AV} (rt : tyR h t ct) (ol : ∀ x ∈ l,∀ s,x = some s -> s.sh.length <= reachBytes) (ot : t.sh.length <= reachBytes) {K : AV -> H -> Prop} (hK : ∀ h',Fr [] h h' -> K (.bool (isS l i t)) h') : DP PK 176 [v,.int .i64 i,.agg ct] h K:=by
 refine runB176 ?_
 unfold sh176 zT
 refine FR rt fun p h1 f1 hp gp rt1=>?_
 have r1 : RowOf h1 3 (slR h1) v l:=r.mono f1 fun _ _ _ x=>x.fr f1
 refine PI r1 i fun h2 c f2 hc hlv hlen=>?_
 have t0 : ∀ a c : AV,A8 (.tup [a,c]) 0 = some a:=fun _ _=>rfl
 have t1 : ∀ a c : AV,A8 (.tup [a,c]) 1 = some c:=fun _ _=>rfl
 rw [t0,AB,t1,AB]
 refine BH rfl fun q hq=>?_
 obtain ⟨x,y,rfl⟩ : ∃ x y,c = [x,y]:=by
  match c,hlen with
  | [x,y],_=>exact ⟨x,y,rfl⟩
 have ec : (AV.agg [x,y]).cells = [x,y]:=rfl
 have st : stA (h2.set q (.live [.bool false,.nilsl] 46 true)) 2 (.ptr q 0) (.agg [x,y]) = some (h2.set q (.live [x,y] 46 true)):=by
  rw [HY,ec,if_pos (by rfl)]
  exact HT rfl hlv
 rw [st,A3]
 have f3 : Fr [] h2 (h2.set q (.live [x,y] 46 true)):=Fr.new hq
 have gq : (h2.set q (.live [x,y] 46 true)).get q = some (.live [x,y] 46 true):=H.get_same ..
 generalize h2.set q (.live [x,y] 46 true) = h3 at *
 have f13:=f2.trans f3
 cases hat : atS l i with
 | none=>
  have e : isS l i t = false:=by unfold isS; rw [hat]
  have:=hK h3 (f1.trans f13)
  rw [e] at this
  simp only [Option.isSome_none,RH,CT,Bool.false_eq_true,if_false,AB]
  exact this
 | some s=>
  have e : isS l i t = G0 s t:=by unfold isS; rw [hat]
  have rs:=hc s hat
  have rq : ldA h3 (some 2) (.ptr q 0) = some (.agg [x,y]):=by rw [MZ,H.read_eq (n:=2) gq (by simp) rfl]; rfl
  obtain ⟨vt,hct,qt⟩:=rt1.fr f13
  subst hct
  have gp3:=f13 p _ (by simp) gp
  have rp : ldA h3 (some 2) (.ptr p 0) = some (.agg [.bool t.imm,vt]):=by rw [MZ,H.read_eq (n:=2) gp3 (by simp) rfl]; rfl
  have os : s.sh.length <= reachBytes:=by
   unfold atS at hat
   split at hat
   ·rw [List.getD_eq_getElem?_getD] at hat
    cases hx : l[i.toNat]? with
    | none=>rw [hx] at hat; cases hat
    | some z=>rw [hx] at hat; exact ol z (List.mem_of_getElem? hx) s hat
   ·cases hat
  simp only [Option.isSome_some,RG,rq,rp,AB]
  refine XP (rs.fr f3) (rt1.fr f13) os ot fun h4 f4=>?_
  simp only [CT,if_true,AB]
  rw [<- e]
  exact hK h4 (f1.trans (f13.trans f4))
end
section
variable {PK : H -> Prop} {h : H}
theorem U2 {v : AV} {L : List Int} (r : Row h v L.length 1 (ic L)) (hl : L.length <= reachBytes) (AQ : Int) {K : AV -> H -> Prop} (hK : K (.bool (CN AQ (-1) L)) h) : DP PK 79 [v,.int .i64 AQ] h K:=by
 refine runB79 ?_
 unfold sh79 zL zT zE zU zV
 refine AI (fun (J : H -> Prop)=>CN AQ (-1) L = true -> J h) (fun e=>by rw [e] at hK; exact hK) fun J hJ=>?_
 rw [r.len,AB]
 refine AS (L.length + 1) (fun c ls h'=>∃ (i : Nat) (last : Int),ls = [.int .i64 i] /\ i <= L.length /\ CN AQ (-1) L = CN AQ last (L.drop i) /\ ((i = 0 /\ last = -1) \/ ∃ j,i = j + 1 /\ L[j]? = some last /\ 0 <= last) /\ h' = h /\ c = L.length + 1 - i) ⟨0,-1,rfl,by omega,rfl,.inl ⟨rfl,rfl⟩,rfl,rfl⟩ ?_
 rintro c ls h' ⟨i,last,rfl,hi,eR,hlast,e,rfl⟩
 rw [e,BE,BO,AB]
 by_cases q : (i : Int) < L.length
 ·have hi' : i < L.length:=by omega
  obtain ⟨x,hx⟩ : ∃ x,L[i]? = some x:=⟨L[i],by simp [hi']⟩
  have hd : L.drop i = x :: L.drop (i + 1):=by
   rw [List.drop_eq_getElem_cons hi']; congr 1
   rw [List.getElem?_eq_getElem hi'] at hx; injection hx
  rw [hd,CN] at eR
  have en : IntKind.i64.wrap ((i : Int) + 1) = ((i + 1 : Nat) : Int):=by rw [A0 (by omega) (by unfold reachBytes at hl; omega)]; rfl
  obtain ⟨b1,o1,q1,q2⟩:=r.at (i:=(i : Int)) (x:=.int .i64 x) (by omega) q (by rw [Int.toNat_natCast]; simp [ic,hx])
  have no : (decide (last < x) && decide (x < AQ)) = false -> K (.bool false) h:=fun z=>by
   rw [eR,z] at hK; exact hK
  have yes' : (decide (last < x) && decide (x < AQ)) = true -> CN AQ (-1) L = CN AQ x (L.drop (i + 1)):=fun z=>by
   rw [eR,z,Bool.true_and]
  have l1 : -1 <= last:=by rcases hlast with ⟨_,z⟩ | ⟨_,_,_,z⟩ <;> omega
  by_cases x0 : x < 0
  ·have z : (decide (last < x) && decide (x < AQ)) = false:=by
    rw [decide_eq_false (by omega)]; rfl
   simp only [go_sem,reduceIte,q,q1,q2,x0]
   exact no z
  ·by_cases x1 : x < AQ
   ·have x1' : ¬ AQ <= x:=by omega
    rcases hlast with ⟨i0,z⟩ | ⟨j,ij,hj,z⟩
    ·have i00 : ¬ (0 : Int) < (i : Nat):=by omega
     have zz : (decide (last < x) && decide (x < AQ)) = true:=by rw [decide_eq_true (by omega),decide_eq_true x1]; rfl
     simp only [go_sem,reduceIte,q,q1,q2,x0,x1',i00,en]
     exact ⟨L.length + 1 - (i + 1),by omega,i + 1,x,rfl,by omega,yes' zz,.inr ⟨i,rfl,hx,by omega⟩,rfl⟩
    ·have i00 : (0 : Int) < (i : Nat):=by omega
     have em : IntKind.i64.wrap ((i : Int) - 1) = (j : Int):=by rw [A0 (by omega) (by unfold reachBytes at hl; omega)]; omega
     obtain ⟨b2,o2,q3,q4⟩:=r.at (i:=(j : Int)) (x:=.int .i64 last) (by omega) (by omega) (by rw [Int.toNat_natCast]; simp [ic,hj])
     by_cases xl : x <= last
     ·have z : (decide (last < x) && decide (x < AQ)) = false:=by
       rw [decide_eq_false (by omega)]; rfl
      simp only [go_sem,reduceIte,q,q1,q2,x0,x1',i00,em,q3,q4,xl]
      exact no z
     ·have zz : (decide (last < x) && decide (x < AQ)) = true:=by rw [decide_eq_true (by omega),decide_eq_true x1]; rfl
      simp only [go_sem,reduceIte,q,q1,q2,x0,x1',i00,em,q3,q4,xl,en]
      exact ⟨L.length + 1 - (i + 1),by omega,i + 1,x,rfl,by omega,yes' zz,.inr ⟨i,rfl,hx,by omega⟩,rfl⟩
   ·have x1' : AQ <= x:=by omega
    have z : (decide (last < x) && decide (x < AQ)) = false:=by
     rw [decide_eq_false (p:=x < AQ) (by omega),Bool.and_false]
    simp only [go_sem,reduceIte,q,q1,q2,x0,x1']
    exact no z
 ·have : i = L.length:=by omega
  subst this
  simp only [q,decide_false,AO]
  rw [List.drop_length,CN] at eR
  exact hJ eR
end
section
variable {PK : H -> Prop} {h : H}
theorem B8 {m : Img} {c : List AV} (r : imgR h m c) {K : AV -> H -> Prop} (hK : ∀ b h',Fr [] h h' -> h.get b = none -> h'.get b = some (.live c 28 true) -> imgR h' m c -> K (.ptr b 0) h') : AL h (AV.cells (.agg c)) 28 K:=by
 refine BH (cs:=c) r.leaves fun b hb=>?_
 have f : Fr [] h (h.set b (.live c 28 true)):=(Fr.refl _ _).set' hb
 exact hK b _ f hb (H.get_same ..) (r.fr f)
theorem M8 {m : Img} {c : List AV} (rm : imgR h m c) (ml : m.types.length <= reachBytes) {v : AV} {L : List Int} (r : Row h v L.length 1 (ic L)) (hl : L.length <= reachBytes) {K : AV -> H -> Prop} (hK : ∀ h',Fr [] h h' -> K (.bool (L.all m.isTy)) h') : DP PK 80 [.agg c,v] h K:=by
 refine runB80 ?_
 unfold sh80 zL zE zV zH
 refine B8 rm fun p h1 f1 hp gp rm1=>?_
 have r1:=r.fr f1
 have hK:=hK h1 f1
 obtain ⟨vt,vs,vx,vn,vf,rfl,m1,_⟩:=rm1
 have c0 : h1.cell p 0 = some vt:=by rw [AD gp]; rfl
 refine AI (fun (J : H -> Prop)=>L.all m.isTy = true -> J h1) (fun e=>by rw [e] at hK; exact hK) fun J hJ=>?_
 rw [r1.len,AB]
 refine AS (L.length + 1) (fun c ls h'=>∃ i : Nat,ls = [.int .i64 i] /\ i <= L.length /\ L.all m.isTy = (L.drop i).all m.isTy /\ h' = h1 /\ c = L.length + 1 - i) ⟨0,rfl,by omega,rfl,rfl,rfl⟩ ?_
 rintro c ls h' ⟨i,rfl,hi,eR,e,rfl⟩
 rw [e,BE,BO,AB]
 by_cases q : (i : Int) < L.length
 ·have hi' : i < L.length:=by omega
  obtain ⟨x,hx⟩ : ∃ x,L[i]? = some x:=⟨L[i],by simp [hi']⟩
  have hd : L.drop i = x :: L.drop (i + 1):=by
   rw [List.drop_eq_getElem_cons hi']; congr 1
   rw [List.getElem?_eq_getElem hi'] at hx; injection hx
  rw [hd,List.all_cons] at eR
  have en : IntKind.i64.wrap ((i : Int) + 1) = ((i + 1 : Nat) : Int):=by rw [A0 (by omega) (by unfold reachBytes at hl; omega)]; rfl
  obtain ⟨b1,o1,q1,q2⟩:=r1.at (i:=(i : Int)) (x:=.int .i64 x) (by omega) q (by rw [Int.toNat_natCast]; simp [ic,hx])
  by_cases x0 : x < 0
  ·have z : m.isTy x = false:=by unfold Img.isTy; rw [decide_eq_false (by omega)]; rfl
   rw [eR,z] at hK
   simp only [go_sem,reduceIte,q,q1,q2,x0]
   exact hK
  ·by_cases x1 : (m.types.length : Int) <= x
   ·have z : m.isTy x = false:=by unfold Img.isTy; rw [decide_eq_false (p:=x < _) (by omega),Bool.and_false]
    rw [eR,z] at hK
    simp only [go_sem,reduceIte,q,q1,q2,x0,c0,m1.len,x1]
    exact hK
   ·have z : m.isTy x = true:=by unfold Img.isTy; rw [decide_eq_true (by omega),decide_eq_true (by omega)]; rfl
    rw [z,Bool.true_and] at eR
    simp only [go_sem,reduceIte,q,q1,q2,x0,c0,m1.len,x1,en]
    exact ⟨L.length + 1 - (i + 1),by omega,i + 1,rfl,by omega,eR,rfl⟩
 ·have : i = L.length:=by omega
  subst this
  simp only [q,decide_false,AO]
  rw [List.drop_length] at eR
  exact hJ eR
end
section
variable {PK : H -> Prop} {h : H}
theorem IN {f : Fn} {c : List AV} (r : fnR h f c) {K : AV -> H -> Prop} (hK : ∀ b h',Fr [] h h' -> h.get b = none -> h'.get b = some (.live c 39 true) -> fnR h' f c -> K (.ptr b 0) h') : AL h (AV.cells (.agg c)) 39 K:=by
 refine BH (cs:=c) r.leaves fun b hb=>?_
 have f : Fr [] h (h.set b (.live c 39 true)):=(Fr.refl _ _).set' hb
 exact hK b _ f hb (H.get_same ..) (r.fr f)
theorem C7 {m : Img} {vt : AV} (r : RowOf h 2 (tyR h) vt m.types) {t : Int} (h0 : 0 <= t) (h1 : t < m.types.length) : ∃ b o c,(∀ k,iaA 2 vt (.int k t) = some (.ptr b o)) /\ h.read b o 2 = some c /\ tyR h (m.ty t) c:=by
 obtain ⟨x,hx⟩ : ∃ x,m.types[t.toNat]? = some x:=⟨m.types[t.toNat]'(by omega),by simp [show t.toNat < m.types.length by omega]⟩
 obtain ⟨b,o,c,q1,q2,q3,q4,q5⟩:=r.el hx
 have e : m.ty t = x:=by unfold Img.ty; rw [List.getD_eq_getElem?_getD,hx]; rfl
 rw [show ((t.toNat : Nat) : Int) = t by omega] at q1
 exact ⟨b,o,c,q1,q4,by rw [e]; exact q2⟩
theorem OD {m : Img} {c : List AV} (rm : imgR h m c) (om : ∀ t ∈ m.types,t.sh.length <= reachBytes) {f : Fn} {cf : List AV} (rf : fnR h f cf) {v : AV} {l : List Sl} (r : RowOf h 3 (slR h) v l) (ol : ∀ x ∈ l,∀ s,x = some s -> s.sh.length <= reachBytes) (b : Int) (bl : f.blocks.length <= reachBytes)
  (hin : ∀ k ∈ f.blocks,k.inn.length <= reachBytes /\ ∀ t ∈ k.inn,t < m.types.length) {K : AV -> H -> Prop} (hK : ∀ h',Fr [] h h' -> K (.bool (BB m f l b)) h') : DP PK 175 [.agg c,.agg cf,v,.int .i64 b] h K:=by
 refine runB175 ?_
 unfold sh175 zL zT zE zU zV zF zG zH
 refine B8 rm fun p h1 f1 hp gp rm1=>?_
 refine IN (rf.fr f1) fun q h2 f2 hq gq rf2=>?_
 have f12:=f1.trans f2
 have rm2:=rm1.fr f2
 have gp2:=f2 p _ (by simp) gp
 have r2 : RowOf h2 3 (slR h2) v l:=r.mono f12 fun _ _ _ x=>x.fr f12
 have hK2:=fun h' (f : Fr [] h2 h')=>hK h' (f12.trans f)
 obtain ⟨vt,vs,vx,vn,vf,rfl,m1,_⟩:=rm2
 obtain ⟨vp,vb,rfl,g1,g2⟩:=rf2
 have cp0 : ∀ h',Fr [] h2 h' -> h'.cell p 0 = some vt:=fun h' f=>by rw [AD (f p _ (by simp) gp2)]; rfl
 have cq3 : h2.cell q 3 = some vb:=by rw [AD gq]; rfl
 by_cases b0 : b < 0
 ·have z : BB m f l b = false:=by unfold BB; rw [decide_eq_false (p:=0 <= b) (by omega)]; rfl
  have:=hK2 h2 (Fr.refl _ _)
  rw [z] at this
  simp only [go_sem,reduceIte,b0]
  exact this
 ·by_cases b1 : (f.blocks.length : Int) <= b
  ·have z : BB m f l b = false:=by unfold BB; rw [decide_eq_false (p:=b < _) (by omega),Bool.and_false]; rfl
   have:=hK2 h2 (Fr.refl _ _)
   rw [z] at this
   simp only [go_sem,reduceIte,b0,cq3,g2.len,b1]
   exact this
  ·obtain ⟨bk,hbk⟩ : ∃ bk,f.blocks[b.toNat]? = some bk:=⟨f.blocks[b.toNat]'(by omega),by simp [show b.toNat < f.blocks.length by omega]⟩
   obtain ⟨bb,bo,cb,q1,q2,q3,q4,q5⟩:=g2.el hbk
   rw [show ((b.toNat : Nat) : Int) = b by omega] at q1
   obtain ⟨vi,vc,rfl,ri,_⟩:=q2
   have c5 : h2.cell bb bo = some vi:=q5 0 (by decide)
   obtain ⟨hil,hit⟩:=hin bk (List.mem_of_getElem? hbk)
   have ez : BB m f l b = (List.range bk.inn.length).all fun k=>decide (bk.inn.getD k 0 < 0) || isS l k (m.ty (bk.inn.getD k 0)):=by
    unfold BB
    rw [decide_eq_true (p:=0 <= b) (by omega),decide_eq_true (p:=b < _) (by omega),List.getD_eq_getElem?_getD,hbk]
    rfl
   rw [ez] at hK2
   simp only [go_sem,reduceIte,b0,cq3,g2.len,b1]
   refine AI (fun (J : H -> Prop)=>((List.range bk.inn.length).all fun k=>decide (bk.inn.getD k 0 < 0) || isS l k (m.ty (bk.inn.getD k 0))) = true -> ∀ h',Fr [] h2 h' -> J h') (fun e h' f=>by have:=hK2 h' f; rw [e] at this; exact this) fun J hJ=>?_
   simp only [go_sem,reduceIte,q1,c5,Nat.add_zero,ri.len]
   refine AS (bk.inn.length + 1) (fun c ls h'=>∃ i : Nat,ls = [.int .i64 i] /\ i <= bk.inn.length /\ Fr [] h2 h' /\ (∀ k,k < i -> (decide (bk.inn.getD k 0 < 0) || isS l k (m.ty (bk.inn.getD k 0))) = true) /\ c = bk.inn.length + 1 - i) ⟨0,rfl,by omega,Fr.refl _ _,fun k hk=>absurd hk (by omega),rfl⟩ ?_
   rintro c ls h' ⟨i,rfl,hi,f3,hall,rfl⟩
   rw [BE,BO,AB]
   by_cases qq : (i : Int) < bk.inn.length
   ·have hi' : i < bk.inn.length:=by omega
    obtain ⟨x,hx⟩ : ∃ x,bk.inn[i]? = some x:=⟨bk.inn[i],by simp [hi']⟩
    have ex : bk.inn.getD i 0 = x:=by rw [List.getD_eq_getElem?_getD,hx]; rfl
    have en : IntKind.i64.wrap ((i : Int) + 1) = ((i + 1 : Nat) : Int):=by rw [A0 (by omega) (by unfold reachBytes at hil; omega)]; rfl
    obtain ⟨b7,o7,u1,u2⟩:=(ri.fr f3).at (i:=(i : Int)) (x:=.int .i64 x) (by omega) qq (by rw [Int.toNat_natCast]; simp [ic,hx])
    have next : (decide (x < 0) || isS l i (m.ty x)) = true -> ∀ k,k < i + 1 -> (decide (bk.inn.getD k 0 < 0) || isS l k (m.ty (bk.inn.getD k 0))) = true:=fun z k hk=>by
     by_cases e : k = i
     ·rw [e,ex]; exact z
     ·exact hall k (by omega)
    by_cases x0 : x < 0
    ·have x0' : ¬ 0 <= x:=by omega
     simp only [go_sem,reduceIte,qq,u1,u2,x0',en]
     exact ⟨bk.inn.length + 1 - (i + 1),by omega,i + 1,rfl,by omega,f3,next (by rw [decide_eq_true x0]; rfl),rfl⟩
    ·have x0' : 0 <= x:=by omega
     have m1' : RowOf h' 2 (tyR h') vt m.types:=m1.mono f3 fun _ _ _ x=>x.fr f3
     obtain ⟨b8,o8,ct,w1,w2,w3⟩:=C7 m1' x0' (hit x (List.mem_of_getElem? hx))
     have ot : (m.ty x).sh.length <= reachBytes:=by
      unfold Img.ty
      rw [List.getD_eq_getElem?_getD]
      cases hq : m.types[x.toNat]? with
      | none=>show (0 : Nat) <= _; omega
      | some z=>exact om z (List.mem_of_getElem? hq)
     simp only [go_sem,reduceIte,qq,u1,u2,x0',cp0 h' f3,w1,w2]
     refine MU (r2.mono f3 fun _ _ _ x=>x.fr f3) i w3 ol ot fun h5 f5=>?_
     have f35:=f3.trans f5
     cases hz : isS l i (m.ty x) with
     | true=>
      simp only [go_sem,reduceIte,en]
      exact ⟨bk.inn.length + 1 - (i + 1),by omega,i + 1,rfl,by omega,f35,next (by rw [hz,Bool.or_true]),rfl⟩
     | false=>
      have z : ((List.range bk.inn.length).all fun k=>decide (bk.inn.getD k 0 < 0) || isS l k (m.ty (bk.inn.getD k 0))) = false:=by
       rw [List.all_eq_false]
       exact ⟨i,by simpa using hi',by rw [ex,hz,decide_eq_false x0]; decide⟩
      have:=hK2 h5 f35
      rw [z] at this
      simp only [go_sem,reduceIte]
      exact this
   ·have : i = bk.inn.length:=by omega
    subst this
    simp only [qq,decide_false,AO]
    exact hJ (List.all_eq_true.2 fun k hk=>hall k (by simpa using hk)) h' f3
end
section
variable {PK : H -> Prop} {h : H}
theorem QE {x y : AV} (hl : leaves [x,y] = true) {h : H} {q : Nat} {X : H -> AV -> H -> Prop} {K : AV -> H -> Prop} (hg : h.get q = some (.live [.bool false,.nilsl] 46 true)) (hK : K (.agg [x,y]) (h.set q (.live [x,y] 46 true))) :
  AM (stA h 2 (.ptr q 0) (.agg [x,y])) .undef fun _ h=>AA (ldA h (some 2) (.ptr q 0)) h fun res _=>K res h:=by
 have ec : (AV.agg [x,y]).cells = [x,y]:=rfl
 have st : stA h 2 (.ptr q 0) (.agg [x,y]) = some (h.set q (.live [x,y] 46 true)):=by
  rw [HY,ec,if_pos (by rfl)]
  exact O9 hg rfl hl
 have ld : ldA (h.set q (.live [x,y] 46 true)) (some 2) (.ptr q 0) = some (.agg [x,y]):=by rw [MZ,H.read_eq (n:=2) (H.get_same ..) (by simp) rfl]; rfl
 rw [st,A3,ld,AB]
 exact hK
theorem PP {K : AV -> H -> Prop} (hK : ∀ c h',Fr [] h h' -> tyR h' BF c -> K (.agg c) h') : DP PK 177 [] h K:=by
 refine runB177 ?_
 unfold sh177
 refine BH rfl fun q hq=>?_
 have eb : AT (AG [.bool false,.nilsl] [(0,1,.bool true)]) = some (.agg [.bool true,.nilsl]):=rfl
 rw [eb,AB]
 refine QE (X:=fun _ _ _=>True) rfl (H.get_same ..) ?_
 have f : Fr [] h ((h.set q (.live [.bool false,.nilsl] 46 true)).set q (.live [.bool true,.nilsl] 46 true)):=(Fr.new (S:=[]) hq).set' hq
 exact hK _ _ f ⟨.nilsl,rfl,Row.nil _ 1⟩
theorem K5 {s : Int} {K : AV -> H -> Prop} (hK : ∀ c h',Fr [] h h' -> tyR h' (DK s) c -> K (.agg c) h') : DP PK 209 [.int .i64 s] h K:=by
 refine runB209 ?_
 unfold sh209
 refine BH rfl fun q hq=>?_
 have gq : (h.set q (.live [.bool false,.nilsl] 46 true)).get q = some (.live [.bool false,.nilsl] 46 true):=H.get_same ..
 have f1 : Fr [] h (h.set q (.live [.bool false,.nilsl] 46 true)):=Fr.new hq
 generalize h.set q (.live [.bool false,.nilsl] 46 true) = h1 at *
 rw [OE]
 refine ⟨rfl,fun m hm=>?_⟩
 have f2 : Fr [] h1 (h1.set m (.live [.int .i64 s] 3 true)):=Fr.new hm
 have gq2:=f2 q _ (by simp) gq
 have r2 : Row (h1.set m (.live [.int .i64 s] 3 true)) (.sl m 0 1 (.exact 1)) 1 1 (ic [s]):=⟨rfl,.inr ⟨m,0,_,rfl,rfl,H.read_eq (H.get_same ..) (by simp) rfl⟩⟩
 generalize h1.set m (.live [.int .i64 s] 3 true) = h2 at *
 have eb : AT (AG [.bool false,.nilsl] [(1,1,.sl m 0 1 (.exact 1))]) = some (.agg [.bool false,.sl m 0 1 (.exact 1)]):=rfl
 simp only [eb,AB]
 refine QE (X:=fun _ _ _=>True) rfl gq2 ?_
 have f3 : Fr [] h (h2.set q (.live [.bool false,.sl m 0 1 (.exact 1)] 46 true)):=(f1.trans f2).set' hq
 refine hK _ _ f3 ⟨.sl m 0 1 (.exact 1),rfl,?_⟩
 refine r2.mono fun k off cap ob e hg=>?_
 injection e with e
 have : k ≠ q:=fun z=>by rw [<- e] at z; rw [z] at hm; rw [gq] at hm; cases hm
 rw [H.get_other _ _ this]; exact hg
end
section
variable {PK : H -> Prop} {h : H}
theorem W4 {m : Img} (om : ∀ t ∈ m.types,t.sh.length <= reachBytes) (t : Int) : (m.ty t).sh.length <= reachBytes:=by
 unfold Img.ty
 rw [List.getD_eq_getElem?_getD]
 cases hq : m.types[t.toNat]? with
 | none=>show (0 : Nat) <= _; omega
 | some z=>exact om z (List.mem_of_getElem? hq)
theorem JW {m : Img} {l : List Sl} {xs want : List Int} (hl : xs.length = want.length) : CC m l xs want = true ↔ ∀ i,i < xs.length -> isS l (xs.getD i 0) (m.ty (want.getD i 0)) = true:=by
 unfold CC
 rw [decide_eq_true hl,Bool.true_and,List.all_eq_true]
 constructor
 ·intro h i hi
  have:=h ((xs.getD i 0),(want.getD i 0)) (by
   refine List.mem_of_getElem? (i:=i) ?_
   rw [List.getElem?_zip_eq_some,List.getD_eq_getElem?_getD,List.getD_eq_getElem?_getD,List.getElem?_eq_getElem hi,List.getElem?_eq_getElem (by omega)]
   exact ⟨rfl,rfl⟩)
  exact this
 ·intro h p hp
  obtain ⟨i,hi⟩:=List.getElem?_of_mem hp
  rw [List.getElem?_zip_eq_some] at hi
  obtain ⟨e1,e2⟩:=hi
  have hlt:=(List.getElem?_eq_some_iff.1 e1).1
  have:=h i hlt
  rw [List.getD_eq_getElem?_getD,List.getD_eq_getElem?_getD,e1,e2] at this
  exact this
theorem RB {m : Img} {c : List AV} (rm : imgR h m c) (om : ∀ t ∈ m.types,t.sh.length <= reachBytes) {v : AV} {l : List Sl} (r : RowOf h 3 (slR h) v l) (ol : ∀ x ∈ l,∀ s,x = some s -> s.sh.length <= reachBytes) {vx vw : AV} {xs want : List Int} (rx : Row h vx xs.length 1 (ic xs)) (rw' : Row h vw want.length 1 (ic want)) (hx : xs.length <= reachBytes)
  (hw : ∀ t ∈ want,0 <= t /\ t < m.types.length) {K : AV -> H -> Prop} (hK : ∀ h',Fr [] h h' -> K (.bool (CC m l xs want)) h') : DP PK 179 [.agg c,v,vx,vw] h K:=by
 refine runB179 ?_
 unfold sh179 zL zF
 refine B8 rm fun p h1 f1 hp gp rm1=>?_
 have r1 : RowOf h1 3 (slR h1) v l:=r.mono f1 fun _ _ _ x=>x.fr f1
 have hK1:=fun h' (f : Fr [] h1 h')=>hK h' (f1.trans f)
 obtain ⟨vt,vs,vx',vn,vf,rfl,m1,_⟩:=rm1
 have cp0 : ∀ h',Fr [] h1 h' -> h'.cell p 0 = some vt:=fun h' f=>by rw [AD (f p _ (by simp) gp)]; rfl
 rw [rx.len,AB,rw'.len,AB]
 by_cases hl : xs.length = want.length
 ·have hl' : ((xs.length : Nat) : Int) = (want.length : Nat):=by omega
  simp only [go_sem,reduceIte,hl']
  refine AI (fun (J : H -> Prop)=>CC m l xs want = true -> ∀ h',Fr [] h1 h' -> J h') (fun e h' f=>by have:=hK1 h' f; rw [e] at this; exact this) fun J hJ=>?_
  refine AS (xs.length + 1) (fun c ls h'=>∃ i : Nat,ls = [.int .i64 i] /\ i <= xs.length /\ Fr [] h1 h' /\ (∀ k,k < i -> isS l (xs.getD k 0) (m.ty (want.getD k 0)) = true) /\ c = xs.length + 1 - i) ⟨0,rfl,by omega,Fr.refl _ _,fun k hk=>absurd hk (by omega),rfl⟩ ?_
  rintro c ls h' ⟨i,rfl,hi,f3,hall,rfl⟩
  rw [BE,BO,AB]
  by_cases qq : (i : Int) < want.length
  ·have hi' : i < xs.length:=by omega
   obtain ⟨x,hx0⟩ : ∃ x,xs[i]? = some x:=⟨xs[i],by simp [hi']⟩
   obtain ⟨t,ht0⟩ : ∃ t,want[i]? = some t:=⟨want[i]'(by omega),by simp [show i < want.length by omega]⟩
   have ex : xs.getD i 0 = x:=by rw [List.getD_eq_getElem?_getD,hx0]; rfl
   have et : want.getD i 0 = t:=by rw [List.getD_eq_getElem?_getD,ht0]; rfl
   have en : IntKind.i64.wrap ((i : Int) + 1) = ((i + 1 : Nat) : Int):=by rw [A0 (by omega) (by unfold reachBytes at hx; omega)]; rfl
   obtain ⟨b7,o7,u1,u2⟩:=(rx.fr (f1.trans f3)).at (i:=(i : Int)) (x:=.int .i64 x) (by omega) (by omega) (by rw [Int.toNat_natCast]; simp [ic,hx0])
   obtain ⟨b6,o6,y1,y2⟩:=(rw'.fr (f1.trans f3)).at (i:=(i : Int)) (x:=.int .i64 t) (by omega) qq (by rw [Int.toNat_natCast]; simp [ic,ht0])
   have m1' : RowOf h' 2 (tyR h') vt m.types:=m1.mono f3 fun _ _ _ x=>x.fr f3
   have ht:=hw t (List.mem_of_getElem? ht0)
   obtain ⟨b8,o8,ct,w1,w2,w3⟩:=C7 m1' ht.1 ht.2
   simp only [go_sem,reduceIte,qq,u1,u2,cp0 h' f3,y1,y2,w1,w2]
   refine MU (r1.mono f3 fun _ _ _ x=>x.fr f3) x w3 ol (W4 om t) fun h5 f5=>?_
   have f35:=f3.trans f5
   cases hz : isS l x (m.ty t) with
   | true=>
    simp only [go_sem,reduceIte,en]
    refine ⟨xs.length + 1 - (i + 1),by omega,i + 1,rfl,by omega,f35,fun k hk=>?_,rfl⟩
    by_cases e : k = i
    ·rw [e,ex,et]; exact hz
    ·exact hall k (by omega)
   | false=>
    have z : CC m l xs want = false:=by
     cases hq : CC m l xs want with
     | false=>rfl
     | true=>
      have:=(JW hl).1 hq i hi'
      rw [ex,et,hz] at this; cases this
    have:=hK1 h5 f35
    rw [z] at this
    simp only [go_sem,reduceIte]
    exact this
  ·have : i = xs.length:=by omega
   subst this
   simp only [qq,decide_false,AO]
   exact hJ ((JW hl).2 hall) h' f3
 ·have hl' : ¬ ((xs.length : Nat) : Int) = (want.length : Nat):=by omega
  have z : CC m l xs want = false:=by unfold CC; rw [decide_eq_false hl]; rfl
  have:=hK1 h1 (Fr.refl _ _)
  rw [z] at this
  simp only [go_sem,reduceIte,hl']
  exact this
end
section
variable {PK : H -> Prop} {h : H}
def DX (n : Int) : Int:=if 4611686018427387904 <= n then n - 9223372036854775808 else if n < -4611686018427387904 then n + 9223372036854775808 else n
theorem rwrap_c {n : Int} (n0 : -9223372036854775808 <= n) (n1 : n <= 9223372036854775807) {K : AV -> H -> Prop} (hK : K (.int .i64 (DX n)) h) : DP PK 221 [.int .i64 n] h K:=by
 refine runB221 ?_
 unfold sh221
 refine AI (fun (J : AV -> H -> Prop)=>∀ x,(if 4611686018427387904 <= n then x = n - 9223372036854775808 else x = n) -> J (.int .i64 x) h) (fun x hx=>?_) fun J hJ=>?_
 ·refine AI (fun (J : AV -> H -> Prop)=>J (.int .i64 (DX n)) h) hK fun J hJ=>?_
  refine AS 2 (fun c ls h'=>∃ y,ls = [.int .i64 y] /\ h' = h /\ ((y = x /\ c = 2) \/ (y = DX n /\ -4611686018427387904 <= y /\ c = 1))) ⟨x,rfl,rfl,.inl ⟨rfl,rfl⟩⟩ ?_
  rintro c ls h' ⟨y,rfl,e,hy⟩
  rw [e,BE,BO,AB]
  by_cases q : y < -4611686018427387904
  ·rcases hy with ⟨e1,e2⟩ | ⟨_,z,_⟩
   ·subst e1; subst e2
    have hn : ¬ 4611686018427387904 <= n:=fun z=>by rw [if_pos z] at hx; omega
    rw [if_neg hn] at hx
    subst hx
    have ew : DX y = y + 9223372036854775808:=by unfold DX; rw [if_neg hn,if_pos q]
    have a1 : IntKind.i64.wrap (y + 4611686018427387904) = y + 4611686018427387904:=A0 (by omega) (by omega)
    have a2 : IntKind.i64.wrap (y + 4611686018427387904 + 4611686018427387904) = DX y:=by rw [ew,A0 (by omega) (by omega)]; omega
    simp only [q,decide_true,AZ]
    rw [BS,AB,a1,BS,AB,a2]
    exact ⟨1,by omega,DX y,rfl,rfl,.inr ⟨rfl,by rw [ew]; omega,rfl⟩⟩
   ·omega
  ·simp only [q,decide_false,AO]
   have ey : y = DX n:=by
    rcases hy with ⟨e1,_⟩ | ⟨z,_⟩
    ·subst e1
     unfold DX
     split at hx
     ·rename_i z; rw [if_pos z]; exact hx
     ·rename_i z; rw [if_neg z,if_neg (by omega)]; exact hx
    ·exact z
   rw [ey]; exact hJ
 ·refine AS 2 (fun c ls h'=>∃ y,ls = [.int .i64 y] /\ h' = h /\ ((y = n /\ c = 2) \/ (4611686018427387904 <= n /\ y = n - 9223372036854775808 /\ c = 1))) ⟨n,rfl,rfl,.inl ⟨rfl,rfl⟩⟩ ?_
  rintro c ls h' ⟨y,rfl,e,hy⟩
  rw [e,BE,b_geq,AB]
  by_cases q : 4611686018427387904 <= y
  ·rcases hy with ⟨e1,e2⟩ | ⟨_,z,_⟩
   ·subst e1; subst e2
    have a1 : IntKind.i64.wrap (y - 4611686018427387904) = y - 4611686018427387904:=A0 (by omega) (by omega)
    have a2 : IntKind.i64.wrap (y - 4611686018427387904 - 4611686018427387904) = y - 9223372036854775808:=by rw [A0 (by omega) (by omega)]; omega
    simp only [q,decide_true,AZ]
    rw [JN,AB,a1,JN,AB,a2]
    exact ⟨1,by omega,y - 9223372036854775808,rfl,rfl,.inr ⟨by first | exact q | trivial,rfl,rfl⟩⟩
   ·omega
  ·simp only [q,decide_false,AO]
   refine hJ y ?_
   rcases hy with ⟨e1,_⟩ | ⟨z,z2,_⟩
   ·subst e1; rw [if_neg q]
   ·rw [if_pos z]; exact z2
theorem RF {n : Int} (n0 : -9223372036854775808 <= n) (n1 : n <= 9223372036854775807) {K : AV -> H -> Prop} (hK : K (.bool (BU n)) h) : DP PK 208 [.int .i64 n] h K:=by
 refine runB208 ?_
 unfold sh208
 refine rwrap_c n0 n1 ?_
 have e : decide (DX n = n) = BU n:=by
  unfold DX BU
  by_cases a : 4611686018427387904 <= n
  ·rw [if_pos a,decide_eq_false (by omega),decide_eq_false (p:=n < 4611686018427387904) (by omega),Bool.and_false]
  ·rw [if_neg a]
   by_cases b : n < -4611686018427387904
   ·rw [if_pos b,decide_eq_false (by omega),decide_eq_false (p:=-4611686018427387904 <= n) (by omega)]; rfl
   ·rw [if_neg b,decide_eq_true rfl,decide_eq_true (by omega),decide_eq_true (by omega)]; rfl
 rw [S9,AB,e]
 exact hK
end
section
variable {PK : H -> Prop} {h : H}
theorem EO {m : Img} {vs : AV} (r : RowOf h 3 (shR h) vs m.shapes) {s : Int} (h0 : 0 <= s) (h1 : s < m.shapes.length) : ∃ b o v,(∀ k,iaA 3 vs (.int k s) = some (.ptr b o)) /\ h.cell b o = some (.int .i64 (m.shp s).kind) /\ h.cell b (o + 1) = some v /\ Row h v (m.shp s).fs.length 1 (ic (m.shp s).fs) /\ m.shp s ∈ m.shapes:=by
 obtain ⟨x,hx⟩ : ∃ x,m.shapes[s.toNat]? = some x:=⟨m.shapes[s.toNat]'(by omega),by simp [show s.toNat < m.shapes.length by omega]⟩
 obtain ⟨b,o,c,q1,q2,q3,q4,q5⟩:=r.el hx
 have e : m.shp s = x:=by unfold Img.shp; rw [List.getD_eq_getElem?_getD,hx]; rfl
 rw [show ((s.toNat : Nat) : Int) = s by omega] at q1
 obtain ⟨v,rfl,rv⟩:=q2
 rw [e]
 exact ⟨b,o,v,q1,q5 0 (by decide),q5 1 (by decide),rv,List.mem_of_getElem? hx⟩
theorem VP {m : Img} {c : List AV} (rm : imgR h m c) (om : ∀ t ∈ m.types,t.sh.length <= reachBytes) (of : ∀ s ∈ m.shapes,∀ t ∈ s.fs,0 <= t /\ t < m.types.length) {v : AV} {l : List Sl} (r : RowOf h 3 (slR h) v l) (ol : ∀ x ∈ l,∀ s,x = some s -> s.sh.length <= reachBytes) {vx : AV} {sh : List Int} (rx : Row h vx sh.length 1 (ic sh)) (hx : sh.length <= reachBytes)
  (hs : ∀ s ∈ sh,0 <= s /\ s < m.shapes.length) (i k : Int) {K : AV -> H -> Prop} (hK : ∀ h',Fr [] h h' -> K (.bool (CX m l i sh k)) h') : DP PK 212 [.agg c,v,.int .i64 i,vx,.int .i64 k] h K:=by
 refine runB212 ?_
 unfold sh212 zL zE zV zH
 refine B8 rm fun p h1 f1 hp gp rm1=>?_
 have r1 : RowOf h1 3 (slR h1) v l:=r.mono f1 fun _ _ _ x=>x.fr f1
 have hK1:=fun h' (f : Fr [] h1 h')=>hK h' (f1.trans f)
 obtain ⟨vt,vs,vx',vn,vf,rfl,m1,m2,_⟩:=rm1
 have cp0 : ∀ h',Fr [] h1 h' -> h'.cell p 0 = some vt:=fun h' f=>by rw [AD (f p _ (by simp) gp)]; rfl
 have cp1 : ∀ h',Fr [] h1 h' -> h'.cell p 1 = some vs:=fun h' f=>by rw [AD (f p _ (by simp) gp)]; rfl
 refine AI (fun (J : H -> Prop)=>CX m l i sh k = true -> ∀ h',Fr [] h1 h' -> J h') (fun e h' f=>by have:=hK1 h' f; rw [e] at this; exact this) fun J hJ=>?_
 rw [rx.len,AB]
 refine AS (sh.length + 1) (fun c ls h'=>∃ j : Nat,ls = [.int .i64 j] /\ j <= sh.length /\ Fr [] h1 h' /\ CX m l i sh k = CX m l i (sh.drop j) k /\ c = sh.length + 1 - j) ⟨0,rfl,by omega,Fr.refl _ _,rfl,rfl⟩ ?_
 rintro c ls h' ⟨j,rfl,hj,f3,eE,rfl⟩
 rw [BE,BO,AB]
 by_cases qq : (j : Int) < sh.length
 ·have hj' : j < sh.length:=by omega
  obtain ⟨x,hx0⟩ : ∃ x,sh[j]? = some x:=⟨sh[j],by simp [hj']⟩
  have hd : sh.drop j = x :: sh.drop (j + 1):=by
   rw [List.drop_eq_getElem_cons hj']; congr 1
   rw [List.getElem?_eq_getElem hj'] at hx0; injection hx0
  have eE2 : CX m l i sh k = ((BQ m k x && isS l i (BM m k x)) && CX m l i (sh.drop (j + 1)) k):=by rw [eE,hd]; rfl
  have en : IntKind.i64.wrap ((j : Int) + 1) = ((j + 1 : Nat) : Int):=by rw [A0 (by omega) (by unfold reachBytes at hx; omega)]; rfl
  obtain ⟨b7,o7,u1,u2⟩:=(rx.fr (f1.trans f3)).at (i:=(j : Int)) (x:=.int .i64 x) (by omega) qq (by rw [Int.toNat_natCast]; simp [ic,hx0])
  have hxs:=hs x (List.mem_of_getElem? hx0)
  have m1' : RowOf h' 2 (tyR h') vt m.types:=m1.mono f3 fun _ _ _ x=>x.fr f3
  have m2' : RowOf h' 3 (shR h') vs m.shapes:=m2.mono f3 fun _ _ _ x=>by obtain ⟨v,e,q⟩:=x; exact ⟨v,e,q.fr f3⟩
  obtain ⟨b8,o8,vfs,w1,w2,w3,w4,w5⟩:=EO m2' hxs.1 hxs.2
  have bad : (BQ m k x && isS l i (BM m k x)) = false -> ∀ h5,Fr [] h1 h5 -> K (.bool false) h5:=fun z h5 f=>by
   have:=hK1 h5 f
   rw [eE2,z] at this; exact this
  by_cases k0 : k < 0
  ·have z : (BQ m k x && isS l i (BM m k x)) = false:=by unfold BQ; rw [decide_eq_false (p:=0 <= k) (by omega)]; rfl
   have:=bad z h' f3
   simp only [go_sem,reduceIte,qq,u1,u2,k0]
   exact this
  ·by_cases k1 : ((m.shp x).fs.length : Int) <= k
   ·have z : (BQ m k x && isS l i (BM m k x)) = false:=by unfold BQ; rw [decide_eq_false (p:=k < _) (by omega),Bool.and_false]; rfl
    have:=bad z h' f3
    simp only [go_sem,reduceIte,qq,u1,u2,k0,cp1 h' f3,w1,w3,w4.len,k1]
    exact this
   ·obtain ⟨t,ht⟩ : ∃ t,(m.shp x).fs[k.toNat]? = some t:=⟨(m.shp x).fs[k.toNat]'(by omega),by simp [show k.toNat < (m.shp x).fs.length by omega]⟩
    have eT : BM m k x = m.ty t:=by unfold BM; rw [List.getD_eq_getElem?_getD,ht]; rfl
    have eB : BQ m k x = true:=by unfold BQ; rw [decide_eq_true (by omega),decide_eq_true (by omega)]; rfl
    obtain ⟨b9,o9,y1,y2⟩:=w4.at (i:=k) (x:=.int .i64 t) (by omega) (by omega) (by simp [ic,ht])
    have htt:=of _ w5 t (List.mem_of_getElem? ht)
    obtain ⟨b10,o10,ct,z1,z2,z3⟩:=C7 m1' htt.1 htt.2
    simp only [go_sem,reduceIte,qq,u1,u2,k0,cp1 h' f3,cp0 h' f3,w1,w3,w4.len,k1,y1,y2,z1,z2]
    refine MU (r1.mono f3 fun _ _ _ x=>x.fr f3) i z3 ol (W4 om t) fun h5 f5=>?_
    have f35:=f3.trans f5
    cases hz : isS l i (m.ty t) with
    | true=>
     simp only [go_sem,reduceIte,en]
     refine ⟨sh.length + 1 - (j + 1),by omega,j + 1,rfl,by omega,f35,by rw [eE2,eB,eT,hz]; rfl,rfl⟩
    | false=>
     have:=bad (by rw [eT,hz,Bool.and_false]) h5 f35
     simp only [go_sem,reduceIte]
     exact this
 ·have : j = sh.length:=by omega
  subst this
  simp only [qq,decide_false,AO]
  rw [List.drop_length] at eE
  exact hJ eE h' f3
end
section
variable {PK : H -> Prop} {h : H}
theorem R2 {m : Img} {c : List AV} (rm : imgR h m c) {v : AV} {l : List Sl} (r : RowOf h 3 (slR h) v l) (ol : ∀ x ∈ l,∀ s,x = some s -> s.sh.length <= reachBytes /\ ∀ n ∈ s.sh,0 <= n /\ n < m.shapes.length) (i k1 k2 : Int) {K : AV -> H -> Prop}
  (hno : B5 m l i k1 k2 = none -> ∀ h',Fr [] h h' -> K (.tup [.nilsl,.bool false]) h') (hyes : ∀ sh,B5 m l i k1 k2 = some sh -> ∀ h' w,Fr [] h h' -> Row h' w sh.length 1 (ic sh) -> K (.tup [w,.bool true]) h') : DP PK 210 [.agg c,v,.int .i64 i,.int .i64 k1,.int .i64 k2] h K:=by
 refine runB210 ?_
 unfold sh210 zL zT zE zU zF zG zH
 refine B8 rm fun p h1 f1 hp gp rm1=>?_
 have r1 : RowOf h1 3 (slR h1) v l:=r.mono f1 fun _ _ _ x=>x.fr f1
 refine PI r1 i fun h2 c2 f2 hc hlv hlen=>?_
 have t0 : ∀ a c : AV,A8 (.tup [a,c]) 0 = some a:=fun _ _=>rfl
 have t1 : ∀ a c : AV,A8 (.tup [a,c]) 1 = some c:=fun _ _=>rfl
 rw [t0,AB,t1,AB]
 refine BH rfl fun q hq=>?_
 obtain ⟨x,y,rfl⟩ : ∃ x y,c2 = [x,y]:=by
  match c2,hlen with
  | [x,y],_=>exact ⟨x,y,rfl⟩
 have ec : (AV.agg [x,y]).cells = [x,y]:=rfl
 have st : stA (h2.set q (.live [.bool false,.nilsl] 46 true)) 2 (.ptr q 0) (.agg [x,y]) = some (h2.set q (.live [x,y] 46 true)):=by
  rw [HY,ec,if_pos (by rfl)]
  exact HT rfl hlv
 rw [st,A3]
 have f3 : Fr [] h2 (h2.set q (.live [x,y] 46 true)):=Fr.new hq
 have gq : (h2.set q (.live [x,y] 46 true)).get q = some (.live [x,y] 46 true):=H.get_same ..
 generalize h2.set q (.live [x,y] 46 true) = h3 at *
 have f13:=f2.trans f3
 have cq0 : h3.cell q 0 = some x:=by rw [AD gq]; rfl
 have cq1 : h3.cell q 1 = some y:=by rw [AD gq]; rfl
 cases hat : atS l i with
 | none=>
  have e : B5 m l i k1 k2 = none:=by unfold B5; rw [hat]
  simp only [go_sem,reduceIte,Option.isSome_none]
  exact hno e h3 (f1.trans f13)
 | some t=>
  obtain ⟨w,hxy,rw'⟩:=(hc t hat).fr f3
  injection hxy with hx hxy
  injection hxy with hy _
  subst hx; subst hy
  have hno':=fun e=>hno e h3 (f1.trans f13)
  cases hi : t.imm with
  | true=>
   have e : B5 m l i k1 k2 = none:=by unfold B5; rw [hat]; simp [hi]
   rw [hi] at cq0
   simp only [go_sem,reduceIte,Option.isSome_some,cq0]
   exact hno' e
  | false=>
   rw [hi] at cq0
   by_cases h0 : t.sh.length = 0
   ·have h0' : t.sh = []:=List.eq_nil_of_length_eq_zero h0
    have e : B5 m l i k1 k2 = none:=by unfold B5; rw [hat]; simp [h0']
    have hz : ((t.sh.length : Nat) : Int) = 0:=by omega
    simp only [go_sem,reduceIte,Option.isSome_some,cq0,cq1,rw'.len,hz]
    exact hno' e
   ·have hz : ¬ ((t.sh.length : Nat) : Int) = 0:=by omega
    simp only [go_sem,reduceIte,Option.isSome_some,cq0,cq1,rw'.len,hz]
    have hne : t.sh.isEmpty = false:=by cases ht : t.sh with | nil=>rw [ht] at h0; exact absurd rfl h0 | cons a b=>rfl
    have eo : B5 m l i k1 k2 = if (t.sh.all fun s=>decide ((m.shp s).kind = k1) || decide ((m.shp s).kind = k2)) then some t.sh else none:=by
     unfold B5; rw [hat]; simp only [hi,hne,Bool.not_false,Bool.true_and]
    have hol : t.sh.length <= reachBytes /\ ∀ n ∈ t.sh,0 <= n /\ n < m.shapes.length:=by
     unfold atS at hat
     split at hat
     ·rw [List.getD_eq_getElem?_getD] at hat
      cases hx : l[i.toNat]? with
      | none=>rw [hx] at hat; cases hat
      | some z=>rw [hx] at hat; exact ol z (List.mem_of_getElem? hx) t hat
     ·cases hat
    obtain ⟨vt,vs,vx',vn,vf,rfl,m1,m2,_⟩:=rm1
    have cp1 : h3.cell p 1 = some vs:=by rw [AD (f13 p _ (by simp) gp)]; rfl
    have m2' : RowOf h3 3 (shR h3) vs m.shapes:=m2.mono f13 fun _ _ _ x=>by obtain ⟨v,e,q⟩:=x; exact ⟨v,e,q.fr f13⟩
    refine AI (fun (J : H -> Prop)=>(t.sh.all fun s=>decide ((m.shp s).kind = k1) || decide ((m.shp s).kind = k2)) = true -> J h3) (fun e=>?_) fun J hJ=>?_
    ·simp only [go_sem,reduceIte,cq1]
     exact hyes t.sh (by rw [eo,if_pos e]) h3 _ (f1.trans f13) rw'
    ·refine AS (t.sh.length + 1) (fun c ls h'=>∃ j : Nat,ls = [.int .i64 j] /\ j <= t.sh.length /\ h' = h3 /\ (t.sh.all fun s=>decide ((m.shp s).kind = k1) || decide ((m.shp s).kind = k2)) = ((t.sh.drop j).all fun s=>decide ((m.shp s).kind = k1) || decide ((m.shp s).kind = k2)) /\ c = t.sh.length + 1 - j) ⟨0,rfl,by omega,rfl,rfl,rfl⟩ ?_
     rintro c ls h' ⟨j,rfl,hj,e,eE,rfl⟩
     rw [e]
     rw [BE,BO,AB]
     by_cases qq : (j : Int) < t.sh.length
     ·have hj' : j < t.sh.length:=by omega
      obtain ⟨x,hx0⟩ : ∃ x,t.sh[j]? = some x:=⟨t.sh[j],by simp [hj']⟩
      have hd : t.sh.drop j = x :: t.sh.drop (j + 1):=by
       rw [List.drop_eq_getElem_cons hj']; congr 1
       rw [List.getElem?_eq_getElem hj'] at hx0; injection hx0
      rw [hd,List.all_cons] at eE
      have hl9:=hol.1
      have en : IntKind.i64.wrap ((j : Int) + 1) = ((j + 1 : Nat) : Int):=by rw [A0 (by omega) (by unfold reachBytes at hl9; omega)]; rfl
      obtain ⟨b7,o7,u1,u2⟩:=rw'.at (i:=(j : Int)) (x:=.int .i64 x) (by omega) qq (by rw [Int.toNat_natCast]; simp [ic,hx0])
      have hxs:=hol.2 x (List.mem_of_getElem? hx0)
      obtain ⟨b8,o8,vfs,w1,w2,w3,w4,w5⟩:=EO m2' hxs.1 hxs.2
      by_cases a1 : (m.shp x).kind = k1
      ·rw [decide_eq_true a1,Bool.true_or,Bool.true_and] at eE
       simp only [go_sem,reduceIte,qq,u1,u2,cp1,w1,w2,a1,en]
       exact ⟨t.sh.length + 1 - (j + 1),by omega,j + 1,rfl,by omega,eE,rfl⟩
      ·by_cases a2 : (m.shp x).kind = k2
       ·rw [decide_eq_true a2,Bool.or_true,Bool.true_and] at eE
        subst a2
        simp only [go_sem,reduceIte,qq,u1,u2,cp1,w1,w2,a1,en]
        exact ⟨t.sh.length + 1 - (j + 1),by omega,j + 1,rfl,by omega,eE,rfl⟩
       ·rw [decide_eq_false a1,decide_eq_false a2,Bool.or_false,Bool.false_and] at eE
        simp only [go_sem,reduceIte,qq,u1,u2,cp1,w1,w2,a1,a2]
        exact hno' (by rw [eo,if_neg (by rw [eE]; decide)])
     ·have : j = t.sh.length:=by omega
      subst this
      simp only [qq,decide_false,AO]
      rw [List.drop_length] at eE
      exact hJ eE
end
def NI (h h' : H) : Prop:=∀ b cs e w,h.get b = some (.live cs e w) -> ∃ cs' e' w',h'.get b = some (.live cs' e' w') /\ cs.length <= cs'.length /\ ∀ (i : Nat) k n,cs[i]? = some (.int k n) -> cs'[i]? = some (.int k n)
theorem NI.refl (h : H) : NI h h:=fun b cs e w hg=>⟨cs,e,w,hg,Nat.le_refl _,fun _ _ _ x=>x⟩
theorem NI.trans {a b c : H} (f : NI a b) (g : NI b c) : NI a c:=fun k cs e w hg=>by
 obtain ⟨c1,e1,w1,h1,l1,n1⟩:=f k cs e w hg
 obtain ⟨c2,e2,w2,h2,l2,n2⟩:=g k c1 e1 w1 h1
 exact ⟨c2,e2,w2,h2,Nat.le_trans l1 l2,fun i k n x=>n2 i k n (n1 i k n x)⟩
theorem Fr.ni {h h' : H} (f : Fr [] h h') : NI h h':=fun b cs e w hg=>⟨cs,e,w,f b _ (by simp) hg,Nat.le_refl _,fun _ _ _ x=>x⟩
theorem NI.set {h : H} {b e : Nat} {cs cs' : List AV} {w : Bool} (hg : h.get b = some (.live cs e w)) (hl : cs.length <= cs'.length) (hn : ∀ (i : Nat) k n,cs[i]? = some (.int k n) -> cs'[i]? = some (.int k n)) {e' : Nat} {w' : Bool} : NI h (h.set b (.live cs' e' w')):=fun k ds e2 w2 hk=>by
 by_cases q : k = b
 ·subst q
  rw [hg] at hk
  injection hk with hk; injection hk with hk
  subst hk
  exact ⟨cs',e',w',H.get_same ..,hl,hn⟩
 ·exact ⟨ds,e2,w2,by rw [H.get_other _ _ q]; exact hk,Nat.le_refl _,fun _ _ _ x=>x⟩
theorem Row.ni {h h' : H} {v : AV} {n : Nat} {L : List Int} (r : Row h v n 1 (ic L)) (f : NI h h') : Row h' v n 1 (ic L):=by
 obtain ⟨hl,r⟩:=r
 refine ⟨hl,?_⟩
 rcases r with q | ⟨b,off,cap,rfl,hfit,hr⟩
 ·exact .inl q
 ·refine .inr ⟨b,off,cap,rfl,hfit,?_⟩
  unfold H.read at hr ⊢
  split at hr
  ·rename_i known e own hg
   split at hr
   ·rename_i hle
    obtain ⟨cs',e',w',h1,h2,h3⟩:=f b known e own hg
    rw [h1]
    simp only
    rw [if_pos (by omega)]
    injection hr with hr
    congr 1
    refine List.ext_getElem? fun i=>?_
    by_cases hi : i < n * 1
    ·have e1 : (ic L)[i]? = known[off + i]?:=by rw [<- hr,List.getElem?_take,if_pos hi,List.getElem?_drop]
     have hi2 : i < L.length:=by rw [ic,List.length_map] at hl; omega
     have e2 : (ic L)[i]? = some (.int .i64 L[i]):=by simp [ic,hi2]
     rw [List.getElem?_take,if_pos hi,List.getElem?_drop,e2]
     exact h3 _ _ _ (by rw [<- e1,e2])
    ·rw [List.getElem?_eq_none (by rw [List.length_take]; omega),List.getElem?_eq_none (by omega)]
   ·cases hr
  ·cases hr
theorem slR.ni {h h' : H} {x : Sl} {c : List AV} (r : slR h x c) (f : NI h h') : slR h' x c:=by
 cases x with
 | none=>exact r
 | some t=>obtain ⟨v,e,r⟩:=r; exact ⟨v,e,r.ni f⟩
theorem tyR.ni {h h' : H} {x : Ty} {c : List AV} (r : tyR h x c) (f : NI h h') : tyR h' x c:=by
 obtain ⟨v,e,r⟩:=r; exact ⟨v,e,r.ni f⟩
theorem TQ {pre x post c : List AV} (hl : c.length = x.length) : overlay (pre ++ (x ++ post)) pre.length c = pre ++ (c ++ post):=by
 rw [MV c (x ++ post) pre (by rw [List.length_append]; omega),List.drop_append,hl,List.drop_length,Nat.sub_self,List.drop_zero,List.nil_append,List.append_assoc]
theorem RowOf.put {α : Type} {h : H} {esz : Nat} {R R' : α -> List AV -> Prop} {b off n e : Nat} {cap : Cap} {cs c : List AV} {l : List α} {x : α} {i : Nat} (r : RowOf h esz R (.sl b off n cap) l) (hg : h.get b = some (.live cs e true)) (hi : i < l.length) (hc : c.length = esz) (hv : leaves c = true) (hx : R' x c)
  (hr : ∀ y ∈ l,∀ d,R y d -> R' y d) : h.write b (off + i * esz) c = some (h.set b (.live (overlay cs (off + i * esz) c) e true)) /\ RowOf (h.set b (.live (overlay cs (off + i * esz) c) e true)) esz R' (.sl b off n cap) (l.set i x) /\
   (∃ old ∈ l,∃ d,R old d /\ d.length = esz /\ ∀ j,j < esz -> cs[off + i * esz + j]? = d[j]?) /\ off + i * esz + esz <= cs.length:=by
 obtain ⟨css,h1,h2,h3,hl,r⟩:=r
 rcases r with ⟨q1,q2⟩ | ⟨b',off',cap',q1,hfit,hr'⟩
 ·cases q2
 injection q1 with e1 e2 e3 e4
 subst e1; subst e2; subst e3; subst e4
 unfold H.read at hr'
 rw [hg] at hr'
 simp only at hr'
 split at hr'
 ·rename_i hle
  injection hr' with hr'
  have hic : i < css.length:=by omega
  have hsplit : css = css.take i ++ (css[i] :: css.drop (i + 1)):=by
   rw [<- List.drop_eq_getElem_cons hic,List.take_append_drop]
  have hf : css.flatten = (css.take i).flatten ++ (css[i] ++ (css.drop (i + 1)).flatten):=by
   conv=>lhs; rw [hsplit]
   rw [List.flatten_append,List.flatten_cons]
  have hdi : css[i].length = esz:=h3 _ (List.getElem_mem hic)
  have hti : (css.take i).flatten.length = i * esz:=by
   rw [EB (e:=esz) fun c hc=>h3 c (List.mem_of_mem_take hc),List.length_take,Nat.min_eq_left (by omega)]
  have hcs : cs = (cs.take off ++ (css.take i).flatten) ++ (css[i] ++ ((css.drop (i + 1)).flatten ++ cs.drop (off + l.length * esz))):=by
   conv=>lhs; rw [<- List.take_append_drop off cs,<- List.take_append_drop (l.length * esz) (cs.drop off),hr',hf,List.drop_drop]
   simp only [List.append_assoc]
  have hpre : (cs.take off ++ (css.take i).flatten).length = off + i * esz:=by rw [List.length_append,List.length_take,hti,Nat.min_eq_left (by omega)]
  have hov : overlay cs (off + i * esz) c = (cs.take off ++ (css.take i).flatten) ++ (c ++ ((css.drop (i + 1)).flatten ++ cs.drop (off + l.length * esz))):=by
   conv=>lhs; rw [hcs,<- hpre]
   exact TQ (by omega)
  have hin : off + i * esz + esz <= cs.length:=by
   have:=congrArg List.length hcs
   rw [List.length_append,hpre,List.length_append,hdi] at this
   omega
  refine ⟨?_,⟨css.set i c,?_,?_,?_,?_,.inr ⟨b,off,cap,?_,hfit,?_⟩⟩,⟨l[i],List.getElem_mem hi,css[i],h2 i _ _ (by simp [hi]) (by simp [hic]),hdi,?_⟩,hin⟩
  ·unfold H.write
   rw [hg]
   simp only
   rw [if_pos ⟨by omega,hv⟩]
  ·rw [List.length_set,List.length_set]; exact h1
  ·intro j y d hy hd
   by_cases q : i = j
   ·subst q
    rw [List.getElem?_set_self hi] at hy
    rw [List.getElem?_set_self hic] at hd
    injection hy with hy; injection hd with hd
    subst hy; subst hd
    exact hx
   ·rw [List.getElem?_set_ne q] at hy hd
    exact hr y (List.mem_of_getElem? hy) d (h2 j y d hy hd)
  ·intro d hd
   rcases List.mem_or_eq_of_mem_set hd with q | q
   ·exact h3 d q
   ·rw [q]; exact hc
  ·rw [List.length_set]
   rw [EB (e:=esz) fun d hd=>by
    rcases List.mem_or_eq_of_mem_set hd with q | q
    ·exact h3 d q
    ·rw [q]; exact hc]
   rw [List.length_set,h1]
  ·rw [List.length_set]
  ·have hset : (css.set i c).flatten = (css.take i).flatten ++ (c ++ (css.drop (i + 1)).flatten):=by
    rw [List.set_eq_take_append_cons_drop,if_pos hic,List.flatten_append,List.flatten_cons]
   have hdl : (css.drop (i + 1)).flatten.length = (css.length - (i + 1)) * esz:=by
    rw [EB (e:=esz) fun c hc=>h3 c (List.mem_of_mem_drop hc),List.length_drop]
   have hall : i * esz + (esz + (css.length - (i + 1)) * esz) = l.length * esz:=by
    rw [<- h1]
    conv=>rhs; rw [show css.length = i + (1 + (css.length - (i + 1))) by omega]
    rw [Nat.add_mul,Nat.add_mul,Nat.one_mul]
   rw [List.length_set]
   refine H.read_eq (H.get_same ..) ?_ ?_
   ·rw [hov]
    simp only [List.length_append,List.length_take,List.length_drop,hti,hdl,hc]
    rw [Nat.min_eq_left (by omega)]
    omega
   ·rw [hov,hset]
    have ht : (cs.take off).length = off:=by rw [List.length_take,Nat.min_eq_left (by omega)]
    rw [List.append_assoc,List.drop_append,List.drop_eq_nil_of_le (by omega),List.nil_append,ht,Nat.sub_self,List.drop_zero]
    have hlen : ((css.take i).flatten ++ (c ++ (css.drop (i + 1)).flatten)).length = l.length * esz:=by
     simp only [List.length_append,hti,hdl,hc]; exact hall
    rw [<- List.append_assoc c,<- List.append_assoc (css.take i).flatten,List.take_append,List.take_of_length_le (by omega),hlen,Nat.sub_self,List.take_zero,List.append_nil]
  ·intro j hj
   conv=>lhs; rw [hcs]
   rw [List.getElem?_append_right (by omega),hpre,show off + i * esz + j - (off + i * esz) = j by omega,List.getElem?_append_left (by omega)]
 ·cases hr'
def OwnOf {α : Type} (h0 h : H) (ty esz : Nat) (R : α -> List AV -> Prop) (v : AV) (l : List α) : Prop:=
 ∃ css : List (List AV),css.length = l.length /\ (∀ (i : Nat) (x : α) (c : List AV),l[i]? = some x -> css[i]? = some c -> R x c) /\ (∀ c ∈ css,c.length = esz /\ leaves c = true) /\ Own h0 h ty esz v l.length css.flatten
section
variable {α : Type} {h0 h : H} {ty esz : Nat} {R : α -> List AV -> Prop} {v : AV} {l : List α}
theorem OwnOf.nil (h0 h : H) (ty esz : Nat) (R : α -> List AV -> Prop) : OwnOf h0 h ty esz R .nilsl []:=⟨[],rfl,by simp,by simp,Own.nil ..⟩
theorem OwnOf.row (o : OwnOf h0 h ty esz R v l) : RowOf h esz R v l:=by
 obtain ⟨css,h1,h2,h3,o⟩:=o
 exact ⟨css,h1,h2,fun c hc=>(h3 c hc).1,o.row⟩
theorem OwnOf.fr (o : OwnOf h0 h ty esz R v l) {h' : H} (f : Fr [] h h') : OwnOf h0 h' ty esz R v l:=by
 obtain ⟨css,h1,h2,h3,o⟩:=o
 exact ⟨css,h1,h2,h3,o.keep fun c n' p _ ob hg=>f c ob (by simp) hg⟩
theorem OwnOf.keep (o : OwnOf h0 h ty esz R v l) {h' : H} (k : ∀ c n' p,v = .sl c 0 n' p -> ∀ ob,h.get c = some ob -> h'.get c = some ob) : OwnOf h0 h' ty esz R v l:=by
 obtain ⟨css,h1,h2,h3,o⟩:=o
 exact ⟨css,h1,h2,h3,o.keep k⟩
theorem MS (o : OwnOf h0 h ty esz R v l) {x : α} {c : List AV} (hx : R x c) (hc : c.length = esz) (hlv : leaves c = true) (hz : 0 < esz) (f : Fr [] h0 h) {bytes : Nat} (hb : (l.length + 1) * bytes <= AQ) {K : AV -> H -> Prop}
  (hK : ∀ v' h',OwnOf h0 h' ty esz R v' (l ++ [x]) -> Fr [] h0 h' -> (∀ c o,h.get c = some o -> (∀ n' p,v ≠ .sl c 0 n' p) -> h'.get c = some o) -> K v' h') : A5 h ty 1 (some c) fun t h=>A4 h ty esz bytes v t K:=by
 obtain ⟨css,h1,h2,h3,o⟩:=o
 refine O0 o hc hz (MY fun c hc=>(h3 c hc).2) hlv f hb fun v' h' o' f' k'=>?_
 refine hK v' h' ⟨css ++ [c],by simp [h1],fun i y d hy hd=>?_,fun d hd=>?_,?_⟩ f' k'
 ·by_cases q : i < l.length
  ·rw [List.getElem?_append_left q] at hy
   rw [List.getElem?_append_left (by omega)] at hd
   exact h2 i y d hy hd
  ·rw [List.getElem?_append_right (by omega)] at hy
   rw [List.getElem?_append_right (by omega)] at hd
   have hi : i - l.length = 0:=by
    have:=(List.getElem?_eq_some_iff.1 hy).1
    simp at this; omega
   rw [hi] at hy
   rw [h1,hi] at hd
   injection hy with hy; injection hd with hd
   subst hy; subst hd
   exact hx
 ·rcases List.mem_append.1 hd with q | q
  ·exact h3 d q
  ·rcases List.mem_singleton.1 q with rfl
   exact ⟨hc,hlv⟩
 ·rw [List.flatten_append,List.length_append]
  simpa using o'
end
theorem Row.atI {h : H} {v : AV} {L : List Int} {i : Nat} {x : Int} (r : Row h v L.length 1 (ic L)) (hx : L[i]? = some x) : ∃ b o,(∀ k,iaA 1 v (.int k (i : Int)) = some (.ptr b o)) /\ h.cell b o = some (.int .i64 x):=by
 have hi:=(List.getElem?_eq_some_iff.1 hx).1
 exact r.at (i:=(i : Int)) (x:=.int .i64 x) (by omega) (by omega) (by rw [Int.toNat_natCast]; simp [ic,hx])
theorem B0 (i : Nat) (h : i < 4611686018427387904) : IntKind.i64.wrap ((i : Int) + 1) = ((i + 1 : Nat) : Int):=by rw [A0 (by omega) (by omega)]; rfl
theorem BG {α : Type} {l : List α} {i : Nat} (h : i < l.length) : ∃ x,l[i]? = some x:=⟨l[i],by simp [h]⟩
def okT (m : Img) (t : Ty) : Prop:=IB t.sh /\ ∀ n ∈ t.sh,0 <= n /\ n < m.shapes.length
def okL (m : Img) (l : List Sl) : Prop:=∀ x ∈ l,∀ s,x = some s -> okT m s
theorem RR : ∀ (l : List Int) (lo hi : Int),IB l -> (∀ n ∈ l,lo <= n /\ n < hi) -> lo <= hi -> (l.length : Int) <= hi - lo
 | [],lo,hi,_,_,h=>by show ((0 : Nat) : Int) <= _; omega
 | x :: l,lo,hi,hr,hb,h=>by
  have hr':=List.pairwise_cons.1 hr
  have hx:=hb x (by simp)
  have:=RR l (x + 1) hi hr'.2 (fun n hn=>⟨by have:=hr'.1 n hn; omega,(hb n (by simp [hn])).2⟩) (by omega)
  rw [List.length_cons]; omega
theorem okT.len {m : Img} {t : Ty} (o : okT m t) : t.sh.length <= m.shapes.length:=by
 have:=RR t.sh 0 m.shapes.length o.1 o.2 (by omega)
 omega
theorem GD (AQ : Int) : ∀ (l : List Int) (last : Int),CN AQ last l = true ↔ IB l /\ ∀ n ∈ l,last < n /\ n < AQ
 | [],last=>by simp [CN,IB]
 | x :: l,last=>by
  rw [CN,Bool.and_eq_true,Bool.and_eq_true,decide_eq_true_eq,decide_eq_true_eq,GD AQ l x]
  unfold IB
  rw [List.pairwise_cons]
  constructor
  ·rintro ⟨⟨h1,h2⟩,h3,h4⟩
   refine ⟨⟨fun a ha=>(h4 a ha).1,h3⟩,fun n hn=>?_⟩
   rcases List.mem_cons.1 hn with q | q
   ·rw [q]; exact ⟨h1,h2⟩
   ·have:=h4 n q; omega
  ·rintro ⟨⟨h1,h2⟩,h3⟩
   have hx:=h3 x (by simp)
   exact ⟨hx,h2,fun n hn=>⟨h1 n hn,(h3 n (by simp [hn])).2⟩⟩
theorem R0 {m : Img} {a b : Ty} (oa : okT m a) (ob : okT m b) : okT m (C4 a b):=
 ⟨(N3 _).1,fun n hn=>by
  rcases (X7 a b n).1 hn with q | q
  ·exact oa.2 n q
  ·exact ob.2 n q⟩
theorem KF (m : Img) : okT m H3:=⟨List.Pairwise.nil,fun n h=>by cases h⟩
theorem G9 (m : Img) : okT m BF:=⟨List.Pairwise.nil,fun n h=>by cases h⟩
theorem ED {m : Img} {s : Int} (h0 : 0 <= s) (h1 : s < m.shapes.length) : okT m (DK s):=⟨List.pairwise_singleton ..,fun n h=>by
 rcases List.mem_singleton.1 h with rfl; exact ⟨h0,h1⟩⟩
structure FnW (m : Img) (f : Fn) : Prop where
 par : ∀ t ∈ f.params,0 <= t /\ t < m.types.length
 res : 0 <= f.result /\ f.result < m.types.length
 plen : f.params.length <= reachBytes
 blen : f.blocks.length <= reachBytes
 inn : ∀ b ∈ f.blocks,(b.inn.length : Int) = f.slots /\ b.inn.length <= 200 /\ b.code.length <= reachBytes /\ (∀ x ∈ b.code,x.ok /\ x.m.length <= 1024) /\ ∀ t ∈ b.inn,-1 <= t /\ t < m.types.length
structure Wh (m : Img) : Prop where
 tl : m.types.length <= reachBytes
 sl : m.shapes.length <= 512
 xl : m.strs.length <= reachBytes
 nl : m.fns.length <= reachBytes
 s0 : 0 < m.shapes.length
 ty : ∀ t ∈ m.types,okT m t
 shp : ∀ s ∈ m.shapes,s.fs.length <= reachBytes /\ (∀ t ∈ s.fs,0 <= t /\ t < m.types.length) /\ (s.kind = 2 -> s.fs.length = 1)
 exn : 0 <= m.exn /\ m.exn < m.types.length
 fn : ∀ f ∈ m.fns,FnW m f
section
variable {m : Img} (W : Wh m)
include W
theorem Wh.om : ∀ t ∈ m.types,t.sh.length <= reachBytes:=fun t ht=>Nat.le_trans (W.ty t ht).len (Nat.le_trans W.sl (by decide))
theorem Wh.tyOk (t : Int) : okT m (m.ty t):=by
 unfold Img.ty
 rw [List.getD_eq_getElem?_getD]
 cases hq : m.types[t.toNat]? with
 | none=>exact KF m
 | some z=>exact W.ty z (List.mem_of_getElem? hq)
theorem Wh.tlen {t : Ty} (o : okT m t) : t.sh.length <= reachBytes:=Nat.le_trans o.len (Nat.le_trans W.sl (by decide))
theorem Wh.ol {l : List Sl} (o : okL m l) : ∀ x ∈ l,∀ s,x = some s -> s.sh.length <= reachBytes:=fun x hx s hs=>W.tlen (o x hx s hs)
theorem Wh.ol2 {l : List Sl} (o : okL m l) : ∀ x ∈ l,∀ s,x = some s -> s.sh.length <= reachBytes /\ ∀ n ∈ s.sh,0 <= n /\ n < m.shapes.length:=fun x hx s hs=>⟨W.tlen (o x hx s hs),(o x hx s hs).2⟩
theorem Wh.of : ∀ s ∈ m.shapes,∀ t ∈ s.fs,0 <= t /\ t < m.types.length:=fun s hs=>(W.shp s hs).2.1
theorem Wh.fs {s : Int} (h0 : 0 <= s) (h1 : s < m.shapes.length) : (m.shp s).fs.length <= reachBytes /\ (∀ t ∈ (m.shp s).fs,0 <= t /\ t < m.types.length) /\ ((m.shp s).kind = 2 -> (m.shp s).fs.length = 1):=by
 unfold Img.shp
 rw [List.getD_eq_getElem?_getD]
 cases hq : m.shapes[s.toNat]? with
 | none=>rw [List.getElem?_eq_none_iff] at hq; omega
 | some z=>exact W.shp z (List.mem_of_getElem? hq)
end
theorem LJ {l : List Sl} {i : Int} {t : Ty} (h : atS l i = some t) : some t ∈ l /\ 0 <= i /\ i < l.length:=by
 unfold atS at h
 split at h
 ·rw [List.getD_eq_getElem?_getD] at h
  cases hx : l[i.toNat]? with
  | none=>rw [hx] at h; cases h
  | some z=>
   rw [hx] at h
   have h : z = some t:=h
   rw [h] at hx
   have:=(List.getElem?_eq_some_iff.1 hx).1
   exact ⟨List.mem_of_getElem? hx,by assumption,by omega⟩
 ·cases h
theorem okL.at {m : Img} {l : List Sl} (o : okL m l) {i : Int} {t : Ty} (h : atS l i = some t) : okT m t:=o _ (LJ h).1 t rfl
theorem okL.set {m : Img} {l : List Sl} (o : okL m l) (i : Nat) {t : Ty} (ot : okT m t) : okL m (l.set i (some t)):=fun x hx s hs=>by
 rcases List.mem_or_eq_of_mem_set hx with q | q
 ·exact o x q s hs
 ·rw [q] at hs; injection hs with hs; rw [<- hs]; exact ot
theorem HU {m : Img} {l l' : List Sl} (o : okL m l) {i : Int} {t : Ty} (ot : okT m t) (h : BI l i t = some l') : okL m l' /\ l'.length = l.length:=by
 unfold BI at h
 split at h
 ·injection h with h; subst h; exact ⟨o.set _ ot,by rw [List.length_set]⟩
 ·cases h
theorem JR {m : Img} {l l' : List Sl} (o : okL m l) {live : List Int} (h : CE l live = some l') : okL m l' /\ l'.length = l.length:=by
 unfold CE at h
 split at h
 ·injection h with h; subst h
  refine ⟨fun x hx s hs=>?_,by rw [List.length_map,List.length_range]⟩
  rw [List.mem_map] at hx
  obtain ⟨i,hi,e⟩:=hx
  split at e
  ·rw [List.getD_eq_getElem?_getD] at e
   cases hq : l[i]? with
   | none=>rw [hq] at e; rw [<- e] at hs; cases hs
   | some z=>rw [hq] at e; exact o z (List.mem_of_getElem? hq) s (by rw [<- hs]; exact e)
  ·rw [<- e] at hs; cases hs
 ·cases h
theorem XY {m : Img} (W : Wh m) {sh : List Int} {k : Int} {t : Ty} (h : DB m sh k = some t) : okT m t:=by
 unfold DB at h
 split at h
 ·injection h with h; subst h
  have : ∀ (l : List Ty) (a : Ty),okT m a -> (∀ t ∈ l,okT m t) -> okT m (l.foldl C4 a):=by
   intro l
   induction l with
   | nil=>intro a oa _; exact oa
   | cons x l ih=>intro a oa hl; exact ih _ (R0 oa (hl x (by simp))) fun t ht=>hl t (by simp [ht])
  refine this _ _ (KF m) fun t ht=>?_
  rw [List.mem_map] at ht
  obtain ⟨s,_,e⟩:=ht
  rw [<- e]
  exact W.tyOk _
 ·cases h
theorem W8 {m : Img} (W : Wh m) {f : Fn} {l l' : List Sl} {x : Ins} (o : okL m l) (h : CF m f l x = some l') : okL m l' /\ l'.length = l.length:=by
 have num : ∀ ok : Bool,(if ok then BI l x.d BF else none) = some l' -> okL m l' /\ l'.length = l.length:=fun ok q=>by
  cases ok with
  | true=>exact HU o (G9 m) q
  | false=>cases q
 have keep : ∀ ok : Bool,(if ok then some l else none) = some l' -> okL m l' /\ l'.length = l.length:=fun ok q=>by
  cases ok with
  | true=>injection q with q; subst q; exact ⟨o,rfl⟩
  | false=>cases q
 have make : ∀ (t : Ty) (ok : Bool),(ok = true -> okT m t) -> (if ok then (CE l x.live).bind fun n=>BI n x.d t else none) = some l' -> okL m l' /\ l'.length = l.length:=fun t ok ot q=>by
  cases ok with
  | true=>
   cases hs : CE l x.live with
   | none=>rw [if_pos rfl,hs] at q; cases q
   | some n=>
    rw [if_pos rfl,hs] at q
    have h1:=JR o hs
    have h2:=HU h1.1 (ot rfl) q
    exact ⟨h2.1,by rw [h2.2,h1.2]⟩
  | false=>cases q
 have part : ∀ (q : Option (List Int)) (k : Int),(q.bind fun sh=>(DB m sh k).bind fun t=>BI l x.d t) = some l' -> okL m l' /\ l'.length = l.length:=fun q k e=>by
  cases q with
  | none=>cases e
  | some sh=>
   cases hp : DB m sh k with
   | none=>rw [Option.bind_some,hp] at e; cases e
   | some t=>rw [Option.bind_some,hp] at e; exact HU o (XY W hp) e
 unfold CF at h
 dsimp only at h
 by_cases q : x.op = 1
 ·rw [if_pos q] at h
  exact num _ h
 rw [if_neg q] at h
 clear q
 by_cases q : x.op = 2
 ·rw [if_pos q] at h
  exact make _ _ (fun _=>ED (by omega) (by have:=W.s0; omega)) h
 rw [if_neg q] at h
 clear q
 by_cases q : x.op = 3
 ·rw [if_pos q] at h
  cases hq : atS l x.a with
  | none=>rw [hq] at h; cases h
  | some t=>rw [hq] at h; exact HU o (o.at hq) h
 rw [if_neg q] at h
 clear q
 by_cases q : x.op = 4
 ·rw [if_pos q] at h
  exact num _ h
 rw [if_neg q] at h
 clear q
 by_cases q : x.op = 5
 ·rw [if_pos q] at h
  exact make _ _ (fun q=>by simp only [Bool.and_eq_true,decide_eq_true_eq] at q; exact ED q.1.1.1 q.1.1.2) h
 rw [if_neg q] at h
 clear q
 by_cases q : x.op = 6
 ·rw [if_pos q] at h
  exact part _ _ h
 rw [if_neg q] at h
 clear q
 by_cases q : x.op = 7
 ·rw [if_pos q] at h
  exact keep _ h
 rw [if_neg q] at h
 clear q
 by_cases q : x.op = 8
 ·rw [if_pos q] at h
  exact make _ _ (fun q=>by simp only [Bool.and_eq_true,decide_eq_true_eq] at q; exact ED q.1.1.1.1 q.1.1.1.2) h
 rw [if_neg q] at h
 clear q
 by_cases q : x.op = 9
 ·rw [if_pos q] at h
  exact part _ _ h
 rw [if_neg q] at h
 clear q
 by_cases q : x.op = 10
 ·rw [if_pos q] at h
  exact keep _ h
 rw [if_neg q] at h
 clear q
 by_cases q : x.op = 11
 ·rw [if_pos q] at h
  exact num _ h
 rw [if_neg q] at h
 clear q
 by_cases q : x.op = 12
 ·rw [if_pos q] at h
  exact num _ h
 rw [if_neg q] at h
 clear q
 by_cases q : x.op = 13
 ·rw [if_pos q] at h
  exact make _ _ (fun _=>ED (by omega) (by have:=W.s0; omega)) h
 rw [if_neg q] at h
 clear q
 by_cases q : x.op = 14
 ·rw [if_pos q] at h
  exact num _ h
 rw [if_neg q] at h
 clear q
 by_cases q : x.op = 15
 ·rw [if_pos q] at h
  exact num _ h
 rw [if_neg q] at h
 clear q
 by_cases q : x.op = 16
 ·rw [if_pos q] at h
  exact keep _ h
 rw [if_neg q] at h
 clear q
 split at h
 ·split at h
  ·cases hs : CE l x.live with
   | none=>rw [hs] at h; cases h
   | some n=>
    rw [hs,Option.bind_some] at h
    have h1:=JR o hs
    have fin : ∀ ok : Bool,(if ok then BI n x.d (m.ty (m.fn x.a).result) else none) = some l' -> okL m l' /\ l'.length = l.length:=fun ok q=>by
     cases ok with
     | true=>
      have h2:=HU h1.1 (W.tyOk _) q
      exact ⟨h2.1,by rw [h2.2,h1.2]⟩
     | false=>cases q
    exact fin _ h
  ·cases h
 ·cases h
theorem NP {m : Img} (W : Wh m) (inn : List Int) : okL m (CM m inn):=fun x hx s hs=>by
 unfold CM at hx
 rw [List.mem_map] at hx
 obtain ⟨t,_,e⟩:=hx
 split at e
 ·rw [<- e] at hs; cases hs
 ·rw [<- e] at hs; injection hs with hs; rw [<- hs]; exact W.tyOk _
theorem FQ (m : Img) (t : Int) : m.isTy t = true ↔ 0 <= t /\ t < m.types.length:=by
 unfold Img.isTy; rw [Bool.and_eq_true,decide_eq_true_eq,decide_eq_true_eq]
theorem GU (m : Img) (t : Int) : m.isFn t = true ↔ 0 <= t /\ t < m.fns.length:=by
 unfold Img.isFn; rw [Bool.and_eq_true,decide_eq_true_eq,decide_eq_true_eq]
theorem LH : ∀ (l : List Fn) (n : Int),DV n l = false -> ∀ f ∈ l,f.slots <= 200
 | [],_,_,f,hf=>by cases hf
 | g :: l,n,h,f,hf=>by
  rw [DV] at h
  split at h
  ·cases h
  ·rename_i q
   rw [Bool.or_eq_false_iff] at h
   rcases List.mem_cons.1 hf with e | e
   ·subst e
    simp only [Bool.not_eq_true,Bool.or_eq_false_iff,decide_eq_false_iff_not] at q
    omega
   ·exact LH l _ h.2 f e
theorem M3 : ∀ (l : List Blk) (n : Int),(D4 n l).1 = false -> ∀ b ∈ l,∀ x ∈ b.code,IV x = false
 | [],_,_,b,hb=>by cases hb
 | g :: l,n,h,b,hb=>by
  rw [D4] at h
  split at h
  ·cases h
  ·rename_i q
   rcases List.mem_cons.1 hb with e | e
   ·subst e
    intro x hx
    simp only [Bool.not_eq_true,Bool.or_eq_false_iff] at q
    exact Bool.eq_false_iff.2 fun z=>by
     have:=List.any_eq_false.1 q.2 x hx
     exact this z
   ·exact M3 l _ h b e
theorem OU : ∀ (l : List Fn) (n : Int),DV n l = false -> ∀ f ∈ l,∀ b ∈ f.blocks,∀ x ∈ b.code,x.m.length <= 1024
 | [],_,_,f,hf=>by cases hf
 | g :: l,n,h,f,hf=>by
  rw [DV] at h
  split at h
  ·cases h
  ·rw [Bool.or_eq_false_iff] at h
   rcases List.mem_cons.1 hf with e | e
   ·subst e
    intro b hb x hx
    have:=M3 _ _ h.1 b hb x hx
    unfold IV at this
    simp only [Bool.or_eq_false_iff,decide_eq_false_iff_not] at this
    omega
   ·exact OU l _ h.2 f e
theorem fnW_of {m : Img} {f : Fn} (ok : f.ok) (hsl : f.slots <= 200) (hin : ∀ b ∈ f.blocks,∀ x ∈ b.code,x.m.length <= 1024) (hf : DA m f = true) : FnW m f:=by
 unfold DA at hf
 simp only [Bool.and_eq_true] at hf
 obtain ⟨⟨⟨⟨⟨h1,h2⟩,h3⟩,h4⟩,h5⟩,h6⟩:=hf
 refine ⟨fun t ht=>(FQ m t).1 (List.all_eq_true.1 h1 t ht),(FQ m _).1 h2,ok.1.1,ok.2.2.2.1,fun b hb=>?_⟩
 obtain ⟨i,hi⟩:=List.getElem?_of_mem hb
 have hlt:=(List.getElem?_eq_some_iff.1 hi).1
 have hin':=hin
 have hin:=List.all_eq_true.1 h6 i (by simpa using hlt)
 rw [List.getD_eq_getElem?_getD,hi,Option.getD_some] at hin
 unfold ME at hin
 rw [Bool.and_eq_true,decide_eq_true_eq] at hin
 have okb:=ok.2.2.2.2 b hb
 refine ⟨hin.1,by have:=hin.1; omega,okb.2.1,fun x hx=>⟨okb.2.2 x hx,hin' b hb x hx⟩,fun t ht=>?_⟩
 obtain ⟨k,hk⟩:=List.getElem?_of_mem ht
 have hlt2:=(List.getElem?_eq_some_iff.1 hk).1
 have:=List.all_eq_true.1 hin.2 k (by simpa using hlt2)
 have ek : b.inn.getD k 0 = t:=by rw [List.getD_eq_getElem?_getD,hk]; rfl
 simp only [ek,Bool.and_eq_true,Bool.or_eq_true,decide_eq_true_eq,FQ] at this
 rcases this.1 with q | q
 ·have:=ok.1.1; constructor
  ·omega
  ·omega
 ·omega
theorem wh_of {m : Img} (ok : m.ok) (hc : DU m = 0) (hw : P7 m = true) : Wh m:=by
 unfold P7 at hw
 simp only [Bool.and_eq_true] at hw
 obtain ⟨⟨⟨⟨⟨⟨⟨⟨⟨h1,h2⟩,h3⟩,h4⟩,h5⟩,h6⟩,h7⟩,⟨⟨h8,h9⟩,h10⟩⟩,⟨h11,h12⟩⟩,h13⟩:=hw
 have hb : MP m = false:=by
  unfold DU at hc
  split at hc
  ·omega
  ·rename_i q; simpa using q
 have hs : m.shapes.length <= 512:=by
  unfold MP at hb
  rw [Bool.or_eq_false_iff] at hb
  have:=hb.1
  unfold HR at this
  simp only [Bool.or_eq_false_iff,decide_eq_false_iff_not] at this
  omega
 have hbf : ∀ f ∈ m.fns,f.slots <= 200:=by
  unfold MP at hb
  simp only [Bool.or_eq_false_iff] at hb
  exact LH _ _ hb.2.2.2.2.2
 have hbi : ∀ f ∈ m.fns,∀ b ∈ f.blocks,∀ x ∈ b.code,x.m.length <= 1024:=by
  unfold MP at hb
  simp only [Bool.or_eq_false_iff] at hb
  exact OU _ _ hb.2.2.2.2.2
 obtain ⟨⟨k1,k1'⟩,⟨k2,k2'⟩,⟨k3,k3'⟩,⟨k4,k4'⟩,⟨k5,k5'⟩,k6,k7⟩:=ok
 refine ⟨k1,hs,k3,k5,?_,fun t ht=>?_,fun s hs'=>?_,(FQ m _).1 h8,fun f hf=>fnW_of (k5' f hf) (hbf f hf) (hbi f hf) (List.all_eq_true.1 h13 f hf)⟩
 ·cases hq : m.shapes with
  | nil=>rw [hq] at h2; cases h2
  | cons a b=>rw [List.length_cons]; omega
 ·have:=(GD _ _ _).1 (List.all_eq_true.1 h6 t ht)
  exact ⟨this.1,fun n hn=>by have:=this.2 n hn; omega⟩
 ·have:=List.all_eq_true.1 h7 s hs'
  unfold CU at this
  simp only [Bool.and_eq_true,Bool.or_eq_true,Bool.not_eq_true',decide_eq_false_iff_not,decide_eq_true_eq] at this
  obtain ⟨⟨⟨⟨a1,a2⟩,a3⟩,a4⟩,a5⟩:=this
  refine ⟨(k2' s hs').2.1.1,fun t ht=>(FQ m t).1 (List.all_eq_true.1 a5 t ht),fun q=>?_⟩
  rcases a3 with z | z
  ·exact absurd q z
  ·exact z
def FW (op : Int) : Bool:=decide (op = 2) || decide (op = 13) || decide (op = 5) || decide (op = 8) || decide (op = 17)
def BZ (m : Img) (l : List Sl) (x : Ins) : Option (Option Ty):=
 let num:=fun ok : Bool=>if ok then some (some BF) else none
 let keep:=fun ok : Bool=>if ok then some none else none
 if x.op = 1 then num (BU x.n)
 else if x.op = 3 then (atS l x.a).map some
 else if x.op = 4 then num (decide (1 <= x.n) && decide (x.n <= 8) && isS l x.a BF && isS l x.b BF)
 else if x.op = 6 then (B5 m l x.a 1 1).bind fun sh=>(DB m sh x.b).map some
 else if x.op = 7 then keep ((atS l x.c).isSome && match B5 m l x.a 1 1 with | some sh=>CX m l x.c sh x.b | none=>false)
 else if x.op = 9 then (if isS l x.b BF then B5 m l x.a 2 2 else none).bind fun sh=>(DB m sh 0).map some
 else if x.op = 10 then keep (isS l x.b BF && match B5 m l x.a 2 2 with | some sh=>CX m l x.c sh 0 | none=>false)
 else if x.op = 11 then num (B5 m l x.a 2 3).isSome
 else if x.op = 12 then num ((B5 m l x.a 3 3).isSome && isS l x.b BF)
 else if x.op = 14 then num ((B5 m l x.a 3 3).isSome && (B5 m l x.b 3 3).isSome)
 else if x.op = 15 then num true
 else if x.op = 16 then keep (isS l x.a BF)
 else none
def CH (m : Img) (l : List Sl) (x : Ins) : Option Ty:=
 let make:=fun (t : Ty) (ok : Bool)=>if ok then some t else none
 if x.op = 2 then make (DK 0) (decide (0 <= x.a) && decide (x.a < m.strs.length))
 else if x.op = 13 then make (DK 0) ((B5 m l x.a 3 3).isSome && (B5 m l x.b 3 3).isSome)
 else if x.op = 5 then make (DK x.a) (decide (0 <= x.a) && decide (x.a < m.shapes.length) && decide ((m.shp x.a).kind = 1) && CC m l x.l (m.shp x.a).fs)
 else if x.op = 8 then make (DK x.a) (decide (0 <= x.a) && decide (x.a < m.shapes.length) && decide ((m.shp x.a).kind = 2) && isS l x.b BF && CC m l [x.c] (m.shp x.a).fs)
 else if x.op = 17 then make (m.ty (m.fn x.a).result) (m.isFn x.a && CC m l x.l (m.fn x.a).params)
 else none
theorem EI {m : Img} {f : Fn} {l : List Sl} {x : Ins} (h : FW x.op = false) : CF m f l x = match BZ m l x with | none=>none | some none=>some l | some (some t)=>BI l x.d t:=by
 unfold FW at h
 simp only [Bool.or_eq_false_iff,decide_eq_false_iff_not] at h
 obtain ⟨⟨⟨⟨h1,h2⟩,h3⟩,h4⟩,h5⟩:=h
 unfold CF BZ
 simp only [h1,h2,h3,h4,h5,if_false]
 have num : ∀ ok : Bool,(if ok then BI l x.d BF else none) = match (if ok then some (some BF) else none : Option (Option Ty)) with | none=>none | some none=>some l | some (some t)=>BI l x.d t:=fun ok=>by cases ok <;> rfl
 have keep : ∀ ok : Bool,(if ok then some l else none) = match (if ok then some none else none : Option (Option Ty)) with | none=>none | some none=>some l | some (some t)=>BI l x.d t:=fun ok=>by cases ok <;> rfl
 have part : ∀ (q : Option (List Int)) (k : Int),(q.bind fun sh=>(DB m sh k).bind fun t=>BI l x.d t) = match (q.bind fun sh=>(DB m sh k).map some) with | none=>none | some none=>some l | some (some t)=>BI l x.d t:=fun q k=>by
  cases q with
  | none=>rfl
  | some sh=>rw [Option.bind_some,Option.bind_some]; cases DB m sh k <;> rfl
 by_cases q : x.op = 1
 ·rw [if_pos q,if_pos q]
  exact num _
 rw [if_neg q,if_neg q]
 clear q
 by_cases q : x.op = 3
 ·rw [if_pos q,if_pos q]
  cases atS l x.a <;> rfl
 rw [if_neg q,if_neg q]
 clear q
 by_cases q : x.op = 4
 ·rw [if_pos q,if_pos q]
  exact num _
 rw [if_neg q,if_neg q]
 clear q
 by_cases q : x.op = 6
 ·rw [if_pos q,if_pos q]
  exact part _ _
 rw [if_neg q,if_neg q]
 clear q
 by_cases q : x.op = 7
 ·rw [if_pos q,if_pos q]
  exact keep _
 rw [if_neg q,if_neg q]
 clear q
 by_cases q : x.op = 9
 ·rw [if_pos q,if_pos q]
  exact part _ _
 rw [if_neg q,if_neg q]
 clear q
 by_cases q : x.op = 10
 ·rw [if_pos q,if_pos q]
  exact keep _
 rw [if_neg q,if_neg q]
 clear q
 by_cases q : x.op = 11
 ·rw [if_pos q,if_pos q]
  exact num _
 rw [if_neg q,if_neg q]
 clear q
 by_cases q : x.op = 12
 ·rw [if_pos q,if_pos q]
  exact num _
 rw [if_neg q,if_neg q]
 clear q
 by_cases q : x.op = 14
 ·rw [if_pos q,if_pos q]
  exact num _
 rw [if_neg q,if_neg q]
 clear q
 by_cases q : x.op = 15
 ·rw [if_pos q,if_pos q]
  first | exact num _ | rfl | simp
 rw [if_neg q,if_neg q]
 clear q
 by_cases q : x.op = 16
 ·rw [if_pos q,if_pos q]
  exact keep _
 rw [if_neg q,if_neg q]
def CY (m : Img) (f : Fn) (n : List Sl) (x : Ins) : Bool:=!decide (x.op = 17) || (if x.b = -1 then decide (x.c = 0) else match BI n x.c (m.ty m.exn) with | some w=>BB m f w x.b | none=>false)
theorem KB {m : Img} {f : Fn} {l : List Sl} {x : Ins} (h : FW x.op = true) : CF m f l x = (CH m l x).bind fun t=>(CE l x.live).bind fun n=>if CY m f n x then BI n x.d t else none:=by
 have make : ∀ (t : Ty) (ok : Bool),x.op ≠ 17 -> (if ok then (CE l x.live).bind fun n=>BI n x.d t else none) = (if ok then some t else none).bind fun t=>(CE l x.live).bind fun n=>if CY m f n x then BI n x.d t else none:=fun t ok q=>by
  cases ok with
  | false=>rfl
  | true=>
   have e : ∀ n,CY m f n x = true:=fun n=>by unfold CY; rw [decide_eq_false q]; rfl
   simp only [e,if_true,Option.bind_some]
 unfold FW at h
 simp only [Bool.or_eq_true,decide_eq_true_eq] at h
 rcases h with (((q | q) | q) | q) | q
 ·have:=make (DK 0) (decide (0 <= x.a) && decide (x.a < m.strs.length)) (by omega)
  unfold CF CH
  simp only [q,if_true]
  simpa [q] using this
 ·have:=make (DK 0) ((B5 m l x.a 3 3).isSome && (B5 m l x.b 3 3).isSome) (by omega)
  unfold CF CH
  simp only [q,if_true]
  simpa [q] using this
 ·have:=make (DK x.a) (decide (0 <= x.a) && decide (x.a < m.shapes.length) && decide ((m.shp x.a).kind = 1) && CC m l x.l (m.shp x.a).fs) (by omega)
  unfold CF CH
  simp only [q,if_true]
  simpa [q] using this
 ·have:=make (DK x.a) (decide (0 <= x.a) && decide (x.a < m.shapes.length) && decide ((m.shp x.a).kind = 2) && isS l x.b BF && CC m l [x.c] (m.shp x.a).fs) (by omega)
  unfold CF CH
  simp only [q,if_true]
  simpa [q] using this
 ·have e : ∀ n,CY m f n x = (if x.b = -1 then decide (x.c = 0) else match BI n x.c (m.ty m.exn) with | some w=>BB m f w x.b | none=>false):=fun n=>by unfold CY; rw [decide_eq_true q]; rfl
  unfold CF CH
  simp only [q,e]
  cases m.isFn x.a && CC m l x.l (m.fn x.a).params <;> rfl
section
variable {PK : H -> Prop} {h : H}
theorem NQ {t : Ty} {ct : List AV} (rt : tyR h t ct) : ∃ v,ct = [.bool t.imm,v] /\ slR h (some t) [.bool t.imm,v,.bool false] /\ leaves [.bool t.imm,v,.bool false] = true:=by
 obtain ⟨v,e,r⟩:=rt
 exact ⟨v,e,⟨v,rfl,r⟩,by simp only [leaves,r.one.1]; rfl⟩
theorem slR.leaves {x : Sl} {c : List AV} (r : slR h x c) : c.length = 3 /\ X.leaves c = true:=by
 cases x with
 | none=>obtain ⟨i,v,rfl,h1,_⟩:=r; exact ⟨rfl,by simp only [X.leaves,h1]; rfl⟩
 | some t=>obtain ⟨v,rfl,r⟩:=r; exact ⟨rfl,by simp only [X.leaves,r.one.1]; rfl⟩
theorem RowOf.lvs {α : Type} {esz : Nat} {R : α -> List AV -> Prop} {v : AV} {l : List α} (hlv : ∀ {x c},R x c -> X.leaves c = true) (r : RowOf h esz R v l) : ∃ css : List (List AV),css.length = l.length /\ (∀ (i : Nat) (x : α) (c : List AV),l[i]? = some x -> css[i]? = some c -> R x c) /\ (∀ c ∈ css,c.length = esz /\ X.leaves c = true) /\ Row h v l.length esz css.flatten:=by
 obtain ⟨css,h1,h2,h3,r⟩:=r
 refine ⟨css,h1,h2,fun c hc=>⟨h3 c hc,?_⟩,r⟩
 obtain ⟨i,hi⟩:=List.getElem?_of_mem hc
 have hlt:=(List.getElem?_eq_some_iff.1 hi).1
 exact hlv (h2 i (l[i]'(by omega)) c (by simp [show i < l.length by omega]) hi)
theorem LQ {v : AV} {l : List Sl} (r : RowOf h 3 (slR h) v l) (hl : l.length <= 4294967296) (i : Int) {t : Ty} {ct : List AV} (rt : tyR h t ct) {K : AV -> H -> Prop} (hK : ∀ w h',Fr [] h h' -> (∀ l',BI l i t = some l' -> RowOf h' 3 (slR h') w l') -> K (.tup [w,.bool (BI l i t).isSome]) h') : DP PK 181 [v,.int .i64 i,.agg ct] h K:=by
 refine runB181 ?_
 unfold sh181 zE zV
 refine FR rt fun p h1 f1 hp gp rt1=>?_
 have r1 : RowOf h1 3 (slR h1) v l:=r.mono f1 fun _ _ _ x=>x.fr f1
 have no : BI l i t = none -> K (.tup [.nilsl,.bool false]) h1:=fun e=>by
  have:=hK .nilsl h1 f1 (fun l' q=>by rw [e] at q; cases q)
  rw [e] at this; exact this
 by_cases i0 : i < 0
 ·simp only [go_sem,reduceIte,i0]
  exact no (by unfold BI; rw [if_neg (by omega)])
 ·by_cases i1 : (l.length : Int) <= i
  ·simp only [go_sem,reduceIte,i0,r1.len,i1]
   exact no (by unfold BI; rw [if_neg (by omega)])
  ·have hi : i.toNat < l.length:=by omega
   have e : BI l i t = some (l.set i.toNat (some t)):=by unfold BI; rw [if_pos (by omega)]
   rw [e] at hK
   simp only [go_sem,reduceIte,i0,r1.len,i1]
   refine ⟨rfl,fun q hq=>?_⟩
   have fq : Fr [] h1 (h1.set q (.live [] 154 true)):=Fr.new hq
   have gq : (h1.set q (.live [] 154 true)).get q = some (.live [] 154 true):=H.get_same ..
   generalize h1.set q (.live [] 154 true) = h2 at fq gq
   obtain ⟨css,c1,c2,c3,rr⟩:=r1.lvs fun x=>x.leaves.2
   show A4 h2 154 3 40 (.sl q 0 0 (.exact 0)) v _
   unfold A4
   rw [(rr.fr fq).src]
   simp only
   have hn0 : ¬ l.length = 0:=by omega
   rw [if_neg hn0,if_neg (by omega)]
   refine ⟨by unfold AQ; omega,?_⟩
   have rd : h2.read q 0 (0 * 3) = some []:=H.read_eq gq (by simp) (by simp)
   rw [rd]
   refine ⟨by simpa using MY fun c hc=>(c3 c hc).2,fun b hb=>?_⟩
   have fb : Fr [] h2 (h2.set b (.live ([] ++ css.flatten) 154 true)):=Fr.new hb
   have gb : (h2.set b (.live ([] ++ css.flatten) 154 true)).get b = some (.live ([] ++ css.flatten) 154 true):=H.get_same ..
   have hb1 : h1.get b = none:=fq.free hb
   generalize h2.set b (.live ([] ++ css.flatten) 154 true) = h3 at fb gb
   rw [List.nil_append] at gb
   have f13:=fq.trans fb
   obtain ⟨vt,ect,rs,lvs⟩:=NQ rt1
   subst ect
   have gp3:=f13 p _ (by simp) gp
   have rp : h3.read p 0 2 = some [.bool t.imm,vt]:=H.read_eq (n:=2) gp3 (by simp) rfl
   have r3 : RowOf h3 3 (slR h1) (.sl b 0 l.length (.more 3)) l:=⟨css,c1,c2,fun c hc=>(c3 c hc).1,by
    have hfl : css.flatten.length = l.length * 3:=by rw [EB (e:=3) fun c hc=>(c3 c hc).1,c1]
    exact ⟨hfl,.inr ⟨b,0,_,rfl,by simp [Cap.fits],H.read_eq gb (by omega) (by rw [List.drop_zero,List.take_of_length_le (by omega)])⟩⟩⟩
   have f0 : ∀ {o},Fr [] h1 (h3.set b o):=fun {o}=>f13.set' hb1
   have key:=r3.put (R':=fun x c=>slR (h3.set b (.live (overlay css.flatten (0 + i.toNat * 3) [.bool t.imm,vt,.bool false]) 154 true)) x c) (x:=some t) gb hi (c:=[.bool t.imm,vt,.bool false]) rfl lvs ?_ ?_
   ·obtain ⟨w1,w2,_⟩:=key
    have eb : AT (AG [.bool false,.nilsl,.bool false] [(0,2,.agg [.bool t.imm,vt])]) = some (.agg [.bool t.imm,vt,.bool false]):=by
     have : (AV.agg [.bool t.imm,vt]).cells = [.bool t.imm,vt]:=rfl
     have l2 : leaves [.bool t.imm,vt] = true:=by simp only [leaves,Bool.and_eq_true] at lvs ⊢; exact ⟨lvs.1,lvs.2.1,trivial⟩
     rw [IP,this,if_pos ⟨rfl,by decide,l2⟩]
     rfl
    have ea : iaA 3 (.sl b 0 l.length (.more 3)) (.int .i64 i) = some (.ptr b (0 + i.toNat * 3)):=by rw [M0,if_pos (by omega)]
    have ec : (AV.agg [.bool t.imm,vt,.bool false]).cells = [.bool t.imm,vt,.bool false]:=rfl
    have st : stA h3 3 (.ptr b (0 + i.toNat * 3)) (.agg [.bool t.imm,vt,.bool false]) = some (h3.set b (.live (overlay css.flatten (0 + i.toNat * 3) [.bool t.imm,vt,.bool false]) 154 true)):=by rw [HY,ec,if_pos (by rfl),w1]
    rw [Nat.zero_add]
    simp only [rp,AB,eb,ea,st,A3]
    exact hK _ _ (f1.trans f0) fun l' q=>by injection q with q; rw [<- q]; exact w2
   ·exact rs.fr f0
   ·exact fun y _ d x=>x.fr f0
end
section
variable {PK : H -> Prop} {h : H}
theorem VL {l : List Sl} {i : Nat} {x : Sl} (hx : l[i]? = some x) : l.getD i none = x:=by rw [List.getD_eq_getElem?_getD,hx]; rfl
theorem LI (l : List Sl) (i : Nat) : atS l i = l.getD i none:=by unfold atS; rw [if_pos (by omega)]; rfl
theorem LR (l : List Sl) (L : List Int) (hr : CN l.length (-1) L = true) : (L.all fun i=>(atS l i).isSome) = true ↔ ∀ i : Nat,i < l.length -> (i : Int) ∈ L -> (l.getD i none).isSome = true:=by
 rw [List.all_eq_true]
 have hb:=((GD _ _ _).1 hr).2
 constructor
 ·intro h i _ hm
  have:=h _ hm
  rw [LI] at this; exact this
 ·intro h x hx
  have h1:=hb x hx
  have:=h x.toNat (by omega) (by rw [show ((x.toNat : Nat) : Int) = x by omega]; exact hx)
  rw [<- LI,show ((x.toNat : Nat) : Int) = x by omega] at this
  exact this
def EF (l : List Sl) (L : List Int) (i : Nat) : Sl:=if (i : Int) ∈ L then l.getD i none else none
theorem swept_c {v : AV} {l : List Sl} (r : RowOf h 3 (slR h) v l) (hl : l.length <= 4294967296) {vL : AV} {L : List Int} (rL : Row h vL L.length 1 (ic L)) (hL : L.length <= reachBytes) {K : AV -> H -> Prop} (hK : ∀ w h',Fr [] h h' -> (∀ l',CE l L = some l' -> RowOf h' 3 (slR h') w l') -> K (.tup [w,.bool (CE l L).isSome]) h') : DP PK 183 [v,vL] h K:=by
 refine runB183 ?_
 unfold sh183 zF
 have no : CE l L = none -> ∀ h',Fr [] h h' -> K (.tup [.nilsl,.bool false]) h':=fun e h' f=>by
  have:=hK .nilsl h' f (fun l' q=>by rw [e] at q; cases q)
  rw [e] at this; exact this
 rw [r.len,AB]
 refine U2 rL hL _ ?_
 cases hr : CN l.length (-1) L with
 | false=>
  simp only [go_sem,reduceIte]
  exact no (by unfold CE; rw [hr]; rfl) h (Fr.refl _ _)
 | true=>
  simp only [go_sem,reduceIte]
  refine AI (fun (J : AV -> H -> Prop)=>∀ w h',Fr [] h h' -> (∀ i : Nat,i < l.length -> (i : Int) ∈ L -> (l.getD i none).isSome = true) -> OwnOf h h' 154 3 (slR h) w ((List.range l.length).map (EF l L)) -> J w h') (fun w h' f hall o=>?_) fun J hJ=>?_
  ·have e : CE l L = some ((List.range l.length).map (EF l L)):=by
    unfold CE
    rw [hr,(LR l L hr).2 hall]
    rfl
   have:=hK w h' f (fun l' q=>by rw [e] at q; injection q with q; rw [<- q]; exact o.row.mono (Fr.refl _ _) fun _ _ _ x=>x.fr f)
   rw [e] at this
   exact this
  ·refine AS (l.length + 1) (fun c ls h'=>∃ (i : Nat) (w : AV),ls = [w,.int .i64 i] /\ i <= l.length /\ Fr [] h h' /\ (∀ k : Nat,k < i -> (k : Int) ∈ L -> (l.getD k none).isSome = true) /\ OwnOf h h' 154 3 (slR h) w ((List.range i).map (EF l L)) /\ c = l.length + 1 - i) ⟨0,.nilsl,rfl,by omega,Fr.refl _ _,fun k hk=>absurd hk (by omega),OwnOf.nil ..,rfl⟩ ?_
   rintro c ls h' ⟨i,w,rfl,hi,f,hall,o,rfl⟩
   rw [BE,CJ,BO,AB]
   by_cases qq : (i : Int) < l.length
   ·have hi' : i < l.length:=by omega
    obtain ⟨x,hx⟩:=BG hi'
    have gx:=VL hx
    have en:=B0 i (by omega)
    simp only [qq,decide_true,AZ]
    refine AI (fun (J : AV -> H -> Prop)=>∀ w' h2,Fr [] h h2 -> ((i : Int) ∈ L -> x.isSome = true) -> OwnOf h h2 154 3 (slR h) w' ((List.range i).map (EF l L) ++ [EF l L i]) -> J w' h2) (fun w' h2 f2 hx2 o2=>?_) fun J2 hJ2=>?_
    ·rw [BS,AB,en]
     refine ⟨l.length + 1 - (i + 1),by omega,i + 1,w',rfl,by omega,f2,fun k hk hm=>?_,?_,rfl⟩
     ·by_cases e : k = i
      ·subst e; rw [gx]; exact hx2 hm
      ·exact hall k (by omega) hm
     ·rw [List.range_succ,List.map_append]; exact o2
    ·rw [VK (rL.fr f) hL]
     have hlen : ((List.range i).map (EF l L)).length = i:=by simp
     by_cases hm : (i : Int) ∈ L
     ·simp only [hm,decide_true,AZ]
      obtain ⟨b,o',c,q1,q2,q3,q4,q5⟩:=(r.mono f (Rel':=slR h) fun _ _ _ x=>x).el hx
      have c2:=q5 2 (by decide)
      cases x with
      | none=>
       obtain ⟨bi,vv,rfl,_⟩:=q2
       have c2 : h'.cell b (o' + 2) = some (.bool true):=c2
       simp only [go_sem,reduceIte,q1,c2]
       refine no ?_ h' f
       unfold CE
       have : ¬ (L.all fun i=>(atS l i).isSome) = true:=fun z=>by
        have:=(LR l L hr).1 z i hi' hm
        rw [gx] at this; cases this
       rw [if_neg (by rw [hr,Bool.true_and]; exact this)]
      | some t=>
       have qq2:=q2
       obtain ⟨vv,rfl,_⟩:=q2
       have c2 : h'.cell b (o' + 2) = some (.bool false):=c2
       have eg : EF l L i = some t:=by unfold EF; rw [if_pos hm,gx]
       simp only [go_sem,reduceIte,q1,c2,q4]
       rw [GV (n:=3) rfl rfl qq2.leaves.2]
       refine MS o (x:=EF l L i) (by rw [eg]; exact qq2) rfl qq2.leaves.2 (by decide) f (by rw [hlen]; unfold AQ; omega) fun w' h2 o2 f2 _=>?_
       exact hJ2 w' h2 f2 (fun _=>rfl) o2
     ·have eg : EF l L i = none:=by unfold EF; rw [if_neg hm]
      have eb : AT (AG [.bool false,.nilsl,.bool false] [(2,1,.bool true)]) = some (.agg [.bool false,.nilsl,.bool true]):=rfl
      simp only [hm,decide_false,AO,eb,AB]
      rw [GV (n:=3) rfl rfl rfl]
      refine MS o (x:=EF l L i) (by rw [eg]; exact ⟨_,_,rfl,rfl,rfl⟩) rfl rfl (by decide) f (by rw [hlen]; unfold AQ; omega) fun w' h2 o2 f2 _=>?_
      exact hJ2 w' h2 f2 (fun z=>absurd z hm) o2
   ·have : i = l.length:=by omega
    subst this
    simp only [qq,decide_false,AO]
    exact hJ w h' f hall o
theorem JF {m : Img} : ∀ (l : List Ty) (a : Ty),okT m a -> (∀ t ∈ l,okT m t) -> okT m (l.foldl C4 a)
 | [],a,oa,_=>oa
 | x :: l,a,oa,hl=>JF l _ (R0 oa (hl x (by simp))) fun t ht=>hl t (by simp [ht])
theorem tyR.noInt {t : Ty} {c : List AV} (r : tyR h t c) : ∀ (i : Nat) k n,c[i]? ≠ some (.int k n):=by
 obtain ⟨v,rfl,r⟩:=r
 intro i k n e
 match i,e with
 | 0,e=>cases e
 | 1,e=>
  injection e with e
  rcases r.2 with ⟨_,q⟩ | ⟨_,_,_,q,_⟩
  ·rw [q] at e; cases e
  ·rw [q] at e; cases e
theorem GC {p : Nat} {c c' : List AV} {t t' : Ty} (hg : h.get p = some (.live c 46 true)) (r0 : tyR h t c) (r : tyR h t' c') : AM (stA h 2 (.ptr p 0) (.agg c')) .undef = (fun K=>K .undef (h.set p (.live c' 46 true))) /\ tyR (h.set p (.live c' 46 true)) t' c' /\ (h.set p (.live c' 46 true)).get p = some (.live c' 46 true) /\ NI h (h.set p (.live c' 46 true)):=by
 have ni : NI h (h.set p (.live c' 46 true)):=NI.set hg (by rw [r0.len,r.len]; omega) fun i k n e=>absurd e (r0.noInt i k n)
 refine ⟨funext fun K=>?_,r.ni ni,H.get_same ..,ni⟩
 rw [DG hg r0.len r.len r.leaves]; rfl
theorem QI {m : Img} {c : List AV} (rm : imgR h m c) (W : Wh m) {vx : AV} {sh : List Int} (rx : Row h vx sh.length 1 (ic sh)) (hx : sh.length <= reachBytes) (hs : ∀ s ∈ sh,0 <= s /\ s < m.shapes.length) (k : Int) {K : AV -> H -> Prop}
  (hK : ∀ c h',Fr [] h h' -> (∀ t,DB m sh k = some t -> tyR h' t c) -> leaves c = true -> c.length = 2 -> K (.tup [.agg c,.bool (DB m sh k).isSome]) h') : DP PK 211 [.agg c,vx,.int .i64 k] h K:=by
 refine runB211 ?_
 unfold sh211 zL zE zV zF zH
 refine B8 rm fun p h1 f1 hp gp rm1=>?_
 refine BH rfl fun q hq=>?_
 have fq : Fr [] h1 (h1.set q (.live [.bool false,.nilsl] 46 true)):=Fr.new hq
 have gq : (h1.set q (.live [.bool false,.nilsl] 46 true)).get q = some (.live [.bool false,.nilsl] 46 true):=H.get_same ..
 generalize h1.set q (.live [.bool false,.nilsl] 46 true) = h2 at fq gq
 have eb : AT (AG [.bool false,.nilsl] []) = some (.agg [.bool false,.nilsl]):=rfl
 rw [eb,AB]
 refine BH rfl fun b hb=>?_
 have fb : Fr [] h2 (h2.set b (.live [.bool false,.nilsl] 46 true)):=Fr.new hb
 have gb : (h2.set b (.live [.bool false,.nilsl] 46 true)).get b = some (.live [.bool false,.nilsl] 46 true):=H.get_same ..
 generalize h2.set b (.live [.bool false,.nilsl] 46 true) = h3 at fb gb
 obtain ⟨w1,w2,w3,_⟩:=GC gb (GQ h3) (GQ h3)
 rw [w1]
 simp only
 have fb' : Fr [] h2 (h3.set b (.live [.bool false,.nilsl] 46 true)):=fb.set' hb
 generalize h3.set b (.live [.bool false,.nilsl] 46 true) = h4 at fb' w2 w3
 have hbq : b ≠ q:=fun e=>by rw [e,gq] at hb; cases hb
 have hb1 : h1.get b = none:=fq.free hb
 have gp4 : ∀ {h'},Fr [] h1 h' -> h'.get p = some (.live c 28 true):=fun f=>f p _ (by simp) gp
 have f14 : Fr [] h1 h4:=fq.trans fb'
 have gq4:=fb' q _ (by simp) gq
 have fin : ∀ (bo : Bool) (t : Ty) (ct : List AV) h',Fr [] h1 h' -> h'.get q = some (.live [.bool false,.nilsl] 46 true) -> h'.get b = some (.live ct 46 true) -> tyR h' t ct -> bo = (DB m sh k).isSome -> (∀ t',DB m sh k = some t' -> t = t') ->
   AA (ldA h' (some 2) (.ptr b 0)) h' fun t48 h=>AM (stA h 2 (.ptr q 0) t48) .undef fun _ h=>AA (ldA h (some 2) (.ptr q 0)) h fun res _=>K (.tup [res,.bool bo]) h:=by
  intro bo t ct h' f g1 g2 rt eb et
  rw [EH g2 rt.len,AB]
  obtain ⟨w1,w2,w3,_⟩:=GC g1 (GQ h') rt
  rw [w1]
  simp only
  rw [EH w3 rt.len,AB,eb]
  exact hK ct _ (f1.trans (f.set' hq)) (fun t' e=>by rw [<- et t' e]; exact w2) rt.leaves rt.len
 have T:=fun i : Nat=>((sh.take i).map (BM m k)).foldl C4 H3
 refine AI (fun (J : H -> Prop)=>∀ ct h',Fr [] h1 h' -> h'.get q = some (.live [.bool false,.nilsl] 46 true) -> h'.get b = some (.live ct 46 true) -> tyR h' ((sh.map (BM m k)).foldl C4 H3) ct -> sh.all (BQ m k) = true -> J h') (fun ct h' f g1 g2 rt hall=>?_) fun J hJ=>?_
 ·have e : DB m sh k = some ((sh.map (BM m k)).foldl C4 H3):=by unfold DB; rw [if_pos hall]
  exact fin true _ ct h' f g1 g2 rt (by rw [e]; rfl) (fun t' q=>by rw [e] at q; injection q)
 ·rw [rx.len,AB]
  refine AS (sh.length + 1) (fun cn ls h'=>∃ (i : Nat) (ct : List AV),ls = [.int .i64 i] /\ i <= sh.length /\ Fr [] h1 h' /\ h'.get q = some (.live [.bool false,.nilsl] 46 true) /\ h'.get b = some (.live ct 46 true) /\ tyR h' (((sh.take i).map (BM m k)).foldl C4 H3) ct /\ (sh.take i).all (BQ m k) = true /\ cn = sh.length + 1 - i) ⟨0,_,rfl,by omega,f14,gq4,w3,w2,rfl,rfl⟩ ?_
  rintro cn ls h' ⟨i,ct,rfl,hi,f,g1,g2,rt,hall,rfl⟩
  rw [BE,BO,AB]
  by_cases qq : (i : Int) < sh.length
  ·have hi' : i < sh.length:=by omega
   obtain ⟨x,hx0⟩:=BG hi'
   have en:=B0 i (by unfold reachBytes at hx; omega)
   obtain ⟨b7,o7,u1,u2⟩:=(rx.fr (f1.trans f)).atI hx0
   have hxs:=hs x (List.mem_of_getElem? hx0)
   obtain ⟨vt,vs,vx',vn,vf,ecm,m1,m2,_⟩:=rm1.fr f
   have cp0 : h'.cell p 0 = some vt:=by rw [AD (gp4 f),ecm]; rfl
   have cp1 : h'.cell p 1 = some vs:=by rw [AD (gp4 f),ecm]; rfl
   obtain ⟨b8,o8,vfs,y1,y2,y3,y4,y5⟩:=EO m2 hxs.1 hxs.2
   have bad : BQ m k x = false -> DB m sh k = none:=fun e=>by
    unfold DB
    rw [if_neg]
    intro z
    have:=List.all_eq_true.1 z x (List.mem_of_getElem? hx0)
    rw [e] at this; cases this
   by_cases k0 : k < 0
   ·have e:=bad (by unfold BQ; rw [decide_eq_false (p:=0 <= k) (by omega)]; rfl)
    simp only [go_sem,reduceIte,qq,u1,u2,k0]
    exact fin false _ ct h' f g1 g2 rt (by rw [e]; rfl) (fun t' q=>by rw [e] at q; cases q)
   ·by_cases k1 : ((m.shp x).fs.length : Int) <= k
    ·have e:=bad (by unfold BQ; rw [decide_eq_false (p:=k < _) (by omega),Bool.and_false])
     simp only [go_sem,reduceIte,qq,u1,u2,k0,cp1,y1,y3,y4.len,k1]
     exact fin false _ ct h' f g1 g2 rt (by rw [e]; rfl) (fun t' q=>by rw [e] at q; cases q)
    ·obtain ⟨t,ht⟩ : ∃ t,(m.shp x).fs[k.toNat]? = some t:=⟨(m.shp x).fs[k.toNat]'(by omega),by simp [show k.toNat < (m.shp x).fs.length by omega]⟩
     have eT : BM m k x = m.ty t:=by unfold BM; rw [List.getD_eq_getElem?_getD,ht]; rfl
     have eB : BQ m k x = true:=by unfold BQ; rw [decide_eq_true (by omega),decide_eq_true (by omega)]; rfl
     obtain ⟨b9,o9,z1,z2⟩:=y4.at (i:=k) (x:=.int .i64 t) (by omega) (by omega) (by simp [ic,ht])
     have htt:=(W.shp _ y5).2.1 t (List.mem_of_getElem? ht)
     obtain ⟨b10,o10,ct2,v1,v2,v3⟩:=C7 m1 htt.1 htt.2
     have ld8:=EH g2 rt.len
     have hr : h'.read b 0 2 = some ct:=H.read_eq g2 (by rw [rt.len]; omega) (by rw [List.drop_zero,List.take_of_length_le (by rw [rt.len]; omega)])
     simp only [go_sem,reduceIte,qq,u1,u2,k0,cp1,cp0,y1,y3,y4.len,k1,z1,z2,v1,v2,hr]
     have o1:=(JF (m:=m) ((sh.take i).map (BM m k)) H3 (KF m) fun t ht=>by
      rw [List.mem_map] at ht; obtain ⟨s,_,e⟩:=ht; rw [<- e]; exact W.tyOk _).len
     have o2:=(W.tyOk t).len
     have hsl:=W.sl
     refine rjoin_c rt v3 (by omega) fun ct3 h5 f5 rt5=>?_
     obtain ⟨w1,w2,w3,_⟩:=GC (f5 b _ (by simp) g2) (rt.fr f5) rt5
     rw [w1]
     simp only
     have f15:=f.trans f5
     have hn : C4 (((sh.take i).map (BM m k)).foldl C4 H3) (m.ty t) = ((sh.take (i + 1)).map (BM m k)).foldl C4 H3:=by
      rw [CO hx0,List.map_append,List.foldl_append,<- eT]; rfl
     rw [en]
     refine ⟨sh.length + 1 - (i + 1),by omega,i + 1,ct3,rfl,by omega,f15.set' hb1,?_,w3,by rw [<- hn]; exact w2,by rw [CO hx0,List.all_append,hall,List.all_cons,eB]; rfl,rfl⟩
     rw [H.get_other _ _ hbq.symm]; exact f5 q _ (by simp) g1
  ·have : i = sh.length:=by omega
   subst this
   simp only [qq,decide_false,AO]
   rw [List.take_length] at rt hall
   exact hJ ct h' f g1 g2 rt hall
end
theorem XJ {m : Img} {l : List Sl} {x : Ins} (h : x.op = 1) : BZ m l x = (if BU x.n then some (some BF) else none):=by
 unfold BZ
 dsimp only
 rw [if_pos h]
theorem XI {m : Img} {l : List Sl} {x : Ins} (h : x.op = 3) : BZ m l x = (atS l x.a).map some:=by
 unfold BZ
 dsimp only
 rw [if_neg (by omega),if_pos h]
theorem XH {m : Img} {l : List Sl} {x : Ins} (h : x.op = 4) : BZ m l x = (if decide (1 <= x.n) && decide (x.n <= 8) && isS l x.a BF && isS l x.b BF then some (some BF) else none):=by
 unfold BZ
 dsimp only
 rw [if_neg (by omega),if_neg (by omega),if_pos h]
theorem XG {m : Img} {l : List Sl} {x : Ins} (h : x.op = 6) : BZ m l x = ((B5 m l x.a 1 1).bind fun sh=>(DB m sh x.b).map some):=by
 unfold BZ
 dsimp only
 rw [if_neg (by omega),if_neg (by omega),if_neg (by omega),if_pos h]
theorem XF {m : Img} {l : List Sl} {x : Ins} (h : x.op = 7) : BZ m l x = (if (atS l x.c).isSome && (match B5 m l x.a 1 1 with | some sh=>CX m l x.c sh x.b | none=>false) then some none else none):=by
 unfold BZ
 dsimp only
 rw [if_neg (by omega),if_neg (by omega),if_neg (by omega),if_neg (by omega),if_pos h]
 try rfl
theorem XE {m : Img} {l : List Sl} {x : Ins} (h : x.op = 9) : BZ m l x = ((if isS l x.b BF then B5 m l x.a 2 2 else none).bind fun sh=>(DB m sh 0).map some):=by
 unfold BZ
 dsimp only
 rw [if_neg (by omega),if_neg (by omega),if_neg (by omega),if_neg (by omega),if_neg (by omega),if_pos h]
theorem UX {m : Img} {l : List Sl} {x : Ins} (h : x.op = 10) : BZ m l x = (if isS l x.b BF && (match B5 m l x.a 2 2 with | some sh=>CX m l x.c sh 0 | none=>false) then some none else none):=by
 unfold BZ
 dsimp only
 rw [if_neg (by omega),if_neg (by omega),if_neg (by omega),if_neg (by omega),if_neg (by omega),if_neg (by omega),if_pos h]
 try rfl
theorem UW {m : Img} {l : List Sl} {x : Ins} (h : x.op = 11) : BZ m l x = (if (B5 m l x.a 2 3).isSome then some (some BF) else none):=by
 unfold BZ
 dsimp only
 rw [if_neg (by omega),if_neg (by omega),if_neg (by omega),if_neg (by omega),if_neg (by omega),if_neg (by omega),if_neg (by omega),if_pos h]
theorem QC {m : Img} {l : List Sl} {x : Ins} (h : x.op = 12) : BZ m l x = (if (B5 m l x.a 3 3).isSome && isS l x.b BF then some (some BF) else none):=by
 unfold BZ
 dsimp only
 rw [if_neg (by omega),if_neg (by omega),if_neg (by omega),if_neg (by omega),if_neg (by omega),if_neg (by omega),if_neg (by omega),if_neg (by omega),if_pos h]
theorem QB {m : Img} {l : List Sl} {x : Ins} (h : x.op = 14) : BZ m l x = (if (B5 m l x.a 3 3).isSome && (B5 m l x.b 3 3).isSome then some (some BF) else none):=by
 unfold BZ
 dsimp only
 rw [if_neg (by omega),if_neg (by omega),if_neg (by omega),if_neg (by omega),if_neg (by omega),if_neg (by omega),if_neg (by omega),if_neg (by omega),if_neg (by omega),if_pos h]
theorem UV {m : Img} {l : List Sl} {x : Ins} (h : x.op = 15) : BZ m l x = some (some BF):=by
 unfold BZ
 dsimp only
 rw [if_neg (by omega),if_neg (by omega),if_neg (by omega),if_neg (by omega),if_neg (by omega),if_neg (by omega),if_neg (by omega),if_neg (by omega),if_neg (by omega),if_neg (by omega),if_pos h]
 try rfl
theorem UU {m : Img} {l : List Sl} {x : Ins} (h : x.op = 16) : BZ m l x = (if isS l x.a BF then some none else none):=by
 unfold BZ
 dsimp only
 rw [if_neg (by omega),if_neg (by omega),if_neg (by omega),if_neg (by omega),if_neg (by omega),if_neg (by omega),if_neg (by omega),if_neg (by omega),if_neg (by omega),if_neg (by omega),if_neg (by omega),if_pos h]
theorem TJ {m : Img} {l : List Sl} {x : Ins} (h : x.op ≠ 1 /\ x.op ≠ 3 /\ x.op ≠ 4 /\ x.op ≠ 6 /\ x.op ≠ 7 /\ x.op ≠ 9 /\ x.op ≠ 10 /\ x.op ≠ 11 /\ x.op ≠ 12 /\ x.op ≠ 14 /\ x.op ≠ 15 /\ x.op ≠ 16) : BZ m l x = none:=by
 unfold BZ
 dsimp only
 rw [if_neg (by omega),if_neg (by omega),if_neg (by omega),if_neg (by omega),if_neg (by omega),if_neg (by omega),if_neg (by omega),if_neg (by omega),if_neg (by omega),if_neg (by omega),if_neg (by omega),if_neg (by omega)]
section
variable {PK : H -> Prop} {h : H}
theorem D2 {x : Ins} {c : List AV} (r : insR h x c) {K : AV -> H -> Prop} (hK : ∀ b h',Fr [] h h' -> h.get b = none -> h'.get b = some (.live c 55 true) -> insR h' x c -> K (.ptr b 0) h') : AL h (AV.cells (.agg c)) 55 K:=by
 refine BH (cs:=c) r.leaves fun b hb=>?_
 have f : Fr [] h (h.set b (.live c 55 true)):=(Fr.refl _ _).set' hb
 exact hK b _ f hb (H.get_same ..) (r.fr f)
theorem DN {c : List AV} (hn : c.length = 2) (hl : leaves c = true) {K : AV -> H -> Prop} (hK : ∀ a h',Fr [] h h' -> h.get a = none -> h'.get a = some (.live c 46 true) -> K (.ptr a 0) h') : AL h [.bool false,.nilsl] 46 fun a h=>AM (stA h 2 a (.agg c)) .undef fun _ h=>K a h:=by
 refine BH rfl fun a ha=>?_
 rw [DG (n:=2) (H.get_same ..) rfl hn hl,A3]
 exact hK a _ (((Fr.refl _ _).set' ha).set' ha) ha (H.get_same ..)
theorem AR {b e n : Nat} {cs : List AV} {o : Bool} (hb : h.get b = some (.live cs e o)) (hl : cs.length = n) : h.read b 0 n = some cs:=H.read_eq hb (by omega) (by rw [List.drop_zero,List.take_of_length_le (by omega)])
set_option maxHeartbeats 2000000 in
theorem sets_c {m : Img} {c : List AV} (rm : imgR h m c) (W : Wh m) {v : AV} {l : List Sl} (r : RowOf h 3 (slR h) v l) (ol : okL m l) {x : Ins} {cx : List AV} (rx : insR h x cx) (okx : x.ok) {K : AV -> H -> Prop}
  (hK : ∀ c b o h',Fr [] h h' -> leaves c = true -> c.length = 2 -> o = (BZ m l x).isSome -> (∀ y,BZ m l x = some y -> b = y.isSome /\ ∀ t,y = some t -> tyR h' t c) -> K (.tup [.agg c,.bool b,.bool o]) h') : DP PK 180 [.agg c,v,.agg cx] h K:=by
 refine runB180 ?_
 unfold sh180 zT zU zF zG
 refine B8 rm fun p h1 f1 hp gp rm1=>?_
 refine D2 (rx.fr f1) fun b h2 f2 hb gb rx2=>?_
 have hcl:=rm.leaves
 refine BH rfl fun q hq=>?_
 have fq : Fr [] h2 (h2.set q (.live [.bool false,.nilsl] 46 true)):=Fr.new hq
 have gq : (h2.set q (.live [.bool false,.nilsl] 46 true)).get q = some (.live [.bool false,.nilsl] 46 true):=H.get_same ..
 generalize h2.set q (.live [.bool false,.nilsl] 46 true) = h3 at fq gq
 refine PP fun cn h4 f4 rn=>?_
 refine DN rn.len rn.leaves fun n h5 f5 hn gn=>?_
 have f25 : Fr [] h2 h5:=(fq.trans f4).trans f5
 have f05 : Fr [] h h5:=(f1.trans f2).trans f25
 have rn5:=rn.fr f5
 have gq5:=f5 q _ (by simp) (f4 q _ (by simp) gq)
 have gp5:=f25 p _ (by simp) (f2 p _ (by simp) gp)
 have gb5:=f25 b _ (by simp) gb
 have r5 : RowOf h5 3 (slR h5) v l:=r.mono f05 fun _ _ _ x=>x.fr f05
 have rm5:=rm.fr f05
 have hcn : c.length = 7:=by obtain ⟨_,_,_,_,_,rfl,_⟩:=rm; rfl
 obtain ⟨vl,vm,vv,ecx,rl,rmm,rlv⟩:=rx
 clear rm1 rx2 gp gb gq
 have F : ∀ h',Fr [] h5 h' -> h'.read p 0 7 = some c /\ h'.read n 0 2 = some cn /\ (h'.cell b 0 = some (.int .i64 x.op) /\ h'.cell b 1 = some (.int .i64 x.d) /\ h'.cell b 2 = some (.int .i64 x.a) /\ h'.cell b 3 = some (.int .i64 x.b) /\ h'.cell b 4 = some (.int .i64 x.c) /\ h'.cell b 5 = some (.int .i64 x.n)) /\
   RowOf h' 3 (slR h') v l /\ imgR h' m c /\ tyR h' BF cn:=fun h' f=>
  ⟨AR (f p _ (by simp) gp5) hcn,AR (f n _ (by simp) gn) rn.len,by have cc:=AD (f b _ (by simp) gb5); rw [cc,cc,cc,cc,cc,cc,ecx]; exact ⟨rfl,rfl,rfl,rfl,rfl,rfl⟩,r5.mono f fun _ _ _ x=>x.fr f,rm5.fr f,rn5.fr f⟩
 have fin : ∀ (ct : List AV) (bo o : Bool) h',Fr [] h5 h' -> leaves ct = true -> ct.length = 2 -> o = (BZ m l x).isSome -> (∀ y,BZ m l x = some y -> bo = y.isSome /\ ∀ t,y = some t -> tyR h' t ct) ->
   AM (stA h' 2 (.ptr q 0) (.agg ct)) .undef fun _ h=>AA (ldA h (some 2) (.ptr q 0)) h fun res _=>K (.tup [res,.bool bo,.bool o]) h:=by
  intro ct bo o h' f lv ln eo ey
  have g:=f q _ (by simp) gq5
  rw [DG (n:=2) g rfl ln lv,A3,EH (H.get_same ..) ln,AB]
  have ni : NI h' (h'.set q (.live ct 46 true)):=NI.set g (by rw [ln]; decide) fun i k n e=>by
   match i,e with
   | 0,e=>cases e
   | 1,e=>cases e
  exact hK ct bo o _ ((f1.trans f2).trans ((f25.trans f).set' hq)) lv ln eo fun y hy=>⟨(ey y hy).1,fun t ht=>((ey y hy).2 t ht).ni ni⟩
 have finN : ∀ (o : Bool) h',Fr [] h5 h' -> BZ m l x = (if o then some (some BF) else none) ->
   AM (stA h' 2 (.ptr q 0) (.agg cn)) .undef fun _ h=>AA (ldA h (some 2) (.ptr q 0)) h fun res _=>K (.tup [res,.bool true,.bool o]) h:=by
  intro o h' f e
  refine fin cn true o h' f rn.leaves rn.len (by rw [e]; cases o <;> rfl) fun y hy=>?_
  rw [e] at hy
  cases o with
  | false=>cases hy
  | true=>injection hy with hy; subst hy; exact ⟨rfl,fun t ht=>by injection ht with ht; subst ht; exact rn5.fr f⟩
 have finK : ∀ (o : Bool) h',Fr [] h5 h' -> BZ m l x = (if o then some none else none) ->
   AM (stA h' 2 (.ptr q 0) (.agg cn)) .undef fun _ h=>AA (ldA h (some 2) (.ptr q 0)) h fun res _=>K (.tup [res,.bool false,.bool o]) h:=by
  intro o h' f e
  refine fin cn false o h' f rn.leaves rn.len (by rw [e]; cases o <;> rfl) fun y hy=>?_
  rw [e] at hy
  cases o with
  | false=>cases hy
  | true=>injection hy with hy; subst hy; exact ⟨rfl,fun t ht=>by cases ht⟩
 have finO : ∀ (ct : List AV) (bo : Bool) h',Fr [] h5 h' -> leaves ct = true -> ct.length = 2 -> BZ m l x = none ->
   AM (stA h' 2 (.ptr q 0) (.agg ct)) .undef fun _ h=>AA (ldA h (some 2) (.ptr q 0)) h fun res _=>K (.tup [res,.bool bo,.bool false]) h:=by
  intro ct bo h' f lv ln e
  exact fin ct bo false h' f lv ln (by rw [e]; rfl) fun y hy=>by rw [e] at hy; cases hy
 have ONE : ∀ {h'},Fr [] h5 h' -> ∀ (i : Int) {K : AV -> H -> Prop},(∀ h'',Fr [] h' h'' -> K (.bool (isS l i BF)) h'') -> DP AU 176 [v,.int .i64 i,.agg cn] h' K:=fun {h'} f i K hk=>
  MU (F h' f).2.2.2.1 i (F h' f).2.2.2.2.2 (W.ol ol) (by show (0 : Nat) <= _; omega) hk
 have OBJ : ∀ {h'},Fr [] h5 h' -> ∀ (i k1 k2 : Int) {K : AV -> H -> Prop},(B5 m l i k1 k2 = none -> ∀ h'',Fr [] h' h'' -> K (.tup [.nilsl,.bool false]) h'') -> (∀ sh,B5 m l i k1 k2 = some sh -> ∀ h'' w,Fr [] h' h'' -> Row h'' w sh.length 1 (ic sh) -> K (.tup [w,.bool true]) h'') ->
   DP AU 210 [.agg c,v,.int .i64 i,.int .i64 k1,.int .i64 k2] h' K:=fun {h'} f i k1 k2 K a b=>R2 (F h' f).2.2.2.2.1 (F h' f).2.2.2.1 (W.ol2 ol) i k1 k2 a b
 have shok : ∀ {i k1 k2 : Int} {sh : List Int},B5 m l i k1 k2 = some sh -> sh.length <= reachBytes /\ ∀ s ∈ sh,0 <= s /\ s < m.shapes.length:=fun {i k1 k2 sh} e=>by
  unfold B5 at e
  cases ha : atS l i with
  | none=>rw [ha] at e; cases e
  | some t=>
   rw [ha] at e
   simp only at e
   split at e
   ·injection e with e; subst e
    have:=ol.at ha
    exact ⟨W.tlen this,this.2⟩
   ·cases e
 clear gp5 gb5 gn rn5 rn r5 rm5 ecx
 obtain ⟨p0,n0,⟨x0,x1,x2,x3,x4,x5⟩,r0,rm0,rn0⟩:=F h5 (Fr.refl _ _)
 have lvn:=rn0.leaves
 have lnn:=rn0.len
 have rf:=Fr.refl [] h5
 have t0 : ∀ a b : AV,A8 (.tup [a,b]) 0 = some a:=fun _ _=>rfl
 have t1 : ∀ a b : AV,A8 (.tup [a,b]) 1 = some b:=fun _ _=>rfl
 by_cases hop : x.op = 1
 ·have e:=XJ (m:=m) (l:=l) hop
  simp only [go_sem,reduceIte,x0,hop,n0,x5]
  refine RF okx.1.2.2.2.2.2.1 okx.1.2.2.2.2.2.2 ?_
  simp only [go_sem,reduceIte,n0]
  exact finN _ h5 rf e
 by_cases hop : x.op = 15
 ·have e:=UV (m:=m) (l:=l) hop
  simp only [go_sem,reduceIte,x0,hop,n0]
  exact finN true h5 rf e
 by_cases hop : x.op = 3
 ·have e:=XI (m:=m) (l:=l) hop
  simp only [go_sem,reduceIte,x0,hop,x2]
  refine PI r0 x.a fun h7 ca f7 hca lv ln=>?_
  simp only [t0,t1,AB]
  refine DN ln lv fun a h8 f8 ha ga=>?_
  have f8:=f7.trans f8
  simp only [go_sem,reduceIte,AR ga ln]
  refine fin ca true _ h8 f8 lv ln (by rw [e]; cases atS l x.a <;> rfl) fun y hy=>?_
  cases hat : atS l x.a with
  | none=>rw [e,hat] at hy; cases hy
  | some t=>
   rw [e,hat] at hy
   injection hy with hy; subst hy
   exact ⟨rfl,fun t' ht=>by injection ht with ht; subst ht; exact (hca t hat).fr (by assumption)⟩
 by_cases hop : x.op = 16
 ·have e:=UU (m:=m) (l:=l) hop
  simp only [go_sem,reduceIte,x0,hop,n0,x2]
  refine ONE rf x.a fun h7 f7=>?_
  simp only [go_sem,reduceIte,(F h7 f7).2.1]
  exact finK _ h7 f7 e
 by_cases hop : x.op = 4
 ·have e:=XH (m:=m) (l:=l) hop
  by_cases c1 : 1 <= x.n
  ·by_cases c2 : x.n <= 8
   ·rw [decide_eq_true c1,decide_eq_true c2,Bool.true_and,Bool.true_and] at e
    simp only [go_sem,reduceIte,x0,hop,n0,x5,x2,c1,c2]
    refine ONE rf x.a fun h7 f7=>?_
    obtain ⟨p7,n7,⟨y0,y1,y2,y3,y4,y5⟩,r7,rm7,rn7⟩:=F h7 f7
    cases hz : isS l x.a BF with
    | false=>
     rw [hz] at e
     simp only [go_sem,reduceIte,n7]
     exact finN false h7 f7 e
    | true=>
     rw [hz,Bool.true_and] at e
     simp only [go_sem,reduceIte,n7,y3]
     refine ONE f7 x.b fun h8 f8=>?_
     have f8:=f7.trans f8
     simp only [go_sem,reduceIte,(F h8 f8).2.1]
     exact finN _ h8 f8 e
   ·rw [decide_eq_false c2,Bool.and_false,Bool.false_and,Bool.false_and] at e
    simp only [go_sem,reduceIte,x0,hop,n0,x5,c1,c2]
    exact finN false h5 rf e
  ·rw [decide_eq_false c1,Bool.false_and,Bool.false_and,Bool.false_and] at e
   simp only [go_sem,reduceIte,x0,hop,n0,x5,c1]
   exact finN false h5 rf e
 by_cases hop : x.op = 14
 ·have e:=QB (m:=m) (l:=l) hop
  simp only [go_sem,reduceIte,x0,hop,p0,x2]
  refine OBJ rf x.a 3 3 (fun ea h7 f7=>?_) fun sa ea h7 w f7 _=>?_
  ·obtain ⟨p7,n7,⟨y0,y1,y2,y3,y4,y5⟩,r7,rm7,rn7⟩:=F h7 f7
   rw [ea] at e
   simp only [go_sem,reduceIte,t0,t1,p7,y3]
   refine OBJ f7 x.b 3 3 (fun eb h8 f8=>?_) fun sb eb h8 w f8 _=>?_
   ·have f8:=f7.trans f8
    simp only [go_sem,reduceIte,t0,t1,(F h8 f8).2.1]
    exact finN false h8 f8 e
   ·have f8:=f7.trans f8
    simp only [go_sem,reduceIte,t0,t1,(F h8 f8).2.1]
    exact finN false h8 f8 e
  ·obtain ⟨p7,n7,⟨y0,y1,y2,y3,y4,y5⟩,r7,rm7,rn7⟩:=F h7 f7
   rw [ea] at e
   simp only [go_sem,reduceIte,t0,t1,p7,y3]
   refine OBJ f7 x.b 3 3 (fun eb h8 f8=>?_) fun sb eb h8 w f8 _=>?_
   ·have f8:=f7.trans f8
    rw [eb] at e
    simp only [go_sem,reduceIte,t0,t1,(F h8 f8).2.1]
    exact finN false h8 f8 e
   ·have f8:=f7.trans f8
    rw [eb] at e
    simp only [go_sem,reduceIte,t0,t1,(F h8 f8).2.1]
    exact finN true h8 f8 e
 by_cases hop : x.op = 12
 ·have e:=QC (m:=m) (l:=l) hop
  simp only [go_sem,reduceIte,x0,hop,p0,x2]
  refine OBJ rf x.a 3 3 (fun ea h7 f7=>?_) fun sa ea h7 w f7 _=>?_
  ·obtain ⟨p7,n7,⟨y0,y1,y2,y3,y4,y5⟩,r7,rm7,rn7⟩:=F h7 f7
   rw [ea] at e
   simp only [go_sem,reduceIte,t0,t1,n7]
   exact finN false h7 f7 e
  ·obtain ⟨p7,n7,⟨y0,y1,y2,y3,y4,y5⟩,r7,rm7,rn7⟩:=F h7 f7
   rw [ea] at e
   simp only [go_sem,reduceIte,t0,t1,n7,y3]
   refine ONE f7 x.b fun h8 f8=>?_
   have f8:=f7.trans f8
   simp only [go_sem,reduceIte,(F h8 f8).2.1]
   exact finN _ h8 f8 e
 by_cases hop : x.op = 11
 ·have e:=UW (m:=m) (l:=l) hop
  simp only [go_sem,reduceIte,x0,hop,p0,x2]
  refine OBJ rf x.a 2 3 (fun ea h7 f7=>?_) fun sa ea h7 w f7 _=>?_
  ·rw [ea] at e
   simp only [go_sem,reduceIte,t0,t1,(F h7 f7).2.1]
   exact finN false h7 f7 e
  ·rw [ea] at e
   simp only [go_sem,reduceIte,t0,t1,(F h7 f7).2.1]
   exact finN true h7 f7 e
 by_cases hop : x.op = 6
 ·have e:=XG (m:=m) (l:=l) hop
  simp only [go_sem,reduceIte,x0,hop,p0,x2]
  refine OBJ rf x.a 1 1 (fun ea h7 f7=>?_) fun sa ea h7 w f7 rw'=>?_
  ·obtain ⟨p7,n7,⟨y0,y1,y2,y3,y4,y5⟩,r7,rm7,rn7⟩:=F h7 f7
   rw [ea] at e
   simp only [go_sem,reduceIte,t0,t1,p7,y3]
   refine QI (sh:=[]) rm7 W (Row.nil h7 1) (by simp) (by simp) x.b fun cp h8 f8 _ lv ln=>?_
   have f8:=f7.trans f8
   simp only [t0,t1,AB]
   refine DN ln lv fun a h9 f9 ha ga=>?_
   have f9:=f8.trans f9
   simp only [go_sem,reduceIte,AR ga ln]
   exact finO cp true h9 f9 lv ln e
  ·obtain ⟨p7,n7,⟨y0,y1,y2,y3,y4,y5⟩,r7,rm7,rn7⟩:=F h7 f7
   rw [ea,Option.bind_some] at e
   simp only [go_sem,reduceIte,t0,t1,p7,y3]
   refine QI rm7 W rw' (shok ea).1 (shok ea).2 x.b fun cp h8 f8 hcp lv ln=>?_
   have f8':=f7.trans f8
   simp only [t0,t1,AB]
   refine DN ln lv fun a h9 f9 ha ga=>?_
   simp only [go_sem,reduceIte,AR ga ln]
   refine fin cp true _ h9 (f8'.trans f9) lv ln (by rw [e]; cases DB m sa x.b <;> rfl) fun y hy=>?_
   cases hp : DB m sa x.b with
   | none=>rw [e,hp] at hy; cases hy
   | some t=>
    rw [e,hp] at hy
    injection hy with hy; subst hy
    exact ⟨rfl,fun t' ht=>by injection ht with ht; subst ht; exact (hcp t hp).fr f9⟩
 by_cases hop : x.op = 7
 ·have e:=XF (m:=m) (l:=l) hop
  simp only [go_sem,reduceIte,x0,hop,p0,x2]
  refine OBJ rf x.a 1 1 (fun ea h7 f7=>?_) fun sa ea h7 w f7 rw'=>?_
  ·obtain ⟨p7,n7,⟨y0,y1,y2,y3,y4,y5⟩,r7,rm7,rn7⟩:=F h7 f7
   rw [ea] at e
   simp only [go_sem,reduceIte,t0,t1,y4]
   refine PI r7 x.c fun h8 ca f8 hca lv ln=>?_
   have f8:=f7.trans f8
   simp only [t0,t1,AB]
   refine DN ln lv fun a h9 f9 ha ga=>?_
   have f9:=f8.trans f9
   simp only [go_sem,reduceIte,(F h9 f9).2.1]
   exact finK false h9 f9 (by rw [e,Bool.and_false])
  ·obtain ⟨p7,n7,⟨y0,y1,y2,y3,y4,y5⟩,r7,rm7,rn7⟩:=F h7 f7
   rw [ea] at e
   simp only [go_sem,reduceIte,t0,t1,y4]
   refine PI r7 x.c fun h8 ca f8 hca lv ln=>?_
   have f78:=f8
   have f8:=f7.trans f8
   simp only [t0,t1,AB]
   refine DN ln lv fun a h9 f9 ha ga=>?_
   have f79:=f78.trans f9
   have f9:=f8.trans f9
   obtain ⟨p9,n9,⟨z0,z1,z2,z3,z4,z5⟩,r9,rm9,rn9⟩:=F h9 f9
   cases hz : (atS l x.c).isSome with
   | false=>
    rw [hz] at e
    simp only [go_sem,reduceIte,n9]
    exact finK false h9 f9 e
   | true=>
    rw [hz,Bool.true_and] at e
    simp only [go_sem,reduceIte,n9,p9,z3,z4]
    refine VP rm9 W.om W.of r9 (W.ol ol) (rw'.fr f79) (shok ea).1 (shok ea).2 x.c x.b fun h10 f10=>?_
    have f10:=f9.trans f10
    simp only [go_sem,reduceIte,(F h10 f10).2.1]
    exact finK _ h10 f10 e
 by_cases hop : x.op = 9
 ·have e:=XE (m:=m) (l:=l) hop
  simp only [go_sem,reduceIte,x0,hop,p0,x2]
  refine OBJ rf x.a 2 2 (fun ea h7 f7=>?_) fun sa ea h7 w f7 rw'=>?_
  ·obtain ⟨p7,n7,⟨y0,y1,y2,y3,y4,y5⟩,r7,rm7,rn7⟩:=F h7 f7
   rw [ea,ite_self] at e
   simp only [go_sem,reduceIte,t0,t1,p7]
   refine QI (sh:=[]) rm7 W (Row.nil h7 1) (by simp) (by simp) 0 fun cp h8 f8 _ lv ln=>?_
   have f8:=f7.trans f8
   simp only [t0,t1,AB]
   refine DN ln lv fun a h9 f9 ha ga=>?_
   have f9:=f8.trans f9
   simp only [go_sem,reduceIte,AR ga ln]
   exact finO cp true h9 f9 lv ln e
  ·obtain ⟨p7,n7,⟨y0,y1,y2,y3,y4,y5⟩,r7,rm7,rn7⟩:=F h7 f7
   rw [ea] at e
   simp only [go_sem,reduceIte,t0,t1,p7]
   refine QI rm7 W rw' (shok ea).1 (shok ea).2 0 fun cp h8 f8 hcp lv ln=>?_
   have f8':=f7.trans f8
   simp only [t0,t1,AB]
   refine DN ln lv fun a h9 f9 ha ga=>?_
   have f9':=f8'.trans f9
   obtain ⟨p9,n9,⟨z0,z1,z2,z3,z4,z5⟩,r9,rm9,rn9⟩:=F h9 f9'
   cases hp : DB m sa 0 with
   | none=>
    have e0 : BZ m l x = none:=by
     rw [e]
     split
     ·rw [Option.bind_some,hp]; rfl
     ·rfl
    simp only [go_sem,reduceIte,AR ga ln,Option.isSome_none]
    exact finO cp true h9 f9' lv ln e0
   | some t=>
    simp only [go_sem,reduceIte,AR ga ln,Option.isSome_some,z3,n9]
    refine ONE f9' x.b fun h10 f10=>?_
    have f10':=f9'.trans f10
    have ga':=f10 a _ (by simp) ga
    cases hz : isS l x.b BF with
    | false=>
     rw [hz] at e
     simp only [go_sem,reduceIte,AR ga' ln]
     exact finO cp true h10 f10' lv ln e
    | true=>
     rw [hz,if_pos rfl,Option.bind_some,hp] at e
     simp only [go_sem,reduceIte,AR ga' ln]
     refine fin cp true true h10 f10' lv ln (by rw [e]; rfl) fun y hy=>?_
     rw [e] at hy
     injection hy with hy; subst hy
     exact ⟨rfl,fun t' ht=>by injection ht with ht; subst ht; exact ((hcp t hp).fr f9).fr f10⟩
 by_cases hop : x.op = 10
 ·have e:=UX (m:=m) (l:=l) hop
  simp only [go_sem,reduceIte,x0,hop,p0,x2]
  refine OBJ rf x.a 2 2 (fun ea h7 f7=>?_) fun sa ea h7 w f7 rw'=>?_
  ·rw [ea] at e
   simp only [go_sem,reduceIte,t0,t1,(F h7 f7).2.1]
   exact finK false h7 f7 (by rw [e,Bool.and_false])
  ·obtain ⟨p7,n7,⟨y0,y1,y2,y3,y4,y5⟩,r7,rm7,rn7⟩:=F h7 f7
   rw [ea] at e
   simp only [go_sem,reduceIte,t0,t1,n7,y3]
   refine ONE f7 x.b fun h8 f8=>?_
   have f8':=f7.trans f8
   obtain ⟨p9,n9,⟨z0,z1,z2,z3,z4,z5⟩,r9,rm9,rn9⟩:=F h8 f8'
   cases hz : isS l x.b BF with
   | false=>
    rw [hz] at e
    simp only [go_sem,reduceIte,n9]
    exact finK false h8 f8' e
   | true=>
    rw [hz,Bool.true_and] at e
    simp only [go_sem,reduceIte,n9,p9,z4]
    refine VP rm9 W.om W.of r9 (W.ol ol) (rw'.fr f8) (shok ea).1 (shok ea).2 x.c 0 fun h10 f10=>?_
    have f10:=f8'.trans f10
    simp only [go_sem,reduceIte,(F h10 f10).2.1]
    exact finK _ h10 f10 e
 have e:=TJ (m:=m) (l:=l) (x:=x) (by omega)
 simp only [go_sem,reduceIte,x0,n0, *]
 exact finO cn false h5 rf lvn lnn e
end
theorem VC {m : Img} {l : List Sl} {x : Ins} (h : x.op = 2) : CH m l x = (if decide (0 <= x.a) && decide (x.a < m.strs.length) then some (DK 0) else none):=by
 unfold CH
 dsimp only
 rw [if_pos h]
theorem NZ {m : Img} {l : List Sl} {x : Ins} (h : x.op = 13) : CH m l x = (if (B5 m l x.a 3 3).isSome && (B5 m l x.b 3 3).isSome then some (DK 0) else none):=by
 unfold CH
 dsimp only
 rw [if_neg (by omega),if_pos h]
theorem VB {m : Img} {l : List Sl} {x : Ins} (h : x.op = 5) : CH m l x = (if decide (0 <= x.a) && decide (x.a < m.shapes.length) && decide ((m.shp x.a).kind = 1) && CC m l x.l (m.shp x.a).fs then some (DK x.a) else none):=by
 unfold CH
 dsimp only
 rw [if_neg (by omega),if_neg (by omega),if_pos h]
theorem VA {m : Img} {l : List Sl} {x : Ins} (h : x.op = 8) : CH m l x = (if decide (0 <= x.a) && decide (x.a < m.shapes.length) && decide ((m.shp x.a).kind = 2) && isS l x.b BF && CC m l [x.c] (m.shp x.a).fs then some (DK x.a) else none):=by
 unfold CH
 dsimp only
 rw [if_neg (by omega),if_neg (by omega),if_neg (by omega),if_pos h]
theorem SB {m : Img} {l : List Sl} {x : Ins} (h : x.op = 17) : CH m l x = (if m.isFn x.a && CC m l x.l (m.fn x.a).params then some (m.ty (m.fn x.a).result) else none):=by
 unfold CH
 dsimp only
 rw [if_neg (by omega),if_neg (by omega),if_neg (by omega),if_neg (by omega),if_pos h]
theorem makes_0 {m : Img} {l : List Sl} {x : Ins} (h : x.op ≠ 2 /\ x.op ≠ 13 /\ x.op ≠ 5 /\ x.op ≠ 8 /\ x.op ≠ 17) : CH m l x = none:=by
 unfold CH
 dsimp only
 rw [if_neg (by omega),if_neg (by omega),if_neg (by omega),if_neg (by omega),if_neg (by omega)]
theorem Fr.cell {h h' : H} (f : Fr [] h h') {b o : Nat} {v : AV} (e : h.cell b o = some v) : h'.cell b o = some v:=by
 unfold H.cell at e ⊢
 cases hg : h.get b with
 | none=>rw [hg] at e; cases e
 | some ob=>rw [f b ob (by simp) hg]; rw [hg] at e; exact e
theorem Fr.read {h h' : H} (f : Fr [] h h') {b o n : Nat} {cs : List AV} (e : h.read b o n = some cs) : h'.read b o n = some cs:=by
 unfold H.read at e ⊢
 cases hg : h.get b with
 | none=>rw [hg] at e; cases e
 | some ob=>rw [f b ob (by simp) hg]; rw [hg] at e; exact e
theorem IW {h : H} {s : Int} {K : AV -> H -> Prop} (hK : ∀ v h',Fr [] h h' -> Row h' v 1 1 (ic [s]) -> K v h') : A5 h 3 1 (AG [.int .i64 0] [(0,1,.int .i64 s)]) K:=by
 rw [OE]
 refine ⟨rfl,fun q hq=>?_⟩
 exact hK _ _ (Fr.new hq) ⟨rfl,.inr ⟨q,0,_,rfl,rfl,H.read_eq (H.get_same ..) (by simp) rfl⟩⟩
theorem OB {h : H} {m : Img} {vf : AV} (r : RowOf h 4 (fnR h) vf m.fns) {i : Int} (h0 : 0 <= i) (h1 : i < m.fns.length) : ∃ b o c vp vb,(∀ k,iaA 4 vf (.int k i) = some (.ptr b o)) /\ h.read b o 4 = some c /\ c = [vp,.int .i64 (m.fn i).result,.int .i64 (m.fn i).slots,vb] /\ fnR h (m.fn i) c /\ h.cell b o = some vp /\ h.cell b (o + 1) = some (.int .i64 (m.fn i).result) /\ h.cell b (o + 3) = some vb /\ Row h vp (m.fn i).params.length 1 (ic (m.fn i).params) /\ m.fn i ∈ m.fns:=by
 obtain ⟨x,hx⟩ : ∃ x,m.fns[i.toNat]? = some x:=⟨m.fns[i.toNat]'(by omega),by simp [show i.toNat < m.fns.length by omega]⟩
 obtain ⟨b,o,c,q1,q2,q3,q4,q5⟩:=r.el hx
 have e : m.fn i = x:=by unfold Img.fn; rw [List.getD_eq_getElem?_getD,hx]; rfl
 rw [show ((i.toNat : Nat) : Int) = i by omega] at q1
 have q2':=q2
 obtain ⟨vp,vb,rfl,rv,_⟩:=q2
 rw [e]
 exact ⟨b,o,_,vp,vb,q1,q4,rfl,q2',q5 0 (by decide),q5 1 (by decide),q5 3 (by decide),rv,List.mem_of_getElem? hx⟩
section
variable {PK : H -> Prop} {h : H}
set_option maxHeartbeats 2000000 in
theorem makes_c {m : Img} {c : List AV} (rm : imgR h m c) (W : Wh m) {v : AV} {l : List Sl} (r : RowOf h 3 (slR h) v l) (ol : okL m l) {x : Ins} {cx : List AV} (rx : insR h x cx) (okx : x.ok) {K : AV -> H -> Prop}
  (hK : ∀ c o h',Fr [] h h' -> leaves c = true -> c.length = 2 -> o = (CH m l x).isSome -> (∀ t,CH m l x = some t -> tyR h' t c) -> K (.tup [.agg c,.bool o]) h') : DP PK 182 [.agg c,v,.agg cx] h K:=by
 refine runB182 ?_
 unfold sh182 zL zT zE zU zF zG zH
 refine B8 rm fun p h1 f1 hp gp rm1=>?_
 refine D2 (rx.fr f1) fun b h2 f2 hb gb rx2=>?_
 have f02 : Fr [] h h2:=f1.trans f2
 have gp2:=f2 p _ (by simp) gp
 have rm2:=rm.fr f02
 have r2 : RowOf h2 3 (slR h2) v l:=r.mono f02 fun _ _ _ x=>x.fr f02
 have hcn : c.length = 7:=by obtain ⟨_,_,_,_,_,rfl,_⟩:=rm; rfl
 have rm2':=rm2
 obtain ⟨vt,vs,vx,vn,vf,ecm,m1,m2,m3,m4,m5⟩:=rm2
 obtain ⟨vl,vm,vv,ecx,rl,rmm,rlv⟩:=rx2
 clear rm1 rm rx r
 have F : ∀ h',Fr [] h2 h' -> h'.read p 0 7 = some c /\ (h'.cell p 0 = some vt /\ h'.cell p 1 = some vs /\ h'.cell p 2 = some vx /\ h'.cell p 4 = some vf) /\ (h'.cell b 0 = some (.int .i64 x.op) /\ h'.cell b 2 = some (.int .i64 x.a) /\ h'.cell b 3 = some (.int .i64 x.b) /\ h'.cell b 4 = some (.int .i64 x.c) /\ h'.cell b 6 = some vl) /\
   RowOf h' 3 (slR h') v l /\ imgR h' m c /\ RowOf h' 2 (tyR h') vt m.types /\ RowOf h' 3 (shR h') vs m.shapes /\ RowOf h' 4 (fnR h') vf m.fns /\ Row h' vl x.l.length 1 (ic x.l):=fun h' f=>
  ⟨AR (f p _ (by simp) gp2) hcn,by have cc:=AD (f p _ (by simp) gp2); rw [cc,cc,cc,cc,ecm]; exact ⟨rfl,rfl,rfl,rfl⟩,by have cc:=AD (f b _ (by simp) gb); rw [cc,cc,cc,cc,cc,ecx]; exact ⟨rfl,rfl,rfl,rfl,rfl⟩,
   r2.mono f fun _ _ _ x=>x.fr f,rm2'.fr f,m1.mono f fun _ _ _ x=>x.fr f,m2.mono f fun _ _ _ x=>by obtain ⟨v,e,q⟩:=x; exact ⟨v,e,q.fr f⟩,m5.mono f fun _ _ _ x=>x.fr f,rl.fr f⟩
 refine BH rfl fun q hq=>?_
 have fq : Fr [] h2 (h2.set q (.live [.bool false,.nilsl] 46 true)):=Fr.new hq
 have gq : (h2.set q (.live [.bool false,.nilsl] 46 true)).get q = some (.live [.bool false,.nilsl] 46 true):=H.get_same ..
 generalize h2.set q (.live [.bool false,.nilsl] 46 true) = h3 at fq gq
 have put : ∀ (ct : List AV) h',Fr [] h3 h' -> leaves ct = true -> ct.length = 2 -> stA h' 2 (.ptr q 0) (.agg ct) = some (h'.set q (.live ct 46 true)) /\ (h'.set q (.live ct 46 true)).read q 0 2 = some ct /\ Fr [] h2 (h'.set q (.live ct 46 true)) /\ NI h' (h'.set q (.live ct 46 true)):=fun ct h' f lv ln=>by
  have g:=f q _ (by simp) gq
  refine ⟨DG (n:=2) g rfl ln lv,AR (H.get_same ..) ln,(fq.trans f).set' hq,NI.set g (by rw [ln]; decide) fun i k n e=>by
   match i,e with
   | 0,e=>cases e
   | 1,e=>cases e⟩
 have fin : ∀ (ct : List AV) (o : Bool) h',Fr [] h3 h' -> leaves ct = true -> ct.length = 2 -> o = (CH m l x).isSome -> (∀ t,CH m l x = some t -> tyR h' t ct) ->
   AM (stA h' 2 (.ptr q 0) (.agg ct)) .undef fun _ h=>AA (ldA h (some 2) (.ptr q 0)) h fun res _=>K (.tup [res,.bool o]) h:=by
  intro ct o h' f lv ln eo ey
  obtain ⟨a1,a2,a3,a4⟩:=put ct h' f lv ln
  rw [a1,A3,MZ,a2]
  simp only [AB]
  exact hK ct o _ (f02.trans a3) lv ln eo fun t ht=>(ey t ht).ni a4
 have fin1 : ∀ (s : Int) (ct : List AV) (o : Bool) h',Fr [] h3 h' -> tyR h' (DK s) ct -> CH m l x = (if o then some (DK s) else none) ->
   AM (stA h' 2 (.ptr q 0) (.agg ct)) .undef fun _ h=>AA (ldA h (some 2) (.ptr q 0)) h fun res _=>K (.tup [res,.bool o]) h:=by
  intro s ct o h' f rt e
  refine fin ct o h' f rt.leaves rt.len (by rw [e]; cases o <;> rfl) fun t ht=>?_
  rw [e] at ht
  cases o with
  | false=>cases ht
  | true=>injection ht with ht; subst ht; exact rt
 have OBJ : ∀ {h'},Fr [] h2 h' -> ∀ (i k1 k2 : Int) {K : AV -> H -> Prop},(B5 m l i k1 k2 = none -> ∀ h'',Fr [] h' h'' -> K (.tup [.nilsl,.bool false]) h'') -> (∀ sh,B5 m l i k1 k2 = some sh -> ∀ h'' w,Fr [] h' h'' -> Row h'' w sh.length 1 (ic sh) -> K (.tup [w,.bool true]) h'') ->
   DP AU 210 [.agg c,v,.int .i64 i,.int .i64 k1,.int .i64 k2] h' K:=fun {h'} f i k1 k2 K a b=>R2 (F h' f).2.2.2.2.1 (F h' f).2.2.2.1 (W.ol2 ol) i k1 k2 a b
 obtain ⟨p0,⟨pt,ps,px,pf⟩,⟨x0,x2,x3,x4,x6⟩,r0,rm0,m10,m20,m50,rl0⟩:=F h3 fq
 have rf:=Fr.refl [] h3
 have t0 : ∀ a b : AV,A8 (.tup [a,b]) 0 = some a:=fun _ _=>rfl
 have t1 : ∀ a b : AV,A8 (.tup [a,b]) 1 = some b:=fun _ _=>rfl
 by_cases hop : x.op = 2
 ·have e:=VC (m:=m) (l:=l) hop
  simp only [go_sem,reduceIte,x0,hop,x2]
  refine K5 fun c1 h4 f4 r4=>?_
  obtain ⟨p4,⟨pt4,ps4,px4,pf4⟩,⟨y0,y2,y3,y4,y6⟩,_⟩:=F h4 (fq.trans f4)
  obtain ⟨a1,a2,a3,a4⟩:=put c1 h4 f4 r4.leaves r4.len
  obtain ⟨_,⟨_,_,pz,_⟩,⟨_,z2,_⟩,_⟩:=F _ a3
  have fin2 : ∀ o : Bool,CH m l x = (if o then some (DK 0) else none) -> K (.tup [.agg c1,.bool o]) (h4.set q (.live c1 46 true)):=fun o e=>by
   refine hK c1 o _ (f02.trans a3) r4.leaves r4.len (by rw [e]; cases o <;> rfl) fun t ht=>?_
   rw [e] at ht
   cases o with
   | false=>cases ht
   | true=>injection ht with ht; subst ht; exact r4.ni a4
  by_cases c0 : 0 <= x.a
  ·rw [decide_eq_true c0,Bool.true_and] at e
   simp only [go_sem,reduceIte,y2,c0,px4,m3.len,a1,z2,pz,a2]
   exact fin2 _ e
  ·rw [decide_eq_false c0,Bool.false_and] at e
   simp only [go_sem,reduceIte,y2,c0,a1,a2]
   exact fin2 false e
 by_cases hop : x.op = 13
 ·have e:=NZ (m:=m) (l:=l) hop
  simp only [go_sem,reduceIte,x0,hop,p0,x2]
  refine OBJ fq x.a 3 3 (fun ea h7 f7=>?_) fun sa ea h7 w f7 _=>?_
  ·obtain ⟨p7,_,⟨y0,y2,y3,y4,y6⟩,_⟩:=F h7 (fq.trans f7)
   rw [ea] at e
   simp only [go_sem,reduceIte,t0,t1,p7,y3]
   refine OBJ (fq.trans f7) x.b 3 3 (fun eb h8 f8=>?_) fun sb eb h8 w f8 _=>?_
   ·simp only [go_sem,reduceIte,t0,t1]
    refine K5 fun c1 h9 f9 r9=>?_
    try simp only [go_sem,reduceIte]
    exact fin1 0 c1 false h9 ((f7.trans f8).trans f9) r9 e
   ·simp only [go_sem,reduceIte,t0,t1]
    refine K5 fun c1 h9 f9 r9=>?_
    try simp only [go_sem,reduceIte]
    exact fin1 0 c1 false h9 ((f7.trans f8).trans f9) r9 e
  ·obtain ⟨p7,_,⟨y0,y2,y3,y4,y6⟩,_⟩:=F h7 (fq.trans f7)
   rw [ea] at e
   simp only [go_sem,reduceIte,t0,t1,p7,y3]
   refine OBJ (fq.trans f7) x.b 3 3 (fun eb h8 f8=>?_) fun sb eb h8 w f8 _=>?_
   ·rw [eb] at e
    simp only [go_sem,reduceIte,t0,t1]
    refine K5 fun c1 h9 f9 r9=>?_
    try simp only [go_sem,reduceIte]
    exact fin1 0 c1 false h9 ((f7.trans f8).trans f9) r9 e
   ·rw [eb] at e
    simp only [go_sem,reduceIte,t0,t1]
    refine K5 fun c1 h9 f9 r9=>?_
    try simp only [go_sem,reduceIte]
    exact fin1 0 c1 true h9 ((f7.trans f8).trans f9) r9 e
 by_cases hop : x.op = 5
 ·have e:=VB (m:=m) (l:=l) hop
  simp only [go_sem,reduceIte,x0,hop,x2]
  refine K5 fun c1 h4 f4 r4=>?_
  obtain ⟨p4,⟨pt4,ps4,px4,pf4⟩,⟨y0,y2,y3,y4,y6⟩,r4s,rm4,m14,m24,m54,rl4⟩:=F h4 (fq.trans f4)
  by_cases c0 : 0 <= x.a
  ·by_cases c1' : x.a < m.shapes.length
   ·rw [decide_eq_true c0,decide_eq_true c1',Bool.true_and,Bool.true_and] at e
    obtain ⟨b8,o8,vfs,w1,w2,w3,w4,w5⟩:=EO m24 c0 c1'
    by_cases ck : (m.shp x.a).kind = 1
    ·rw [decide_eq_true ck,Bool.true_and] at e
     simp only [go_sem,reduceIte,y2,c0,ps4,m24.len,c1',w1,w2,ck,p4,y6,w3]
     have wf:=W.fs c0 c1'
     refine RB rm4 W.om r4s (W.ol ol) rl4 w4 okx.2.1.1 wf.2.1 fun h5 f5=>?_
     try simp only [go_sem,reduceIte]
     exact fin1 x.a c1 _ h5 (f4.trans f5) (r4.fr f5) e
    ·rw [decide_eq_false ck,Bool.false_and] at e
     simp only [go_sem,reduceIte,y2,c0,ps4,m24.len,c1',w1,w2,ck]
     exact fin1 x.a c1 false h4 f4 r4 e
   ·rw [decide_eq_true c0,decide_eq_false c1',Bool.true_and,Bool.false_and,Bool.false_and] at e
    simp only [go_sem,reduceIte,y2,c0,ps4,m24.len,c1']
    exact fin1 x.a c1 false h4 f4 r4 e
  ·rw [decide_eq_false c0,Bool.false_and,Bool.false_and,Bool.false_and] at e
   simp only [go_sem,reduceIte,y2,c0]
   exact fin1 x.a c1 false h4 f4 r4 e
 by_cases hop : x.op = 8
 ·have e:=VA (m:=m) (l:=l) hop
  simp only [go_sem,reduceIte,x0,hop,x2]
  refine K5 fun c1 h4 f4 r4=>?_
  obtain ⟨p4,⟨pt4,ps4,px4,pf4⟩,⟨y0,y2,y3,y4,y6⟩,r4s,rm4,m14,m24,m54,rl4⟩:=F h4 (fq.trans f4)
  by_cases c0 : 0 <= x.a
  ·by_cases c1' : x.a < m.shapes.length
   ·rw [decide_eq_true c0,decide_eq_true c1',Bool.true_and,Bool.true_and] at e
    obtain ⟨b8,o8,vfs,w1,w2,w3,w4,w5⟩:=EO m24 c0 c1'
    by_cases ck : (m.shp x.a).kind = 2
    ·rw [decide_eq_true ck,Bool.true_and] at e
     simp only [go_sem,reduceIte,y2,c0,ps4,m24.len,c1',w1,w2,ck,y3]
     refine PP fun cn h5 f5 rn=>?_
     obtain ⟨_,_,⟨_,_,y3',_⟩,r5s,_⟩:=F h5 ((fq.trans f4).trans f5)
     simp only [go_sem,reduceIte,y3']
     refine MU r5s x.b rn (W.ol ol) (by show (0 : Nat) <= _; omega) fun h6 f6=>?_
     have f46:=f5.trans f6
     obtain ⟨p6,⟨pt6,ps6,px6,pf6⟩,⟨z0,z2,z3,z4,z6⟩,r6s,rm6,_⟩:=F h6 ((fq.trans f4).trans f46)
     cases hz : isS l x.b BF with
     | false=>
      rw [hz,Bool.false_and] at e
      simp only [go_sem,reduceIte]
      exact fin1 x.a c1 false h6 (f4.trans f46) (r4.fr f46) e
     | true=>
      rw [hz,Bool.true_and] at e
      simp only [go_sem,reduceIte,p6,z4,ps6,z2,w1,f46.cell w3]
      refine IW fun vl1 h7 f7 rl1=>?_
      have f47:=f46.trans f7
      obtain ⟨p7,_,_,r7s,rm7,_⟩:=F h7 ((fq.trans f4).trans f47)
      have wf:=W.fs c0 c1'
      refine RB (xs:=[x.c]) rm7 W.om r7s (W.ol ol) rl1 (w4.fr f47) (by show (1 : Nat) <= _; decide) wf.2.1 fun h8 f8=>?_
      have f48:=f47.trans f8
      try simp only [go_sem,reduceIte]
      exact fin1 x.a c1 _ h8 (f4.trans f48) (r4.fr f48) e
    ·rw [decide_eq_false ck,Bool.false_and,Bool.false_and] at e
     simp only [go_sem,reduceIte,y2,c0,ps4,m24.len,c1',w1,w2,ck]
     exact fin1 x.a c1 false h4 f4 r4 e
   ·rw [decide_eq_true c0,decide_eq_false c1',Bool.true_and,Bool.false_and,Bool.false_and,Bool.false_and] at e
    simp only [go_sem,reduceIte,y2,c0,ps4,m24.len,c1']
    exact fin1 x.a c1 false h4 f4 r4 e
  ·rw [decide_eq_false c0,Bool.false_and,Bool.false_and,Bool.false_and,Bool.false_and] at e
   simp only [go_sem,reduceIte,y2,c0]
   exact fin1 x.a c1 false h4 f4 r4 e
 by_cases hop : x.op = 17
 ·have e:=SB (m:=m) (l:=l) hop
  have no : m.isFn x.a = false -> ∀ h',Fr [] h3 h' -> DP AU 177 [] h' fun t152 h=>AM (stA h 2 (.ptr q 0) t152) .undef fun _ h=>AA (ldA h (some 2) (.ptr q 0)) h fun res_3 _=>K (.tup [res_3,.bool false]) h:=fun z h' f=>by
   refine PP fun cn h5 f5 rn=>?_
   exact fin cn false h5 (f.trans f5) rn.leaves rn.len (by rw [e,z]; rfl) fun t ht=>by rw [e,z] at ht; cases ht
  by_cases c0 : x.a < 0
  ·simp only [go_sem,reduceIte,x0,hop,x2,c0]
   exact no (by unfold Img.isFn; rw [decide_eq_false (by omega)]; rfl) h3 rf
  ·by_cases c1' : (m.fns.length : Int) <= x.a
   ·simp only [go_sem,reduceIte,x0,hop,x2,c0,pf,m50.len,c1']
    exact no (by unfold Img.isFn; rw [decide_eq_false (p:=x.a < _) (by omega),Bool.and_false]) h3 rf
   ·have z : m.isFn x.a = true:=(GU m x.a).2 (by omega)
    rw [z,Bool.true_and] at e
    obtain ⟨b8,o8,c8,vp,vb,w1,w2,w3,w4,w5,w6,w7,w8,w9⟩:=OB m50 (i:=x.a) (by omega) (by omega)
    have fw:=W.fn _ w9
    obtain ⟨b9,o9,ct,u1,u2,u3⟩:=C7 m10 fw.res.1 fw.res.2
    simp only [go_sem,reduceIte,x0,hop,x2,c0,pf,m50.len,c1',pt,w1,w6,u1,u2,p0,x6,w5]
    refine RB rm0 W.om r0 (W.ol ol) rl0 w8 okx.2.1.1 fw.par fun h5 f5=>?_
    obtain ⟨p5,⟨pt5,ps5,px5,pf5⟩,⟨y0,y2,y3,y4,y6⟩,_⟩:=F h5 (fq.trans f5)
    simp only [go_sem,reduceIte,pt5,pf5,y2,f5.cell w6,f5.read u2]
    refine fin ct _ h5 f5 u3.leaves u3.len (by rw [e]; cases CC m l x.l (m.fn x.a).params <;> rfl) fun t ht=>?_
    rw [e] at ht
    split at ht
    ·injection ht with ht; subst ht; exact u3.fr f5
    ·cases ht
 have e:=makes_0 (m:=m) (l:=l) (x:=x) (by omega)
 simp only [go_sem,reduceIte,x0, *]
 refine PP fun cn h5 f5 rn=>?_
 exact fin cn false h5 f5 rn.leaves rn.len (by rw [e]; rfl) fun t ht=>by rw [e] at ht; cases ht
end
section
variable {PK : H -> Prop} {h : H}
theorem FnW.fin {m : Img} {f : Fn} (w : FnW m f) : ∀ k ∈ f.blocks,k.inn.length <= reachBytes /\ ∀ t ∈ k.inn,t < m.types.length:=fun k hk=>⟨Nat.le_trans (w.inn k hk).2.1 (by decide),fun t ht=>((w.inn k hk).2.2.2.2 t ht).2⟩
set_option maxHeartbeats 2000000 in
theorem W7 {m : Img} {c : List AV} (rm : imgR h m c) (W : Wh m) {f : Fn} {cf : List AV} (rf : fnR h f cf) (wf : FnW m f) {v : AV} {l : List Sl} (r : RowOf h 3 (slR h) v l) (hl : l.length <= 4294967296) (ol : okL m l) {x : Ins} {cx : List AV} (rx : insR h x cx) (okx : x.ok) {K : AV -> H -> Prop}
  (hK : ∀ w h',Fr [] h h' -> (∀ l',CF m f l x = some l' -> RowOf h' 3 (slR h') w l') -> K (.tup [w,.bool (CF m f l x).isSome]) h') : DP PK 125 [.agg c,.agg cf,v,.agg cx] h K:=by
 refine runB125 ?_
 unfold sh125 zT zE zV zF zG zH
 refine B8 rm fun p h1 f1 hp gp rm1=>?_
 refine IN (rf.fr f1) fun q h2 f2 hq gq rf2=>?_
 refine D2 ((rx.fr f1).fr f2) fun b h3 f3 hb gb rx3=>?_
 have f03 : Fr [] h h3:=(f1.trans f2).trans f3
 have gp3:=(f2.trans f3) p _ (by simp) gp
 have gq3:=f3 q _ (by simp) gq
 have rm3:=rm.fr f03
 have rf3:=rf.fr f03
 have r3 : RowOf h3 3 (slR h3) v l:=r.mono f03 fun _ _ _ x=>x.fr f03
 have hcn : c.length = 7:=by obtain ⟨_,_,_,_,_,rfl,_⟩:=rm; rfl
 have hfn : cf.length = 4:=by obtain ⟨_,_,rfl,_⟩:=rf; rfl
 have hxn : cx.length = 9:=by obtain ⟨_,_,_,rfl,_⟩:=rx; rfl
 have rm3':=rm3
 have rx3':=rx3
 obtain ⟨vt,vs,vx,vn,vf,ecm,m1,m2,m3,m4,m5⟩:=rm3
 obtain ⟨vl,vm,vv,ecx,rl,rmm,rlv⟩:=rx3
 clear rm1 rm rx r rf rf2
 have F : ∀ h',Fr [] h3 h' -> h'.read p 0 7 = some c /\ h'.read q 0 4 = some cf /\ h'.read b 0 9 = some cx /\ (h'.cell b 0 = some (.int .i64 x.op) /\ h'.cell b 1 = some (.int .i64 x.d) /\ h'.cell b 3 = some (.int .i64 x.b) /\ h'.cell b 4 = some (.int .i64 x.c) /\ h'.cell b 8 = some vv) /\
   RowOf h' 3 (slR h') v l /\ imgR h' m c /\ fnR h' f cf /\ insR h' x cx /\ Row h' vv x.live.length 1 (ic x.live) /\ h'.cell p 0 = some vt /\ h'.cell p 6 = some (.int .i64 m.exn) /\ RowOf h' 2 (tyR h') vt m.types:=fun h' f=>
  ⟨AR (f p _ (by simp) gp3) hcn,AR (f q _ (by simp) gq3) hfn,AR (f b _ (by simp) gb) hxn,by have cc:=AD (f b _ (by simp) gb); rw [cc,cc,cc,cc,cc,ecx]; exact ⟨rfl,rfl,rfl,rfl,rfl⟩,
   r3.mono f fun _ _ _ x=>x.fr f,rm3'.fr f,rf3.fr f,rx3'.fr f,rlv.fr f,by rw [AD (f p _ (by simp) gp3),ecm]; rfl,by rw [AD (f p _ (by simp) gp3),ecm]; rfl,m1.mono f fun _ _ _ x=>x.fr f⟩
 have no : ∀ h',Fr [] h3 h' -> CF m f l x = none -> K (.tup [.nilsl,.bool false]) h':=fun h' f' e=>by
  have:=hK .nilsl h' (f03.trans f') (fun l' q=>by rw [e] at q; cases q)
  rw [e] at this; exact this
 obtain ⟨p0,q0,bx,⟨x0,x1,x3,x4,x8⟩,r0,rm0,rf0,rx0,rlv0,_⟩:=F h3 (Fr.refl _ _)
 have t0 : ∀ a b : AV,A8 (.tup [a,b]) 0 = some a:=fun _ _=>rfl
 have t1 : ∀ a b : AV,A8 (.tup [a,b]) 1 = some b:=fun _ _=>rfl
 cases hmb : FW x.op with
 | true=>
  have e:=KB (m:=m) (f:=f) (l:=l) hmb
  unfold FW at hmb
  simp only [Bool.or_eq_true,decide_eq_true_eq] at hmb
  rcases hmb with (((q | q) | q) | q) | q
  all_goals
   simp only [go_sem,reduceIte,Int.reduceEq,x0,q,p0,bx]
   refine makes_c rm0 W r0 ol rx0 okx fun ct o h4 f4 lv ln eo et=>?_
   simp only [t0,t1,AB]
   refine DN ln lv fun a h5 f5 ha ga=>?_
   have f35:=f4.trans f5
   obtain ⟨p5,q5,bx5,⟨y0,y1,y3,y4,y8⟩,r5,rm5,rf5,rx5,rlv5,_⟩:=F h5 f35
   cases hmk : CH m l x with
   | none=>
    rw [hmk] at eo e
    rw [eo]
    simp only [go_sem,reduceIte,Int.reduceEq,Option.isSome_none]
    exact no h5 f35 e
   | some t=>
    rw [hmk,Option.bind_some] at e
    rw [hmk] at eo
    rw [eo]
    have rt5:=(et t hmk).fr f5
    simp only [go_sem,reduceIte,Int.reduceEq,Option.isSome_some,y8]
    refine swept_c r5 hl rlv5 okx.2.2.2.1 fun wn h6 f6 hwn=>?_
    have f36:=f35.trans f6
    obtain ⟨p6,q6,bx6,⟨z0,z1,z3,z4,z8⟩,r6,rm6,rf6,rx6,rlv6,pt6,px6,m16⟩:=F h6 f36
    simp only [t0,t1,AB]
    cases hsw : CE l x.live with
    | none=>
     rw [hsw,Option.bind_none] at e
     simp only [go_sem,reduceIte,Int.reduceEq,Option.isSome_none]
     exact no h6 f36 e
    | some n=>
     rw [hsw,Option.bind_some] at e
     have rn:=hwn n hsw
     have on:=JR ol hsw
     have ga6:=f6 a _ (by simp) ga
     have rt6:=rt5.fr f6
     have tail : CY m f n x = true -> ∀ h',Fr [] h6 h' -> AA (faA 1 (.ptr b 0)) h' fun t128 h=>AA (ldA h none t128) h fun t129 h=>AA (ldA h (some 2) (.ptr a 0)) h fun t130 h=>DP AU 181 [wn,t129,t130] h fun t131 h=>AA (A8 t131 0) h fun t132 h=>AA (A8 t131 1) h fun t133 h=>K (.tup [t132,t133]) h:=by
      intro hth h' f'
      rw [hth,if_pos rfl] at e
      obtain ⟨_,_,_,⟨_,u1,_⟩,_⟩:=F h' (f36.trans f')
      have ga':=f' a _ (by simp) ga6
      simp only [go_sem,reduceIte,Int.reduceEq,u1,AR ga' ln]
      refine LQ (rn.mono f' fun _ _ _ x=>x.fr f') (by rw [on.2]; exact hl) x.d (rt6.fr f') fun w h7 f7 hw=>?_
      simp only [t0,t1,AB]
      have:=hK w h7 (f03.trans ((f36.trans f').trans f7)) (fun l' ql=>hw l' (by rw [<- e]; exact ql))
      rw [e] at this
      exact this
     by_cases h17 : x.op = 17
     case neg=>
      first
       | exact absurd q h17
       |
        have hth : CY m f n x = true:=by unfold CY; rw [decide_eq_false (by omega)]; rfl
        simp only [go_sem,reduceIte,Int.reduceEq,Option.isSome_some,z0,q]
        refine AI (fun (J : H -> Prop)=>J h6) ?_ fun J hJ=>hJ
        have:=tail hth h6 (Fr.refl _ _)
        simpa only [go_sem,reduceIte,Int.reduceEq] using this
     case pos=>
      have q:=h17
      simp only [go_sem,reduceIte,Int.reduceEq,Option.isSome_some,z0,q,z3]
      have eth : CY m f n x = (if x.b = -1 then decide (x.c = 0) else match BI n x.c (m.ty m.exn) with | some w=>BB m f w x.b | none=>false):=by unfold CY; rw [decide_eq_true q]; rfl
      by_cases b1 : x.b = -1
      ·rw [if_pos b1] at eth
       by_cases c0 : x.c = 0
       ·rw [decide_eq_true c0] at eth
        simp only [go_sem,reduceIte,Int.reduceEq,b1,z4,c0,z0,q,z3]
        refine AI (fun (J : H -> Prop)=>J h6) ?_ fun J hJ=>hJ
        have:=tail eth h6 (Fr.refl _ _)
        simpa only [go_sem,reduceIte,Int.reduceEq] using this
       ·rw [decide_eq_false c0] at eth
        rw [eth] at e
        simp only [go_sem,reduceIte,Int.reduceEq,b1,z4,c0,z0,q,z3]
        exact no h6 f36 e
      ·rw [if_neg b1] at eth
       simp only [go_sem,reduceIte,Int.reduceEq,b1]
       refine AI (fun (J : H -> Prop)=>CY m f n x = true -> ∀ h',Fr [] h6 h' -> J h') tail fun J hJ=>?_
       obtain ⟨b9,o9,ctx,u1,u2,u3⟩:=C7 m16 W.exn.1 W.exn.2
       simp only [go_sem,reduceIte,Int.reduceEq,z4,pt6,px6,u1,u2]
       refine LQ rn (by rw [on.2]; exact hl) x.c u3 fun w h7 f7 hw=>?_
       have f37:=f36.trans f7
       obtain ⟨p7,q7,bx7,⟨s0,s1,s3,s4,s8⟩,r7,rm7,rf7,rx7,rlv7,_⟩:=F h7 f37
       simp only [t0,t1,AB]
       cases hwt : BI n x.c (m.ty m.exn) with
       | none=>
        rw [hwt] at eth
        rw [eth] at e
        simp only [go_sem,reduceIte,Int.reduceEq,Option.isSome_none]
        exact no h7 f37 e
       | some w'=>
        rw [hwt] at eth
        have ow:=HU on.1 (W.tyOk m.exn) hwt
        simp only [go_sem,reduceIte,Int.reduceEq,Option.isSome_some,p7,q7,s3]
        refine OD rm7 W.om rf7 (hw w' hwt) (W.ol ow.1) x.b wf.blen wf.fin fun h8 f8=>?_
        have f38:=f37.trans f8
        cases hft : BB m f w' x.b with
        | false=>
         simp only [hft] at eth
         rw [eth] at e
         simp only [go_sem,reduceIte,Int.reduceEq]
         exact no h8 f38 e
        | true=>
         simp only [hft] at eth
         simp only [go_sem,reduceIte,Int.reduceEq]
         exact hJ eth h8 (f7.trans f8)
 | false=>
  have e:=EI (m:=m) (f:=f) (l:=l) hmb
  unfold FW at hmb
  simp only [Bool.or_eq_false_iff,decide_eq_false_iff_not] at hmb
  obtain ⟨⟨⟨⟨h1',h2'⟩,h3'⟩,h4'⟩,h5'⟩:=hmb
  simp only [go_sem,reduceIte,Int.reduceEq,x0,h1',h2',h3',h4',h5',p0,bx]
  refine sets_c rm0 W r0 ol rx0 okx fun ct bo o h4 f4 lv ln eo et=>?_
  have t0 : ∀ a b c : AV,A8 (.tup [a,b,c]) 0 = some a:=fun _ _ _=>rfl
  have t1 : ∀ a b c : AV,A8 (.tup [a,b,c]) 1 = some b:=fun _ _ _=>rfl
  have t2 : ∀ a b c : AV,A8 (.tup [a,b,c]) 2 = some c:=fun _ _ _=>rfl
  simp only [t0,t1,t2,AB]
  refine DN ln lv fun a h5 f5 ha ga=>?_
  have f35:=f4.trans f5
  obtain ⟨p5,q5,bx5,⟨y0,y1,y3,y4,y8⟩,r5,rm5,rf5,rx5,rlv5,_⟩:=F h5 f35
  cases hs : BZ m l x with
  | none=>
   rw [hs] at eo e
   rw [eo]
   simp only [go_sem,reduceIte,Int.reduceEq,Option.isSome_none]
   have:=hK v h5 (f03.trans f35) (fun l' q=>by rw [e] at q; cases q)
   rw [e] at this; exact this
  | some y=>
   rw [hs] at eo e
   rw [eo]
   obtain ⟨eb,ety⟩:=et y hs
   cases y with
   | none=>
    rw [eb]
    simp only [go_sem,reduceIte,Int.reduceEq,Option.isSome_some,Option.isSome_none]
    have:=hK v h5 (f03.trans f35) (fun l' q=>by rw [e] at q; injection q with q; rw [<- q]; exact r5)
    rw [e] at this; exact this
   | some t=>
    rw [eb]
    have e : CF m f l x = BI l x.d t:=e
    have rt:=(ety t rfl).fr f5
    simp only [go_sem,reduceIte,Int.reduceEq,Option.isSome_some,y1,AR ga ln]
    refine LQ r5 hl x.d rt fun w h6 f6 hw=>?_
    have t0 : ∀ a b : AV,A8 (.tup [a,b]) 0 = some a:=fun _ _=>rfl
    have t1 : ∀ a b : AV,A8 (.tup [a,b]) 1 = some b:=fun _ _=>rfl
    simp only [t0,t1,AB]
    have:=hK w h6 (f03.trans (f35.trans f6)) (fun l' q=>hw l' (by rw [<- e]; exact q))
    rw [e] at this; exact this
end
theorem UR (n : Nat) : ((n : Int).tmod 2) = ((n % 2 : Nat) : Int):=by
 rw [Int.tmod_eq_emod_of_nonneg (by omega)]; omega
def FZ (L : List Int) (i : Nat) : Option Int:=if i = 0 then none else L[i - 2]?
theorem NC {L : List Int} {i : Nat} (he : L.length % 2 = 0) (hi : i % 2 = 0) (hlt : i < L.length) : ∃ x b,L[i]? = some x /\ L[i + 1]? = some b /\ L.drop i = x :: b :: L.drop (i + 2):=by
 have h1 : i + 1 < L.length:=by omega
 refine ⟨L[i],L[i + 1],by simp [hlt],by simp [h1],?_⟩
 rw [List.drop_eq_getElem_cons hlt,List.drop_eq_getElem_cons h1]
theorem D0 {L : List Int} {i : Nat} {x : Int} (h : L[i]? = some x) : FZ L (i + 2) = some x:=by
 unfold FZ; rw [if_neg (by omega)]; exact h
theorem LA {L : List Int} {i : Nat} (hi : i % 2 = 0) (hlt : i < L.length) (h0 : 0 < i) : ∃ y,L[i - 2]? = some y /\ FZ L i = some y:=by
 refine ⟨L[i - 2]'(by omega),by simp [show i - 2 < L.length by omega],?_⟩
 unfold FZ; rw [if_neg (by omega)]; simp [show i - 2 < L.length by omega]
theorem IG (ok : Int -> Bool) (go : Int -> Int -> Bool) (last : Option Int) : CW ok go last [] = true:=by cases last <;> rfl
theorem G7 (ok : Int -> Bool) (go : Int -> Int -> Bool) (last : Option Int) (x b : Int) (l : List Int) : CW ok go last (x :: b :: l) = ((match last with | some y=>decide (y < x) | none=>true) && ok x && go x b && CW ok go (some x) l):=by cases last <;> rfl
theorem PZ : CL [] = []:=rfl
theorem OG (x b : Int) (l : List Int) : CL (x :: b :: l) = x :: CL l:=rfl
section
variable {PK : H -> Prop} {h : H}
theorem chunkIB {imm : Bool} {b : Int} {q : Nat} (h3 : h.cell q 3 = some (.int .i64 b)) {A B : H -> Prop} (hA : (imm && decide (b = -1)) = true -> A h) (hB : (imm && decide (b = -1)) = false -> B h) :
  AH (.bool imm) true (fun K=>K (.ptr q 3) h) h fun t47 h=>AH (.bool imm) true (fun K=>AA (ldA h none t47) h K) h fun t48 h=>AH (.bool imm) true (fun K=>AA (binOp .eql .num t48 (.int .i64 (-1))) h K) h fun t49 h=>AC (if imm = true then t49 else .bool false) (A h) (B h):=by
 cases imm with
 | false=>simp only [go_sem,reduceIte,Int.reduceEq]; exact hB rfl
 | true=>
  by_cases z : b = -1
  ·simp only [go_sem,reduceIte,Int.reduceEq,h3,z]; exact hA (by rw [decide_eq_true z]; rfl)
  ·simp only [go_sem,reduceIte,Int.reduceEq,h3,z]; exact hB (by rw [decide_eq_false z]; rfl)
set_option maxHeartbeats 4000000 in
theorem WQ {m : Img} {c : List AV} (rm : imgR h m c) (W : Wh m) {f : Fn} {cf : List AV} (rf : fnR h f cf) (wf : FnW m f) {v : AV} {l : List Sl} (r : RowOf h 3 (slR h) v l) (hl : l.length <= 4294967296) (ol : okL m l) {x : Ins} {cx : List AV} (rx : insR h x cx) (okx : x.ok) (okm : x.m.length <= 1024) {K : AV -> H -> Prop}
  (hK : ∀ h',Fr [] h h' -> K (.bool (DW m f l x)) h') : DP PK 178 [.agg c,.agg cf,v,.agg cx] h K:=by
 refine runB178 ?_
 unfold sh178 zL zT zE zU zV zF zG zH
 refine B8 rm fun p h1 f1 hp gp rm1=>?_
 refine IN (rf.fr f1) fun q h2 f2 hq gq rf2=>?_
 refine D2 ((rx.fr f1).fr f2) fun b h3 f3 hb gb rx3=>?_
 have f03 : Fr [] h h3:=(f1.trans f2).trans f3
 have gp3:=(f2.trans f3) p _ (by simp) gp
 have gq3:=f3 q _ (by simp) gq
 have rm3:=rm.fr f03
 have rf3:=rf.fr f03
 have r3 : RowOf h3 3 (slR h3) v l:=r.mono f03 fun _ _ _ x=>x.fr f03
 have hcn : c.length = 7:=by obtain ⟨_,_,_,_,_,rfl,_⟩:=rm; rfl
 have hfn : cf.length = 4:=by obtain ⟨_,_,rfl,_⟩:=rf; rfl
 have rm3':=rm3
 obtain ⟨vt,vs,vx,vn,vf,ecm,m1,m2,m3,m4,m5⟩:=rm3
 obtain ⟨vl,vm,vv,ecx,rl,rmm,rlv⟩:=rx3
 clear rm1 rm rx r rf rf2
 have F : ∀ h',Fr [] h3 h' -> h'.read p 0 7 = some c /\ h'.read q 0 4 = some cf /\ (h'.cell b 2 = some (.int .i64 x.a) /\ h'.cell b 3 = some (.int .i64 x.b) /\ h'.cell b 6 = some vl /\ h'.cell b 7 = some vm) /\
   RowOf h' 3 (slR h') v l /\ imgR h' m c /\ fnR h' f cf /\ Row h' vl x.l.length 1 (ic x.l) /\ Row h' vm x.m.length 1 (ic x.m) /\ h'.cell p 1 = some vs:=fun h' f=>
  ⟨AR (f p _ (by simp) gp3) hcn,AR (f q _ (by simp) gq3) hfn,by have cc:=AD (f b _ (by simp) gb); rw [cc,cc,cc,cc,ecx]; exact ⟨rfl,rfl,rfl,rfl⟩,
   r3.mono f fun _ _ _ x=>x.fr f,rm3'.fr f,rf3.fr f,rl.fr f,rmm.fr f,by rw [AD (f p _ (by simp) gp3),ecm]; rfl⟩
 have no : ∀ h',Fr [] h3 h' -> DW m f l x = false -> K (.bool false) h':=fun h' f' e=>by
  have:=hK h' (f03.trans f')
  rw [e] at this; exact this
 obtain ⟨p0,q0,⟨x2,x3,x6,x7⟩,r0,rm0,rf0,rl0,rmm0,ps0⟩:=F h3 (Fr.refl _ _)
 have t0 : ∀ a b : AV,A8 (.tup [a,b]) 0 = some a:=fun _ _=>rfl
 have t1 : ∀ a b : AV,A8 (.tup [a,b]) 1 = some b:=fun _ _=>rfl
 have hll:=okx.2.1.1
 simp only [go_sem,reduceIte,Int.reduceEq,x2]
 refine PI r0 x.a fun h4 ca f4 hca lv ln=>?_
 simp only [t0,t1,AB]
 refine DN ln lv fun a h5 f5 ha ga=>?_
 have f35:=f4.trans f5
 obtain ⟨p5,q5,⟨y2,y3,y6,y7⟩,r5,rm5,rf5,rl5,rmm5,ps5⟩:=F h5 f35
 cases hat : atS l x.a with
 | none=>
  simp only [go_sem,reduceIte,Int.reduceEq,Option.isSome_none]
  exact no h5 f35 (by unfold DW; rw [hat])
 | some t=>
  have e : DW m f l x = (decide (x.l.length % 2 = 0) && decide (x.m.length % 2 = 0) && (!t.imm || !decide (x.b = -1)) &&
   (decide (x.b = -1) || BB m f (l.set x.a.toNat (some BF)) x.b) &&
   CW BU (fun _ b=>BB m f (l.set x.a.toNat (some BF)) b) none x.l &&
   CW (fun s=>decide (0 <= s) && decide (s < m.shapes.length)) (fun s b=>BB m f (l.set x.a.toNat (some (DK s))) b) none x.m &&
   t.sh.all fun s=>decide (s ∈ CL x.m)):=by unfold DW; rw [hat]
  obtain ⟨vt',eca,rvt⟩:=(hca t hat).fr f5
  have ot:=ol.at hat
  have hmem:=LJ hat
  have hset : ∀ s : Ty,BI l x.a s = some (l.set x.a.toNat (some s)):=fun s=>by unfold BI; rw [if_pos ⟨hmem.2.1,hmem.2.2⟩]
  have ca0 : ∀ {h'},Fr [] h5 h' -> h'.cell a 0 = some (.bool t.imm) /\ h'.cell a 1 = some vt':=fun f=>by
   rw [AD (f a _ (by simp) ga),AD (f a _ (by simp) ga),eca]; exact ⟨rfl,rfl⟩
  simp only [go_sem,reduceIte,Int.reduceEq,Option.isSome_some,y6,rl5.len,UR]
  by_cases l2 : x.l.length % 2 = 0
  ·rw [decide_eq_true l2,Bool.true_and] at e
   have l2i : ((x.l.length % 2 : Nat) : Int) = 0:=by omega
   simp only [go_sem,reduceIte,Int.reduceEq,l2i,y7,rmm5.len,UR]
   by_cases mm2 : x.m.length % 2 = 0
   ·rw [decide_eq_true mm2,Bool.true_and] at e
    have m2i : ((x.m.length % 2 : Nat) : Int) = 0:=by omega
    simp only [go_sem,reduceIte,Int.reduceEq,m2i,(ca0 (Fr.refl _ _)).1]
    refine chunkIB y3 (fun ib=>?_) fun ib=>?_
    ·have z : (!t.imm || !decide (x.b = -1)) = false:=by
      rw [Bool.and_eq_true] at ib; rw [ib.1,ib.2]; rfl
     rw [z] at e
     exact no h5 f35 (by rw [e]; rfl)
    have z : (!t.imm || !decide (x.b = -1)) = true:=by
     rw [<- Bool.not_and,ib]; rfl
    rw [z,Bool.true_and] at e
    simp only [go_sem,reduceIte,Int.reduceEq,y2]
    refine PP fun cn h6 f6 rn=>?_
    obtain ⟨p6,q6,⟨y2,y3,y6,y7⟩,r6,rm6,rf6,rl6,rmm6,ps6⟩:=F h6 (f35.trans f6)
    simp only [go_sem,reduceIte,Int.reduceEq,y2]
    refine LQ r6 hl x.a rn fun w h7 f7 hw=>?_
    have rw7:=hw _ (hset BF)
    have f57:=f6.trans f7
    have f37:=f35.trans f57
    obtain ⟨p7,q7,⟨y2,y3,y6,y7⟩,r7,rm7,rf7,rl7,rmm7,ps7⟩:=F h7 f37
    rw [hset BF]
    have on : okL m (l.set x.a.toNat (some BF)):=ol.set _ (G9 m)
    have FIT : ∀ {h'},Fr [] h7 h' -> ∀ (k : Int) {K : AV -> H -> Prop},(∀ h'',Fr [] h' h'' -> K (.bool (BB m f (l.set x.a.toNat (some BF)) k)) h'') -> DP AU 175 [.agg c,.agg cf,w,.int .i64 k] h' K:=fun {h'} f' k K hk=>
     OD (F h' (f37.trans f')).2.2.2.2.1 W.om (F h' (f37.trans f')).2.2.2.2.2.1 (rw7.mono f' fun _ _ _ x=>x.fr f') (W.ol on) k wf.blen wf.fin hk
    have hsl : ∀ h',Fr [] h3 h' -> AF false vs = some (.int .i64 m.shapes.length):=fun _ _=>m2.len
    rcases Decidable.em (x.b = -1) with b1 | b1
    all_goals
     first
      |
       rw [decide_eq_true b1,Bool.true_or,Bool.true_and] at e
       simp only [go_sem,reduceIte,Int.reduceEq,t0,t1,y3,b1]
       have fs : Fr [] h7 h7:=Fr.refl _ _
      |
       rw [decide_eq_false b1,Bool.false_or] at e
       simp only [go_sem,reduceIte,Int.reduceEq,t0,t1,y3,b1,p7,q7]
       refine FIT (Fr.refl _ _) x.b fun h8 fs=>?_
       by_cases hz : BB m f (l.set x.a.toNat (some BF)) x.b = true
       case neg=>
        rw [Bool.not_eq_true] at hz
        rw [hz] at e
        simp only [go_sem,reduceIte,Int.reduceEq,hz]
        exact no h8 (f37.trans fs) (by rw [e]; rfl)
       rw [hz,Bool.true_and] at e
       simp only [go_sem,reduceIte,Int.reduceEq,hz]
       clear hz
     refine AI (fun (J : H -> Prop)=>CW BU (fun _ b=>BB m f (l.set x.a.toNat (some BF)) b) none x.l = true -> ∀ h',Fr [] h7 h' -> J h') (fun eL h2' fs2=>?_) fun J hJ=>?_
     ·rw [eL,Bool.true_and] at e
      refine AI (fun (J : AV -> H -> Prop)=>CW (fun s=>decide (0 <= s) && decide (s < m.shapes.length)) (fun s b=>BB m f (l.set x.a.toNat (some (DK s))) b) none x.m = true -> ∀ w' h'',Fr [] h7 h'' -> Row h'' w' (CL x.m).length 1 (ic (CL x.m)) -> J w' h'') (fun eM sv h3' f3' rs=>?_) fun J2 hJ2=>?_
      ·rw [eM,Bool.true_and] at e
       refine AI (fun (J : H -> Prop)=>(t.sh.all fun s=>decide (s ∈ CL x.m)) = true -> J h3') (fun eT=>?_) fun J3 hJ3=>?_
       ·rw [eT] at e
        have:=hK h3' (f03.trans (f37.trans f3'))
        rw [e] at this
        exact this
       ·skip
        have rvt3:=rvt.fr (f57.trans f3')
        have htl:=W.tlen ot
        have hev : (CL x.m).length <= reachBytes:=by
         have : ∀ n (L : List Int),L.length <= n -> (CL L).length <= n:=by
          intro n
          induction n using Nat.strongRecOn with
          | _ n ih=>
           intro L hL
           match L with
           | []=>simp [CL]
           | [_]=>simp [CL]
           | y :: z :: L=>
            rw [CL,List.length_cons]
            simp only [List.length_cons] at hL
            have:=ih (n - 2) (by omega) L (by omega)
            omega
         have:=this 1024 x.m okm
         exact Nat.le_trans this (by decide)
        simp only [go_sem,reduceIte,Int.reduceEq,(ca0 (f57.trans f3')).2,rvt3.len]
        refine AS (t.sh.length + 1) (fun cn ls h'=>∃ i : Nat,ls = [.int .i64 i] /\ i <= t.sh.length /\ h' = h3' /\ (t.sh.all fun s=>decide (s ∈ CL x.m)) = ((t.sh.drop i).all fun s=>decide (s ∈ CL x.m)) /\ cn = t.sh.length + 1 - i) ⟨0,rfl,by omega,rfl,rfl,rfl⟩ ?_
        rintro cn ls h' ⟨i,rfl,hi,eh,eP,rfl⟩
        rw [eh]
        by_cases qq : (i : Int) < t.sh.length
        ·have hi' : i < t.sh.length:=by omega
         obtain ⟨y,hy⟩:=BG hi'
         have hd : t.sh.drop i = y :: t.sh.drop (i + 1):=by
          rw [List.drop_eq_getElem_cons hi']; congr 1
          rw [List.getElem?_eq_getElem hi'] at hy; injection hy
         rw [hd,List.all_cons] at eP
         have en:=B0 i (by unfold reachBytes at htl; omega)
         obtain ⟨b7,o7,u1,u2⟩:=rvt3.atI hy
         have hh:=VK (PK:=AU) rs hev y
         by_cases hm : y ∈ CL x.m
         ·rw [decide_eq_true hm,Bool.true_and] at eP
          simp only [go_sem,reduceIte,Int.reduceEq,qq,u1,u2,hh,hm,decide_true,en]
          exact ⟨t.sh.length + 1 - (i + 1),by omega,i + 1,rfl,by omega,eP,rfl⟩
         ·rw [decide_eq_false hm,Bool.false_and] at eP
          simp only [go_sem,reduceIte,Int.reduceEq,qq,u1,u2,hh,hm,decide_false]
          exact no h3' (f37.trans f3') (by rw [e,eP])
        ·have : i = t.sh.length:=by omega
         subst this
         simp only [go_sem,reduceIte,Int.reduceEq,qq]
         rw [List.drop_length] at eP
         exact hJ3 eP
      ·skip
       refine AS (x.m.length + 1) (fun cn ls h'=>∃ (i : Nat) (sv : AV) (acc : List Int),ls = [sv,.int .i64 i] /\ i % 2 = 0 /\ i <= x.m.length /\ Fr [] h7 h' /\ Own h7 h' 3 1 sv acc.length (ic acc) /\ acc.length <= i /\ CL x.m = acc ++ CL (x.m.drop i) /\ CW (fun s=>decide (0 <= s) && decide (s < m.shapes.length)) (fun s b=>BB m f (l.set x.a.toNat (some (DK s))) b) none x.m = CW (fun s=>decide (0 <= s) && decide (s < m.shapes.length)) (fun s b=>BB m f (l.set x.a.toNat (some (DK s))) b) (FZ x.m i) (x.m.drop i) /\ cn = x.m.length + 1 - i) ⟨0,.nilsl,[],rfl,rfl,by omega,fs2,Own.nil ..,by simp,rfl,rfl,rfl⟩ ?_
       rintro cn ls h' ⟨i,sv,acc,rfl,ie,hi,f',own,hacc,eE,eP,rfl⟩
       obtain ⟨p8,q8,⟨y2,y3,y6,y7⟩,r8,rm8,rf8,rl8,rmm8,ps8⟩:=F h' (f37.trans f')
       by_cases qq : (i : Int) < x.m.length
       ·obtain ⟨y,k,hy,hk,hd⟩:=NC mm2 ie (by omega)
        rw [hd,G7] at eP
        rw [hd,OG] at eE
        obtain ⟨b7,o7,u1,u2⟩:=rmm8.atI hy
        obtain ⟨b6,o6,v1,v2'⟩:=rmm8.atI hk
        have v2 : ∀ {h''},Fr [] h' h'' -> h''.cell b6 o6 = some (.int .i64 k):=fun f=>f.cell v2'
        have en1:=B0 i (by omega)
        have en2 : IntKind.i64.wrap ((i : Int) + 2) = ((i + 2 : Nat) : Int):=by rw [A0 (by omega) (by omega)]; rfl
        by_cases a0 : y < 0
        ·have z : decide (0 <= y) = false:=decide_eq_false (by omega)
         simp only [z] at eP
         simp only [go_sem,reduceIte,Int.reduceEq,y7,rmm8.len,qq,u1,u2,a0]
         exact no h' (f37.trans f') (by rw [e,eP]; simp)
        by_cases a1 : (m.shapes.length : Int) <= y
        ·have z : decide (y < (m.shapes.length : Int)) = false:=decide_eq_false (by omega)
         simp only [z] at eP
         simp only [go_sem,reduceIte,Int.reduceEq,y7,rmm8.len,qq,u1,u2,a0,ps8,hsl h' (f37.trans f'),a1]
         exact no h' (f37.trans f') (by rw [e,eP]; simp)
        have z : (decide (0 <= y) && decide (y < (m.shapes.length : Int))) = true:=by rw [decide_eq_true (by omega),decide_eq_true (by omega)]; rfl
        simp only [z] at eP
        by_cases i0 : i = 0
        ·have hi0 : ¬ (0 : Int) < (i : Nat):=by omega
         have el : FZ x.m i = none:=by unfold FZ; rw [if_pos i0]
         rw [el] at eP
         simp only [go_sem,reduceIte,Int.reduceEq,y7,rmm8.len,qq,u1,u2,a0,ps8,hsl h' (f37.trans f'),a1,hi0,y2]
         refine K5 fun c1 h9 f9 rn1=>?_
         have f9':=f'.trans f9
         obtain ⟨p9,q9,⟨z2,z3,z6,z7⟩,r9,rm9,rf9,rl9,rmm9,ps9⟩:=F h9 (f37.trans f9')
         simp only [go_sem,reduceIte,Int.reduceEq,z2]
         refine LQ r9 hl x.a rn1 fun w2' h10 f10 hw2=>?_
         have rw10:=hw2 _ (hset (DK y))
         have f10':=f9'.trans f10
         obtain ⟨p10,q10,⟨z2,z3,z6,z7⟩,r10,rm10,rf10,rl10,rmm10,ps10⟩:=F h10 (f37.trans f10')
         rw [hset (DK y)]
         simp only [go_sem,reduceIte,Int.reduceEq,t0,t1,p10,q10,z7,en1,v1,v2 (f9.trans f10)]
         refine OD rm10 W.om rf10 rw10 (W.ol (ol.set _ (ED (by omega) (by omega)))) k wf.blen wf.fin fun h11 f11=>?_
         have f11':=f10'.trans f11
         obtain ⟨p11,q11,⟨z2,z3,z6,z7⟩,r11,rm11,rf11,rl11,rmm11,ps11⟩:=F h11 (f37.trans f11')
         cases hz : BB m f (l.set x.a.toNat (some (DK y))) k with
         | false=>
          rw [hz] at eP
          simp only [go_sem,reduceIte,Int.reduceEq]
          exact no h11 (f37.trans f11') (by rw [e,eP]; simp)
         | true=>
          rw [hz] at eP
          obtain ⟨bq,oq,uq1,uq2⟩:=rmm11.atI hy
          simp only [go_sem,reduceIte,Int.reduceEq,z7,u1,(((f9.trans f10).trans f11)).cell u2]
          refine O1 (own.keep fun c' n' p' _ ob hg=>((f9.trans f10).trans f11) c' ob (by simp) hg) f11' (by omega) y fun sv h12 own' f12=>?_
          simp only [go_sem,reduceIte,Int.reduceEq,en2]
          exact ⟨x.m.length + 1 - (i + 2),by omega,i + 2,sv,acc ++ [y],rfl,by omega,by omega,f12,own',by rw [List.length_append,List.length_singleton]; omega,by rw [eE,List.append_assoc]; rfl,by rw [eP,D0 hy]; simp,rfl⟩
        ·have hi0 : (0 : Int) < (i : Nat):=by omega
         obtain ⟨zz,hz',el⟩:=LA (L:=x.m) ie (by omega) (Nat.pos_of_ne_zero i0)
         rw [el] at eP
         have em2 : IntKind.i64.wrap ((i : Int) - 2) = ((i - 2 : Nat) : Int):=by rw [A0 (by omega) (by omega)]; omega
         obtain ⟨b5,o5,w1,w2⟩:=rmm8.atI hz'
         by_cases yz : y <= zz
         ·have hd0 : decide (zz < y) = false:=decide_eq_false (by omega)
          simp only [hd0] at eP
          simp only [go_sem,reduceIte,Int.reduceEq,y7,rmm8.len,qq,u1,u2,a0,ps8,hsl h' (f37.trans f'),a1,hi0,em2,w1,w2,yz]
          exact no h' (f37.trans f') (by rw [e,eP]; simp)
         ·have hd0 : decide (zz < y) = true:=decide_eq_true (by omega)
          simp only [hd0] at eP
          simp only [go_sem,reduceIte,Int.reduceEq,y7,rmm8.len,qq,u1,u2,a0,ps8,hsl h' (f37.trans f'),a1,hi0,em2,w1,w2,yz,y2]
          refine K5 fun c1 h9 f9 rn1=>?_
          have f9':=f'.trans f9
          obtain ⟨p9,q9,⟨z2,z3,z6,z7⟩,r9,rm9,rf9,rl9,rmm9,ps9⟩:=F h9 (f37.trans f9')
          simp only [go_sem,reduceIte,Int.reduceEq,z2]
          refine LQ r9 hl x.a rn1 fun w2' h10 f10 hw2=>?_
          have rw10:=hw2 _ (hset (DK y))
          have f10':=f9'.trans f10
          obtain ⟨p10,q10,⟨z2,z3,z6,z7⟩,r10,rm10,rf10,rl10,rmm10,ps10⟩:=F h10 (f37.trans f10')
          rw [hset (DK y)]
          simp only [go_sem,reduceIte,Int.reduceEq,t0,t1,p10,q10,z7,en1,v1,v2 (f9.trans f10)]
          refine OD rm10 W.om rf10 rw10 (W.ol (ol.set _ (ED (by omega) (by omega)))) k wf.blen wf.fin fun h11 f11=>?_
          have f11':=f10'.trans f11
          obtain ⟨p11,q11,⟨z2,z3,z6,z7⟩,r11,rm11,rf11,rl11,rmm11,ps11⟩:=F h11 (f37.trans f11')
          cases hz : BB m f (l.set x.a.toNat (some (DK y))) k with
          | false=>
           rw [hz] at eP
           simp only [go_sem,reduceIte,Int.reduceEq]
           exact no h11 (f37.trans f11') (by rw [e,eP]; simp)
          | true=>
           rw [hz] at eP
           obtain ⟨bq,oq,uq1,uq2⟩:=rmm11.atI hy
           simp only [go_sem,reduceIte,Int.reduceEq,z7,u1,(((f9.trans f10).trans f11)).cell u2]
           refine O1 (own.keep fun c' n' p' _ ob hg=>((f9.trans f10).trans f11) c' ob (by simp) hg) f11' (by omega) y fun sv h12 own' f12=>?_
           simp only [go_sem,reduceIte,Int.reduceEq,en2]
           exact ⟨x.m.length + 1 - (i + 2),by omega,i + 2,sv,acc ++ [y],rfl,by omega,by omega,f12,own',by rw [List.length_append,List.length_singleton]; omega,by rw [eE,List.append_assoc]; rfl,by rw [eP,D0 hy]; simp,rfl⟩
       ·have : i = x.m.length:=by omega
        subst this
        simp only [go_sem,reduceIte,Int.reduceEq,y7,rmm8.len,qq]
        rw [List.drop_length,IG] at eP
        rw [List.drop_length,PZ,List.append_nil] at eE
        exact hJ2 eP sv h' f' (by rw [eE]; exact own.row)
     ·skip
      refine AS (x.l.length + 1) (fun cn ls h'=>∃ i : Nat,ls = [.int .i64 i] /\ i % 2 = 0 /\ i <= x.l.length /\ Fr [] h7 h' /\ CW BU (fun _ b=>BB m f (l.set x.a.toNat (some BF)) b) none x.l = CW BU (fun _ b=>BB m f (l.set x.a.toNat (some BF)) b) (FZ x.l i) (x.l.drop i) /\ cn = x.l.length + 1 - i) ⟨0,rfl,rfl,by omega,fs,rfl,rfl⟩ ?_
      rintro cn ls h' ⟨i,rfl,ie,hi,f',eP,rfl⟩
      obtain ⟨p8,q8,⟨y2,y3,y6,y7⟩,r8,rm8,rf8,rl8,rmm8,ps8⟩:=F h' (f37.trans f')
      by_cases qq : (i : Int) < x.l.length
      ·obtain ⟨y,k,hy,hk,hd⟩:=NC l2 ie (by omega)
       rw [hd,G7] at eP
       obtain ⟨b7,o7,u1,u2⟩:=rl8.atI hy
       obtain ⟨b6,o6,v1,v2⟩:=rl8.atI hk
       have en1:=B0 i (by unfold reachBytes at hll; omega)
       have en2 : IntKind.i64.wrap ((i : Int) + 2) = ((i + 2 : Nat) : Int):=by rw [A0 (by omega) (by unfold reachBytes at hll; omega)]; rfl
       have ry:=okx.2.1.2 y (List.mem_of_getElem? hy)
       simp only [go_sem,reduceIte,Int.reduceEq,y6,rl8.len,qq,u1,u2]
       refine RF ry.1 ry.2 ?_
       cases hwi : BU y with
       | false=>
        rw [hwi] at eP
        simp only [go_sem,reduceIte,Int.reduceEq]
        exact no h' (f37.trans f') (by rw [e,eP]; simp)
       | true=>
        rw [hwi] at eP
        by_cases i0 : i = 0
        ·have hi0 : ¬ (0 : Int) < (i : Nat):=by omega
         have el : FZ x.l i = none:=by unfold FZ; rw [if_pos i0]
         rw [el] at eP
         simp only [go_sem,reduceIte,Int.reduceEq,hi0,p8,q8,y6,en1,v1,v2]
         refine FIT f' k fun h9 f9=>?_
         cases hz : BB m f (l.set x.a.toNat (some BF)) k with
         | false=>
          rw [hz] at eP
          simp only [go_sem,reduceIte,Int.reduceEq]
          exact no h9 (f37.trans (f'.trans f9)) (by rw [e,eP]; simp)
         | true=>
          rw [hz] at eP
          simp only [go_sem,reduceIte,Int.reduceEq,en2]
          exact ⟨x.l.length + 1 - (i + 2),by omega,i + 2,rfl,by omega,by omega,f'.trans f9,by rw [eP,D0 hy]; simp,rfl⟩
        ·have hi0 : (0 : Int) < (i : Nat):=by omega
         obtain ⟨z,hz',el⟩:=LA (L:=x.l) ie (by omega) (Nat.pos_of_ne_zero i0)
         rw [el] at eP
         have em2 : IntKind.i64.wrap ((i : Int) - 2) = ((i - 2 : Nat) : Int):=by rw [A0 (by omega) (by unfold reachBytes at hll; omega)]; omega
         obtain ⟨b5,o5,w1,w2⟩:=rl8.atI hz'
         by_cases yz : y <= z
         ·have hd0 : decide (z < y) = false:=decide_eq_false (by omega)
          simp only [hd0] at eP
          simp only [go_sem,reduceIte,Int.reduceEq,hi0,y6,u1,u2,em2,w1,w2,yz]
          exact no h' (f37.trans f') (by rw [e,eP]; simp)
         ·have hd0 : decide (z < y) = true:=decide_eq_true (by omega)
          simp only [hd0] at eP
          simp only [go_sem,reduceIte,Int.reduceEq,hi0,y6,u1,u2,em2,w1,w2,yz,p8,q8,en1,v1,v2]
          refine FIT f' k fun h9 f9=>?_
          cases hz : BB m f (l.set x.a.toNat (some BF)) k with
          | false=>
           rw [hz] at eP
           simp only [go_sem,reduceIte,Int.reduceEq]
           exact no h9 (f37.trans (f'.trans f9)) (by rw [e,eP]; simp)
          | true=>
           rw [hz] at eP
           simp only [go_sem,reduceIte,Int.reduceEq,en2]
           exact ⟨x.l.length + 1 - (i + 2),by omega,i + 2,rfl,by omega,by omega,f'.trans f9,by rw [eP,D0 hy]; simp,rfl⟩
      ·have : i = x.l.length:=by omega
       subst this
       simp only [go_sem,reduceIte,Int.reduceEq,y6,rl8.len,qq]
       rw [List.drop_length,IG] at eP
       exact hJ eP h' f'
   ·rw [decide_eq_false mm2] at e
    have m2' : ¬ ((x.m.length % 2 : Nat) : Int) = 0:=by omega
    simp only [go_sem,reduceIte,Int.reduceEq,m2']
    exact no h5 f35 (by rw [e]; rfl)
  ·rw [decide_eq_false l2] at e
   have l2' : ¬ ((x.l.length % 2 : Nat) : Int) = 0:=by omega
   simp only [go_sem,reduceIte,Int.reduceEq,l2']
   exact no h5 f35 (by rw [e]; rfl)
end
section
variable {PK : H -> Prop} {h : H}
set_option maxHeartbeats 2000000 in
theorem ends_c {m : Img} {c : List AV} (rm : imgR h m c) (W : Wh m) {f : Fn} {cf : List AV} (rf : fnR h f cf) (wf : FnW m f) {v : AV} {l : List Sl} (r : RowOf h 3 (slR h) v l) (hl : l.length <= 4294967296) (ol : okL m l) {x : Ins} {cx : List AV} (rx : insR h x cx) (okx : x.ok) (okm : x.m.length <= 1024) {K : AV -> H -> Prop}
  (hK : ∀ h',Fr [] h h' -> K (.bool (BW m f l x)) h') : DP PK 124 [.agg c,.agg cf,v,.agg cx] h K:=by
 refine runB124 ?_
 unfold sh124 zL zT zU zF zG
 refine B8 rm fun p h1 f1 hp gp rm1=>?_
 refine IN (rf.fr f1) fun q h2 f2 hq gq rf2=>?_
 refine D2 ((rx.fr f1).fr f2) fun b h3 f3 hb gb rx3=>?_
 have f03 : Fr [] h h3:=(f1.trans f2).trans f3
 have gp3:=(f2.trans f3) p _ (by simp) gp
 have gq3:=f3 q _ (by simp) gq
 have rm3:=rm.fr f03
 have rf3:=rf.fr f03
 have r3 : RowOf h3 3 (slR h3) v l:=r.mono f03 fun _ _ _ x=>x.fr f03
 have hcn : c.length = 7:=by obtain ⟨_,_,_,_,_,rfl,_⟩:=rm; rfl
 have hfn : cf.length = 4:=by obtain ⟨_,_,rfl,_⟩:=rf; rfl
 have hxn : cx.length = 9:=by obtain ⟨_,_,_,rfl,_⟩:=rx; rfl
 have rm3':=rm3
 have rx3':=rx3
 have rf3':=rf3
 obtain ⟨vt,vs,vx,vn,vf,ecm,m1,m2,m3,m4,m5⟩:=rm3
 obtain ⟨vl,vm,vv,ecx,rl,rmm,rlv⟩:=rx3
 obtain ⟨vp,vb,ecf,_⟩:=rf3
 clear rm1 rm rx r rf rf2
 have F : ∀ h',Fr [] h3 h' -> h'.read p 0 7 = some c /\ h'.read q 0 4 = some cf /\ h'.read b 0 9 = some cx /\ (h'.cell b 0 = some (.int .i64 x.op) /\ h'.cell b 2 = some (.int .i64 x.a) /\ h'.cell b 3 = some (.int .i64 x.b) /\ h'.cell b 4 = some (.int .i64 x.c) /\ h'.cell b 6 = some vl) /\
   RowOf h' 3 (slR h') v l /\ imgR h' m c /\ fnR h' f cf /\ insR h' x cx /\ Row h' vl x.l.length 1 (ic x.l) /\ (h'.cell p 0 = some vt /\ h'.cell p 4 = some vf /\ h'.cell p 6 = some (.int .i64 m.exn)) /\ RowOf h' 2 (tyR h') vt m.types /\ RowOf h' 4 (fnR h') vf m.fns /\ h'.cell q 1 = some (.int .i64 f.result):=fun h' f=>
  ⟨AR (f p _ (by simp) gp3) hcn,AR (f q _ (by simp) gq3) hfn,AR (f b _ (by simp) gb) hxn,by have cc:=AD (f b _ (by simp) gb); rw [cc,cc,cc,cc,cc,ecx]; exact ⟨rfl,rfl,rfl,rfl,rfl⟩,
   r3.mono f fun _ _ _ x=>x.fr f,rm3'.fr f,rf3'.fr f,rx3'.fr f,rl.fr f,by have cc:=AD (f p _ (by simp) gp3); rw [cc,cc,cc,ecm]; exact ⟨rfl,rfl,rfl⟩,m1.mono f fun _ _ _ x=>x.fr f,m5.mono f fun _ _ _ x=>x.fr f,by rw [AD (f q _ (by simp) gq3),ecf]; rfl⟩
 have out : ∀ (o : Bool) h',Fr [] h3 h' -> BW m f l x = o -> K (.bool o) h':=fun o h' f' e=>by
  have:=hK h' (f03.trans f')
  rw [e] at this; exact this
 have rr:=Fr.refl [] h3
 obtain ⟨p0,q0,bx,⟨x0,x2,x3,x4,x6⟩,r0,rm0,rf0,rx0,rl0,⟨pt,pf,px⟩,m10,m50,qr⟩:=F h3 rr
 have FIT : ∀ {h'},Fr [] h3 h' -> ∀ (k : Int) {K : AV -> H -> Prop},(∀ h'',Fr [] h' h'' -> K (.bool (BB m f l k)) h'') -> DP AU 175 [.agg c,.agg cf,v,.int .i64 k] h' K:=fun {h'} f' k K hk=>
  OD (F h' f').2.2.2.2.2.1 W.om (F h' f').2.2.2.2.2.2.1 (F h' f').2.2.2.2.1 (W.ol ol) k wf.blen wf.fin hk
 by_cases hop : x.op = 18
 ·have e : BW m f l x = BB m f l x.a:=by unfold BW; rw [if_pos hop]
  simp only [go_sem,reduceIte,x0,hop,p0,q0,x2]
  refine FIT rr x.a fun h4 f4=>?_
  exact out _ h4 f4 e
 by_cases hop : x.op = 19
 ·have e : BW m f l x = (isS l x.a BF && BB m f l x.b && BB m f l x.c):=by unfold BW; rw [if_neg (by omega),if_pos hop]
  simp only [go_sem,reduceIte,x0,hop,x2]
  refine PP fun cn h4 f4 rn=>?_
  obtain ⟨_,_,_,⟨_,y2,_⟩,r4,_⟩:=F h4 f4
  simp only [go_sem,reduceIte,y2]
  refine MU r4 x.a rn (W.ol ol) (by show (0 : Nat) <= _; omega) fun h5 f5=>?_
  have f5:=f4.trans f5
  cases z1 : isS l x.a BF with
  | false=>
   rw [z1] at e
   simp only [go_sem,reduceIte]
   exact out _ h5 f5 e
  | true=>
   rw [z1,Bool.true_and] at e
   obtain ⟨p5,q5,_,⟨_,_,y3,_⟩,_⟩:=F h5 f5
   simp only [go_sem,reduceIte,p5,q5,y3]
   refine FIT f5 x.b fun h6 f6=>?_
   have f6:=f5.trans f6
   cases z2 : BB m f l x.b with
   | false=>
    rw [z2] at e
    simp only [go_sem,reduceIte]
    exact out _ h6 f6 e
   | true=>
    rw [z2,Bool.true_and] at e
    obtain ⟨p6,q6,_,⟨_,_,_,y4,_⟩,_⟩:=F h6 f6
    simp only [go_sem,reduceIte,p6,q6,y4]
    refine FIT f6 x.c fun h7 f7=>?_
    try simp only [go_sem,reduceIte]
    exact out _ h7 (f6.trans f7) e
 by_cases hop : x.op = 20
 ·have e : BW m f l x = DW m f l x:=by unfold BW; rw [if_neg (by omega),if_neg (by omega),if_pos hop]
  simp only [go_sem,reduceIte,x0,hop,p0,q0,bx]
  refine WQ rm0 W rf0 wf r0 hl ol rx0 okx okm fun h4 f4=>?_
  exact out _ h4 f4 e
 by_cases hop : x.op = 21
 ·have e : BW m f l x = (m.isFn x.a && CC m l x.l (m.fn x.a).params && G0 (m.ty (m.fn x.a).result) (m.ty f.result)):=by unfold BW; rw [if_neg (by omega),if_neg (by omega),if_neg (by omega),if_pos hop]
  by_cases c0 : 0 <= x.a
  ·by_cases c1 : x.a < m.fns.length
   ·have z : m.isFn x.a = true:=(GU m x.a).2 (by omega)
    rw [z,Bool.true_and] at e
    obtain ⟨b8,o8,c8,vp,vb,w1,w2,w3,w4,w5,w6,w7,w8,w9⟩:=OB m50 c0 c1
    have fw:=W.fn _ w9
    simp only [go_sem,reduceIte,x0,hop,x2,c0,pf,m50.len,c1,p0,x6,w1,w5]
    refine RB rm0 W.om r0 (W.ol ol) rl0 w8 okx.2.1.1 fw.par fun h5 f5=>?_
    cases z1 : CC m l x.l (m.fn x.a).params with
    | false=>
     rw [z1] at e
     simp only [go_sem,reduceIte]
     exact out _ h5 f5 e
    | true=>
     rw [z1,Bool.true_and] at e
     obtain ⟨p5,q5,_,⟨_,y2,_⟩,_,_,_,_,_,⟨pt5,pf5,px5⟩,m15,m55,qr5⟩:=F h5 f5
     obtain ⟨b9,o9,ct,u1,u2,u3⟩:=C7 m15 fw.res.1 fw.res.2
     obtain ⟨b7,o7,ct2,v1,v2,v3⟩:=C7 m15 wf.res.1 wf.res.2
     simp only [go_sem,reduceIte,pt5,pf5,y2,w1,f5.cell w6,u1,u2,qr5,v1,v2]
     refine XP u3 v3 (W.tlen (W.tyOk _)) (W.tlen (W.tyOk _)) fun h6 f6=>?_
     try simp only [go_sem,reduceIte]
     exact out _ h6 (f5.trans f6) e
   ·have z : m.isFn x.a = false:=by unfold Img.isFn; rw [decide_eq_false (p:=x.a < _) (by omega),Bool.and_false]
    rw [z] at e
    simp only [go_sem,reduceIte,x0,hop,x2,c0,pf,m50.len,c1]
    exact out _ h3 rr e
  ·have z : m.isFn x.a = false:=by unfold Img.isFn; rw [decide_eq_false c0]; rfl
   rw [z] at e
   simp only [go_sem,reduceIte,x0,hop,x2,c0]
   exact out _ h3 rr e
 by_cases hop : x.op = 22
 ·have e : BW m f l x = isS l x.a (m.ty f.result):=by unfold BW; rw [if_neg (by omega),if_neg (by omega),if_neg (by omega),if_neg (by omega),if_pos hop]
  obtain ⟨b7,o7,ct2,v1,v2,v3⟩:=C7 m10 wf.res.1 wf.res.2
  simp only [go_sem,reduceIte,x0,hop,x2,pt,qr,v1,v2]
  refine MU r0 x.a v3 (W.ol ol) (W.tlen (W.tyOk _)) fun h4 f4=>?_
  exact out _ h4 f4 e
 by_cases hop : x.op = 23
 ·have e : BW m f l x = isS l x.a (m.ty m.exn):=by unfold BW; rw [if_neg (by omega),if_neg (by omega),if_neg (by omega),if_neg (by omega),if_neg (by omega),if_pos hop]
  obtain ⟨b7,o7,ct2,v1,v2,v3⟩:=C7 m10 W.exn.1 W.exn.2
  simp only [go_sem,reduceIte,x0,hop,x2,pt,px,v1,v2]
  refine MU r0 x.a v3 (W.ol ol) (W.tlen (W.tyOk _)) fun h4 f4=>?_
  exact out _ h4 f4 e
 have e : BW m f l x = false:=by unfold BW; rw [if_neg (by omega),if_neg (by omega),if_neg (by omega),if_neg (by omega),if_neg (by omega),if_neg (by omega)]
 simp only [go_sem,reduceIte,x0, *]
 all_goals exact out _ h3 rr e
theorem last_c (op : Int) {K : AV -> H -> Prop} (hK : K (.bool (decide (18 <= op) && decide (op <= 23))) h) : DP PK 123 [.int .i64 op] h K:=by
 refine runB123 ?_
 unfold sh123 zT zU
 by_cases a : 18 <= op
 ·rw [decide_eq_true a,Bool.true_and] at hK
  simp only [go_sem,reduceIte,a]; exact hK
 ·rw [decide_eq_false a,Bool.false_and] at hK
  simp only [go_sem,reduceIte,a]; exact hK
end
theorem V3 {m : Img} {f : Fn} {l : List Sl} {x : Ins} (h : 18 <= x.op) : CF m f l x = none:=by
 have e:=EI (m:=m) (f:=f) (l:=l) (x:=x) (by unfold FW; simp only [Bool.or_eq_false_iff,decide_eq_false_iff_not]; omega)
 rw [TJ (by omega)] at e
 exact e
theorem bD {m : Img} {f : Fn} {l : List Sl} {x : Ins} (h : 23 < x.op) : BW m f l x = false:=by
 unfold BW; rw [if_neg (by omega),if_neg (by omega),if_neg (by omega),if_neg (by omega),if_neg (by omega),if_neg (by omega)]
def plN (o : Option Nat) : Int:=match o with | some n=>n | none=>-1
section
variable {PK : H -> Prop} {h : H}
theorem VX {b : Blk} {c : List AV} (r : blkR h b c) {K : AV -> H -> Prop} (hK : ∀ a h',Fr [] h h' -> h.get a = none -> h'.get a = some (.live c 42 true) -> blkR h' b c -> K (.ptr a 0) h') : AL h (AV.cells (.agg c)) 42 K:=by
 refine BH (cs:=c) r.leaves fun a ha=>?_
 have f : Fr [] h (h.set a (.live c 42 true)):=(Fr.refl _ _).set' ha
 exact hK a _ f ha (H.get_same ..) (r.fr f)
theorem BL {zs c : List AV} {n e : Nat} (hz : zs.length = n) (hn : c.length = n) (hlz : leaves zs = true) (hl : leaves c = true) {K : AV -> H -> Prop} (hK : ∀ a h',Fr [] h h' -> h.get a = none -> h'.get a = some (.live c e true) -> K (.ptr a 0) h') : AL h zs e fun a h=>AM (stA h n a (.agg c)) .undef fun _ h=>K a h:=by
 refine BH hlz fun a ha=>?_
 rw [DG (n:=n) (H.get_same ..) hz hn hl,A3]
 exact hK a _ (((Fr.refl _ _).set' ha).set' ha) ha (H.get_same ..)
theorem insR.ln {x : Ins} {c : List AV} (r : insR h x c) : c.length = 9:=by obtain ⟨_,_,_,rfl,_⟩:=r; rfl
theorem IC {m : Img} {L : List Int} {i : Nat} {t : Int} (h : L[i]? = some t) : CM m (L.take (i + 1)) = CM m (L.take i) ++ [if t < 0 then none else some (m.ty t)]:=by
 unfold CM; rw [CO h,List.map_append]; rfl
set_option maxHeartbeats 2000000 in
theorem XU {m : Img} {c : List AV} (rm : imgR h m c) (W : Wh m) {f : Fn} {cf : List AV} (rf : fnR h f cf) (wf : FnW m f) {bk : Blk} {cb : List AV} (rb : blkR h bk cb) (hbk : bk ∈ f.blocks) {K : AV -> H -> Prop}
  (hK : ∀ h',Fr [] h h' -> K (.int .i64 (plN (DJ m f bk))) h') : DP PK 71 [.agg c,.agg cf,.agg cb] h K:=by
 refine runB71 ?_
 unfold sh71 zL zE zV zF
 refine B8 rm fun p h1 f1 hp gp rm1=>?_
 refine IN (rf.fr f1) fun q h2 f2 hq gq rf2=>?_
 refine VX ((rb.fr f1).fr f2) fun b h3 f3 hb gb rb3=>?_
 have f03 : Fr [] h h3:=(f1.trans f2).trans f3
 have gp3:=(f2.trans f3) p _ (by simp) gp
 have gq3:=f3 q _ (by simp) gq
 have rm3:=rm.fr f03
 have rf3:=rf.fr f03
 have hcn : c.length = 7:=by obtain ⟨_,_,_,_,_,rfl,_⟩:=rm; rfl
 have hfn : cf.length = 4:=by obtain ⟨_,_,rfl,_⟩:=rf; rfl
 have wb:=wf.inn bk hbk
 have rm3':=rm3
 obtain ⟨vt,vs,vx,vn,vf,ecm,m1,m2,m3,m4,m5⟩:=rm3
 obtain ⟨vi,vc,ecb,ri,rc⟩:=rb3
 clear rm1 rm rf rf2 rb
 have F : ∀ h',Fr [] h3 h' -> h'.read p 0 7 = some c /\ h'.read q 0 4 = some cf /\ (h'.cell b 0 = some vi /\ h'.cell b 1 = some vc) /\ imgR h' m c /\ fnR h' f cf /\ Row h' vi bk.inn.length 1 (ic bk.inn) /\ RowOf h' 9 (insR h') vc bk.code /\ h'.cell p 0 = some vt /\ RowOf h' 2 (tyR h') vt m.types:=fun h' f=>
  ⟨AR (f p _ (by simp) gp3) hcn,AR (f q _ (by simp) gq3) hfn,by have cc:=AD (f b _ (by simp) gb); rw [cc,cc,ecb]; exact ⟨rfl,rfl⟩,rm3'.fr f,rf3.fr f,ri.fr f,rc.mono f fun _ _ _ x=>x.fr f,by rw [AD (f p _ (by simp) gp3),ecm]; rfl,m1.mono f fun _ _ _ x=>x.fr f⟩
 have rr:=Fr.refl [] h3
 obtain ⟨p0,q0,⟨b0,b1⟩,rm0,rf0,ri0,rc0,pt0,m10⟩:=F h3 rr
 refine AI (fun (J : AV -> H -> Prop)=>∀ w h',Fr [] h3 h' -> RowOf h' 3 (slR h') w (CM m bk.inn) -> J w h') (fun w h4 f4 rw4=>?_) fun J hJ=>?_
 ·
  obtain ⟨p4,q4,⟨c0,c1⟩,rm4,rf4,ri4,rc4,pt4,m14⟩:=F h4 f4
  refine AI (fun (J : H -> Prop)=>∀ h',Fr [] h3 h' -> DJ m f bk = some bk.code.length -> J h') (fun h5 f5 e=>?_) fun J hJ=>?_
  ·obtain ⟨_,_,⟨_,d1⟩,_,_,_,rc5,_⟩:=F h5 f5
   have:=hK h5 (f03.trans f5)
   rw [e] at this
   simp only [go_sem,reduceIte,d1,rc5.len]
   exact this
  ·have hcl:=wb.2.2.1
   simp only [go_sem,reduceIte,c1,rc4.len]
   refine AS (bk.code.length + 1) (fun cn ls h'=>∃ (i : Nat) (w : AV) (l : List Sl),ls = [w,.int .i64 i] /\ i <= bk.code.length /\ Fr [] h3 h' /\ RowOf h' 3 (slR h') w l /\ okL m l /\ l.length <= 200 /\ DJ m f bk = J8 m f (bk.code.drop i) i l /\ cn = bk.code.length + 1 - i) ⟨0,w,CM m bk.inn,rfl,by omega,f4,rw4,NP W _,by unfold CM; rw [List.length_map]; exact wb.2.1,rfl,rfl⟩ ?_
   rintro cn ls h' ⟨i,w,l,rfl,hi,f',rl,ol,hl,eP,rfl⟩
   obtain ⟨p5,q5,⟨d0,d1⟩,rm5,rf5,ri5,rc5,pt5,m15⟩:=F h' f'
   by_cases qq : (i : Int) < bk.code.length
   ·have hi' : i < bk.code.length:=by omega
    obtain ⟨x,hx⟩:=BG hi'
    have hd : bk.code.drop i = x :: bk.code.drop (i + 1):=by
     rw [List.drop_eq_getElem_cons hi']; congr 1
     rw [List.getElem?_eq_getElem hi'] at hx; injection hx
    rw [hd,J8] at eP
    have en:=B0 i (by unfold reachBytes at hcl; omega)
    obtain ⟨bx,ox,cx,q1,q2,q3,q4',q5'⟩:=rc5.el hx
    obtain ⟨okx,okm⟩:=wb.2.2.2.1 x (List.mem_of_getElem? hx)
    simp only [go_sem,reduceIte,qq,q1,q4']
    refine BL rfl q3 rfl q2.leaves fun a h6 f6 ha ga=>?_
    have f6':=f'.trans f6
    obtain ⟨p6,q6,⟨d0,d1⟩,rm6,rf6,ri6,rc6,pt6,m16⟩:=F h6 f6'
    have rx6:=q2.fr f6
    have rl6 : RowOf h6 3 (slR h6) w l:=rl.mono f6 fun _ _ _ x=>x.fr f6
    have ax : h6.cell a 0 = some (.int .i64 x.op):=by
     obtain ⟨_,_,_,e,_⟩:=rx6
     rw [AD ga,e]; rfl
    have rdx:=AR ga q3
    have fin : ∀ (o : Option Nat) h',Fr [] h3 h' -> DJ m f bk = o -> K (.int .i64 (plN o)) h':=fun o h' f' e=>by
     have:=hK h' (f03.trans f'); rw [e] at this; exact this
    simp only [go_sem,reduceIte,ax]
    refine last_c x.op ?_
    by_cases hlast : 18 <= x.op
    ·rw [if_pos hlast] at eP
     by_cases hfar : x.op <= 23
     ·rw [decide_eq_true hlast,decide_eq_true hfar]
      by_cases hend : ((i + 1 : Nat) : Int) < bk.code.length
      ·have hne : (bk.code.drop (i + 1)).isEmpty = false:=by
        cases hh : bk.code.drop (i + 1) with
        | nil=>have:=congrArg List.length hh; rw [List.length_drop,List.length_nil] at this; omega
        | cons y ys=>rfl
       rw [hne] at eP
       simp only [go_sem,reduceIte,Bool.and_self,en,d1,rc6.len,hend]
       exact fin (some i) h6 f6' (by rw [eP]; rfl)
      ·have hne : (bk.code.drop (i + 1)).isEmpty = true:=by
        rw [List.drop_eq_nil_of_le (by omega)]; rfl
       rw [hne,Bool.true_and] at eP
       simp only [go_sem,reduceIte,Bool.and_self,en,d1,rc6.len,hend,p6,q6,rdx]
       refine ends_c rm6 W rf6 wf rl6 (by omega) ol rx6 okx okm fun h7 f7=>?_
       have f7':=f6'.trans f7
       cases hz : BW m f l x with
       | false=>
        rw [hz] at eP
        simp only [go_sem,reduceIte]
        exact fin (some i) h7 f7' eP
       | true=>
        rw [hz] at eP
        simp only [go_sem,reduceIte]
        exact fin none h7 f7' eP
     ·rw [decide_eq_true hlast,decide_eq_false hfar]
      rw [bD (by omega),Bool.and_false] at eP
      simp only [go_sem,reduceIte,Bool.and_false,p6,q6,rdx]
      refine W7 rm6 W rf6 wf rl6 (by omega) ol rx6 okx fun w2 h7 f7 hw=>?_
      rw [V3 hlast]
      have t0 : ∀ a b : AV,A8 (.tup [a,b]) 0 = some a:=fun _ _=>rfl
      have t1 : ∀ a b : AV,A8 (.tup [a,b]) 1 = some b:=fun _ _=>rfl
      simp only [go_sem,reduceIte,t0,t1,Option.isSome_none]
      exact fin (some i) h7 (f6'.trans f7) eP
    ·rw [if_neg hlast] at eP
     rw [decide_eq_false hlast]
     simp only [go_sem,reduceIte,Bool.false_and,p6,q6,rdx]
     refine W7 rm6 W rf6 wf rl6 (by omega) ol rx6 okx fun w2 h7 f7 hw=>?_
     have f7':=f6'.trans f7
     have t0 : ∀ a b : AV,A8 (.tup [a,b]) 0 = some a:=fun _ _=>rfl
     have t1 : ∀ a b : AV,A8 (.tup [a,b]) 1 = some b:=fun _ _=>rfl
     cases hz : CF m f l x with
     | none=>
      rw [hz] at eP
      simp only [go_sem,reduceIte,t0,t1,Option.isSome_none]
      exact fin (some i) h7 f7' eP
     | some l'=>
      rw [hz] at eP
      have o2:=W8 W ol hz
      simp only [go_sem,reduceIte,t0,t1,Option.isSome_some,en]
      exact ⟨bk.code.length + 1 - (i + 1),by omega,i + 1,w2,l',rfl,by omega,f7',hw l' hz,o2.1,by rw [o2.2]; exact hl,eP,rfl⟩
   ·have : i = bk.code.length:=by omega
    subst this
    simp only [go_sem,reduceIte,qq]
    rw [List.drop_length,J8] at eP
    exact hJ h' f' eP
 ·
  simp only [go_sem,reduceIte,b0,ri0.len]
  have hil:=wb.2.1
  refine AS (bk.inn.length + 1) (fun cn ls h'=>∃ (i : Nat) (w : AV),ls = [w,.int .i64 i] /\ i <= bk.inn.length /\ Fr [] h3 h' /\ OwnOf h3 h' 154 3 (slR h3) w (CM m (bk.inn.take i)) /\ cn = bk.inn.length + 1 - i) ⟨0,.nilsl,rfl,by omega,rr,OwnOf.nil ..,rfl⟩ ?_
  rintro cn ls h' ⟨i,w,rfl,hi,f',o,rfl⟩
  by_cases qq : (i : Int) < bk.inn.length
  ·have hi' : i < bk.inn.length:=by omega
   obtain ⟨t,ht⟩:=BG hi'
   obtain ⟨p5,q5,⟨d0,d1⟩,rm5,rf5,ri5,rc5,pt5,m15⟩:=F h' f'
   have en:=B0 i (by omega)
   obtain ⟨b7,o7,u1,u2⟩:=ri5.atI ht
   have hsl : (CM m (bk.inn.take i)).length = i:=by unfold CM; rw [List.length_map,List.length_take]; omega
   simp only [go_sem,reduceIte,qq]
   refine AI (fun (J : AV -> H -> Prop)=>∀ w' h2,Fr [] h3 h2 -> OwnOf h3 h2 154 3 (slR h3) w' (CM m (bk.inn.take (i + 1))) -> J w' h2) (fun w' h2 f2 o2=>?_) fun J2 hJ2=>?_
   ·rw [en]
    exact ⟨bk.inn.length + 1 - (i + 1),by omega,i + 1,w',rfl,by omega,f2,o2,rfl⟩
   ·by_cases t0 : t < 0
    ·have es:=IC (m:=m) ht
     rw [if_pos t0] at es
     rw [es] at hJ2
     have eb : AT (AG [.bool false,.nilsl,.bool false] [(2,1,.bool true)]) = some (.agg [.bool false,.nilsl,.bool true]):=rfl
     simp only [go_sem,reduceIte,u1,u2,t0,eb]
     rw [GV (n:=3) rfl rfl rfl]
     refine MS o (x:=none) ⟨_,_,rfl,rfl,rfl⟩ rfl rfl (by decide) f' (by rw [hsl]; unfold AQ; omega) fun w' h2 o2 f2 _=>?_
     exact hJ2 w' h2 f2 o2
    ·have es:=IC (m:=m) ht
     rw [if_neg t0] at es
     rw [es] at hJ2
     have htt:=wb.2.2.2.2 t (List.mem_of_getElem? ht)
     obtain ⟨b9,o9,ct,v1,v2,v3⟩:=C7 m10 (t:=t) (by omega) htt.2
     obtain ⟨vv,ect,rs,lvs⟩:=NQ v3
     have eb : AT (AG [.bool false,.nilsl,.bool false] [(0,2,.agg ct)]) = some (.agg [.bool (m.ty t).imm,vv,.bool false]):=by
      rw [ect]
      have : (AV.agg [.bool (m.ty t).imm,vv]).cells = [.bool (m.ty t).imm,vv]:=rfl
      have l2 : leaves [.bool (m.ty t).imm,vv] = true:=by simp only [leaves,Bool.and_eq_true] at lvs ⊢; exact ⟨lvs.1,lvs.2.1,trivial⟩
      rw [IP,this,if_pos ⟨rfl,by decide,l2⟩]
      rfl
     simp only [go_sem,reduceIte,u1,u2,t0,pt5,v1,f'.read v2,eb]
     rw [GV (n:=3) rfl rfl lvs]
     refine MS o (x:=some (m.ty t)) rs rfl lvs (by decide) f' (by rw [hsl]; unfold AQ; omega) fun w' h2 o2 f2 _=>?_
     exact hJ2 w' h2 f2 o2
  ·have : i = bk.inn.length:=by omega
   subst this
   simp only [go_sem,reduceIte,qq]
   rw [List.take_length] at o
   exact hJ w h' f' (o.row.mono (Fr.refl _ _) fun _ _ _ x=>x.fr f')
end
def inK (m : Img) (f : Fn) (i : Nat) (t : Int) (k : Nat) : Bool:=(decide (t = -1) || m.isTy t) && (!decide (i = 0) || decide (t = if k < f.params.length then f.params.getD k 0 else -1))
theorem VH (m : Img) (f : Fn) (i : Nat) (inn : List Int) : ME m f i inn = (decide ((inn.length : Int) = f.slots) && (List.range inn.length).all fun k=>inK m f i (inn.getD k 0) k):=rfl
theorem H1 {n : Nat} {P : Nat -> Bool} (h : ∀ k,k < n -> P k = true) : (List.range n).all P = true:=List.all_eq_true.2 fun k hk=>h k (by simpa using hk)
theorem H0 {n : Nat} {P : Nat -> Bool} {k : Nat} (hk : k < n) (h : P k = false) : (List.range n).all P = false:=by
 rw [List.all_eq_false]; exact ⟨k,by simpa using hk,by rw [h]; decide⟩
section
variable {PK : H -> Prop} {h : H}
theorem blkR.ln {x : Blk} {c : List AV} (r : blkR h x c) : c.length = 2:=by obtain ⟨_,_,rfl,_⟩:=r; rfl
theorem fnR.ln {x : Fn} {c : List AV} (r : fnR h x c) : c.length = 4:=by obtain ⟨_,_,rfl,_⟩:=r; rfl
theorem imgR.ln {x : Img} {c : List AV} (r : imgR h x c) : c.length = 7:=by obtain ⟨_,_,_,_,_,rfl,_⟩:=r; rfl
set_option maxHeartbeats 2000000 in
theorem frame_c {m : Img} {c : List AV} (rm : imgR h m c) (ml : m.types.length <= reachBytes) {f : Fn} {cf : List AV} (rf : fnR h f cf) (okf : f.ok) {K : AV -> H -> Prop} (hK : ∀ h',Fr [] h h' -> K (.bool (DA m f)) h') : DP PK 81 [.agg c,.agg cf] h K:=by
 refine runB81 ?_
 unfold sh81 zL zT zE zU zV zF zG zH
 refine B8 rm fun p h1 f1 hp gp rm1=>?_
 refine IN (rf.fr f1) fun q h2 f2 hq gq rf2=>?_
 have f02 : Fr [] h h2:=f1.trans f2
 have gp2:=f2 p _ (by simp) gp
 have rm2:=rm.fr f02
 have hcn:=rm.ln
 have rm2':=rm2
 obtain ⟨vt,vs,vx,vn,vf,ecm,m1,m2,m3,m4,m5⟩:=rm2
 obtain ⟨vp,vb,ecf,rp,rb⟩:=rf2
 clear rm1 rm rf
 have F : ∀ h',Fr [] h2 h' -> h'.read p 0 7 = some c /\ (h'.cell q 0 = some vp /\ h'.cell q 1 = some (.int .i64 f.result) /\ h'.cell q 2 = some (.int .i64 f.slots) /\ h'.cell q 3 = some vb) /\ imgR h' m c /\ Row h' vp f.params.length 1 (ic f.params) /\ RowOf h' 2 (blkR h') vb f.blocks /\ h'.cell p 0 = some vt:=fun h' f=>
  ⟨AR (f p _ (by simp) gp2) hcn,by have cc:=AD (f q _ (by simp) gq); rw [cc,cc,cc,cc,ecf]; exact ⟨rfl,rfl,rfl,rfl⟩,rm2'.fr f,rp.fr f,rb.mono f fun _ _ _ x=>x.fr f,by rw [AD (f p _ (by simp) gp2),ecm]; rfl⟩
 have out : ∀ (o : Bool) h',Fr [] h2 h' -> DA m f = o -> K (.bool o) h':=fun o h' f' e=>by
  have:=hK h' (f02.trans f'); rw [e] at this; exact this
 have e : DA m f = (f.params.all m.isTy && m.isTy f.result && decide (0 <= f.slots) && decide ((f.params.length : Int) <= f.slots) && !f.blocks.isEmpty && (List.range f.blocks.length).all fun i=>ME m f i (f.blocks.getD i ⟨[],[]⟩).inn):=rfl
 obtain ⟨p0,⟨q0,q1,q2,q3⟩,rm0,rp0,rb0,pt0⟩:=F h2 (Fr.refl _ _)
 have hmt:=m1.len
 simp only [go_sem,reduceIte,p0,q0]
 refine M8 rm0 ml rp0 okf.1.1 fun h3 f3=>?_
 obtain ⟨p3,⟨q0,q1,q2,q3⟩,rm3,rp3,rb3,pt3⟩:=F h3 f3
 cases hz : f.params.all m.isTy with
 | false=>
  rw [hz] at e
  simp only [go_sem,reduceIte]
  exact out false h3 f3 (by rw [e]; rfl)
 | true=>
  rw [hz,Bool.true_and] at e
  simp only [go_sem,reduceIte,p3,q1]
  refine IW fun v4 h4 f4 rv4=>?_
  have f4:=f3.trans f4
  refine M8 (L:=[f.result]) (F h4 f4).2.2.1 ml rv4 (by show (1 : Nat) <= _; decide) fun h5 f5=>?_
  have f5:=f4.trans f5
  obtain ⟨p5,⟨q0,q1,q2,q3⟩,rm5,rp5,rb5,pt5⟩:=F h5 f5
  have er : [f.result].all m.isTy = m.isTy f.result:=by rw [List.all_cons,List.all_nil,Bool.and_true]
  rw [er]
  cases hz2 : m.isTy f.result with
  | false=>
   rw [hz2] at e
   simp only [go_sem,reduceIte]
   exact out false h5 f5 (by rw [e]; rfl)
  | true=>
   rw [hz2,Bool.true_and] at e
   by_cases s0 : f.slots < 0
   ·rw [decide_eq_false (p:=0 <= f.slots) (by omega)] at e
    simp only [go_sem,reduceIte,q2,s0]
    exact out false h5 f5 (by rw [e]; rfl)
   rw [decide_eq_true (p:=0 <= f.slots) (by omega),Bool.true_and] at e
   by_cases s1 : f.slots < (f.params.length : Int)
   ·rw [decide_eq_false (p:=(f.params.length : Int) <= f.slots) (by omega)] at e
    simp only [go_sem,reduceIte,q2,s0,q0,rp5.len,s1]
    exact out false h5 f5 (by rw [e]; rfl)
   rw [decide_eq_true (p:=(f.params.length : Int) <= f.slots) (by omega),Bool.true_and] at e
   by_cases s2 : (f.blocks.length : Int) = 0
   ·have : f.blocks = []:=List.eq_nil_of_length_eq_zero (by omega)
    simp only [go_sem,reduceIte,q2,s0,q0,rp5.len,s1,q3,rb5.len,s2]
    exact out false h5 f5 (by rw [e,this]; rfl)
   have hne : f.blocks.isEmpty = false:=by cases hb : f.blocks with | nil=>rw [hb] at s2; exact absurd rfl s2 | cons a l=>rfl
   rw [hne,Bool.not_false,Bool.true_and] at e
   simp only [go_sem,reduceIte,q2,s0,q0,rp5.len,s1,q3,rb5.len,s2]
   have hbl:=okf.2.2.2.1
   refine AI (fun (J : H -> Prop)=>((List.range f.blocks.length).all fun i=>ME m f i (f.blocks.getD i ⟨[],[]⟩).inn) = true -> ∀ h',Fr [] h2 h' -> J h') (fun hall h' f'=>out true h' f' (by rw [e]; exact hall)) fun J hJ=>?_
   refine AS (f.blocks.length + 1) (fun cn ls h'=>∃ i : Nat,ls = [.int .i64 i] /\ i <= f.blocks.length /\ Fr [] h2 h' /\ (∀ j,j < i -> ME m f j (f.blocks.getD j ⟨[],[]⟩).inn = true) /\ cn = f.blocks.length + 1 - i) ⟨0,rfl,by omega,f5,fun j hj=>absurd hj (by omega),rfl⟩ ?_
   rintro cn ls h' ⟨i,rfl,hi,f',hall,rfl⟩
   by_cases qq : (i : Int) < f.blocks.length
   ·have hi' : i < f.blocks.length:=by omega
    obtain ⟨bk,hbk⟩:=BG hi'
    have eg : f.blocks.getD i ⟨[],[]⟩ = bk:=by rw [List.getD_eq_getElem?_getD,hbk]; rfl
    have en:=B0 i (by unfold reachBytes at hbl; omega)
    obtain ⟨p6,⟨q0,q1,q2,q3⟩,rm6,rp6,rb6,pt6⟩:=F h' f'
    obtain ⟨bb,bo,cb,w1,w2,w3,w4,w5⟩:=rb6.el hbk
    have okb:=okf.2.2.2.2 bk (List.mem_of_getElem? hbk)
    have bad : ME m f i bk.inn = false -> ∀ h'',Fr [] h2 h'' -> K (.bool false) h'':=fun z h'' f''=>out false h'' f'' (by rw [e]; exact H0 hi' (by rw [eg]; exact z))
    simp only [go_sem,reduceIte,qq,w1,w4]
    refine AI (fun (J : H -> Prop)=>ME m f i bk.inn = true -> ∀ h'',Fr [] h2 h'' -> J h'') (fun z h'' f''=>?_) fun J2 hJ2=>?_
    ·rw [en]
     exact ⟨f.blocks.length + 1 - (i + 1),by omega,i + 1,rfl,by omega,f'',fun j hj=>by
      by_cases q : j = i
      ·rw [q,eg]; exact z
      ·exact hall j (by omega),rfl⟩
    ·refine BL rfl w3 rfl w2.leaves fun a h7 f7 ha ga=>?_
     have f7':=f'.trans f7
     obtain ⟨p7,⟨q0,q1,q2,q3⟩,rm7,rp7,rb7,pt7⟩:=F h7 f7'
     obtain ⟨vi,vc,ecb,ri,_⟩:=w2.fr f7
     have a0 : h7.cell a 0 = some vi:=by rw [AD ga,ecb]; rfl
     rw [VH] at bad hJ2
     by_cases l0 : (bk.inn.length : Int) = f.slots
     ·rw [decide_eq_true l0,Bool.true_and] at bad hJ2
      simp only [go_sem,reduceIte,a0,ri.len,q2,l0]
      have hil:=okb.1.1
      have hl0 : f.slots = (bk.inn.length : Int):=l0.symm
      rw [hl0]
      refine AS (bk.inn.length + 1) (fun cn ls h''=>∃ k : Nat,ls = [.int .i64 k] /\ k <= bk.inn.length /\ h'' = h7 /\ (∀ j,j < k -> inK m f i (bk.inn.getD j 0) j = true) /\ cn = bk.inn.length + 1 - k) ⟨0,rfl,by omega,rfl,fun j hj=>absurd hj (by omega),rfl⟩ ?_
      rintro cn ls h'' ⟨k,rfl,hk,eh,hin,rfl⟩
      rw [eh]
      by_cases kk : (k : Int) < bk.inn.length
      ·have hk' : k < bk.inn.length:=by omega
       obtain ⟨t,ht⟩:=BG hk'
       have et : bk.inn.getD k 0 = t:=by rw [List.getD_eq_getElem?_getD,ht]; rfl
       have en2:=B0 k (by unfold reachBytes at hil; omega)
       obtain ⟨b7,o7,u1,u2⟩:=ri.atI ht
       have bad2 : inK m f i t k = false -> K (.bool false) h7:=fun z=>bad (H0 hk' (by rw [et]; exact z)) h7 f7'
       have good : inK m f i t k = true -> ∃ n',n' < bk.inn.length + 1 - k /\ ∃ k' : Nat,[AV.int .i64 ((k + 1 : Nat) : Int)] = [.int .i64 (k' : Int)] /\ k' <= bk.inn.length /\ (∀ j,j < k' -> inK m f i (bk.inn.getD j 0) j = true) /\ n' = bk.inn.length + 1 - k':=fun z=>
        ⟨bk.inn.length + 1 - (k + 1),by omega,k + 1,rfl,by omega,fun j hj=>by
         by_cases q : j = k
         ·rw [q,et]; exact z
         ·exact hin j (by omega),rfl⟩
       by_cases t0 : t < -1
       ·simp only [go_sem,reduceIte,kk,u1,u2,t0]
        exact bad2 (by unfold inK Img.isTy; rw [decide_eq_false (p:=t = -1) (by omega),decide_eq_false (p:=0 <= t) (by omega)]; rfl)
       by_cases t1 : (m.types.length : Int) <= t
       ·simp only [go_sem,reduceIte,kk,u1,u2,t0,pt7,hmt,t1]
        exact bad2 (by unfold inK Img.isTy; rw [decide_eq_false (p:=t = -1) (by omega),decide_eq_false (p:=t < _) (by omega),Bool.and_false]; rfl)
       have z1 : (decide (t = -1) || m.isTy t) = true:=by
        by_cases q : t = -1
        ·rw [decide_eq_true q]; rfl
        ·rw [(FQ m t).2 (by omega),Bool.or_true]
       have ek : inK m f i t k = (!decide (i = 0) || decide (t = if k < f.params.length then f.params.getD k 0 else -1)):=by unfold inK; rw [z1,Bool.true_and]
       by_cases i0 : i = 0
       ·rw [decide_eq_true i0,Bool.not_true,Bool.false_or] at ek
        have i0' : (i : Int) = 0:=by omega
        by_cases kp : k < f.params.length
        ·have kp' : (k : Int) < (f.params.length : Int):=by omega
         obtain ⟨g,hg⟩:=BG kp
         have eg2 : f.params.getD k 0 = g:=by rw [List.getD_eq_getElem?_getD,hg]; rfl
         rw [if_pos kp,eg2] at ek
         obtain ⟨b8,o8,v1,v2⟩:=rp7.atI hg
         by_cases tg : t = g
         ·have kp2 : ¬ (f.params.length : Int) <= (k : Int):=by omega
          rw [decide_eq_true tg] at ek
          simp only [go_sem,reduceIte,kk,u1,u2,t0,pt7,hmt,t1,i0',q0,rp7.len,kp',v1,v2,eq_true tg,kp2,en2]
          exact good ek
         ·rw [decide_eq_false tg] at ek
          simp only [go_sem,reduceIte,kk,u1,u2,t0,pt7,hmt,t1,i0',q0,rp7.len,kp',v1,v2,tg]
          exact bad2 ek
        ·have kp' : ¬ (k : Int) < (f.params.length : Int):=by omega
         have kp2 : (f.params.length : Int) <= (k : Int):=by omega
         rw [if_neg kp] at ek
         by_cases tg : t = -1
         ·rw [decide_eq_true tg] at ek
          simp only [go_sem,reduceIte,kk,u1,u2,t0,pt7,hmt,t1,i0',q0,rp7.len,kp',kp2,eq_true tg,en2]
          exact good ek
         ·rw [decide_eq_false tg] at ek
          simp only [go_sem,reduceIte,kk,u1,u2,t0,pt7,hmt,t1,i0',q0,rp7.len,kp',kp2,tg]
          exact bad2 ek
       ·rw [decide_eq_false i0,Bool.not_false,Bool.true_or] at ek
        have i0' : ¬ (i : Int) = 0:=by omega
        simp only [go_sem,reduceIte,kk,u1,u2,t0,pt7,hmt,t1,i0',en2]
        exact good ek
      ·have : k = bk.inn.length:=by omega
       subst this
       simp only [go_sem,reduceIte,kk]
       exact hJ2 (H1 hin) h7 f7'
     ·rw [decide_eq_false l0,Bool.false_and] at bad
      simp only [go_sem,reduceIte,a0,ri.len,q2,l0]
      exact bad rfl h7 f7'
   ·have : i = f.blocks.length:=by omega
    subst this
    simp only [go_sem,reduceIte,qq]
    exact hJ (H1 hall) h' f'
end
def CI (m : Img) : Bool:=decide (DU m = 0) && P7 m
theorem A7 (m : Img) : CI m = true ↔ DU m = 0 /\ m.types.isEmpty = false /\ m.shapes.isEmpty = false /\ (m.ty 0).imm = true /\ (m.ty 0).sh.isEmpty = true /\ (m.shp 0).kind = 3 /\
  (m.types.all (fun t=>CN m.shapes.length (-1) t.sh)) = true /\ m.shapes.all (CU m) = true /\ m.isTy m.exn = true /\ (m.ty m.exn).imm = true /\ ((m.ty m.exn).sh.all fun s=>decide ((m.shp s).kind = 1)) = true /\
  m.isFn m.main = true /\ (m.fn m.main).params.isEmpty = true /\ m.fns.all (DA m) = true:=by
 unfold CI P7
 simp only [Bool.and_eq_true,decide_eq_true_eq,Bool.not_eq_true']
 constructor
 ·rintro ⟨a0,⟨⟨⟨⟨⟨⟨⟨⟨⟨h1,h2⟩,h3⟩,h4⟩,h5⟩,h6⟩,h7⟩,⟨⟨h8,h9⟩,h10⟩⟩,⟨h11,h12⟩⟩,h13⟩⟩
  exact ⟨a0,h1,h2,h3,h4,h5,h6,h7,h8,h9,h10,h11,h12,h13⟩
 ·rintro ⟨a0,h1,h2,h3,h4,h5,h6,h7,h8,h9,h10,h11,h12,h13⟩
  exact ⟨a0,⟨⟨⟨⟨⟨⟨⟨⟨⟨h1,h2⟩,h3⟩,h4⟩,h5⟩,h6⟩,h7⟩,⟨⟨h8,h9⟩,h10⟩⟩,⟨h11,h12⟩⟩,h13⟩⟩
theorem DL {α : Type} (l : List α) : l.isEmpty = true ↔ l.length = 0:=by cases l <;> simp
theorem C5 {α : Type} (l : List α) : l.isEmpty = false ↔ ¬ l.length = 0:=by cases l <;> simp
theorem DE {α : Type} {l : List α} {i : Nat} {x : α} (h : l[i]? = some x) : l.drop i = x :: l.drop (i + 1):=by
 have hi:=(List.getElem?_eq_some_iff.1 h).1
 rw [List.drop_eq_getElem_cons hi]; congr 1
 rw [List.getElem?_eq_getElem hi] at h; injection h
section
variable {PK : H -> Prop} {h : H}
theorem shR.ln {x : Shp} {c : List AV} (r : shR h x c) : c.length = 3 /\ X.leaves c = true:=by obtain ⟨v,rfl,r⟩:=r; exact ⟨rfl,by simp only [X.leaves,r.one.1]; rfl⟩
theorem M9 {m : Img} {vt : AV} (r : RowOf h 2 (tyR h) vt m.types) {t : Int} (h0 : 0 <= t) (h1 : t < m.types.length) : ∃ b o v,(∀ k,iaA 2 vt (.int k t) = some (.ptr b o)) /\ h.cell b o = some (.bool (m.ty t).imm) /\ h.cell b (o + 1) = some v /\ Row h v (m.ty t).sh.length 1 (ic (m.ty t).sh) /\ m.ty t ∈ m.types:=by
 obtain ⟨x,hx⟩ : ∃ x,m.types[t.toNat]? = some x:=⟨m.types[t.toNat]'(by omega),by simp [show t.toNat < m.types.length by omega]⟩
 obtain ⟨b,o,c,q1,q2,q3,q4,q5⟩:=r.el hx
 have e : m.ty t = x:=by unfold Img.ty; rw [List.getD_eq_getElem?_getD,hx]; rfl
 rw [show ((t.toNat : Nat) : Int) = t by omega] at q1
 obtain ⟨v,rfl,rv⟩:=q2
 rw [e]
 exact ⟨b,o,v,q1,q5 0 (by decide),q5 1 (by decide),rv,List.mem_of_getElem? hx⟩
set_option maxHeartbeats 4000000 in
theorem RP {m : Img} {c : List AV} (rm : imgR h m c) (ok : m.ok) {K : AV -> H -> Prop} (hK : ∀ h',Fr [] h h' -> K (.bool (CI m)) h') : DP PK 31 [.agg c] h K:=by
 refine runB31 ?_
 unfold sh31 zL zT zE zU zV zF zH
 refine B8 rm fun p h1 f1 hp gp rm1=>?_
 have hcn:=rm.ln
 have rm1':=rm1
 obtain ⟨vt,vs,vx,vn,vf,ecm,m1,m2,m3,m4,m5⟩:=rm1
 clear rm
 obtain ⟨⟨k1,k1'⟩,⟨k2,k2'⟩,⟨k3,k3'⟩,⟨k4,k4'⟩,⟨k5,k5'⟩,k6,k7⟩:=ok
 have ok : m.ok:=⟨⟨k1,k1'⟩,⟨k2,k2'⟩,⟨k3,k3'⟩,⟨k4,k4'⟩,⟨k5,k5'⟩,k6,k7⟩
 have F : ∀ h',Fr [] h1 h' -> h'.read p 0 7 = some c /\ (h'.cell p 0 = some vt /\ h'.cell p 1 = some vs /\ h'.cell p 4 = some vf /\ h'.cell p 5 = some (.int .i64 m.main) /\ h'.cell p 6 = some (.int .i64 m.exn)) /\ imgR h' m c /\ RowOf h' 2 (tyR h') vt m.types /\ RowOf h' 3 (shR h') vs m.shapes /\ RowOf h' 4 (fnR h') vf m.fns:=fun h' f=>
  ⟨AR (f p _ (by simp) gp) hcn,by have cc:=AD (f p _ (by simp) gp); rw [cc,cc,cc,cc,cc,ecm]; exact ⟨rfl,rfl,rfl,rfl,rfl⟩,rm1'.fr f,m1.mono f fun _ _ _ x=>x.fr f,m2.mono f fun _ _ _ x=>x.fr f,m5.mono f fun _ _ _ x=>x.fr f⟩
 have no : ∀ h',Fr [] h1 h' -> (CI m = true -> False) -> K (.bool false) h':=fun h' f' e=>by
  have:=hK h' (f1.trans f')
  rw [show CI m = false from Bool.eq_false_iff.2 e] at this
  exact this
 obtain ⟨p0,⟨q0,q1,q4,q5,q6⟩,rm0,m10,m20,m50⟩:=F h1 (Fr.refl _ _)
 simp only [go_sem,reduceIte,Int.reduceLT,Int.reduceEq,p0]
 refine TV (XT rm0 ok fun h2 f2=>?_)
 obtain ⟨p2,⟨q0,q1,q4,q5,q6⟩,rm2,m12,m22,m52⟩:=F h2 f2
 by_cases c0' : ¬ DU m = 0
 ·simp only [go_sem,reduceIte,Int.reduceLT,Int.reduceEq,c0']
  exact no h2 f2 fun w=>c0' ((A7 m).1 w).1
 have c0 : DU m = 0:=Decidable.not_not.1 c0'
 by_cases c1 : m.types.length = 0
 ·have c1' : ((m.types.length : Nat) : Int) < 1:=by omega
  simp only [go_sem,reduceIte,Int.reduceLT,Int.reduceEq,c0,q0,m12.len,c1']
  exact no h2 f2 fun w=>by have:=((A7 m).1 w).2.1; rw [C5] at this; exact this c1
 have c1' : ¬ ((m.types.length : Nat) : Int) < 1:=by omega
 by_cases c2 : m.shapes.length = 0
 ·have c2' : ((m.shapes.length : Nat) : Int) < 1:=by omega
  simp only [go_sem,reduceIte,Int.reduceLT,Int.reduceEq,c0,q0,m12.len,c1',q1,m22.len,c2']
  exact no h2 f2 fun w=>by have:=((A7 m).1 w).2.2.1; rw [C5] at this; exact this c2
 have c2' : ¬ ((m.shapes.length : Nat) : Int) < 1:=by omega
 obtain ⟨b1,o1,vv,v1,v2,v3,v4,v5⟩:=M9 m12 (t:=0) (by omega) (by omega)
 cases c3 : (m.ty 0).imm with
 | false=>
  rw [c3] at v2
  simp only [go_sem,reduceIte,Int.reduceLT,Int.reduceEq,c0,q0,m12.len,c1',q1,m22.len,c2',v1,v2]
  exact no h2 f2 fun w=>by have:=((A7 m).1 w).2.2.2.1; rw [c3] at this; cases this
 | true=>
 rw [c3] at v2
 by_cases c4 : ((m.ty 0).sh.length : Int) = 0
 case neg=>
  simp only [go_sem,reduceIte,Int.reduceLT,Int.reduceEq,c0,q0,m12.len,c1',q1,m22.len,c2',v1,v2,v3,v4.len,c4]
  exact no h2 f2 fun w=>by have:=((A7 m).1 w).2.2.2.2.1; rw [DL] at this; omega
 case pos=>
 obtain ⟨b2,o2,vfs,u1,u2,u3,u4,u5⟩:=EO m22 (s:=0) (by omega) (by omega)
 by_cases c5 : (m.shp 0).kind = 3
 case neg=>
  simp only [go_sem,reduceIte,Int.reduceLT,Int.reduceEq,c0,q0,m12.len,c1',q1,m22.len,c2',v1,v2,v3,v4.len,c4,u1,u2,c5]
  exact no h2 f2 fun w=>c5 ((A7 m).1 w).2.2.2.2.2.1
 case pos=>
 simp only [go_sem,reduceIte,Int.reduceLT,Int.reduceEq,c0,q0,m12.len,c1',q1,m22.len,c2',v1,v2,v3,v4.len,c4,u1,u2,c5]
 have d1 : m.types.isEmpty = false:=(C5 _).2 c1
 have d2 : m.shapes.isEmpty = false:=(C5 _).2 c2
 have d4 : (m.ty 0).sh.isEmpty = true:=(DL _).2 (by omega)
 refine AI (fun (J : H -> Prop)=>(m.types.all fun t=>CN m.shapes.length (-1) t.sh) = true -> ∀ h',Fr [] h1 h' -> J h') (fun e6 h3 f3=>?_) fun J hJ=>?_
 ·have okty : ∀ t ∈ m.types,∀ s ∈ t.sh,0 <= s /\ s < m.shapes.length:=fun t ht s hs=>by
   have:=((GD _ _ _).1 (List.all_eq_true.1 e6 t ht)).2 s hs; omega
  refine AI (fun (J : H -> Prop)=>m.shapes.all (CU m) = true -> ∀ h',Fr [] h1 h' -> J h') (fun e7 h4 f4=>?_) fun J hJ=>?_
  ·obtain ⟨p4,⟨q0,q1,q4,q5,q6⟩,rm4,m14,m24,m54⟩:=F h4 f4
   simp only [go_sem,reduceIte,Int.reduceLT,Int.reduceEq,p4,q6]
   refine IW fun v5 h5 f5 rv5=>?_
   have f5:=f4.trans f5
   refine M8 (L:=[m.exn]) (F h5 f5).2.2.1 k1 rv5 (by show (1 : Nat) <= _; decide) fun h6 f6=>?_
   have f6:=f5.trans f6
   obtain ⟨p6,⟨q0,q1,q4,q5,q6⟩,rm6,m16,m26,m56⟩:=F h6 f6
   have er : [m.exn].all m.isTy = m.isTy m.exn:=by rw [List.all_cons,List.all_nil,Bool.and_true]
   rw [er]
   cases e8 : m.isTy m.exn with
   | false=>
    simp only [go_sem,reduceIte,Int.reduceLT,Int.reduceEq]
    exact no h6 f6 fun w=>by have:=((A7 m).1 w).2.2.2.2.2.2.2.2.1; rw [e8] at this; cases this
   | true=>
   have tx:=(FQ m _).1 e8
   obtain ⟨b7,o7,vx7,w1,w2,w3,w4,w5⟩:=M9 m16 tx.1 tx.2
   cases e9 : (m.ty m.exn).imm with
   | false=>
    rw [e9] at w2
    simp only [go_sem,reduceIte,Int.reduceLT,Int.reduceEq,q0,q6,w1,w2]
    exact no h6 f6 fun w=>by have:=((A7 m).1 w).2.2.2.2.2.2.2.2.2.1; rw [e9] at this; cases this
   | true=>
   rw [e9] at w2
   have badF : m.isFn m.main = false -> CI m = true -> False:=fun z w=>by have:=((A7 m).1 w).2.2.2.2.2.2.2.2.2.2.2.1; rw [z] at this; cases this
   by_cases g0 : m.main < 0
   ·simp only [go_sem,reduceIte,Int.reduceLT,Int.reduceEq,q0,q6,w1,w2,q5,g0]
    exact no h6 f6 (badF (by unfold Img.isFn; rw [decide_eq_false (p:=0 <= m.main) (by omega)]; rfl))
   by_cases g1 : (m.fns.length : Int) <= m.main
   ·simp only [go_sem,reduceIte,Int.reduceLT,Int.reduceEq,q0,q6,w1,w2,q5,g0,q4,m56.len,g1]
    exact no h6 f6 (badF (by unfold Img.isFn; rw [decide_eq_false (p:=m.main < _) (by omega),Bool.and_false]))
   have e11 : m.isFn m.main = true:=(GU m _).2 (by omega)
   obtain ⟨b8,o8,c8,vp,vb,y1,y2,y3,y4,y5,y6,y7,y8,y9⟩:=OB m56 (i:=m.main) (by omega) (by omega)
   by_cases g2 : ((m.fn m.main).params.length : Int) = 0
   case neg=>
    simp only [go_sem,reduceIte,Int.reduceLT,Int.reduceEq,q0,q6,w1,w2,q5,g0,q4,m56.len,g1,y1,y5,y8.len,g2]
    exact no h6 f6 fun w=>by have:=((A7 m).1 w).2.2.2.2.2.2.2.2.2.2.2.2.1; rw [DL] at this; omega
   case pos=>
   have e12 : (m.fn m.main).params.isEmpty = true:=(DL _).2 (by omega)
   simp only [go_sem,reduceIte,Int.reduceLT,Int.reduceEq,q0,q6,w1,w2,q5,g0,q4,m56.len,g1,y1,y5,y8.len,g2]
   refine AI (fun (J : H -> Prop)=>((m.ty m.exn).sh.all fun s=>decide ((m.shp s).kind = 1)) = true -> J h6) (fun e10=>?_) fun J hJ=>?_
   ·obtain ⟨p6,⟨q0,q1,q4,q5,q6⟩,rm6,m16,m26,m56⟩:=F h6 f6
    refine AI (fun (J : H -> Prop)=>m.fns.all (DA m) = true -> ∀ h',Fr [] h1 h' -> J h') (fun e13 h7 f7=>?_) fun J hJ=>?_
    ·have:=hK h7 (f1.trans f7)
     rw [(A7 m).2 ⟨c0,d1,d2,c3,d4,c5,e6,e7,e8,e9,e10,e11,e12,e13⟩] at this
     exact this
    ·simp only [go_sem,reduceIte,Int.reduceLT,Int.reduceEq,q4,m56.len]
     refine AS (m.fns.length + 1) (fun cn ls h'=>∃ i : Nat,ls = [.int .i64 i] /\ i <= m.fns.length /\ Fr [] h1 h' /\ m.fns.all (DA m) = (m.fns.drop i).all (DA m) /\ cn = m.fns.length + 1 - i) ⟨0,rfl,by omega,f6,rfl,rfl⟩ ?_
     rintro cn ls h' ⟨i,rfl,hi,f',eE,rfl⟩
     by_cases qq : (i : Int) < m.fns.length
     ·have hi' : i < m.fns.length:=by omega
      obtain ⟨x,hx⟩:=BG hi'
      rw [DE hx,List.all_cons] at eE
      have en:=B0 i (by unfold reachBytes at k5; omega)
      obtain ⟨p8,_,rm8,_,_,m58⟩:=F h' f'
      obtain ⟨bb,bo,cb,z1,z2,z3,z4,z5⟩:=m58.el hx
      simp only [go_sem,reduceIte,Int.reduceLT,Int.reduceEq,qq,z1,z4]
      refine BL rfl z3 rfl z2.leaves fun a h8 f8 ha ga=>?_
      have f8':=f'.trans f8
      obtain ⟨p9,_,rm9,_⟩:=F h8 f8'
      simp only [go_sem,reduceIte,Int.reduceLT,Int.reduceEq,p9,AR ga z3]
      refine frame_c rm9 k1 (z2.fr f8) (k5' x (List.mem_of_getElem? hx)) fun h9 f9=>?_
      have f9':=f8'.trans f9
      cases hz : DA m x with
      | false=>
       rw [hz,Bool.false_and] at eE
       simp only [go_sem,reduceIte,Int.reduceLT,Int.reduceEq]
       exact no h9 f9' fun w=>by have:=((A7 m).1 w).2.2.2.2.2.2.2.2.2.2.2.2.2; rw [eE] at this; cases this
      | true=>
       rw [hz,Bool.true_and] at eE
       simp only [go_sem,reduceIte,Int.reduceLT,Int.reduceEq,en]
       exact ⟨m.fns.length + 1 - (i + 1),by omega,i + 1,rfl,by omega,f9',eE,rfl⟩
     ·have : i = m.fns.length:=by omega
      subst this
      simp only [go_sem,reduceIte,Int.reduceLT,Int.reduceEq,qq]
      rw [List.drop_length] at eE
      exact hJ eE h' f'
   ·have htl : (m.ty m.exn).sh.length <= reachBytes:=(k1' _ w5).1
    simp only [go_sem,reduceIte,Int.reduceLT,Int.reduceEq,q0,q6,w1,w3,w4.len]
    refine AS ((m.ty m.exn).sh.length + 1) (fun cn ls h'=>∃ i : Nat,ls = [.int .i64 i] /\ i <= (m.ty m.exn).sh.length /\ h' = h6 /\ ((m.ty m.exn).sh.all fun s=>decide ((m.shp s).kind = 1)) = (((m.ty m.exn).sh.drop i).all fun s=>decide ((m.shp s).kind = 1)) /\ cn = (m.ty m.exn).sh.length + 1 - i) ⟨0,rfl,by omega,rfl,rfl,rfl⟩ ?_
    rintro cn ls h' ⟨i,rfl,hi,eh,eE,rfl⟩
    rw [eh]
    by_cases qq : (i : Int) < (m.ty m.exn).sh.length
    ·have hi' : i < (m.ty m.exn).sh.length:=by omega
     obtain ⟨x,hx⟩:=BG hi'
     rw [DE hx,List.all_cons] at eE
     have en:=B0 i (by unfold reachBytes at htl; omega)
     obtain ⟨b9,o9,z1,z2⟩:=w4.atI hx
     have hxs:=okty _ w5 x (List.mem_of_getElem? hx)
     obtain ⟨bz,oz,vz,z3,z4,z5,z6,z7⟩:=EO m26 hxs.1 hxs.2
     by_cases kk : (m.shp x).kind = 1
     ·rw [decide_eq_true kk,Bool.true_and] at eE
      simp only [go_sem,reduceIte,Int.reduceLT,Int.reduceEq,qq,z1,z2,q1,z3,z4,kk,en]
      exact ⟨(m.ty m.exn).sh.length + 1 - (i + 1),by omega,i + 1,rfl,by omega,eE,rfl⟩
     ·rw [decide_eq_false kk,Bool.false_and] at eE
      simp only [go_sem,reduceIte,Int.reduceLT,Int.reduceEq,qq,z1,z2,q1,z3,z4,kk]
      exact no h6 f6 fun w=>by have:=((A7 m).1 w).2.2.2.2.2.2.2.2.2.2.1; rw [eE] at this; cases this
    ·have : i = (m.ty m.exn).sh.length:=by omega
     subst this
     simp only [go_sem,reduceIte,Int.reduceLT,Int.reduceEq,qq]
     rw [List.drop_length] at eE
     exact hJ eE
  ·obtain ⟨p3,⟨q0,q1,q4,q5,q6⟩,rm3,m13,m23,m53⟩:=F h3 f3
   simp only [go_sem,reduceIte,Int.reduceLT,Int.reduceEq,q1,m23.len]
   refine AS (m.shapes.length + 1) (fun cn ls h'=>∃ i : Nat,ls = [.int .i64 i] /\ i <= m.shapes.length /\ Fr [] h1 h' /\ m.shapes.all (CU m) = (m.shapes.drop i).all (CU m) /\ cn = m.shapes.length + 1 - i) ⟨0,rfl,by omega,f3,rfl,rfl⟩ ?_
   rintro cn ls h' ⟨i,rfl,hi,f',eE,rfl⟩
   by_cases qq : (i : Int) < m.shapes.length
   ·have hi' : i < m.shapes.length:=by omega
    obtain ⟨x,hx⟩:=BG hi'
    rw [DE hx,List.all_cons] at eE
    have en:=B0 i (by unfold reachBytes at k2; omega)
    obtain ⟨p8,_,rm8,_,m28,_⟩:=F h' f'
    obtain ⟨bb,bo,cb,z1,z2,z3,z4,z5⟩:=m28.el hx
    have okx:=k2' x (List.mem_of_getElem? hx)
    simp only [go_sem,reduceIte,Int.reduceLT,Int.reduceEq,qq,z1,z4]
    refine BL rfl z3 rfl z2.ln.2 fun a h8 f8 ha ga=>?_
    have f8':=f'.trans f8
    obtain ⟨p9,_,rm9,_⟩:=F h8 f8'
    obtain ⟨vf',ecb,rvf⟩:=z2.fr f8
    have a0 : h8.cell a 0 = some (.int .i64 x.kind):=by rw [AD ga,ecb]; rfl
    have a1 : h8.cell a 1 = some vf':=by rw [AD ga,ecb]; rfl
    have es : CU m x = (decide (1 <= x.kind) && decide (x.kind <= 3) && (!decide (x.kind = 2) || decide (x.fs.length = 1)) && (!decide (x.kind = 3) || decide (x.fs.length = 0)) && x.fs.all m.isTy):=rfl
    have bad : CU m x = false -> ∀ h'',Fr [] h1 h'' -> K (.bool false) h'':=fun z h'' f''=>no h'' f'' fun w=>by
     have:=((A7 m).1 w).2.2.2.2.2.2.2.1; rw [eE,z] at this; cases this
    by_cases g0 : x.kind < 1
    ·simp only [go_sem,reduceIte,Int.reduceLT,Int.reduceEq,a1,rvf.len,a0,g0]
     exact bad (by rw [es,decide_eq_false (p:=1 <= x.kind) (by omega)]; rfl) h8 f8'
    rw [decide_eq_true (p:=1 <= x.kind) (by omega),Bool.true_and] at es
    by_cases g1 : 3 < x.kind
    ·simp only [go_sem,reduceIte,Int.reduceLT,Int.reduceEq,a1,rvf.len,a0,g0,g1]
     exact bad (by rw [es,decide_eq_false (p:=x.kind <= 3) (by omega)]; rfl) h8 f8'
    rw [decide_eq_true (p:=x.kind <= 3) (by omega),Bool.true_and] at es
    have fields : CU m x = x.fs.all m.isTy -> DP AU 80 [.agg c,vf'] h8 fun t107 h=>AA (unOp .not t107) h fun t108 h=>AC t108 (K (.bool false) h) (AA (binOp .add .num (.int .i64 i) (.int .i64 1)) h fun t110 h=>(∃ n',n' < m.shapes.length + 1 - i /\ ∃ i' : Nat,[t110] = [.int .i64 (i' : Int)] /\ i' <= m.shapes.length /\ Fr [] h1 h /\ m.shapes.all (CU m) = (m.shapes.drop i').all (CU m) /\ n' = m.shapes.length + 1 - i')):=fun es=>by
     refine M8 rm9 k1 rvf okx.2.1.1 fun h9 f9=>?_
     have f9':=f8'.trans f9
     cases hz : x.fs.all m.isTy with
     | false=>
      rw [hz] at es
      simp only [go_sem,reduceIte,Int.reduceLT,Int.reduceEq]
      exact bad es h9 f9'
     | true=>
      rw [hz] at es
      rw [es,Bool.true_and] at eE
      simp only [go_sem,reduceIte,Int.reduceLT,Int.reduceEq,en]
      exact ⟨m.shapes.length + 1 - (i + 1),by omega,i + 1,rfl,by omega,f9',eE,rfl⟩
    by_cases g2 : x.kind = 2
    ·have g3 : ¬ x.kind = 3:=by omega
     rw [decide_eq_true g2,decide_eq_false g3] at es
     by_cases g4 : (x.fs.length : Int) = 1
     ·rw [decide_eq_true (p:=x.fs.length = 1) (by omega)] at es
      have:=fields (by rw [es]; rfl)
      simp only [go_sem,reduceIte,Int.reduceLT,Int.reduceEq,a1,rvf.len,a0,g2,g4,p9]
      simpa only [go_sem,reduceIte,Int.reduceLT,Int.reduceEq] using this
     ·rw [decide_eq_false (p:=x.fs.length = 1) (by omega)] at es
      simp only [go_sem,reduceIte,Int.reduceLT,Int.reduceEq,a1,rvf.len,a0,g2,g4]
      exact bad (by rw [es]; rfl) h8 f8'
    ·by_cases g3 : x.kind = 3
     ·rw [decide_eq_true g3,decide_eq_false g2] at es
      by_cases g4 : (x.fs.length : Int) = 0
      ·rw [decide_eq_true (p:=x.fs.length = 0) (by omega)] at es
       have:=fields (by rw [es]; rfl)
       simp only [go_sem,reduceIte,Int.reduceLT,Int.reduceEq,a1,rvf.len,a0,g3,g4,p9]
       simpa only [go_sem,reduceIte,Int.reduceLT,Int.reduceEq] using this
      ·rw [decide_eq_false (p:=x.fs.length = 0) (by omega)] at es
       simp only [go_sem,reduceIte,Int.reduceLT,Int.reduceEq,a1,rvf.len,a0,g3,g4]
       exact bad (by rw [es]; rfl) h8 f8'
     ·rw [decide_eq_false g2,decide_eq_false g3] at es
      have:=fields (by rw [es]; rfl)
      simp only [go_sem,reduceIte,Int.reduceLT,Int.reduceEq,a1,rvf.len,a0,g0,g1,g2,g3,p9]
      simpa only [go_sem,reduceIte,Int.reduceLT,Int.reduceEq] using this
   ·have : i = m.shapes.length:=by omega
    subst this
    simp only [go_sem,reduceIte,Int.reduceLT,Int.reduceEq,qq]
    rw [List.drop_length] at eE
    exact hJ eE h' f'
 ·refine AS (m.types.length + 1) (fun cn ls h'=>∃ i : Nat,ls = [.int .i64 i] /\ i <= m.types.length /\ Fr [] h1 h' /\ (m.types.all fun t=>CN m.shapes.length (-1) t.sh) = ((m.types.drop i).all fun t=>CN m.shapes.length (-1) t.sh) /\ cn = m.types.length + 1 - i) ⟨0,rfl,by omega,f2,rfl,rfl⟩ ?_
  rintro cn ls h' ⟨i,rfl,hi,f',eE,rfl⟩
  by_cases qq : (i : Int) < m.types.length
  ·have hi' : i < m.types.length:=by omega
   obtain ⟨x,hx⟩:=BG hi'
   rw [DE hx,List.all_cons] at eE
   have en:=B0 i (by unfold reachBytes at k1; omega)
   obtain ⟨p8,_,rm8,m18,m28,_⟩:=F h' f'
   obtain ⟨bb,bo,cb,z1,z2,z3,z4,z5⟩:=m18.el hx
   simp only [go_sem,reduceIte,Int.reduceLT,Int.reduceEq,qq,z1,z4]
   refine BL rfl z3 rfl z2.leaves fun a h8 f8 ha ga=>?_
   have f8':=f'.trans f8
   obtain ⟨p9,⟨q0,q1,q4,q5,q6⟩,rm9,_,m29,_⟩:=F h8 f8'
   obtain ⟨vf',ecb,rvf⟩:=z2.fr f8
   have a1 : h8.cell a 1 = some vf':=by rw [AD ga,ecb]; rfl
   simp only [go_sem,reduceIte,Int.reduceLT,Int.reduceEq,a1,q1,m29.len]
   refine U2 rvf (k1' x (List.mem_of_getElem? hx)).1 _ ?_
   cases hz : CN m.shapes.length (-1) x.sh with
   | false=>
    rw [hz,Bool.false_and] at eE
    simp only [go_sem,reduceIte,Int.reduceLT,Int.reduceEq]
    exact no h8 f8' fun w=>by have:=((A7 m).1 w).2.2.2.2.2.2.1; rw [eE] at this; cases this
   | true=>
    rw [hz,Bool.true_and] at eE
    simp only [go_sem,reduceIte,Int.reduceLT,Int.reduceEq,en]
    exact ⟨m.types.length + 1 - (i + 1),by omega,i + 1,rfl,by omega,f8',eE,rfl⟩
  ·have : i = m.types.length:=by omega
   subst this
   simp only [go_sem,reduceIte,Int.reduceLT,Int.reduceEq,qq]
   rw [List.drop_length] at eE
   exact hJ eE h' f'
end
def IQ (r : Int × Int × Int × Bool) : AV:=.tup [.int .i64 r.1,.int .i64 r.2.1,.int .i64 r.2.2.1,.bool r.2.2.2]
theorem PV (m : Img) (f : Fn) (fs : List Fn) (i : Nat) : M6 m (f :: fs) i = match E1 m f f.blocks 0 with | some (k,n)=>some (i,k,n) | none=>M6 m fs (i + 1):=rfl
theorem LG (m : Img) (f : Fn) (b : Blk) (bs : List Blk) (k : Nat) : E1 m f (b :: bs) k = match DJ m f b with | some n=>some (k,n) | none=>E1 m f bs (k + 1):=rfl
section
variable {PK : H -> Prop} {h : H}
set_option maxHeartbeats 1000000 in
theorem XS {m : Img} {c : List AV} (rm : imgR h m c) (ok : m.ok) {K : AV -> H -> Prop} (hK : ∀ h',Fr [] h h' -> K (IQ (GW m (CI m))) h') : DP PK 28 [.agg c] h K:=by
 refine runB28 ?_
 unfold sh28 zF
 refine B8 rm fun p h1 f1 hp gp rm1=>?_
 have hcn:=rm.ln
 have rm1':=rm1
 obtain ⟨vt,vs,vx,vn,vf,ecm,m1,m2,m3,m4,m5⟩:=rm1
 clear rm
 have F : ∀ h',Fr [] h1 h' -> h'.read p 0 7 = some c /\ h'.cell p 4 = some vf /\ imgR h' m c /\ RowOf h' 4 (fnR h') vf m.fns:=fun h' f=>
  ⟨AR (f p _ (by simp) gp) hcn,by rw [AD (f p _ (by simp) gp),ecm]; rfl,rm1'.fr f,m5.mono f fun _ _ _ x=>x.fr f⟩
 obtain ⟨p0,q4,rm0,m50⟩:=F h1 (Fr.refl _ _)
 simp only [go_sem,reduceIte,p0]
 refine RP rm0 ok fun h2 f2=>?_
 obtain ⟨p2,q4,rm2,m52⟩:=F h2 f2
 have out : ∀ (r : Int × Int × Int × Bool) h',Fr [] h1 h' -> GW m (CI m) = r -> K (IQ r) h':=fun r h' f' e=>by
  have:=hK h' (f1.trans f'); rw [e] at this; exact this
 cases hw : CI m with
 | false=>
  simp only [go_sem,reduceIte]
  exact out (-1,-1,-1,false) h2 f2 (by rw [hw]; try rfl)
 | true=>
  have W : Wh m:=by
   unfold CI at hw
   rw [Bool.and_eq_true,decide_eq_true_eq] at hw
   exact wh_of ok hw.1 hw.2
  have eW : GW m (CI m) = match M6 m m.fns 0 with | some (i,k,n)=>((i : Int),(k : Int),(n : Int),false) | none=>(0,0,0,true):=by rw [hw]; rfl
  have hnl:=W.nl
  simp only [go_sem,reduceIte]
  refine AI (fun (J : H -> Prop)=>M6 m m.fns 0 = none -> ∀ h',Fr [] h1 h' -> J h') (fun e h' f'=>out (0,0,0,true) h' f' (by rw [eW,e])) fun J hJ=>?_
  simp only [go_sem,reduceIte,q4,m52.len]
  refine AS (m.fns.length + 1) (fun cn ls h'=>∃ i : Nat,ls = [.int .i64 i] /\ i <= m.fns.length /\ Fr [] h1 h' /\ M6 m m.fns 0 = M6 m (m.fns.drop i) i /\ cn = m.fns.length + 1 - i) ⟨0,rfl,by omega,f2,rfl,rfl⟩ ?_
  rintro cn ls h' ⟨i,rfl,hi,f',eE,rfl⟩
  by_cases qq : (i : Int) < m.fns.length
  ·have hi' : i < m.fns.length:=by omega
   obtain ⟨f,hx⟩:=BG hi'
   rw [DE hx,PV] at eE
   have en:=B0 i (by unfold reachBytes at hnl; omega)
   obtain ⟨p3,q4,rm3,m53⟩:=F h' f'
   obtain ⟨bb,bo,cf,z1,z2,z3,z4,z5⟩:=m53.el hx
   have wf:=W.fn f (List.mem_of_getElem? hx)
   have hbl:=wf.blen
   simp only [go_sem,reduceIte,qq]
   refine AI (fun (J : H -> Prop)=>E1 m f f.blocks 0 = none -> ∀ h'',Fr [] h1 h'' -> J h'') (fun e h'' f''=>?_) fun J2 hJ2=>?_
   ·rw [e] at eE
    simp only [go_sem,reduceIte,en]
    exact ⟨m.fns.length + 1 - (i + 1),by omega,i + 1,rfl,by omega,f'',eE,rfl⟩
   ·simp only [go_sem,reduceIte,z1,z4]
    refine BL rfl z3 rfl z2.leaves fun a h4 f4 ha ga=>?_
    have f4':=f'.trans f4
    have rf4:=z2.fr f4
    have rf4':=rf4
    obtain ⟨vp,vb,ecf,rp,rb⟩:=rf4
    have a3 : h4.cell a 3 = some vb:=by rw [AD ga,ecf]; rfl
    simp only [go_sem,reduceIte,a3,rb.len]
    refine AS (f.blocks.length + 1) (fun cn ls h''=>∃ k : Nat,ls = [.int .i64 k] /\ k <= f.blocks.length /\ Fr [] h4 h'' /\ E1 m f f.blocks 0 = E1 m f (f.blocks.drop k) k /\ cn = f.blocks.length + 1 - k) ⟨0,rfl,by omega,Fr.refl _ _,rfl,rfl⟩ ?_
    rintro cn ls h5 ⟨k,rfl,hk,f5,eB,rfl⟩
    have f5':=f4'.trans f5
    by_cases kk : (k : Int) < f.blocks.length
    ·have hk' : k < f.blocks.length:=by omega
     obtain ⟨b,hb⟩:=BG hk'
     rw [DE hb,LG] at eB
     have en2:=B0 k (by unfold reachBytes at hbl; omega)
     obtain ⟨b6,o6,cb,y1,y2,y3,y4,y5⟩:=(rb.mono f5 (Rel':=blkR h5) fun _ _ _ x=>x.fr f5).el hb
     simp only [go_sem,reduceIte,kk,y1,y4]
     refine BL rfl y3 rfl y2.leaves fun a2 h6 f6 ha2 ga2=>?_
     have f6':=f5'.trans f6
     obtain ⟨p6,_,rm6,_⟩:=F h6 f6'
     have ga6:=(f5.trans f6) a _ (by simp) ga
     simp only [go_sem,reduceIte,p6,AR ga6 z3,AR ga2 y3]
     refine XU rm6 W (rf4'.fr (f5.trans f6)) wf (y2.fr f6) (List.mem_of_getElem? hb) fun h7 f7=>?_
     have f7':=f6'.trans f7
     cases hz : DJ m f b with
     | none=>
      rw [hz] at eB
      simp only [go_sem,reduceIte,plN,en2]
      exact ⟨f.blocks.length + 1 - (k + 1),by omega,k + 1,rfl,by omega,(f5.trans f6).trans f7,eB,rfl⟩
     | some n=>
      rw [hz] at eB
      rw [eB] at eE
      have n0 : (0 : Int) <= (n : Nat):=by omega
      simp only [go_sem,reduceIte,plN,n0]
      exact out (i,k,n,false) h7 f7' (by rw [eW,eE])
    ·have : k = f.blocks.length:=by omega
     subst this
     simp only [go_sem,reduceIte,kk]
     rw [List.drop_length] at eB
     exact hJ2 eB h5 f5'
  ·have : i = m.fns.length:=by omega
   subst this
   simp only [go_sem,reduceIte,qq]
   rw [List.drop_length] at eE
   exact hJ eE h' f'
end
section
variable {PK : H -> Prop} {h : H}
theorem RQ {v : AV} {L : List Int} (r : Row h v L.length 1 (ic L)) (hl : L.length <= reachBytes) (AQ : Int) {K : AV -> H -> Prop} (hK : K (.bool (CN AQ (-1) L)) h) : DP PK 73 [v,.int .i64 AQ] h K:=by
 refine runB73 ?_
 unfold sh73 zL zE zV
 refine AI (fun (J : H -> Prop)=>CN AQ (-1) L = true -> J h) (fun e=>by rw [e] at hK; exact hK) fun J hJ=>?_
 rw [r.len,AB]
 refine AS (L.length + 1) (fun c ls h'=>∃ (i : Nat) (last : Int),ls = [.int .i64 last,.int .i64 i] /\ i <= L.length /\ CN AQ (-1) L = CN AQ last (L.drop i) /\ h' = h /\ c = L.length + 1 - i) ⟨0,-1,rfl,by omega,rfl,rfl,rfl⟩ ?_
 rintro c ls h' ⟨i,last,rfl,hi,eR,e,rfl⟩
 rw [e,BE,CJ,BO,AB]
 by_cases q : (i : Int) < L.length
 ·have hi' : i < L.length:=by omega
  obtain ⟨x,hx⟩:=BG hi'
  rw [DE hx,CN] at eR
  have en:=B0 i (by unfold reachBytes at hl; omega)
  obtain ⟨b1,o1,q1,q2⟩:=r.atI hx
  by_cases x0 : x <= last
  ·rw [decide_eq_false (p:=last < x) (by omega)] at eR
   rw [eR] at hK
   simp only [go_sem,reduceIte,q,q1,q2,x0]
   exact hK
  ·rw [decide_eq_true (p:=last < x) (by omega),Bool.true_and] at eR
   by_cases x1 : AQ <= x
   ·rw [decide_eq_false (p:=x < AQ) (by omega)] at eR
    rw [eR] at hK
    simp only [go_sem,reduceIte,q,q1,q2,x0,x1]
    exact hK
   ·rw [decide_eq_true (p:=x < AQ) (by omega),Bool.true_and] at eR
    simp only [go_sem,reduceIte,q,q1,q2,x0,x1,en]
    exact ⟨L.length + 1 - (i + 1),by omega,i + 1,x,rfl,by omega,eR,rfl⟩
 ·have : i = L.length:=by omega
  subst this
  simp only [q,decide_false,AO]
  rw [List.drop_length,CN] at eR
  exact hJ eR
theorem N7 {m : Img} {p : Nat} {vt : AV} (hc : h.cell p 0 = some vt) (hl : AF false vt = some (.int .i64 m.types.length)) (t : Int) (K : AV -> H -> Prop) : DP PK 72 [.int .i64 t,.ptr p 0] h K = K (.bool (m.isTy t)) h:=by
 refine BR (runB72 ?_) K
 unfold sh72 zT zU zG Img.isTy
 by_cases t0 : 0 <= t
 ·rw [decide_eq_true t0,Bool.true_and]
  simp only [go_sem,reduceIte,t0,hc,hl,and_self]
 ·rw [decide_eq_false t0,Bool.false_and]
  simp only [go_sem,reduceIte,t0,and_self]
theorem kind2_c {m : Img} {p k : Nat} {vt : AV} (hc : h.cell p 0 = some vt) (hl : AF false vt = some (.int .i64 m.types.length)) (hk : h.cell k 0 = some (.fn 72 [] [.ptr p 0])) (t : Int) (K : AV -> H -> Prop) : DP PK 74 [.int .i64 t,.ptr k 0] h K = K (.bool (!m.isTy t)) h:=by
 refine BR (runB74 ?_) K
 unfold sh74 zL
 simp only [go_sem,reduceIte,hk,List.nil_append,List.cons_append]
 rw [N7 hc hl]
 simp only [go_sem,reduceIte,and_self]
theorem kind3_c {m : Img} {p k : Nat} {vt : AV} (hc : h.cell p 0 = some vt) (hl : AF false vt = some (.int .i64 m.types.length)) (hk : h.cell k 0 = some (.fn 72 [] [.ptr p 0])) (t : Int) (K : AV -> H -> Prop) : DP PK 127 [.int .i64 t,.ptr k 0] h K = K (.bool (!m.isTy t)) h:=by
 refine BR (runB127 ?_) K
 unfold sh127 zL
 simp only [go_sem,reduceIte,hk,List.nil_append,List.cons_append]
 rw [N7 hc hl]
 simp only [go_sem,reduceIte,and_self]
theorem rec_c {m : Img} {p : Nat} {vs : AV} (hc : h.cell p 1 = some vs) (r : RowOf h 3 (shR h) vs m.shapes) {s : Int} (h0 : 0 <= s) (h1 : s < m.shapes.length) (K : AV -> H -> Prop) : DP PK 75 [.int .i64 s,.ptr p 0] h K = K (.bool (decide ((m.shp s).kind ≠ 1))) h:=by
 refine BR (runB75 ?_) K
 unfold sh75 zF
 obtain ⟨b,o,v,q1,q2,q3,q4,q5⟩:=EO r h0 h1
 simp only [go_sem,reduceIte,hc,q1,q2,and_self]
theorem O2 {α : Type} (l : List α) (p : α -> Bool) : (l.any fun x=>!p x) = !(l.all p):=by
 induction l with
 | nil=>rfl
 | cons x l ih=>rw [List.any_cons,List.all_cons,ih,Bool.not_and]
set_option maxHeartbeats 2000000 in
theorem XW {m : Img} {p : Nat} {vt : AV} (hc : h.cell p 0 = some vt) (hl : AF false vt = some (.int .i64 m.types.length)) {f : Fn} {cf : List AV} (rf : fnR h f cf) (okf : f.ok) {K : AV -> H -> Prop} (hK : ∀ h',Fr [] h h' -> K (.bool (DA m f)) h') : DP PK 78 [.agg cf,.fn 72 [] [.ptr p 0]] h K:=by
 refine runB78 ?_
 unfold sh78 zL zT zE zU zF zH
 refine IN rf fun q h1 f1 hq gq rf1=>?_
 refine BH (cs:=[.fn 72 [] [.ptr p 0]]) rfl fun k hk=>?_
 have f2 : Fr [] h1 (h1.set k (.live [.fn 72 [] [.ptr p 0]] 98 true)):=Fr.new hk
 have gk : (h1.set k (.live [.fn 72 [] [.ptr p 0]] 98 true)).get k = some (.live [.fn 72 [] [.ptr p 0]] 98 true):=H.get_same ..
 generalize h1.set k (.live [.fn 72 [] [.ptr p 0]] 98 true) = h2 at f2 gk
 have f02 : Fr [] h h2:=f1.trans f2
 have gq2:=f2 q _ (by simp) gq
 have rf2:=rf.fr f02
 obtain ⟨vp,vb,ecf,rp,rb⟩:=rf2
 have F : ∀ h',Fr [] h2 h' -> (h'.cell q 0 = some vp /\ h'.cell q 1 = some (.int .i64 f.result) /\ h'.cell q 2 = some (.int .i64 f.slots) /\ h'.cell q 3 = some vb) /\ Row h' vp f.params.length 1 (ic f.params) /\ RowOf h' 2 (blkR h') vb f.blocks /\ h'.cell p 0 = some vt /\ h'.cell k 0 = some (.fn 72 [] [.ptr p 0]):=fun h' f=>
  ⟨by have cc:=AD (f q _ (by simp) gq2); rw [cc,cc,cc,cc,ecf]; exact ⟨rfl,rfl,rfl,rfl⟩,rp.fr f,rb.mono f fun _ _ _ x=>x.fr f,(f02.trans f).cell hc,by rw [AD (f k _ (by simp) gk)]; rfl⟩
 have out : ∀ (o : Bool) h',Fr [] h2 h' -> DA m f = o -> K (.bool o) h':=fun o h' f' e=>by
  have:=hK h' (f02.trans f'); rw [e] at this; exact this
 have e : DA m f = (f.params.all m.isTy && m.isTy f.result && decide (0 <= f.slots) && decide ((f.params.length : Int) <= f.slots) && !f.blocks.isEmpty && (List.range f.blocks.length).all fun i=>ME m f i (f.blocks.getD i ⟨[],[]⟩).inn):=rfl
 have rr:=Fr.refl [] h2
 obtain ⟨⟨q0,q1,q2,q3⟩,rp0,rb0,pt0,pk0⟩:=F h2 rr
 simp only [go_sem,reduceIte,q0]
 have cf:=NJ (PK:=AU) (g:=127) (fi:=[]) (ca:=[.ptr k 0]) (p:=fun x=>!m.isTy x) rp0 okf.1.1 (fun x _ K=>kind3_c pt0 hl pk0 x K)
 rw [cf,O2]
 cases hz : f.params.all m.isTy with
 | false=>
  rw [hz] at e
  simp only [go_sem,reduceIte]
  exact out false h2 rr (by rw [e]; rfl)
 | true=>
 rw [hz,Bool.true_and] at e
 have kr:=fun K=>N7 (PK:=AU) (m:=m) pt0 hl f.result K
 cases hz2 : m.isTy f.result with
 | false=>
  rw [hz2] at e kr
  simp only [go_sem,reduceIte,pk0,q1,List.nil_append,List.cons_append,kr]
  exact out false h2 rr (by rw [e]; rfl)
 | true=>
 rw [hz2,Bool.true_and] at e
 rw [hz2] at kr
 by_cases s0 : f.slots < 0
 ·rw [decide_eq_false (p:=0 <= f.slots) (by omega)] at e
  simp only [go_sem,reduceIte,pk0,q1,List.nil_append,List.cons_append,kr,q2,s0]
  exact out false h2 rr (by rw [e]; rfl)
 rw [decide_eq_true (p:=0 <= f.slots) (by omega),Bool.true_and] at e
 by_cases s1 : f.slots < (f.params.length : Int)
 ·rw [decide_eq_false (p:=(f.params.length : Int) <= f.slots) (by omega)] at e
  simp only [go_sem,reduceIte,pk0,q1,List.nil_append,List.cons_append,kr,q2,s0,q0,rp0.len,s1]
  exact out false h2 rr (by rw [e]; rfl)
 rw [decide_eq_true (p:=(f.params.length : Int) <= f.slots) (by omega),Bool.true_and] at e
 by_cases s2 : (f.blocks.length : Int) = 0
 ·have : f.blocks = []:=List.eq_nil_of_length_eq_zero (by omega)
  simp only [go_sem,reduceIte,pk0,q1,List.nil_append,List.cons_append,kr,q2,s0,q0,rp0.len,s1,q3,rb0.len,s2]
  exact out false h2 rr (by rw [e,this]; rfl)
 have hne : f.blocks.isEmpty = false:=by cases hb : f.blocks with | nil=>rw [hb] at s2; exact absurd rfl s2 | cons a l=>rfl
 rw [hne,Bool.not_false,Bool.true_and] at e
 simp only [go_sem,reduceIte,pk0,q1,List.nil_append,List.cons_append,kr,q2,s0,q0,rp0.len,s1,q3,rb0.len,s2]
 have hbl:=okf.2.2.2.1
 refine AI (fun (J : H -> Prop)=>((List.range f.blocks.length).all fun i=>ME m f i (f.blocks.getD i ⟨[],[]⟩).inn) = true -> ∀ h',Fr [] h2 h' -> J h') (fun hall h' f'=>out true h' f' (by rw [e]; exact hall)) fun J hJ=>?_
 refine AS (f.blocks.length + 1) (fun cn ls h'=>∃ i : Nat,ls = [.int .i64 i] /\ i <= f.blocks.length /\ Fr [] h2 h' /\ (∀ j,j < i -> ME m f j (f.blocks.getD j ⟨[],[]⟩).inn = true) /\ cn = f.blocks.length + 1 - i) ⟨0,rfl,by omega,rr,fun j hj=>absurd hj (by omega),rfl⟩ ?_
 rintro cn ls h' ⟨i,rfl,hi,f',hall,rfl⟩
 by_cases qq : (i : Int) < f.blocks.length
 ·have hi' : i < f.blocks.length:=by omega
  obtain ⟨bk,hbk⟩:=BG hi'
  have eg : f.blocks.getD i ⟨[],[]⟩ = bk:=by rw [List.getD_eq_getElem?_getD,hbk]; rfl
  have en:=B0 i (by unfold reachBytes at hbl; omega)
  obtain ⟨⟨q0,q1,q2,q3⟩,rp6,rb6,pt6,pk6⟩:=F h' f'
  obtain ⟨bb,bo,cb,w1,w2,w3,w4,w5⟩:=rb6.el hbk
  have okb:=okf.2.2.2.2 bk (List.mem_of_getElem? hbk)
  have bad : ME m f i bk.inn = false -> ∀ h'',Fr [] h2 h'' -> K (.bool false) h'':=fun z h'' f''=>out false h'' f'' (by rw [e]; exact H0 hi' (by rw [eg]; exact z))
  simp only [go_sem,reduceIte,qq,w1,w4]
  refine AI (fun (J : H -> Prop)=>ME m f i bk.inn = true -> ∀ h'',Fr [] h2 h'' -> J h'') (fun z h'' f''=>?_) fun J2 hJ2=>?_
  ·rw [en]
   exact ⟨f.blocks.length + 1 - (i + 1),by omega,i + 1,rfl,by omega,f'',fun j hj=>by
    by_cases q : j = i
    ·rw [q,eg]; exact z
    ·exact hall j (by omega),rfl⟩
  ·refine BL rfl w3 rfl w2.leaves fun a h7 f7 ha ga=>?_
   have f7':=f'.trans f7
   obtain ⟨⟨q0,q1,q2,q3⟩,rp7,rb7,pt7,pk7⟩:=F h7 f7'
   obtain ⟨vi,vc,ecb,ri,_⟩:=w2.fr f7
   have a0 : h7.cell a 0 = some vi:=by rw [AD ga,ecb]; rfl
   rw [VH] at bad hJ2
   by_cases l0 : (bk.inn.length : Int) = f.slots
   ·rw [decide_eq_true l0,Bool.true_and] at bad hJ2
    simp only [go_sem,reduceIte,a0,ri.len,q2,l0]
    have hil:=okb.1.1
    have hl0 : f.slots = (bk.inn.length : Int):=l0.symm
    rw [hl0]
    refine AS (bk.inn.length + 1) (fun cn ls h''=>∃ k : Nat,ls = [.int .i64 k] /\ k <= bk.inn.length /\ h'' = h7 /\ (∀ j,j < k -> inK m f i (bk.inn.getD j 0) j = true) /\ cn = bk.inn.length + 1 - k) ⟨0,rfl,by omega,rfl,fun j hj=>absurd hj (by omega),rfl⟩ ?_
    rintro cn ls h'' ⟨j,rfl,hj,eh,hin,rfl⟩
    rw [eh]
    by_cases kk : (j : Int) < bk.inn.length
    ·have hk' : j < bk.inn.length:=by omega
     obtain ⟨t,ht⟩:=BG hk'
     have et : bk.inn.getD j 0 = t:=by rw [List.getD_eq_getElem?_getD,ht]; rfl
     have en2:=B0 j (by unfold reachBytes at hil; omega)
     obtain ⟨b7,o7,u1,u2⟩:=ri.atI ht
     have bad2 : inK m f i t j = false -> K (.bool false) h7:=fun z=>bad (H0 hk' (by rw [et]; exact z)) h7 f7'
     simp only [go_sem,reduceIte,kk,u1,u2]
     refine AI (fun (J : H -> Prop)=>inK m f i t j = true -> J h7) (fun z=>?_) fun J3 hJ3=>?_
     ·rw [en2]
      exact ⟨bk.inn.length + 1 - (j + 1),by omega,j + 1,rfl,by omega,rfl,fun j' hj'=>by
       by_cases q : j' = j
       ·rw [q,et]; exact z
       ·exact hin j' (by omega),rfl⟩
     have kt:=fun K=>N7 (PK:=AU) (m:=m) pt7 hl t K
     have key : (decide (t = -1) || m.isTy t) = true -> inK m f i t j = (!decide (i = 0) || decide (t = if j < f.params.length then f.params.getD j 0 else -1)):=fun z=>by unfold inK; rw [z,Bool.true_and]
     have rest : (decide (t = -1) || m.isTy t) = true -> AA (binOp .eql .num (.int .i64 (i : Int)) (.int .i64 0)) h7 fun t71 h=>AC t71 (AJ (fun (want9'_80 : AV) (h : H)=>AA (binOp .neq .num (.int .i64 t) want9'_80) h fun t84 h=>AC t84 (K (.bool false) h) (J3 h)) fun J_91=>
       AA (faA 0 (.ptr q 0)) h fun t73 h=>AA (ldA h none t73) h fun t74 h=>AA (AF false t74) h fun t75 h=>AA (binOp .lss .num (.int .i64 (j : Int)) t75) h fun t76 h=>AC t76
        (AA (faA 0 (.ptr q 0)) h fun t77 h=>AA (ldA h none t77) h fun t78 h=>AA (iaA 1 t78 (.int .i64 (j : Int))) h fun t80 h=>AA (ldA h none t80) h fun t81 h=>J_91 t81 h) (J_91 (.int .i64 (-1)) h)) (J3 h):=fun z=>by
      have ek:=key z
      by_cases i0 : i = 0
      ·rw [decide_eq_true i0,Bool.not_true,Bool.false_or] at ek
       have i0' : (i : Int) = 0:=by omega
       simp only [go_sem,reduceIte,i0']
       refine AI (fun (J : AV -> H -> Prop)=>∀ w : Int,w = (if j < f.params.length then f.params.getD j 0 else -1) -> J (.int .i64 w) h7) (fun w hw=>?_) fun J4 hJ4=>?_
       ·rw [<- hw] at ek
        by_cases tw : t = w
        ·rw [decide_eq_true tw] at ek
         simp only [go_sem,reduceIte,eq_true tw]
         exact hJ3 ek
        ·rw [decide_eq_false tw] at ek
         simp only [go_sem,reduceIte,tw]
         exact bad2 ek
       ·by_cases kp : j < f.params.length
        ·have kp' : (j : Int) < (f.params.length : Int):=by omega
         obtain ⟨g,hg⟩:=BG kp
         have eg2 : f.params.getD j 0 = g:=by rw [List.getD_eq_getElem?_getD,hg]; rfl
         obtain ⟨b8,o8,v1,v2⟩:=rp7.atI hg
         simp only [go_sem,reduceIte,q0,rp7.len,kp',v1,v2]
         exact hJ4 g (by rw [if_pos kp,eg2])
        ·have kp' : ¬ (j : Int) < (f.params.length : Int):=by omega
         simp only [go_sem,reduceIte,q0,rp7.len,kp']
         exact hJ4 (-1) (by rw [if_neg kp])
      ·rw [decide_eq_false i0,Bool.not_false,Bool.true_or] at ek
       have i0' : ¬ (i : Int) = 0:=by omega
       simp only [go_sem,reduceIte,i0']
       exact hJ3 ek
     by_cases t0 : t = -1
     ·have:=rest (by rw [decide_eq_true t0]; rfl)
      simp only [go_sem,reduceIte,eq_true t0]
      simpa only [go_sem,reduceIte] using this
     ·cases hz3 : m.isTy t with
      | false=>
       rw [hz3] at kt
       simp only [go_sem,reduceIte,t0,pk7,List.nil_append,List.cons_append,kt]
       exact bad2 (by unfold inK; rw [decide_eq_false t0,hz3]; rfl)
      | true=>
       rw [hz3] at kt
       have:=rest (by rw [hz3,Bool.or_true])
       simp only [go_sem,reduceIte,t0,pk7,List.nil_append,List.cons_append,kt]
       simpa only [go_sem,reduceIte] using this
    ·have : j = bk.inn.length:=by omega
     subst this
     simp only [go_sem,reduceIte,kk]
     exact hJ2 (H1 hin) h7 f7'
   ·rw [decide_eq_false l0,Bool.false_and] at bad
    simp only [go_sem,reduceIte,a0,ri.len,q2,l0]
    exact bad rfl h7 f7'
 ·have : i = f.blocks.length:=by omega
  subst this
  simp only [go_sem,reduceIte,qq]
  exact hJ (H1 hall) h' f'
end
end Go.Proofs.YtdljelicbnjfjaaGreat.X
