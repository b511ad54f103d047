/- What the law needs (6): the plain machine, functions' contracts, plain facts; put together out of texts of one's own. -/
import Derived.Test.YtdljelicbnjfjaaGreatS8E
set_option linter.unusedVariables false
set_option linter.unusedSimpArgs false
set_option maxRecDepth 100000
namespace Go.Proofs.YtdljelicbnjfjaaGreat.X
open Go Go.RowKit
section
variable {PK : H -> Prop} {h : H}
theorem pfn_c {m : Img} {p k : Nat} {vt : AV} (hc : h.cell p 0 = some vt) (hl : AF false vt = some (.int .i64 m.types.length)) (hk : h.cell k 0 = some (.fn 72 [] [.ptr p 0])) {f : Fn} {cf : List AV} (rf : fnR h f cf) (okf : f.ok) {K : AV -> H -> Prop} (hK : ∀ h',Fr [] h h' -> K (.bool (!DA m f)) h') : DP PK 77 [.agg cf,.ptr k 0] h K:=by
 refine runB77 ?_
 unfold sh77 zL
 refine IN rf fun q h1 f1 hq gq rf1=>?_
 simp only [go_sem,reduceIte,Int.reduceLT,Int.reduceEq,AR gq rf.ln,f1.cell hk]
 refine XW (f1.cell hc) hl rf1 okf fun h2 f2=>?_
 simp only [go_sem,reduceIte,Int.reduceLT,Int.reduceEq]
 exact hK h2 (f1.trans f2)
theorem pidx_c {m : Img} {p k : Nat} {vt vf : AV} (hc : h.cell p 0 = some vt) (hl : AF false vt = some (.int .i64 m.types.length)) (hk : h.cell k 0 = some (.fn 72 [] [.ptr p 0])) (r : RowOf h 4 (fnR h) vf m.fns) (nl : m.fns.length <= reachBytes) (okf : ∀ f ∈ m.fns,f.ok) {K : AV -> H -> Prop}
  (hK : ∀ h',Fr [] h h' -> K (.bool (!m.fns.all (DA m))) h') : DP PK 76 [vf,.fn 77 [] [.ptr k 0]] h K:=by
 refine runB76 ?_
 unfold sh76
 refine runB126 ?_
 unfold sh126
 refine AI (fun (J : H -> Prop)=>m.fns.all (DA m) = true -> ∀ h',Fr [] h h' -> J h') (fun e h' f'=>?_) fun J hJ=>?_
 ·have:=hK h' f'
  rw [e] at this
  simp only [go_sem,reduceIte,Int.reduceLT,Int.reduceEq]
  exact this
 ·simp only [go_sem,reduceIte,Int.reduceLT,Int.reduceEq,r.len]
  refine AS (m.fns.length + 1) (fun cn ls h'=>∃ i : Nat,ls = [.int .i64 i] /\ i <= m.fns.length /\ Fr [] h h' /\ m.fns.all (DA m) = (m.fns.drop i).all (DA m) /\ cn = m.fns.length + 1 - i) ⟨0,rfl,by omega,Fr.refl _ _,rfl,rfl⟩ ?_
  rintro cn ls h' ⟨i,rfl,hi,f',eE,rfl⟩
  by_cases qq : (i : Int) < m.fns.length
  ·have hi' : i < m.fns.length:=by omega
   obtain ⟨x,hx⟩:=BG hi'
   rw [DE hx,List.all_cons] at eE
   have en:=B0 i (by unfold reachBytes at nl; omega)
   obtain ⟨bb,bo,cb,z1,z2,z3,z4,z5⟩:=(r.mono f' (Rel':=fnR h') fun _ _ _ x=>x.fr f').el hx
   simp only [go_sem,reduceIte,Int.reduceLT,Int.reduceEq,qq,z1,z4,List.nil_append,List.cons_append]
   refine pfn_c (f'.cell hc) hl (f'.cell hk) z2 (okf x (List.mem_of_getElem? hx)) fun h9 f9=>?_
   have f9':=f'.trans f9
   cases hz : DA m x with
   | false=>
    rw [hz,Bool.false_and] at eE
    have:=hK h9 f9'
    rw [eE] at this
    have i0 : (0 : Int) <= (i : Nat):=by omega
    simp only [go_sem,reduceIte,Int.reduceLT,Int.reduceEq,i0]
    exact this
   | true=>
    rw [hz,Bool.true_and] at eE
    simp only [go_sem,reduceIte,Int.reduceLT,Int.reduceEq,en]
    exact ⟨m.fns.length + 1 - (i + 1),by omega,i + 1,rfl,by omega,f9',eE,rfl⟩
  ·have : i = m.fns.length:=by omega
   subst this
   simp only [go_sem,reduceIte,Int.reduceLT,Int.reduceEq,qq]
   rw [List.drop_length] at eE
   exact hJ eE h' f'
set_option maxHeartbeats 4000000 in
theorem RW {m : Img} {c : List AV} (rm : imgR h m c) (ok : m.ok) {K : AV -> H -> Prop} (hK : ∀ h',Fr [] h h' -> K (.bool (CI m)) h') : DP PK 30 [.agg c] h K:=by
 refine runB30 ?_
 unfold sh30 zL zT zE zV zF zG zH
 refine B8 rm fun p h1 f1 hp gp rm1=>?_
 have hcn:=rm.ln
 have rm1':=rm1
 obtain ⟨vt,vs,vx,vn,vf,ecm,m1,m2,m3,m4,m5⟩:=rm1
 clear rm
 obtain ⟨⟨k1,k1'⟩,⟨k2,k2'⟩,⟨k3,k3'⟩,⟨k4,k4'⟩,⟨k5,k5'⟩,k6,k7⟩:=ok
 have ok : m.ok:=⟨⟨k1,k1'⟩,⟨k2,k2'⟩,⟨k3,k3'⟩,⟨k4,k4'⟩,⟨k5,k5'⟩,k6,k7⟩
 have F : ∀ h',Fr [] h1 h' -> h'.read p 0 7 = some c /\ (h'.cell p 0 = some vt /\ h'.cell p 1 = some vs /\ h'.cell p 4 = some vf /\ h'.cell p 5 = some (.int .i64 m.main) /\ h'.cell p 6 = some (.int .i64 m.exn)) /\ imgR h' m c /\ RowOf h' 2 (tyR h') vt m.types /\ RowOf h' 3 (shR h') vs m.shapes /\ RowOf h' 4 (fnR h') vf m.fns:=fun h' f=>
  ⟨AR (f p _ (by simp) gp) hcn,by have cc:=AD (f p _ (by simp) gp); rw [cc,cc,cc,cc,cc,ecm]; exact ⟨rfl,rfl,rfl,rfl,rfl⟩,rm1'.fr f,m1.mono f fun _ _ _ x=>x.fr f,m2.mono f fun _ _ _ x=>x.fr f,m5.mono f fun _ _ _ x=>x.fr f⟩
 have no : ∀ h',Fr [] h1 h' -> (CI m = true -> False) -> K (.bool false) h':=fun h' f' e=>by
  have:=hK h' (f1.trans f')
  rw [show CI m = false from Bool.eq_false_iff.2 e] at this
  exact this
 obtain ⟨p0,⟨q0,q1,q4,q5,q6⟩,rm0,m10,m20,m50⟩:=F h1 (Fr.refl _ _)
 simp only [go_sem,reduceIte,Int.reduceLT,Int.reduceEq,p0]
 refine TV (check_c rm0 ok fun h2 f2=>?_)
 obtain ⟨p2,⟨q0,q1,q4,q5,q6⟩,rm2,m12,m22,m52⟩:=F h2 f2
 by_cases c0' : ¬ DU m = 0
 ·simp only [go_sem,reduceIte,Int.reduceLT,Int.reduceEq,c0']
  exact no h2 f2 fun w=>c0' ((A7 m).1 w).1
 have c0 : DU m = 0:=Decidable.not_not.1 c0'
 by_cases c1 : ((m.types.length : Nat) : Int) = 0
 ·simp only [go_sem,reduceIte,Int.reduceLT,Int.reduceEq,c0,q0,m12.len,c1]
  exact no h2 f2 fun w=>by have:=((A7 m).1 w).2.1; rw [C5] at this; omega
 obtain ⟨b1,o1,vv,v1,v2,v3,v4,v5⟩:=M9 m12 (t:=0) (by omega) (by omega)
 cases c3 : (m.ty 0).imm with
 | false=>
  rw [c3] at v2
  simp only [go_sem,reduceIte,Int.reduceLT,Int.reduceEq,c0,q0,m12.len,c1,v1,v2]
  exact no h2 f2 fun w=>by have:=((A7 m).1 w).2.2.2.1; rw [c3] at this; cases this
 | true=>
 rw [c3] at v2
 by_cases c4 : (0 : Int) < ((m.ty 0).sh.length : Int)
 ·simp only [go_sem,reduceIte,Int.reduceLT,Int.reduceEq,c0,q0,m12.len,c1,v1,v2,v3,v4.len,c4]
  exact no h2 f2 fun w=>by have:=((A7 m).1 w).2.2.2.2.1; rw [DL] at this; omega
 by_cases c2 : ((m.shapes.length : Nat) : Int) = 0
 ·simp only [go_sem,reduceIte,Int.reduceLT,Int.reduceEq,c0,q0,m12.len,c1,v1,v2,v3,v4.len,c4,q1,m22.len,c2]
  exact no h2 f2 fun w=>by have:=((A7 m).1 w).2.2.1; rw [C5] at this; omega
 obtain ⟨b2,o2,vfs,u1,u2,u3,u4,u5⟩:=EO m22 (s:=0) (by omega) (by omega)
 by_cases c5 : (m.shp 0).kind = 3
 case neg=>
  simp only [go_sem,reduceIte,Int.reduceLT,Int.reduceEq,c0,q0,m12.len,c1,v1,v2,v3,v4.len,c4,q1,m22.len,c2,u1,u2,c5]
  exact no h2 f2 fun w=>c5 ((A7 m).1 w).2.2.2.2.2.1
 case pos=>
 simp only [go_sem,reduceIte,Int.reduceLT,Int.reduceEq,c0,q0,m12.len,c1,v1,v2,v3,v4.len,c4,q1,m22.len,c2,u1,u2,c5]
 have d1 : m.types.isEmpty = false:=(C5 _).2 (by omega)
 have d2 : m.shapes.isEmpty = false:=(C5 _).2 (by omega)
 have d4 : (m.ty 0).sh.isEmpty = true:=(DL _).2 (by omega)
 refine BH (cs:=[.nilfn]) rfl fun k hk=>?_
 have st : stA (h2.set k (.live [.nilfn] 98 true)) 1 (.ptr k 0) (.fn 72 [] [.ptr p 0]) = some (h2.set k (.live [.fn 72 [] [.ptr p 0]] 98 true)):=by
  rw [HY,if_pos (by rfl)]
  exact HT rfl rfl
 simp only [st,A3]
 have fk : Fr [] h2 (h2.set k (.live [.fn 72 [] [.ptr p 0]] 98 true)):=Fr.new hk
 have gk : (h2.set k (.live [.fn 72 [] [.ptr p 0]] 98 true)).get k = some (.live [.fn 72 [] [.ptr p 0]] 98 true):=H.get_same ..
 generalize h2.set k (.live [.fn 72 [] [.ptr p 0]] 98 true) = h2' at fk gk
 have f2':=f2.trans fk
 have FK : ∀ h',Fr [] h2' h' -> h'.cell k 0 = some (.fn 72 [] [.ptr p 0]):=fun h' f=>by rw [AD (f k _ (by simp) gk)]; rfl
 have hlt:=m12.len
 refine AI (fun (J : H -> Prop)=>(m.types.all fun t=>CN m.shapes.length (-1) t.sh) = true -> ∀ h',Fr [] h2' h' -> J h') (fun e6 h3 f3'=>?_) fun J hJ=>?_
 ·have f3:=f2'.trans f3'
  have okty : ∀ t ∈ m.types,∀ s ∈ t.sh,0 <= s /\ s < m.shapes.length:=fun t ht s hs=>by
   have:=((GD _ _ _).1 (List.all_eq_true.1 e6 t ht)).2 s hs; omega
  refine AI (fun (J : H -> Prop)=>m.shapes.all (CU m) = true -> ∀ h',Fr [] h2' h' -> J h') (fun e7 h4 f4'=>?_) fun J hJ=>?_
  ·have f4:=f2'.trans f4'
   obtain ⟨p4,⟨q0,q1,q4,q5,q6⟩,rm4,m14,m24,m54⟩:=F h4 f4
   have k4':=FK h4 f4'
   have kx:=fun K=>N7 (PK:=AU) (m:=m) q0 hlt m.exn K
   cases e8 : m.isTy m.exn with
   | false=>
    rw [e8] at kx
    simp only [go_sem,reduceIte,Int.reduceLT,Int.reduceEq,k4',q6,List.nil_append,List.cons_append,kx]
    exact no h4 f4 fun w=>by have:=((A7 m).1 w).2.2.2.2.2.2.2.2.1; rw [e8] at this; cases this
   | true=>
   rw [e8] at kx
   have tx:=(FQ m _).1 e8
   obtain ⟨b7,o7,vx7,w1,w2,w3,w4,w5⟩:=M9 m14 tx.1 tx.2
   cases e9 : (m.ty m.exn).imm with
   | false=>
    rw [e9] at w2
    simp only [go_sem,reduceIte,Int.reduceLT,Int.reduceEq,k4',q6,List.nil_append,List.cons_append,kx,q0,w1,w2]
    exact no h4 f4 fun w=>by have:=((A7 m).1 w).2.2.2.2.2.2.2.2.2.1; rw [e9] at this; cases this
   | true=>
   rw [e9] at w2
   have htl : (m.ty m.exn).sh.length <= reachBytes:=(k1' _ w5).1
   have cf:=NJ (PK:=AU) (g:=75) (fi:=[]) (ca:=[.ptr p 0]) (p:=fun s=>decide ((m.shp s).kind ≠ 1)) w4 htl (fun s hs K=>rec_c q1 m24 (okty _ w5 s hs).1 (okty _ w5 s hs).2 K)
   have ean : ((m.ty m.exn).sh.any fun s=>decide ((m.shp s).kind ≠ 1)) = !((m.ty m.exn).sh.all fun s=>decide ((m.shp s).kind = 1)):=by
    rw [<- O2]
    congr 1
    funext s
    by_cases z : (m.shp s).kind = 1 <;> simp [z]
   rw [ean] at cf
   cases e10 : ((m.ty m.exn).sh.all fun s=>decide ((m.shp s).kind = 1)) with
   | false=>
    rw [e10] at cf
    simp only [go_sem,reduceIte,Int.reduceLT,Int.reduceEq,k4',q6,List.nil_append,List.cons_append,kx,q0,w1,w2,w3,cf]
    exact no h4 f4 fun w=>by have:=((A7 m).1 w).2.2.2.2.2.2.2.2.2.2.1; rw [e10] at this; cases this
   | true=>
   rw [e10] at cf
   have badF : m.isFn m.main = false -> CI m = true -> False:=fun z w=>by have:=((A7 m).1 w).2.2.2.2.2.2.2.2.2.2.2.1; rw [z] at this; cases this
   by_cases g0 : m.main < 0
   ·simp only [go_sem,reduceIte,Int.reduceLT,Int.reduceEq,k4',q6,List.nil_append,List.cons_append,kx,q0,w1,w2,w3,cf,q5,g0]
    exact no h4 f4 (badF (by unfold Img.isFn; rw [decide_eq_false (p:=0 <= m.main) (by omega)]; rfl))
   by_cases g1 : (m.fns.length : Int) <= m.main
   ·simp only [go_sem,reduceIte,Int.reduceLT,Int.reduceEq,k4',q6,List.nil_append,List.cons_append,kx,q0,w1,w2,w3,cf,q5,g0,q4,m54.len,g1]
    exact no h4 f4 (badF (by unfold Img.isFn; rw [decide_eq_false (p:=m.main < _) (by omega),Bool.and_false]))
   have e11 : m.isFn m.main = true:=(GU m _).2 (by omega)
   obtain ⟨b8,o8,c8,vp,vb,y1,y2,y3,y4,y5,y6,y7,y8,y9⟩:=OB m54 (i:=m.main) (by omega) (by omega)
   by_cases g2 : (0 : Int) < ((m.fn m.main).params.length : Int)
   ·simp only [go_sem,reduceIte,Int.reduceLT,Int.reduceEq,k4',q6,List.nil_append,List.cons_append,kx,q0,w1,w2,w3,cf,q5,g0,q4,m54.len,g1,y1,y5,y8.len,g2]
    exact no h4 f4 fun w=>by have:=((A7 m).1 w).2.2.2.2.2.2.2.2.2.2.2.2.1; rw [DL] at this; omega
   have e12 : (m.fn m.main).params.isEmpty = true:=(DL _).2 (by omega)
   simp only [go_sem,reduceIte,Int.reduceLT,Int.reduceEq,k4',q6,List.nil_append,List.cons_append,kx,q0,w1,w2,w3,cf,q5,g0,q4,m54.len,g1,y1,y5,y8.len,g2]
   refine pidx_c q0 hlt k4' m54 k5 k5' fun h9 f9=>?_
   have f9':=f4.trans f9
   cases e13 : m.fns.all (DA m) with
   | false=>
    simp only [go_sem,reduceIte,Int.reduceLT,Int.reduceEq]
    exact no h9 f9' fun w=>by have:=((A7 m).1 w).2.2.2.2.2.2.2.2.2.2.2.2.2; rw [e13] at this; cases this
   | true=>
    have:=hK h9 (f1.trans f9')
    rw [(A7 m).2 ⟨c0,d1,d2,c3,d4,c5,e6,e7,e8,e9,e10,e11,e12,e13⟩] at this
    simp only [go_sem,reduceIte,Int.reduceLT,Int.reduceEq]
    exact this
  ·obtain ⟨p3,⟨q0,q1,q4,q5,q6⟩,rm3,m13,m23,m53⟩:=F h3 f3
   simp only [go_sem,reduceIte,Int.reduceLT,Int.reduceEq,q1,m23.len]
   refine AS (m.shapes.length + 1) (fun cn ls h'=>∃ i : Nat,ls = [.int .i64 i] /\ i <= m.shapes.length /\ Fr [] h2' h' /\ m.shapes.all (CU m) = (m.shapes.drop i).all (CU m) /\ cn = m.shapes.length + 1 - i) ⟨0,rfl,by omega,f3',rfl,rfl⟩ ?_
   rintro cn ls h' ⟨i,rfl,hi,f'',eE,rfl⟩
   have f':=f2'.trans f''
   by_cases qq : (i : Int) < m.shapes.length
   ·have hi' : i < m.shapes.length:=by omega
    obtain ⟨x,hx⟩:=BG hi'
    rw [DE hx,List.all_cons] at eE
    have en:=B0 i (by unfold reachBytes at k2; omega)
    obtain ⟨p8,_,rm8,_,m28,_⟩:=F h' f'
    obtain ⟨bb,bo,cb,z1,z2,z3,z4,z5⟩:=m28.el hx
    have okx:=k2' x (List.mem_of_getElem? hx)
    simp only [go_sem,reduceIte,Int.reduceLT,Int.reduceEq,qq,z1,z4]
    refine BL rfl z3 rfl z2.ln.2 fun a h8 f8 ha ga=>?_
    have f8':=f'.trans f8
    have f8'':=f''.trans f8
    obtain ⟨p9,⟨q0,_⟩,rm9,_⟩:=F h8 f8'
    have k8:=FK h8 f8''
    obtain ⟨vf',ecb,rvf⟩:=z2.fr f8
    have a0 : h8.cell a 0 = some (.int .i64 x.kind):=by rw [AD ga,ecb]; rfl
    have a1 : h8.cell a 1 = some vf':=by rw [AD ga,ecb]; rfl
    have es : CU m x = (decide (1 <= x.kind) && decide (x.kind <= 3) && (!decide (x.kind = 2) || decide (x.fs.length = 1)) && (!decide (x.kind = 3) || decide (x.fs.length = 0)) && x.fs.all m.isTy):=rfl
    have bad : CU m x = false -> ∀ h'',Fr [] h1 h'' -> K (.bool false) h'':=fun z h'' f''=>no h'' f'' fun w=>by
     have:=((A7 m).1 w).2.2.2.2.2.2.2.1; rw [eE,z] at this; cases this
    by_cases g0 : x.kind < 1
    ·simp only [go_sem,reduceIte,Int.reduceLT,Int.reduceEq,a1,rvf.len,a0,g0]
     exact bad (by rw [es,decide_eq_false (p:=1 <= x.kind) (by omega)]; rfl) h8 f8'
    rw [decide_eq_true (p:=1 <= x.kind) (by omega),Bool.true_and] at es
    by_cases g1 : 3 < x.kind
    ·simp only [go_sem,reduceIte,Int.reduceLT,Int.reduceEq,a1,rvf.len,a0,g0,g1]
     exact bad (by rw [es,decide_eq_false (p:=x.kind <= 3) (by omega)]; rfl) h8 f8'
    rw [decide_eq_true (p:=x.kind <= 3) (by omega),Bool.true_and] at es
    have cf:=NJ (PK:=AU) (g:=74) (fi:=[]) (ca:=[.ptr k 0]) (p:=fun t=>!m.isTy t) rvf okx.2.1.1 (fun t _ K=>kind2_c q0 hlt k8 t K)
    rw [O2] at cf
    have good : x.fs.all m.isTy = true -> CU m x = x.fs.all m.isTy -> ∃ n',n' < m.shapes.length + 1 - i /\ ∃ i' : Nat,[AV.int .i64 ((i + 1 : Nat) : Int)] = [.int .i64 (i' : Int)] /\ i' <= m.shapes.length /\ Fr [] h2' h8 /\ m.shapes.all (CU m) = (m.shapes.drop i').all (CU m) /\ n' = m.shapes.length + 1 - i':=fun z1 z2=>by
     rw [z2,z1,Bool.true_and] at eE
     exact ⟨m.shapes.length + 1 - (i + 1),by omega,i + 1,rfl,by omega,f8'',eE,rfl⟩
    by_cases g2 : x.kind = 2
    ·have g3 : ¬ x.kind = 3:=by omega
     rw [decide_eq_true g2,decide_eq_false g3] at es
     by_cases g4 : (x.fs.length : Int) = 1
     ·rw [decide_eq_true (p:=x.fs.length = 1) (by omega)] at es
      have es' : CU m x = x.fs.all m.isTy:=by rw [es]; rfl
      cases hz : x.fs.all m.isTy with
      | false=>
       rw [hz] at cf es'
       simp only [go_sem,reduceIte,Int.reduceLT,Int.reduceEq,a1,rvf.len,a0,g2,g4,cf]
       exact bad es' h8 f8'
      | true=>
       rw [hz] at cf
       simp only [go_sem,reduceIte,Int.reduceLT,Int.reduceEq,a1,rvf.len,a0,g2,g4,cf,en]
       exact good hz es'
     ·rw [decide_eq_false (p:=x.fs.length = 1) (by omega)] at es
      simp only [go_sem,reduceIte,Int.reduceLT,Int.reduceEq,a1,rvf.len,a0,g2,g4]
      exact bad (by rw [es]; rfl) h8 f8'
    ·by_cases g3 : x.kind = 3
     ·rw [decide_eq_true g3,decide_eq_false g2] at es
      by_cases g4 : (0 : Int) < (x.fs.length : Int)
      ·rw [decide_eq_false (p:=x.fs.length = 0) (by omega)] at es
       simp only [go_sem,reduceIte,Int.reduceLT,Int.reduceEq,a1,rvf.len,a0,g3,g4]
       exact bad (by rw [es]; rfl) h8 f8'
      ·rw [decide_eq_true (p:=x.fs.length = 0) (by omega)] at es
       have es' : CU m x = x.fs.all m.isTy:=by rw [es]; rfl
       cases hz : x.fs.all m.isTy with
       | false=>
        rw [hz] at cf es'
        simp only [go_sem,reduceIte,Int.reduceLT,Int.reduceEq,a1,rvf.len,a0,g3,g4,cf]
        exact bad es' h8 f8'
       | true=>
        rw [hz] at cf
        simp only [go_sem,reduceIte,Int.reduceLT,Int.reduceEq,a1,rvf.len,a0,g3,g4,cf,en]
        exact good hz es'
     ·rw [decide_eq_false g2,decide_eq_false g3] at es
      have es' : CU m x = x.fs.all m.isTy:=by rw [es]; rfl
      cases hz : x.fs.all m.isTy with
      | false=>
       rw [hz] at cf es'
       simp only [go_sem,reduceIte,Int.reduceLT,Int.reduceEq,a1,rvf.len,a0,g0,g1,g2,g3,cf]
       exact bad es' h8 f8'
      | true=>
       rw [hz] at cf
       simp only [go_sem,reduceIte,Int.reduceLT,Int.reduceEq,a1,rvf.len,a0,g0,g1,g2,g3,cf,en]
       exact good hz es'
   ·have : i = m.shapes.length:=by omega
    subst this
    simp only [go_sem,reduceIte,Int.reduceLT,Int.reduceEq,qq]
    rw [List.drop_length] at eE
    exact hJ eE h' f''
 ·obtain ⟨_,⟨q0,_⟩,_,m13,_⟩:=F h2' f2'
  simp only [go_sem,reduceIte,Int.reduceLT,Int.reduceEq,q0,m13.len]
  refine AS (m.types.length + 1) (fun cn ls h'=>∃ i : Nat,ls = [.int .i64 i] /\ i <= m.types.length /\ Fr [] h2' h' /\ (m.types.all fun t=>CN m.shapes.length (-1) t.sh) = ((m.types.drop i).all fun t=>CN m.shapes.length (-1) t.sh) /\ cn = m.types.length + 1 - i) ⟨0,rfl,by omega,Fr.refl _ _,rfl,rfl⟩ ?_
  rintro cn ls h' ⟨i,rfl,hi,f'',eE,rfl⟩
  have f':=f2'.trans f''
  by_cases qq : (i : Int) < m.types.length
  ·have hi' : i < m.types.length:=by omega
   obtain ⟨x,hx⟩:=BG hi'
   rw [DE hx,List.all_cons] at eE
   have en:=B0 i (by unfold reachBytes at k1; omega)
   obtain ⟨p8,_,rm8,m18,m28,_⟩:=F h' f'
   obtain ⟨bb,bo,cb,z1,z2,z3,z4,z5⟩:=m18.el hx
   simp only [go_sem,reduceIte,Int.reduceLT,Int.reduceEq,qq,z1,z4]
   refine BL rfl z3 rfl z2.leaves fun a h8 f8 ha ga=>?_
   have f8':=f'.trans f8
   obtain ⟨p9,⟨q0,q1,q4,q5,q6⟩,rm9,_,m29,_⟩:=F h8 f8'
   obtain ⟨vf',ecb,rvf⟩:=z2.fr f8
   have a1 : h8.cell a 1 = some vf':=by rw [AD ga,ecb]; rfl
   simp only [go_sem,reduceIte,Int.reduceLT,Int.reduceEq,a1,q1,m29.len]
   refine RQ rvf (k1' x (List.mem_of_getElem? hx)).1 _ ?_
   cases hz : CN m.shapes.length (-1) x.sh with
   | false=>
    rw [hz,Bool.false_and] at eE
    simp only [go_sem,reduceIte,Int.reduceLT,Int.reduceEq]
    exact no h8 f8' fun w=>by have:=((A7 m).1 w).2.2.2.2.2.2.1; rw [eE] at this; cases this
   | true=>
    rw [hz,Bool.true_and] at eE
    simp only [go_sem,reduceIte,Int.reduceLT,Int.reduceEq,en]
    exact ⟨m.types.length + 1 - (i + 1),by omega,i + 1,rfl,by omega,f''.trans f8,eE,rfl⟩
  ·have : i = m.types.length:=by omega
   subst this
   simp only [go_sem,reduceIte,Int.reduceLT,Int.reduceEq,qq]
   rw [List.drop_length] at eE
   exact hJ eE h' f''
end
def slP (h : H) (x : Sl) (c : List AV) : Prop:=slR h x c /\ ∀ (i : Nat) k n,c[i]? ≠ some (.int k n)
theorem slP.fr {h h' : H} {x : Sl} {c : List AV} (r : slP h x c) (f : Fr [] h h') : slP h' x c:=⟨r.1.fr f,r.2⟩
theorem slP.ni {h h' : H} {x : Sl} {c : List AV} (r : slP h x c) (f : NI h h') : slP h' x c:=⟨r.1.ni f,r.2⟩
theorem XA {h : H} {t : Ty} {c : List AV} (r : tyR h t c) : ∃ v,c = [.bool t.imm,v] /\ slP h (some t) [.bool t.imm,v,.bool false] /\ leaves [.bool t.imm,v,.bool false] = true:=by
 obtain ⟨v,e,rs,lv⟩:=NQ r
 refine ⟨v,e,⟨rs,fun i k n q=>?_⟩,lv⟩
 match i,q with
 | 0,q=>cases q
 | 1,q=>subst e; exact r.noInt 1 k n q
 | 2,q=>cases q
theorem RO (h : H) : slP h none [.bool false,.nilsl,.bool true]:=⟨⟨_,_,rfl,rfl,rfl⟩,fun i k n q=>by
 match i,q with
 | 0,q=>cases q
 | 1,q=>cases q
 | 2,q=>cases q⟩
structure SvC (h0 h : H) (p : Nat) (m : Img) (f : Fn) (cm cf : List AV) (v : AV) (l : List Sl) : Prop where
 fr : Fr [] h0 h
 free : h0.get p = none
 im : imgR h0 m cm
 fn : fnR h0 f cf
 get : h.get p = some (.live (cm ++ cf ++ [v]) 146 true)
 row : RowOf h 3 (slP h) v l
 own : ∀ b off n cap,v = .sl b off n cap -> h0.get b = none /\ ∃ cs,h.get b = some (.live cs 148 true)
 W : Wh m
 wf : FnW m f
 ol : okL m l
 len : (l.length : Int) = f.slots /\ l.length <= 200
def Sv (h0 h : H) (p : Nat) (m : Img) (f : Fn) (l : List Sl) : Prop:=∃ cm cf v,SvC h0 h p m f cm cf v l
theorem SvC.mono {h0 h h' : H} {p : Nat} {m : Img} {f : Fn} {cm cf : List AV} {v : AV} {l : List Sl} (s : SvC h0 h p m f cm cf v l) (k : Fr [] h h') : SvC h0 h' p m f cm cf v l:=
 ⟨s.fr.trans k,s.free,s.im,s.fn,k p _ (by simp) s.get,s.row.mono k fun _ _ _ x=>x.fr k,fun b off n cap e=>by
  obtain ⟨h1,cs,h2⟩:=s.own b off n cap e
  exact ⟨h1,cs,k b _ (by simp) h2⟩,s.W,s.wf,s.ol,s.len⟩
theorem Sv.mono {h0 h h' : H} {p : Nat} {m : Img} {f : Fn} {l : List Sl} (s : Sv h0 h p m f l) (k : Fr [] h h') : Sv h0 h' p m f l:=by
 obtain ⟨cm,cf,v,s⟩:=s; exact ⟨cm,cf,v,s.mono k⟩
theorem Sv.W {h0 h : H} {p : Nat} {m : Img} {f : Fn} {l : List Sl} (s : Sv h0 h p m f l) : Wh m:=by obtain ⟨_,_,_,s⟩:=s; exact s.W
theorem Sv.wf {h0 h : H} {p : Nat} {m : Img} {f : Fn} {l : List Sl} (s : Sv h0 h p m f l) : FnW m f:=by obtain ⟨_,_,_,s⟩:=s; exact s.wf
theorem Sv.ol {h0 h : H} {p : Nat} {m : Img} {f : Fn} {l : List Sl} (s : Sv h0 h p m f l) : okL m l:=by obtain ⟨_,_,_,s⟩:=s; exact s.ol
theorem Sv.fr {h0 h : H} {p : Nat} {m : Img} {f : Fn} {l : List Sl} (s : Sv h0 h p m f l) : Fr [] h0 h:=by obtain ⟨_,_,_,s⟩:=s; exact s.fr
theorem Sv.free {h0 h : H} {p : Nat} {m : Img} {f : Fn} {l : List Sl} (s : Sv h0 h p m f l) : h0.get p = none:=by obtain ⟨_,_,_,s⟩:=s; exact s.free
theorem Sv.alive {h0 h : H} {p : Nat} {m : Img} {f : Fn} {l : List Sl} (s : Sv h0 h p m f l) : h.get p ≠ none:=by obtain ⟨_,_,_,s⟩:=s; rw [s.get]; simp
theorem Sv.len {h0 h : H} {p : Nat} {m : Img} {f : Fn} {l : List Sl} (s : Sv h0 h p m f l) : (l.length : Int) = f.slots /\ l.length <= 200:=by obtain ⟨_,_,_,s⟩:=s; exact s.len
structure SvF (h : H) (p : Nat) (m : Img) (f : Fn) (l : List Sl) (vt vs vx vf vp vb v : AV) : Prop where
 c0 : h.cell p 0 = some vt
 c1 : h.cell p 1 = some vs
 c2 : h.cell p 2 = some vx
 c4 : h.cell p 4 = some vf
 c6 : h.cell p 6 = some (.int .i64 m.exn)
 c8 : h.cell p 8 = some (.int .i64 f.result)
 c10 : h.cell p 10 = some vb
 c11 : h.cell p 11 = some v
 ty : RowOf h 2 (tyR h) vt m.types
 sh : RowOf h 3 (shR h) vs m.shapes
 st : RowOf h 1 stR vx m.strs
 fs : RowOf h 4 (fnR h) vf m.fns
 bl : RowOf h 2 (blkR h) vb f.blocks
 row : RowOf h 3 (slP h) v l
theorem SvC.facts {h0 h : H} {p : Nat} {m : Img} {f : Fn} {cm cf : List AV} {v : AV} {l : List Sl} (s : SvC h0 h p m f cm cf v l) : ∃ vt vs vx vf vp vb,SvF h p m f l vt vs vx vf vp vb v:=by
 obtain ⟨vt,vs,vx,vn,vf,ecm,m1,m2,m3,m4,m5⟩:=s.im.fr s.fr
 obtain ⟨vp,vb,ecf,rp,rb⟩:=s.fn.fr s.fr
 have g:=s.get
 rw [ecm,ecf] at g
 exact ⟨vt,vs,vx,vf,vp,vb,⟨by rw [AD g]; rfl,by rw [AD g]; rfl,by rw [AD g]; rfl,by rw [AD g]; rfl,by rw [AD g]; rfl,by rw [AD g]; rfl,by rw [AD g]; rfl,by rw [AD g]; rfl,m1,m2,m3,m5,rb,s.row⟩⟩
theorem Sv.facts {h0 h : H} {p : Nat} {m : Img} {f : Fn} {l : List Sl} (s : Sv h0 h p m f l) : ∃ vt vs vx vf vp vb v,SvF h p m f l vt vs vx vf vp vb v:=by
 obtain ⟨cm,cf,v,s⟩:=s
 obtain ⟨vt,vs,vx,vf,vp,vb,F⟩:=s.facts
 exact ⟨vt,vs,vx,vf,vp,vb,v,F⟩
section
variable {PK : H -> Prop} {h h0 : H} {p : Nat} {m : Img} {f : Fn} {l : List Sl}
theorem FV {b : Bool} {K : AV -> H -> Prop} (hno : b = false -> PK h) (hK : b = true -> K (.tup []) h) : DP PK 161 [.bool b] h K:=by
 refine UH ?_
 cases b with
 | true=>exact hK rfl
 | false=>exact hno rfl
theorem C8 {K : AV -> H -> Prop} (hK : K (.tup []) h) : DP PK 161 [.bool true] h K:=FV (fun z=>by cases z) fun _=>hK
theorem BK {K : AV -> H -> Prop} (hno : PK h) : DP PK 161 [.bool false] h K:=FV (fun _=>hno) fun z=>by cases z
theorem I4 (s : Sv h0 h p m f l) (i : Int) {K : AV -> H -> Prop} (hno : atS l i = none -> ∀ h',Fr [] h0 h' -> PK h') (hK : ∀ t,atS l i = some t -> ∀ c h',Fr [] h h' -> tyR h' t c -> K (.agg c) h') : DP PK 162 [.ptr p 0,.int .i64 i] h K:=by
 refine runP162 ?_
 unfold sh162 zT zU zF zG
 refine BH rfl fun q hq=>?_
 have f0 : Fr [] h (h.set q (.live [.bool false,.nilsl] 46 true)):=Fr.new hq
 have gq : (h.set q (.live [.bool false,.nilsl] 46 true)).get q = some (.live [.bool false,.nilsl] 46 true):=H.get_same ..
 generalize h.set q (.live [.bool false,.nilsl] 46 true) = h1 at f0 gq
 have s1:=s.mono f0
 have no : atS l i = none -> PK h1:=fun e=>hno e h1 s1.fr
 obtain ⟨vt,vs,vx,vf,vp,vb,v,F⟩:=s1.facts
 by_cases i0 : 0 <= i
 ·by_cases i1 : i < (l.length : Int)
  ·obtain ⟨x,hx⟩ : ∃ x,l[i.toNat]? = some x:=⟨l[i.toNat]'(by omega),by simp [show i.toNat < l.length by omega]⟩
   obtain ⟨b,o,c,q1,q2,q3,q4,q5⟩:=F.row.el hx
   have hi : ((i.toNat : Nat) : Int) = i:=by omega
   rw [hi] at q1
   have e : atS l i = x:=by unfold atS; rw [if_pos (by omega),List.getD_eq_getElem?_getD,hx]; rfl
   have c2:=q5 2 (by decide)
   obtain ⟨q2,_⟩:=q2
   cases x with
   | none=>
    obtain ⟨bi,w,rfl,_⟩:=q2
    have c2 : h1.cell b (o + 2) = some (.bool true):=c2
    simp only [go_sem,reduceIte,i0,F.c11,F.row.len,i1,q1,c2]
    exact FV (fun _=>no e) fun z=>by cases z
   | some t=>
    obtain ⟨w,rfl,rw'⟩:=q2
    have c2 : h1.cell b (o + 2) = some (.bool false):=c2
    have rd : h1.read b o 2 = some [.bool t.imm,w]:=LV q4 (by decide)
    have hlv : leaves [.bool t.imm,w] = true:=by simp only [leaves,rw'.one.1]; rfl
    simp only [go_sem,reduceIte,i0,F.c11,F.row.len,i1,q1,c2]
    refine FV (fun z=>by cases z) fun _=>?_
    have st : stA h1 2 (.ptr q 0) (.agg [.bool t.imm,w]) = some (h1.set q (.live [.bool t.imm,w] 46 true)):=DG (n:=2) gq rfl rfl hlv
    have rd2 : (h1.set q (.live [.bool t.imm,w] 46 true)).read q 0 2 = some [.bool t.imm,w]:=AR (H.get_same ..) rfl
    simp only [go_sem,reduceIte,F.c11,q1,rd,st,rd2]
    exact hK t e _ _ (f0.trans (Fr.refl _ _) |>.set' hq) ⟨w,rfl,(rw'.ni (NI.set gq (by simp) fun i k n z=>by
     match i,z with
     | 0,z=>cases z
     | 1,z=>cases z))⟩
  ·have e : atS l i = none:=by unfold atS; rw [if_pos (by omega),List.getD_eq_getElem?_getD,List.getElem?_eq_none (by omega)]; rfl
   simp only [go_sem,reduceIte,i0,F.c11,F.row.len,i1]
   exact FV (fun _=>no e) fun z=>by cases z
 ·have e : atS l i = none:=by unfold atS; rw [if_neg (by omega)]
  simp only [go_sem,reduceIte,i0]
  exact FV (fun _=>no e) fun z=>by cases z
theorem JB {i : Int} {t x : Ty} (e : atS l i = some x) : isS l i t = G0 x t:=by unfold isS; rw [e]
theorem H7 {i : Int} {t : Ty} (e : atS l i = none) : isS l i t = false:=by unfold isS; rw [e]
theorem HB (s : Sv h0 h p m f l) (i : Int) {K : AV -> H -> Prop} (hno : isS l i BF = false -> ∀ h',Fr [] h0 h' -> PK h') (hK : isS l i BF = true -> ∀ h',Fr [] h h' -> K (.tup []) h') : DP PK 158 [.ptr p 0,.int .i64 i] h K:=by
 refine runP158 ?_
 unfold sh158
 refine I4 s i (fun e=>hno (H7 e)) fun t e c h1 f1 rt=>?_
 have eb : AT (AG [.bool false,.nilsl] [(0,1,.bool true)]) = some (.agg [.bool true,.nilsl]):=rfl
 rw [eb,AB]
 refine KR rt (b:=BF) ⟨.nilsl,rfl,Row.nil _ 1⟩ (s.W.tlen (s.ol.at e)) (by show (0 : Nat) <= _; omega) fun h2 f2=>?_
 rw [<- JB (l:=l) e]
 refine FV (fun z=>hno z h2 ((s.fr.trans f1).trans f2)) fun z=>?_
 exact hK z h2 (f1.trans f2)
theorem LW {s : Int} {K : AV -> H -> Prop} (hK : ∀ c h',Fr [] h h' -> tyR h' (DK s) c -> K (.agg c) h') : DP PK 166 [.int .i64 s] h K:=by
 refine runB166 ?_
 unfold sh166
 refine BH rfl fun q hq=>?_
 have gq : (h.set q (.live [.bool false,.nilsl] 46 true)).get q = some (.live [.bool false,.nilsl] 46 true):=H.get_same ..
 have f1 : Fr [] h (h.set q (.live [.bool false,.nilsl] 46 true)):=Fr.new hq
 generalize h.set q (.live [.bool false,.nilsl] 46 true) = h1 at *
 refine IW fun v h2 f2 r2=>?_
 have hlv : leaves [.bool false,v] = true:=by simp only [leaves,r2.one.1]; rfl
 have eb : AT (AG [.bool false,.nilsl] [(1,1,v)]) = some (.agg [.bool false,v]):=by
  rw [IP,r2.one.2,if_pos ⟨rfl,by decide,by simp only [leaves,r2.one.1]; rfl⟩]; rfl
 rw [eb,AB]
 have gq2:=f2 q _ (by simp) gq
 refine QE (X:=fun _ _ _=>True) hlv gq2 ?_
 refine hK _ _ ((f1.trans f2).set' hq) ⟨v,rfl,r2.ni (NI.set gq2 (by simp) fun i k n z=>by
  match i,z with
  | 0,z=>cases z
  | 1,z=>cases z)⟩
theorem QF {n : Int} (n0 : -9223372036854775808 <= n) (n1 : n <= 9223372036854775807) {K : AV -> H -> Prop} (hK : K (.int .i64 (DX n)) h) : DP PK 163 [.int .i64 n] h K:=by
 refine runB163 ?_
 unfold sh163
 rw [WV (by omega) (by omega),AB,WU (by omega) (by omega),AB]
 have : IntKind.i64.wrap (n * 2 ^ (1 : Int).toNat) / 2 ^ (1 : Int).toNat = DX n:=by
  rw [SP]
  show wrap64 (n * 2 ^ 1) / 2 ^ 1 = _
  unfold wrap64 DX
  split <;> (try split) <;> omega
 rw [this]
 exact hK
end
section
variable {PK : H -> Prop} {h h0 : H} {p : Nat} {m : Img} {f : Fn} {l : List Sl}
theorem LT {t : Ty} {ct : List AV} (rt : tyR h t ct) : ∃ v,ct = [.bool t.imm,v] /\ slP h (some t) [.bool t.imm,v,.bool false] /\ leaves [.bool t.imm,v,.bool false] = true /\ AT (AG [.bool false,.nilsl,.bool false] [(0,2,.agg ct)]) = some (.agg [.bool t.imm,v,.bool false]):=by
 obtain ⟨v,e,rs,lv⟩:=XA rt
 refine ⟨v,e,rs,lv,?_⟩
 rw [e]
 have : (AV.agg [.bool t.imm,v]).cells = [.bool t.imm,v]:=rfl
 have l2 : leaves [.bool t.imm,v] = true:=by simp only [leaves,Bool.and_eq_true] at lv ⊢; exact ⟨lv.1,lv.2.1,trivial⟩
 rw [IP,this,if_pos ⟨rfl,by decide,l2⟩]
 rfl
theorem I2 (s : Sv h0 h p m f l) (i : Int) {t : Ty} {ct : List AV} (rt : tyR h t ct) (ot : okT m t) {K : AV -> H -> Prop} (hno : BI l i t = none -> ∀ h',Fr [] h0 h' -> PK h') (hK : ∀ l' h',BI l i t = some l' -> Sv h0 h' p m f l' -> K (.tup []) h') : DP PK 164 [.ptr p 0,.int .i64 i,.agg ct] h K:=by
 refine runP164 ?_
 unfold sh164 zT zU zF zG
 refine FR rt fun q h1 f1 hq gq rt1=>?_
 have s1:=s.mono f1
 obtain ⟨cm,cf,v,sc⟩:=s1
 obtain ⟨vt,vs,vx,vf,vp,vb,F⟩:=sc.facts
 by_cases i0 : 0 <= i
 ·by_cases i1 : i < (l.length : Int)
  ·have hi : i.toNat < l.length:=by omega
   have e : BI l i t = some (l.set i.toNat (some t)):=by unfold BI; rw [if_pos (by omega)]
   obtain ⟨vv,ect,rs,lvs,eb⟩:=LT rt1
   subst ect
   obtain ⟨b,off,n,cap,ev,hcap⟩ : ∃ b off n cap,v = .sl b off n cap /\ n = l.length:=by
    obtain ⟨css,_,_,_,r⟩:=F.row
    rcases r.2 with ⟨z,_⟩ | ⟨b,off,cap,e,_⟩
    ·omega
    ·exact ⟨b,off,_,cap,e,rfl⟩
   obtain ⟨hb0,cs,gb⟩:=sc.own b off n cap ev
   have hrow:=F.row
   rw [ev] at hrow
   have hbp : b ≠ p:=fun z=>by
    rw [z,sc.get] at gb
    injection gb with gb; injection gb with _ gb
    cases gb
   obtain ⟨w1,_,⟨old,_,d,hd,hdl,hcd⟩,hin⟩:=hrow.put (R':=fun _ _=>True) (x:=some t) gb hi (c:=[.bool t.imm,vv,.bool false]) rfl lvs trivial (fun _ _ _ _=>trivial)
   have ni : NI h1 (h1.set b (.live (overlay cs (off + i.toNat * 3) [.bool t.imm,vv,.bool false]) 148 true)):=NI.set gb (by rw [ER]; exact Nat.le_refl _) fun j k z hj=>by
    rw [G8]
    by_cases q : off + i.toNat * 3 <= j /\ j < off + i.toNat * 3 + 3 /\ j < cs.length
    ·have:=hcd (j - (off + i.toNat * 3)) (by omega)
     rw [show off + i.toNat * 3 + (j - (off + i.toNat * 3)) = j by omega,hj] at this
     exact absurd this.symm (hd.2 _ _ _)
    ·rw [if_neg (by simpa using q)]; exact hj
   obtain ⟨_,w2,_⟩:=hrow.put (R':=fun x c=>slP (h1.set b (.live (overlay cs (off + i.toNat * 3) [.bool t.imm,vv,.bool false]) 148 true)) x c) (x:=some t) gb hi (c:=[.bool t.imm,vv,.bool false]) rfl lvs (rs.ni ni) (fun y _ d x=>x.ni ni)
   have rd : h1.read q 0 2 = some [.bool t.imm,vv]:=AR gq rfl
   have ea : iaA 3 v (.int .i64 i) = some (.ptr b (off + i.toNat * 3)):=by rw [ev,M0,if_pos (by omega)]
   have ec : (AV.agg [.bool t.imm,vv,.bool false]).cells = [.bool t.imm,vv,.bool false]:=rfl
   have st : stA h1 3 (.ptr b (off + i.toNat * 3)) (.agg [.bool t.imm,vv,.bool false]) = some (h1.set b (.live (overlay cs (off + i.toNat * 3) [.bool t.imm,vv,.bool false]) 148 true)):=by rw [HY,ec,if_pos (by rfl),w1]
   simp only [go_sem,reduceIte,i0,F.c11,F.row.len,i1]
   refine C8 ?_
   simp only [go_sem,reduceIte,F.c11,rd,eb,ea,st]
   refine hK _ _ e ⟨cm,cf,v,sc.fr.set' hb0,sc.free,sc.im,sc.fn,?_,by rw [ev]; exact w2,fun b' off' n' cap' e'=>?_,sc.W,sc.wf,sc.ol.set _ ot,by rw [List.length_set]; exact sc.len⟩
   ·rw [H.get_other _ _ hbp.symm]; exact sc.get
   ·rw [ev] at e'
    injection e' with e' _ _ _
    subst e'
    exact ⟨hb0,_,H.get_same ..⟩
  ·simp only [go_sem,reduceIte,i0,F.c11,F.row.len,i1]
   exact BK (hno (by unfold BI; rw [if_neg (by omega)]) _ sc.fr)
 ·simp only [go_sem,reduceIte,i0]
  exact BK (hno (by unfold BI; rw [if_neg (by omega)]) _ sc.fr)
def HZ (l : List Sl) (i : Int) (t : Ty) : List Sl:=if 0 <= i then l.set i.toNat (some t) else l
theorem UZ (l : List Sl) (i : Int) (t : Ty) {k : Nat} (hk : k < l.length) : atS (HZ l i t) k = if (k : Int) = i then some t else l.getD k none:=by
 rw [LI]
 unfold HZ
 split
 ·rename_i i0
  rw [List.getD_eq_getElem?_getD,List.getD_eq_getElem?_getD,List.getElem?_set]
  by_cases q : (k : Int) = i
  ·rw [if_pos (by omega),if_pos (by omega),if_pos q]; rfl
  ·rw [if_neg (by omega),if_neg q]
 ·rw [if_neg (by omega)]
set_option maxHeartbeats 1000000 in
theorem aY (s : Sv h0 h p m f l) (b i : Int) {t : Ty} {ct : List AV} (rt : tyR h t ct) (ot : okT m t) {K : AV -> H -> Prop} (hno : BB m f (HZ l i t) b = false -> ∀ h',Fr [] h0 h' -> PK h') (hK : BB m f (HZ l i t) b = true -> ∀ h',Fr [] h h' -> K (.tup []) h') : DP PK 157 [.ptr p 0,.int .i64 b,.int .i64 i,.agg ct] h K:=by
 refine runP157 ?_
 unfold sh157 zL zT zU zF zG
 refine FR rt fun q h1 f1 hq gq rt1=>?_
 have s1:=s.mono f1
 obtain ⟨vt,vs,vx,vf,vp,vb,v,F⟩:=s1.facts
 by_cases b0 : 0 <= b
 ·by_cases b1 : b < (f.blocks.length : Int)
  ·obtain ⟨bk,hbk⟩ : ∃ bk,f.blocks[b.toNat]? = some bk:=⟨f.blocks[b.toNat]'(by omega),by simp [show b.toNat < f.blocks.length by omega]⟩
   obtain ⟨bb,bo,cb,q1,q2,q3,q4,q5⟩:=F.bl.el hbk
   rw [show ((b.toNat : Nat) : Int) = b by omega] at q1
   obtain ⟨vi,vc,rfl,ri,_⟩:=q2
   have c5 : h1.cell bb bo = some vi:=q5 0 (by decide)
   have wb:=s.wf.inn bk (List.mem_of_getElem? hbk)
   have hlen : bk.inn.length = l.length:=by have:=wb.1; have:=s.len.1; omega
   have hl2:=s.len.2
   have ez : BB m f (HZ l i t) b = (List.range bk.inn.length).all fun k=>decide (bk.inn.getD k 0 < 0) || isS (HZ l i t) k (m.ty (bk.inn.getD k 0)):=by
    unfold BB
    rw [decide_eq_true (p:=0 <= b) (by omega),decide_eq_true (p:=b < _) (by omega),List.getD_eq_getElem?_getD,hbk]
    rfl
   rw [ez] at hno hK
   simp only [go_sem,reduceIte,b0,F.c10,F.bl.len,b1]
   refine C8 ?_
   simp only [go_sem,reduceIte,F.c10,q1,c5,ri.len]
   refine AS (bk.inn.length + 1) (fun cn ls h'=>∃ k : Nat,ls = [.int .i64 k] /\ k <= bk.inn.length /\ Fr [] h1 h' /\ (∀ j,j < k -> (decide (bk.inn.getD j 0 < 0) || isS (HZ l i t) j (m.ty (bk.inn.getD j 0))) = true) /\ cn = bk.inn.length + 1 - k) ⟨0,rfl,by omega,Fr.refl _ _,fun j hj=>absurd hj (by omega),rfl⟩ ?_
   rintro cn ls h' ⟨k,rfl,hk,f',hall,rfl⟩
   have s':=s1.mono f'
   by_cases qq : (k : Int) < bk.inn.length
   ·have hk' : k < bk.inn.length:=by omega
    obtain ⟨x,hx⟩:=BG hk'
    have ex : bk.inn.getD k 0 = x:=by rw [List.getD_eq_getElem?_getD,hx]; rfl
    have en:=B0 k (by omega)
    obtain ⟨b7,o7,u1,u2⟩:=(ri.fr f').atI hx
    obtain ⟨vt',vs',vx',vf',vp',vb',v',F'⟩:=s'.facts
    simp only [go_sem,reduceIte,qq]
    refine AI (fun (J : H -> Prop)=>(decide (x < 0) || isS (HZ l i t) k (m.ty x)) = true -> ∀ h'',Fr [] h1 h'' -> J h'') (fun z h'' f''=>?_) fun J hJ=>?_
    ·rw [en]
     exact ⟨bk.inn.length + 1 - (k + 1),by omega,k + 1,rfl,by omega,f'',fun j hj=>by
      by_cases q : j = k
      ·rw [q,ex]; exact z
      ·exact hall j (by omega),rfl⟩
    ·by_cases x0 : x < 0
     ·simp only [go_sem,reduceIte,u1,u2,x0]
      exact hJ (by rw [decide_eq_true x0]; rfl) h' f'
     ·have hkl : k < l.length:=by omega
      obtain ⟨y,hy⟩:=BG hkl
      obtain ⟨b8,o8,c8,w1,w2,w3,w4,w5⟩:=F'.row.el hy
      have bad : isS (HZ l i t) k (m.ty x) = false -> ∀ h'',Fr [] h0 h'' -> PK h'':=fun z h'' f''=>hno (H0 hk' (by rw [ex,z,decide_eq_false x0]; rfl)) h'' f''
      simp only [go_sem,reduceIte,u1,u2,x0,F'.c11,w1,w4]
      refine BL rfl w3 rfl w2.1.leaves.2 fun a h3 f3 ha ga=>?_
      have f13:=f'.trans f3
      have s3:=s'.mono f3
      have fin : ∀ (z : Sl) (cz : List AV) h4,Fr [] h1 h4 -> h4.get a = some (.live cz 148 true) -> slP h4 z cz -> atS (HZ l i t) k = z ->
        AA (ldA h4 none (.ptr a 2)) h4 fun t54 h=>AA (unOp .not t54) h fun t55 h=>AH t55 true (fun K=>AA (faA 0 (.ptr a 0)) h K) h fun t57 h=>AH t55 true (fun K=>AA (ldA h (some 2) t57) h K) h fun t58 h=>
        AH t55 true (fun K=>K (.ptr p 0) h) h fun t59 h=>AH t55 true (fun K=>AA (BJ t59) h K) h fun t60 h=>AH t55 true (fun K=>AA (faA 0 t60) h K) h fun t61 h=>AH t55 true (fun K=>AA (faA 0 t61) h K) h fun t62 h=>AH t55 true (fun K=>AA (ldA h none t62) h K) h fun t63 h=>
        AH t55 true (fun K=>K (.int .i64 x) h) h fun t64 h=>AH t55 true (fun K=>AA (iaA 2 t63 t64) h K) h fun t65 h=>AH t55 true (fun K=>AA (ldA h (some 2) t65) h K) h fun t66 h=>AH t55 true (fun K=>DP PK 23 [t58,t66] h K) h fun t67 h=>AA (AE t55 t67 (.bool false)) h fun t68 h=>DP PK 161 [t68] h fun t69 h=>J h:=by
       intro z cz h4 f4 g4 rz ez
       have s4:=s1.mono f4
       obtain ⟨vt4,vs4,vx4,vf4,vp4,vb4,v4,F4⟩:=s4.facts
       cases z with
       | none=>
        obtain ⟨⟨bi,w,rfl,_⟩,_⟩:=rz
        have c2 : h4.cell a 2 = some (.bool true):=by rw [AD g4]; rfl
        simp only [go_sem,reduceIte,c2]
        exact BK (bad (H7 ez) h4 s4.fr)
       | some y=>
        obtain ⟨⟨w,rfl,rw4⟩,_⟩:=rz
        have c2 : h4.cell a 2 = some (.bool false):=by rw [AD g4]; rfl
        have rd : h4.read a 0 2 = some [.bool y.imm,w]:=by
         have:=AR (n:=3) g4 rfl
         exact LV this (k:=2) (by decide)
        have htx:=wb.2.2.2.2 x (List.mem_of_getElem? hx)
        obtain ⟨b9,o9,ctx,v1,v2,v3⟩:=C7 F4.ty (t:=x) (by omega) htx.2
        have oy : okT m y:=by
         have hm:=UZ l i t hkl
         rw [ez] at hm
         by_cases ki : (k : Int) = i
         ·rw [if_pos ki] at hm; injection hm with hm; subst hm; exact ot
         ·rw [if_neg ki] at hm
          refine s.ol (some y) ?_ y rfl
          rw [hm,List.getD_eq_getElem?_getD]
          have : l[k]? = some l[k]:=by simp [hkl]
          rw [this]
          exact List.getElem_mem hkl
        simp only [go_sem,reduceIte,c2,rd,F4.c0,v1,v2]
        refine KR ⟨w,rfl,rw4⟩ v3 (s.W.tlen oy) (s.W.tlen (s.W.tyOk _)) fun h5 f5=>?_
        have ei:=JB (l:=HZ l i t) (t:=m.ty x) ez
        cases hz : G0 y (m.ty x) with
        | false=>
         rw [hz] at ei
         try simp only [go_sem,reduceIte]
         exact BK (bad ei h5 (s4.fr.trans f5))
        | true=>
         rw [hz] at ei
         try simp only [go_sem,reduceIte]
         exact C8 (hJ (by rw [ei,Bool.or_true]) h5 (f4.trans f5))
      refine AI (fun (J' : H -> Prop)=>∀ (z : Sl) (cz : List AV) h4,Fr [] h1 h4 -> h4.get a = some (.live cz 148 true) -> slP h4 z cz -> atS (HZ l i t) k = z -> J' h4) (fun z cz h4 f4 g4 rz ez=>?_) fun J' hJ'=>?_
      ·have:=fin z cz h4 f4 g4 rz ez
       simpa only [go_sem,reduceIte] using this
      ·have hat:=UZ l i t hkl
       by_cases ki : (k : Int) = i
       ·rw [if_pos ki] at hat
        have gq3:=f13 q _ (by simp) gq
        obtain ⟨vv,ect,rs,lvs,eb⟩:=LT (rt1.fr f13)
        have st : stA h3 3 (.ptr a 0) (.agg [.bool t.imm,vv,.bool false]) = some (h3.set a (.live [.bool t.imm,vv,.bool false] 148 true)):=DG (n:=3) ga w3 rfl lvs
        have ha1 : h1.get a = none:=f'.free ha
        have fa:=f13.set' (o:=.live [.bool t.imm,vv,.bool false] 148 true) ha1
        simp only [go_sem,reduceIte,ki,AR gq3 rt.len,eb,st]
        refine hJ' (some t) _ _ fa (H.get_same ..) ?_ hat
        refine rs.ni (NI.set ga (by rw [w3]; exact Nat.le_refl 3) fun j k' n' z=>absurd z (w2.2 j k' n'))
       ·rw [if_neg ki] at hat
        simp only [go_sem,reduceIte,ki]
        have : l.getD k none = y:=VL hy
        exact hJ' y c8 h3 f13 ga (w2.fr f3) (by rw [hat,this])
   ·have : k = bk.inn.length:=by omega
    subst this
    simp only [go_sem,reduceIte,qq]
    exact hK (H1 hall) h' (f1.trans f')
  ·have z : BB m f (HZ l i t) b = false:=by unfold BB; rw [decide_eq_false (p:=b < _) (by omega),Bool.and_false]; rfl
   simp only [go_sem,reduceIte,b0,F.c10,F.bl.len,b1]
   exact BK (hno z _ s1.fr)
 ·have z : BB m f (HZ l i t) b = false:=by unfold BB; rw [decide_eq_false (p:=0 <= b) (by omega)]; rfl
  simp only [go_sem,reduceIte,b0]
  exact BK (hno z _ s1.fr)
end
def QO (m : Img) (l : List Sl) (i : Int) (L : List Int) : Option (List Int):=match atS l i with
 | some t=>if !t.imm && !t.sh.isEmpty && t.sh.all (fun s=>decide ((m.shp s).kind ∈ L)) then some t.sh else none
 | none=>none
theorem R4 (m : Img) (l : List Sl) (i k1 k2 : Int) : QO m l i [k1,k2] = B5 m l i k1 k2:=by
 have : ∀ s,decide ((m.shp s).kind ∈ [k1,k2]) = (decide ((m.shp s).kind = k1) || decide ((m.shp s).kind = k2)):=fun s=>by simp
 unfold QO B5
 simp only [this]
 cases atS l i <;> rfl
theorem C0 (m : Img) (l : List Sl) (i k : Int) : QO m l i [k] = B5 m l i k k:=by
 have : ∀ s,decide ((m.shp s).kind ∈ [k]) = (decide ((m.shp s).kind = k) || decide ((m.shp s).kind = k)):=fun s=>by simp
 unfold QO B5
 simp only [this]
 cases atS l i <;> rfl
theorem JT {m : Img} {l : List Sl} {i k1 k2 : Int} {sh : List Int} (e : B5 m l i k1 k2 = some sh) : ∃ t,atS l i = some t /\ t.sh = sh /\ sh ≠ []:=by
 unfold B5 at e
 cases ha : atS l i with
 | none=>rw [ha] at e; cases e
 | some t=>
  rw [ha] at e
  simp only at e
  split at e
  ·rename_i z
   injection e with e
   refine ⟨t,rfl,e,fun q=>?_⟩
   rw [<- e] at q
   simp [q] at z
  ·cases e
def LB (l : List Sl) (i : Int) (Ts : List Ty) : Bool:=match atS l i with | some x=>Ts.all (G0 x) | none=>false
theorem N9 {m : Img} {l : List Sl} {i k : Int} {sh : List Int} (hne : sh ≠ []) (hf : sh.all (BQ m k) = true) : LB l i (sh.map (BM m k)) = CX m l i sh k:=by
 unfold LB CX
 cases hat : atS l i with
 | none=>
  cases sh with
  | nil=>exact absurd rfl hne
  | cons a sh=>rw [List.all_cons,H7 hat,Bool.and_false,Bool.false_and]
 | some x=>
  simp only
  rw [List.all_map]
  have : ∀ s ∈ sh,(G0 x ∘ BM m k) s = (BQ m k s && isS l i (BM m k s)):=fun s hs=>by
   rw [List.all_eq_true.1 hf s hs,Bool.true_and,JB hat]; rfl
  clear hf hne
  induction sh with
  | nil=>rfl
  | cons a sh ih=>rw [List.all_cons,List.all_cons,this a (by simp),ih fun s hs=>this s (by simp [hs])]
theorem PY {m : Img} {l : List Sl} {i k : Int} {sh : List Int} (hf : sh.all (BQ m k) = false) : CX m l i sh k = false:=by
 unfold CX
 rw [List.all_eq_false] at hf ⊢
 obtain ⟨s,hs,e⟩:=hf
 exact ⟨s,hs,by rw [Bool.not_eq_true] at e; rw [e]; simp⟩
section
variable {PK : H -> Prop} {h h0 : H} {p : Nat} {m : Img} {f : Fn} {l : List Sl}
theorem EJ (s : Sv h0 h p m f l) (i : Int) {vk : AV} {L : List Int} (rk : Row h vk L.length 1 (ic L)) (hL : L.length <= reachBytes) {K : AV -> H -> Prop} (hno : QO m l i L = none -> ∀ h',Fr [] h0 h' -> PK h') (hK : ∀ sh,QO m l i L = some sh -> ∀ w h',Fr [] h h' -> Row h' w sh.length 1 (ic sh) -> K w h') : DP PK 172 [.ptr p 0,.int .i64 i,vk] h K:=by
 refine runP172 ?_
 unfold sh172 zL zT zF zG
 refine I4 s i (fun e=>hno (by unfold QO; rw [e])) fun t e c h1 f1 rt=>?_
 have eo : QO m l i L = if !t.imm && !t.sh.isEmpty && t.sh.all (fun s=>decide ((m.shp s).kind ∈ L)) then some t.sh else none:=by unfold QO; rw [e]
 have s1:=s.mono f1
 refine DN rt.len rt.leaves fun q h2 f2 hq gq=>?_
 have s2:=s1.mono f2
 obtain ⟨w,rfl,rw'⟩:=rt.fr f2
 have c0 : h2.cell q 0 = some (.bool t.imm):=by rw [AD gq]; rfl
 have c1 : h2.cell q 1 = some w:=by rw [AD gq]; rfl
 have f12:=f1.trans f2
 have ot:=s.ol.at e
 have htl:=s.W.tlen ot
 cases hi : t.imm with
 | true=>
  rw [hi] at c0 eo
  simp only [go_sem,reduceIte,c0]
  exact BK (hno eo _ s2.fr)
 | false=>
  rw [hi] at c0 eo
  by_cases l0 : (0 : Int) < (t.sh.length : Int)
  ·have hne : t.sh.isEmpty = false:=by cases ht : t.sh with | nil=>rw [ht] at l0; exact absurd l0 (by decide) | cons a b=>rfl
   rw [hne] at eo
   simp only [go_sem,reduceIte,c0,c1,rw'.len,l0]
   refine C8 ?_
   refine AI (fun (J : H -> Prop)=>(t.sh.all fun s=>decide ((m.shp s).kind ∈ L)) = true -> J h2) (fun z=>?_) fun J hJ=>?_
   ·simp only [go_sem,reduceIte,c1]
    exact hK t.sh (by rw [eo,z]; rfl) w h2 f12 rw'
   ·simp only [go_sem,reduceIte,c1,rw'.len]
    obtain ⟨vt,vs,vx,vf,vp,vb,v,F⟩:=s2.facts
    refine AS (t.sh.length + 1) (fun cn ls h'=>∃ j : Nat,ls = [.int .i64 j] /\ j <= t.sh.length /\ h' = h2 /\ (t.sh.all fun s=>decide ((m.shp s).kind ∈ L)) = ((t.sh.drop j).all fun s=>decide ((m.shp s).kind ∈ L)) /\ cn = t.sh.length + 1 - j) ⟨0,rfl,by omega,rfl,rfl,rfl⟩ ?_
    rintro cn ls h' ⟨j,rfl,hj,eh,eE,rfl⟩
    rw [eh]
    by_cases qq : (j : Int) < t.sh.length
    ·have hj' : j < t.sh.length:=by omega
     obtain ⟨x,hx0⟩:=BG hj'
     rw [DE hx0,List.all_cons] at eE
     have en:=B0 j (by unfold reachBytes at htl; omega)
     obtain ⟨b7,o7,u1,u2⟩:=rw'.atI hx0
     have hxs:=ot.2 x (List.mem_of_getElem? hx0)
     obtain ⟨b8,o8,vfs,w1,w2,w3,w4,w5⟩:=EO F.sh hxs.1 hxs.2
     simp only [go_sem,reduceIte,qq,u1,u2,F.c1,w1,w2]
     rw [ON (rk.fr f12) hL]
     by_cases hm : (m.shp x).kind ∈ L
     ·rw [decide_eq_true hm] at eE ⊢
      rw [Bool.true_and] at eE
      refine C8 ?_
      simp only [go_sem,reduceIte,en]
      exact ⟨t.sh.length + 1 - (j + 1),by omega,j + 1,rfl,by omega,eE,rfl⟩
     ·rw [decide_eq_false hm] at eE ⊢
      exact BK (hno (by rw [eo,eE]; rfl) _ s2.fr)
    ·have : j = t.sh.length:=by omega
     subst this
     simp only [go_sem,reduceIte,qq]
     rw [List.drop_length] at eE
     exact hJ eE
  ·have h0' : t.sh = []:=List.eq_nil_of_length_eq_zero (by omega)
   simp only [go_sem,reduceIte,c0,c1,rw'.len,l0]
   exact BK (hno (by rw [eo,h0']; rfl) _ s2.fr)
theorem T0 (s : Sv h0 h p m f l) (i : Int) {vl : AV} {Ts : List Ty} (rl : RowOf h 2 (tyR h) vl Ts) (hl : Ts.length <= reachBytes) (ot : ∀ t ∈ Ts,okT m t) {K : AV -> H -> Prop} (hno : LB l i Ts = false -> ∀ h',Fr [] h0 h' -> PK h') (hK : LB l i Ts = true -> ∀ h',Fr [] h h' -> K (.tup []) h') : DP PK 173 [.ptr p 0,.int .i64 i,vl] h K:=by
 refine runP173 ?_
 unfold sh173
 refine I4 s i (fun e=>hno (by unfold LB; rw [e])) fun t e c h1 f1 rt=>?_
 have eo : LB l i Ts = Ts.all (G0 t):=by unfold LB; rw [e]
 rw [eo] at hno hK
 refine DN rt.len rt.leaves fun q h2 f2 hq gq=>?_
 have f12:=f1.trans f2
 have r2 : RowOf h2 2 (tyR h2) vl Ts:=rl.mono f12 fun _ _ _ x=>x.fr f12
 rw [r2.len,AB]
 refine AS (Ts.length + 1) (fun cn ls h'=>∃ j : Nat,ls = [.int .i64 j] /\ j <= Ts.length /\ Fr [] h2 h' /\ Ts.all (G0 t) = (Ts.drop j).all (G0 t) /\ cn = Ts.length + 1 - j) ⟨0,rfl,by omega,Fr.refl _ _,rfl,rfl⟩ ?_
 rintro cn ls h' ⟨j,rfl,hj,f',eE,rfl⟩
 by_cases qq : (j : Int) < Ts.length
 ·have hj' : j < Ts.length:=by omega
  obtain ⟨x,hx⟩:=BG hj'
  rw [DE hx,List.all_cons] at eE
  have en:=B0 j (by unfold reachBytes at hl; omega)
  obtain ⟨bb,bo,cb,z1,z2,z3,z4,z5⟩:=(r2.mono f' (Rel':=tyR h') fun _ _ _ x=>x.fr f').el hx
  simp only [go_sem,reduceIte,qq,z1,z4]
  refine BL rfl z3 rfl z2.leaves fun a h3 f3 ha ga=>?_
  have f3':=f'.trans f3
  have gq3:=f3' q _ (by simp) gq
  simp only [go_sem,reduceIte,AR gq3 rt.len,AR ga z3]
  refine KR (rt.fr (f2.trans f3')) (z2.fr f3) (s.W.tlen (s.ol.at e)) (s.W.tlen (ot x (List.mem_of_getElem? hx))) fun h4 f4=>?_
  have f4':=f3'.trans f4
  cases hz : G0 t x with
  | false=>
   rw [hz] at eE
   exact BK (hno (by rw [eE]; rfl) h4 (s.fr.trans (f12.trans f4')))
  | true=>
   rw [hz,Bool.true_and] at eE
   refine C8 ?_
   simp only [go_sem,reduceIte,en]
   exact ⟨Ts.length + 1 - (j + 1),by omega,j + 1,rfl,by omega,f4',eE,rfl⟩
 ·have : j = Ts.length:=by omega
  subst this
  simp only [go_sem,reduceIte,qq]
  rw [List.drop_length] at eE
  exact hK eE h' (f12.trans f')
theorem NB (s : Sv h0 h p m f l) {vx : AV} {sh : List Int} (rx : Row h vx sh.length 1 (ic sh)) (hx : sh.length <= 512) (hs : ∀ s ∈ sh,0 <= s /\ s < m.shapes.length) (k : Int) {K : AV -> H -> Prop} (hno : sh.all (BQ m k) = false -> ∀ h',Fr [] h0 h' -> PK h')
  (hK : sh.all (BQ m k) = true -> ∀ w h',Fr [] h h' -> RowOf h' 2 (tyR h') w (sh.map (BM m k)) -> K w h') : DP PK 171 [.ptr p 0,vx,.int .i64 k] h K:=by
 refine runP171 ?_
 unfold sh171 zL zT zU zF
 have W:=s.W
 obtain ⟨vt,vs,vx',vf,vp,vb,v,F⟩:=s.facts
 refine AI (fun (J : AV -> H -> Prop)=>sh.all (BQ m k) = true -> ∀ w h',Fr [] h h' -> OwnOf h h' 46 2 (tyR h) w (sh.map (BM m k)) -> J w h') (fun e w h' f' o=>?_) fun J hJ=>?_
 ·exact hK e w h' f' (o.row.mono (Fr.refl _ _) fun _ _ _ x=>x.fr f')
 ·rw [rx.len,AB]
  refine AS (sh.length + 1) (fun cn ls h'=>∃ (j : Nat) (w : AV),ls = [w,.int .i64 j] /\ j <= sh.length /\ Fr [] h h' /\ OwnOf h h' 46 2 (tyR h) w ((sh.take j).map (BM m k)) /\ sh.all (BQ m k) = (sh.drop j).all (BQ m k) /\ cn = sh.length + 1 - j) ⟨0,.nilsl,rfl,by omega,Fr.refl _ _,OwnOf.nil ..,rfl,rfl⟩ ?_
  rintro cn ls h' ⟨j,w,rfl,hj,f',o,eE,rfl⟩
  by_cases qq : (j : Int) < sh.length
  ·have hj' : j < sh.length:=by omega
   obtain ⟨x,hx0⟩:=BG hj'
   rw [DE hx0,List.all_cons] at eE
   have en:=B0 j (by omega)
   obtain ⟨b7,o7,u1,u2⟩:=(rx.fr f').atI hx0
   have hxs:=hs x (List.mem_of_getElem? hx0)
   obtain ⟨b8,o8,vfs,w1,w2,w3,w4,w5⟩:=EO F.sh hxs.1 hxs.2
   have w3':=f'.cell w3
   have c1':=f'.cell F.c1
   have c0':=f'.cell F.c0
   have no : BQ m k x = false -> PK h':=fun e=>hno (by rw [eE,e]; rfl) h' (s.fr.trans f')
   by_cases k0 : 0 <= k
   ·by_cases k1 : k < ((m.shp x).fs.length : Int)
    ·obtain ⟨t,ht⟩ : ∃ t,(m.shp x).fs[k.toNat]? = some t:=⟨(m.shp x).fs[k.toNat]'(by omega),by simp [show k.toNat < (m.shp x).fs.length by omega]⟩
     have eT : BM m k x = m.ty t:=by unfold BM; rw [List.getD_eq_getElem?_getD,ht]; rfl
     have eB : BQ m k x = true:=by unfold BQ; rw [decide_eq_true (by omega),decide_eq_true (by omega)]; rfl
     obtain ⟨b9,o9,z1,z2⟩:=(w4.fr f').at (i:=k) (x:=.int .i64 t) (by omega) (by omega) (by simp [ic,ht])
     have htt:=(W.shp _ w5).2.1 t (List.mem_of_getElem? ht)
     obtain ⟨b10,o10,ct2,v1,v2,v3⟩:=C7 F.ty htt.1 htt.2
     have v2':=f'.read v2
     rw [eB,Bool.true_and] at eE
     simp only [go_sem,reduceIte,qq,u1,u2,c1',w1,w3',k0,(w4.fr f').len,k1]
     refine C8 ?_
     simp only [go_sem,reduceIte,c0',z1,z2,v1,v2']
     rw [GV (n:=2) rfl v3.len v3.leaves]
     have hlen : ((sh.take j).map (BM m k)).length = j:=by rw [List.length_map,List.length_take]; omega
     refine MS o (x:=BM m k x) (by rw [eT]; exact v3) v3.len v3.leaves (by decide) f' (by rw [hlen]; unfold AQ; omega) fun w' h2 o2 f2 _=>?_
     simp only [go_sem,reduceIte,en]
     exact ⟨sh.length + 1 - (j + 1),by omega,j + 1,w',rfl,by omega,f2,by rw [CO hx0,List.map_append]; exact o2,eE,rfl⟩
    ·have e : BQ m k x = false:=by unfold BQ; rw [decide_eq_false (p:=k < _) (by omega),Bool.and_false]
     simp only [go_sem,reduceIte,qq,u1,u2,c1',w1,w3',k0,(w4.fr f').len,k1]
     exact BK (no e)
   ·have e : BQ m k x = false:=by unfold BQ; rw [decide_eq_false (p:=0 <= k) (by omega)]; rfl
    simp only [go_sem,reduceIte,qq,u1,u2,c1',w1,w3',k0]
    exact BK (no e)
  ·have : j = sh.length:=by omega
   subst this
   simp only [go_sem,reduceIte,qq]
   rw [List.take_length] at o
   rw [List.drop_length] at eE
   exact hJ eE w h' f' o
theorem SG (W : Wh m) {vl : AV} {Ts : List Ty} (rl : RowOf h 2 (tyR h) vl Ts) (hl : Ts.length <= reachBytes) (ot : ∀ t ∈ Ts,okT m t) {K : AV -> H -> Prop} (hK : ∀ c h',Fr [] h h' -> tyR h' (Ts.foldl C4 H3) c -> K (.agg c) h') : DP PK 170 [vl] h K:=by
 refine runB170 ?_
 unfold sh170
 refine BH rfl fun q hq=>?_
 have fq : Fr [] h (h.set q (.live [.bool false,.nilsl] 46 true)):=Fr.new hq
 have gq : (h.set q (.live [.bool false,.nilsl] 46 true)).get q = some (.live [.bool false,.nilsl] 46 true):=H.get_same ..
 generalize h.set q (.live [.bool false,.nilsl] 46 true) = h1 at fq gq
 refine AI (fun (J : H -> Prop)=>∀ ct h',Fr [] h h' -> h'.get q = some (.live ct 46 true) -> tyR h' (Ts.foldl C4 H3) ct -> J h') (fun ct h' f' g' rt=>?_) fun J hJ=>?_
 ·rw [EH g' rt.len,AB]
  obtain ⟨w1,w2,w3,_⟩:=GC g' rt rt
  rw [w1]
  simp only
  rw [EH w3 rt.len,AB]
  exact hK ct _ (f'.set' hq) w2
 ·rw [rl.len,AB]
  refine AS (Ts.length + 1) (fun cn ls h'=>∃ (j : Nat) (ct : List AV),ls = [.int .i64 j] /\ j <= Ts.length /\ Fr [] h h' /\ h'.get q = some (.live ct 46 true) /\ tyR h' ((Ts.take j).foldl C4 H3) ct /\ cn = Ts.length + 1 - j) ⟨0,_,rfl,by omega,fq,gq,GQ h1,rfl⟩ ?_
  rintro cn ls h' ⟨j,ct,rfl,hj,f',g',rt,rfl⟩
  by_cases qq : (j : Int) < Ts.length
  ·have hj' : j < Ts.length:=by omega
   obtain ⟨x,hx⟩:=BG hj'
   have en:=B0 j (by unfold reachBytes at hl; omega)
   obtain ⟨bb,bo,cb,z1,z2,z3,z4,z5⟩:=(rl.mono f' (Rel':=tyR h') fun _ _ _ x=>x.fr f').el hx
   simp only [go_sem,reduceIte,qq,z1,z4]
   refine BL rfl z3 rfl z2.leaves fun a h3 f3 ha ga=>?_
   have f3':=f'.trans f3
   have gq3:=f3 q _ (by simp) g'
   have o1:=(JF (m:=m) (Ts.take j) H3 (KF m) fun t ht=>ot t (List.mem_of_mem_take ht)).len
   have o2:=(ot x (List.mem_of_getElem? hx)).len
   have hsl:=W.sl
   simp only [go_sem,reduceIte,AR gq3 rt.len,AR ga z3]
   refine join_c (rt.fr f3) (z2.fr f3) (by omega) fun c4 h4 f4 r4=>?_
   have gq4:=f4 q _ (by simp) gq3
   obtain ⟨w1,w2,w3,_⟩:=GC gq4 ((rt.fr f3).fr f4) r4
   rw [w1]
   simp only [en]
   have hn : C4 ((Ts.take j).foldl C4 H3) x = (Ts.take (j + 1)).foldl C4 H3:=by
    have : Ts.take (j + 1) = Ts.take j ++ [x]:=by rw [List.take_add_one,hx]; rfl
    rw [this,List.foldl_append]; rfl
   rw [hn] at w2
   exact ⟨Ts.length + 1 - (j + 1),by omega,j + 1,c4,rfl,by omega,(f3'.trans f4).set' hq,w3,w2,rfl⟩
  ·have : j = Ts.length:=by omega
   subst this
   simp only [go_sem,reduceIte,qq]
   rw [List.take_length] at rt
   exact hJ ct h' f' g' rt
end
theorem SL (l : List Sl) (i : Int) (t : Ty) : LB l i [t] = isS l i t:=by
 unfold LB isS
 cases atS l i with
 | none=>rfl
 | some x=>simp only [List.all_cons,List.all_nil,Bool.and_true]
section
variable {PK : H -> Prop} {h h0 : H} {p : Nat} {m : Img} {f : Fn} {l : List Sl}
theorem lit_ty {t : Ty} {ct : List AV} (rt : tyR h t ct) {K : AV -> H -> Prop} (hK : ∀ v h',Fr [] h h' -> RowOf h' 2 (tyR h') v [t] -> K v h') : A5 h 46 1 (AG [.bool false,.nilsl] [(0,2,.agg ct)]) K:=by
 rw [GV (n:=2) rfl rt.len rt.leaves]
 refine ⟨rt.leaves,fun q hq=>?_⟩
 have fq : Fr [] h (h.set q (.live ct 46 true)):=Fr.new hq
 refine hK _ _ fq ⟨[ct],rfl,fun i x c hx hc=>?_,fun c hc=>?_,?_⟩
 ·match i,hx,hc with
  | 0,hx,hc=>injection hx with hx; injection hc with hc; subst hx; subst hc; exact rt.fr fq
 ·rcases List.mem_singleton.1 hc with rfl; exact rt.len
 ·refine ⟨by simp [rt.len],.inr ⟨q,0,_,rfl,rfl,H.read_eq (H.get_same ..) (by simp [rt.len]) ?_⟩⟩
  rw [List.drop_zero,List.take_of_length_le (by simp [rt.len])]; simp
theorem QJ (s : Sv h0 h p m f l) {vx vw : AV} {xs want : List Int} (rx : Row h vx xs.length 1 (ic xs)) (rw' : Row h vw want.length 1 (ic want)) (hx : xs.length <= reachBytes) (hw : ∀ t ∈ want,0 <= t /\ t < m.types.length) {K : AV -> H -> Prop} (hno : CC m l xs want = false -> ∀ h',Fr [] h0 h' -> PK h') (hK : CC m l xs want = true -> ∀ h',Fr [] h h' -> K (.tup []) h') : DP PK 169 [.ptr p 0,vx,vw] h K:=by
 refine runP169 ?_
 unfold sh169 zL zF
 rw [rx.len,AB,rw'.len,AB,S9,AB]
 by_cases hl : xs.length = want.length
 ·have hl' : ((xs.length : Nat) : Int) = (want.length : Nat):=by omega
  rw [decide_eq_true hl']
  refine C8 ?_
  simp only [AB]
  refine AS (xs.length + 1) (fun cn ls h'=>∃ i : Nat,ls = [.int .i64 i] /\ i <= xs.length /\ Fr [] h h' /\ (∀ k,k < i -> isS l (xs.getD k 0) (m.ty (want.getD k 0)) = true) /\ cn = xs.length + 1 - i) ⟨0,rfl,by omega,Fr.refl _ _,fun k hk=>absurd hk (by omega),rfl⟩ ?_
  rintro cn ls h' ⟨i,rfl,hi,f',hall,rfl⟩
  by_cases qq : (i : Int) < xs.length
  ·have hi' : i < xs.length:=by omega
   obtain ⟨x,hx0⟩:=BG hi'
   obtain ⟨t,ht0⟩ : ∃ t,want[i]? = some t:=⟨want[i]'(by omega),by simp [show i < want.length by omega]⟩
   have ex : xs.getD i 0 = x:=by rw [List.getD_eq_getElem?_getD,hx0]; rfl
   have et : want.getD i 0 = t:=by rw [List.getD_eq_getElem?_getD,ht0]; rfl
   have en:=B0 i (by unfold reachBytes at hx; omega)
   obtain ⟨b7,o7,u1,u2⟩:=(rx.fr f').atI hx0
   obtain ⟨b6,o6,y1,y2⟩:=(rw'.fr f').atI ht0
   have ht:=hw t (List.mem_of_getElem? ht0)
   have s':=s.mono f'
   obtain ⟨vt',vs',vx'',vf',vp',vb',v',F'⟩:=s'.facts
   obtain ⟨b8,o8,ct,w1,w2,w3⟩:=C7 F'.ty ht.1 ht.2
   simp only [go_sem,reduceIte,qq,u1,u2,F'.c0,y1,y2,w1,w2]
   refine lit_ty w3 fun v9 h9 f9 r9=>?_
   have s9:=s'.mono f9
   refine T0 s9 x r9 (by show (1 : Nat) <= _; decide) (fun z hz=>by rcases List.mem_singleton.1 hz with rfl; exact s.W.tyOk t) (fun z=>?_) fun z h10 f10=>?_
   ·rw [SL] at z
    refine hno (Bool.eq_false_iff.2 fun q=>?_)
    have:=(JW hl).1 q i hi'
    rw [ex,et,z] at this; cases this
   ·rw [SL] at z
    simp only [go_sem,reduceIte,en]
    refine ⟨xs.length + 1 - (i + 1),by omega,i + 1,rfl,by omega,(f'.trans f9).trans f10,fun k hk=>?_,rfl⟩
    by_cases e : k = i
    ·rw [e,ex,et]; exact z
    ·exact hall k (by omega)
  ·have : i = xs.length:=by omega
   subst this
   simp only [go_sem,reduceIte,qq]
   exact hK ((JW hl).2 hall) h' f'
 ·have hl' : ¬ ((xs.length : Nat) : Int) = (want.length : Nat):=by omega
  rw [decide_eq_false hl']
  exact BK (hno (by unfold CC; rw [decide_eq_false hl]; rfl) h s.fr)
def J7 (m : Img) (i k : Int) : Bool:=decide (0 <= i) && decide (i < m.shapes.length) && decide ((m.shp i).kind = k)
theorem RX (s : Sv h0 h p m f l) (i k : Int) {K : AV -> H -> Prop} (hno : J7 m i k = false -> ∀ h',Fr [] h0 h' -> PK h') (hK : J7 m i k = true -> ∀ c h',Fr [] h h' -> shR h' (m.shp i) c -> K (.agg c) h') : DP PK 168 [.ptr p 0,.int .i64 i,.int .i64 k] h K:=by
 refine runP168 ?_
 unfold sh168 zT zU zF zG
 refine BH rfl fun q hq=>?_
 have f0 : Fr [] h (h.set q (.live [.int .i64 0,.nilsl,.str []] 61 true)):=Fr.new hq
 have gq : (h.set q (.live [.int .i64 0,.nilsl,.str []] 61 true)).get q = some (.live [.int .i64 0,.nilsl,.str []] 61 true):=H.get_same ..
 generalize h.set q (.live [.int .i64 0,.nilsl,.str []] 61 true) = h1 at f0 gq
 have s1:=s.mono f0
 obtain ⟨vt,vs,vx,vf,vp,vb,v,F⟩:=s1.facts
 by_cases i0 : 0 <= i
 ·by_cases i1 : i < (m.shapes.length : Int)
  ·obtain ⟨x,hx⟩ : ∃ x,m.shapes[i.toNat]? = some x:=⟨m.shapes[i.toNat]'(by omega),by simp [show i.toNat < m.shapes.length by omega]⟩
   obtain ⟨b,o,c,q1,q2,q3,q4,q5⟩:=F.sh.el hx
   rw [show ((i.toNat : Nat) : Int) = i by omega] at q1
   have e : m.shp i = x:=by unfold Img.shp; rw [List.getD_eq_getElem?_getD,hx]; rfl
   have c0 : h1.cell b o = some (.int .i64 x.kind):=by
    have:=q5 0 (by decide)
    obtain ⟨w,rfl,_⟩:=q2
    exact this
   have es : J7 m i k = decide (x.kind = k):=by unfold J7; rw [decide_eq_true i0,decide_eq_true i1,e]; rfl
   by_cases kk : x.kind = k
   ·rw [decide_eq_true kk] at es
    have fin : Fr [] h (h1.set q (.live c 61 true)):=f0.set' hq
    have st : stA h1 3 (.ptr q 0) (.agg c) = some (h1.set q (.live c 61 true)):=DG (n:=3) gq rfl q3 q2.ln.2
    have rd : (h1.set q (.live c 61 true)).read q 0 3 = some c:=AR (H.get_same ..) q3
    simp only [go_sem,reduceIte,i0,F.c1,F.sh.len,i1,q1,c0,kk]
    refine C8 ?_
    simp only [go_sem,reduceIte,F.c1,q1,q4,st,rd]
    refine hK es c _ fin ?_
    obtain ⟨vt0,vs0,vx0,vf0,vp0,vb0,v0,F0⟩:=s.facts
    have ev : vs0 = vs:=by have:=f0.cell F0.c1; rw [F.c1] at this; injection this with this; exact this.symm
    obtain ⟨b',o',c',q1',q2',q3',q4',_⟩:=F0.sh.el hx
    rw [ev,show ((i.toNat : Nat) : Int) = i by omega] at q1'
    have:=(q1 .i64).symm.trans (q1' .i64)
    injection this with this
    injection this with eb eo
    subst eb; subst eo
    have:=f0.read q4'
    rw [q4] at this
    injection this with this
    subst this
    rw [e]
    exact q2'.fr fin
   ·rw [decide_eq_false kk] at es
    simp only [go_sem,reduceIte,i0,F.c1,F.sh.len,i1,q1,c0,kk]
    exact BK (hno es _ s1.fr)
  ·simp only [go_sem,reduceIte,i0,F.c1,F.sh.len,i1]
   exact BK (hno (by unfold J7; rw [decide_eq_false (p:=i < _) i1,Bool.and_false]; rfl) _ s1.fr)
 ·simp only [go_sem,reduceIte,i0]
  exact BK (hno (by unfold J7; rw [decide_eq_false (p:=0 <= i) i0]; rfl) _ s1.fr)
def FM (m : Img) (l : List Sl) (x : Ins) : Bool:=m.isFn x.a && CC m l x.l (m.fn x.a).params
theorem S5 (s : Sv h0 h p m f l) {x : Ins} {cx : List AV} (rx : insR h x cx) (okx : x.ok) {K : AV -> H -> Prop} (hno : FM m l x = false -> ∀ h',Fr [] h0 h' -> PK h') (hK : FM m l x = true -> ∀ c h',Fr [] h h' -> fnR h' (m.fn x.a) c -> K (.agg c) h') : DP PK 160 [.ptr p 0,.agg cx] h K:=by
 refine runP160 ?_
 unfold sh160 zT zU zF zG
 refine D2 rx fun b h1 f1 hb gb rx1=>?_
 obtain ⟨vl,vm,vv,ecx,rl,rmm,rlv⟩:=rx1
 refine BH rfl fun q hq=>?_
 have fq : Fr [] h1 (h1.set q (.live [.nilsl,.int .i64 0,.int .i64 0,.nilsl] 39 true)):=Fr.new hq
 have gq : (h1.set q (.live [.nilsl,.int .i64 0,.int .i64 0,.nilsl] 39 true)).get q = some (.live [.nilsl,.int .i64 0,.int .i64 0,.nilsl] 39 true):=H.get_same ..
 generalize h1.set q (.live [.nilsl,.int .i64 0,.int .i64 0,.nilsl] 39 true) = h2 at fq gq
 have f2:=f1.trans fq
 have s1:=s.mono f1
 have s2:=s.mono f2
 obtain ⟨vt,vs,vx,vf,vp,vb,v,F⟩:=s2.facts
 have gb2:=fq b _ (by simp) gb
 have x2 : h2.cell b 2 = some (.int .i64 x.a):=by rw [AD gb2,ecx]; rfl
 by_cases i0 : 0 <= x.a
 ·by_cases i1 : x.a < (m.fns.length : Int)
  ·have z : m.isFn x.a = true:=(GU m x.a).2 (by omega)
   have es : FM m l x = CC m l x.l (m.fn x.a).params:=by unfold FM; rw [z,Bool.true_and]
   rw [es] at hno hK
   obtain ⟨vt1,vs1,vx1,vf1,vp1,vb1,v1,F1⟩:=s1.facts
   obtain ⟨b8,o8,c8,vp8,vb8,w1,w2,w3,w4,w5,w6,w7,w8,w9⟩:=OB F1.fs i0 i1
   have ev : vf1 = vf:=by have:=fq.cell F1.c4; rw [F.c4] at this; injection this with this; exact this.symm
   rw [ev] at w1
   have fw:=s.W.fn _ w9
   simp only [go_sem,reduceIte,x2,i0,F.c4,F.fs.len,i1]
   refine C8 ?_
   simp only [go_sem,reduceIte,F.c4,x2,w1,fq.read w2]
   refine BL rfl w4.ln rfl w4.leaves fun a h3 f3 ha ga=>?_
   have f13:=fq.trans f3
   have s3:=s2.mono f3
   have gb3:=f3 b _ (by simp) gb2
   have x6 : h3.cell b 6 = some vl:=by rw [AD gb3,ecx]; rfl
   have a0 : h3.cell a 0 = some vp8:=by rw [AD ga,w3]; rfl
   simp only [go_sem,reduceIte,x6,a0]
   refine QJ s3 (rl.fr f13) (w8.fr f13) okx.2.1.1 fw.par (fun z=>hno z) fun z h4 f4=>?_
   have gq4:=(f3.trans f4) q _ (by simp) gq
   have ga4:=f4 a _ (by simp) ga
   have st : stA h4 4 (.ptr q 0) (.agg c8) = some (h4.set q (.live c8 39 true)):=DG (n:=4) gq4 rfl w4.ln w4.leaves
   have rd : (h4.set q (.live c8 39 true)).read q 0 4 = some c8:=AR (H.get_same ..) w4.ln
   simp only [go_sem,reduceIte,AR ga4 w4.ln,st,rd]
   have ff : Fr [] h1 (h4.set q (.live c8 39 true)):=(f13.trans f4).set' hq
   exact hK z c8 _ (f1.trans ff) (w4.fr ff)
  ·have z : m.isFn x.a = false:=by unfold Img.isFn; rw [decide_eq_false (p:=x.a < _) i1,Bool.and_false]
   simp only [go_sem,reduceIte,x2,i0,F.c4,F.fs.len,i1]
   exact BK (hno (by unfold FM; rw [z]; rfl) _ s2.fr)
 ·have z : m.isFn x.a = false:=by unfold Img.isFn; rw [decide_eq_false (p:=0 <= x.a) i0]; rfl
  simp only [go_sem,reduceIte,x2,i0]
  exact BK (hno (by unfold FM; rw [z]; rfl) _ s2.fr)
end
def zS : List AV:=[.bool false,.nilsl,.bool false]
def tS : List AV:=[.bool false,.nilsl,.bool true]
theorem IF (x : List AV) : ∀ n,(AW x n).length = n * x.length
 | 0=>by simp [AW]
 | n + 1=>by rw [AW,List.length_append,IF x n,Nat.add_mul]; omega
theorem RU (x : List AV) : ∀ n,AW x n ++ x = AW x (n + 1)
 | 0=>by simp [AW]
 | n + 1=>by rw [AW,List.append_assoc,RU x n]; rfl
theorem RV (x : List AV) : ∀ n,(List.replicate n x).flatten = AW x n
 | 0=>rfl
 | n + 1=>by rw [List.replicate_succ,List.flatten_cons,RV x n]; rfl
theorem NT {x : List AV} (h : leaves x = true) : ∀ n,leaves (AW x n) = true
 | 0=>rfl
 | n + 1=>by rw [AW,EA,h,NT h n]; rfl
theorem rep_set {n i : Nat} (hi : i < n) : (AW tS i ++ AW zS (n - i)).set (i * 3 + 2) (.bool true) = AW tS (i + 1) ++ AW zS (n - (i + 1)):=by
 have hl : (AW tS i).length = i * 3:=IF tS i
 have hz : AW zS (n - i) = zS ++ AW zS (n - (i + 1)):=by
  rw [show n - i = (n - (i + 1)) + 1 by omega]; rfl
 rw [List.set_append_right _ _ (by omega),hl,show i * 3 + 2 - i * 3 = 2 by omega,hz,<- RU,List.append_assoc]
 rfl
def GT (l : List Sl) (L : List Int) (j k : Nat) : Sl:=if (k : Int) ∈ L.take j then l.getD k none else none
theorem WG {l : List Sl} {L : List Int} {j : Nat} {x : Int} {t : Ty} (hx : L[j]? = some x) (hat : atS l x = some t) : ((List.range l.length).map (GT l L j)).set x.toNat (some t) = (List.range l.length).map (GT l L (j + 1)):=by
 have hm:=LJ hat
 refine List.ext_getElem? fun k=>?_
 rw [List.getElem?_set]
 by_cases q : x.toNat = k
 ·rw [if_pos q,List.length_map,List.length_range,if_pos (by omega),List.getElem?_map,List.getElem?_range (by omega)]
  show some (some t) = some (GT l L (j + 1) k)
  have : GT l L (j + 1) k = some t:=by
   unfold GT
   rw [CO hx,if_pos (by rw [List.mem_append]; right; rw [List.mem_singleton]; omega),<- LI,show ((k : Nat) : Int) = x by omega,hat]
  rw [this]
 ·rw [if_neg q,List.getElem?_map,List.getElem?_map]
  cases hr : (List.range l.length)[k]? with
  | none=>rfl
  | some k'=>
   have : k' = k:=by
    have hlt:=(List.getElem?_eq_some_iff.1 hr).1
    rw [List.length_range] at hlt
    rw [List.getElem?_range hlt] at hr
    injection hr with hr; exact hr.symm
   subst this
   show some (GT l L j k') = some (GT l L (j + 1) k')
   congr 1
   unfold GT
   rw [CO hx]
   have : ((k' : Int) ∈ L.take j ++ [x]) ↔ (k' : Int) ∈ L.take j:=by
    rw [List.mem_append,List.mem_singleton]
    constructor
    ·rintro (z | z)
     ·exact z
     ·omega
    ·exact .inl
   simp only [this]
section
variable {PK : H -> Prop} {h h0 : H} {p : Nat} {m : Img} {f : Fn} {l : List Sl}
set_option maxHeartbeats 1000000 in
theorem IA (s : Sv h0 h p m f l) {vL : AV} {L : List Int} (rL : Row h vL L.length 1 (ic L)) (hL : L.length <= reachBytes) {K : AV -> H -> Prop} (hno : CE l L = none -> ∀ h',Fr [] h0 h' -> PK h') (hK : ∀ l' h',CE l L = some l' -> Fr [p] h h' -> Sv h0 h' p m f l' -> K (.tup []) h') : DP PK 165 [.ptr p 0,vL] h K:=by
 refine runP165 ?_
 unfold sh165 zL zF
 have sv:=s
 obtain ⟨cm,cf,v,s⟩:=s
 obtain ⟨vt,vs,vx,vf,vp,vb,F⟩:=s.facts
 have hl200:=s.len.2
 simp only [go_sem,reduceIte,F.c11,F.row.len]
 refine RQ rL hL _ ?_
 cases hr : CN l.length (-1) L with
 | false=>exact BK (hno (by unfold CE; rw [hr]; rfl) h s.fr)
 | true=>
 refine C8 ?_
 have hbnd:=((GD _ _ _).1 hr).2
 simp only [go_sem,reduceIte,F.c11,F.row.len]
 have hnat : DR (.int .i64 (l.length : Nat)) = some l.length:=by simp [DR]
 unfold TS
 rw [hnat]
 simp only
 refine ⟨⟨Nat.le_refl _,by unfold AQ; omega,by omega⟩,NT (x:=zS) rfl _,fun nb hnb=>?_⟩
 have f1 : Fr [] h (h.set nb (.live (AW [.bool false,.nilsl,.bool false] l.length) 148 true)):=Fr.new hnb
 have g1 : (h.set nb (.live (AW [.bool false,.nilsl,.bool false] l.length) 148 true)).get nb = some (.live (AW zS l.length) 148 true):=H.get_same ..
 generalize h.set nb (.live (AW [.bool false,.nilsl,.bool false] l.length) 148 true) = h1 at f1 g1
 have hnp : nb ≠ p:=fun z=>by rw [z,s.get] at hnb; cases hnb
 refine AI (fun (J : H -> Prop)=>∀ h',Fr [] h h' -> h'.get nb = some (.live (AW tS l.length) 148 true) -> J h') (fun h2 f2 g2=>?_) fun J hJ=>?_
 ·refine AI (fun (J : H -> Prop)=>∀ h',(∀ k : Nat,k < l.length -> (k : Int) ∈ L -> (l.getD k none).isSome = true) -> Fr [] h h' -> (∃ cs,h'.get nb = some (.live cs 148 true)) -> RowOf h' 3 (slP h) (.sl nb 0 l.length (.exact l.length)) ((List.range l.length).map (GT l L L.length)) -> J h') (fun h' hall f' ⟨cs,g'⟩ r'=>?_) fun J hJ=>?_
  ·
   have ecm : cm.length = 7:=s.im.ln
   have ecf : cf.length = 4:=s.fn.ln
   have gp:=f' p _ (by simp) s.get
   have st:=I1 (v:=.sl nb 0 l.length (.exact l.length)) gp (off:=11) (by simp [ecm,ecf]) rfl rfl
   have eset : (cm ++ cf ++ [v]).set 11 (.sl nb 0 l.length (.exact l.length)) = cm ++ cf ++ [.sl nb 0 l.length (.exact l.length)]:=by
    rw [List.set_append_right _ _ (by simp [ecm,ecf])]
    simp [ecm,ecf]
   rw [eset] at st
   simp only [go_sem,reduceIte,st]
   have ni : NI h' (h'.set p (.live (cm ++ cf ++ [.sl nb 0 l.length (.exact l.length)]) 146 true)):=NI.set gp (by simp) fun i k n z=>by
    by_cases q : i < (cm ++ cf).length
    ·rw [List.getElem?_append_left q] at z ⊢; exact z
    ·rw [List.getElem?_append_right (by omega)] at z
     exfalso
     have hv : v = .int k n:=by
      cases hi : i - (cm ++ cf).length with
      | zero=>rw [hi] at z; injection z
      | succ w=>rw [hi] at z; cases z
     have:=F.row.len
     rw [hv] at this; cases this
   have ek : (List.range l.length).map (GT l L L.length) = (List.range l.length).map (EF l L):=by
    refine List.map_congr_left fun k _=>?_
    unfold GT EF
    rw [List.take_length]
   have es : CE l L = some ((List.range l.length).map (EF l L)):=by
    unfold CE
    rw [hr,(LR l L hr).2 hall]
    rfl
   have oks:=JR s.ol es
   refine hK _ _ es ((f'.weaken (by simp)).trans (Fr.put (by simp))) ⟨cm,cf,.sl nb 0 l.length (.exact l.length),(s.fr.trans f').set' s.free,s.free,s.im,s.fn,H.get_same ..,?_,fun b off n cap e=>?_,s.W,s.wf,oks.1,by rw [oks.2]; exact s.len⟩
   ·rw [<- ek]
    obtain ⟨css,a1,a2,a3,a4⟩:=r'
    exact ⟨css,a1,fun i x c hx hc=>(a2 i x c hx hc).ni (f'.ni.trans ni),a3,a4.mono fun b off cap o e hg=>by
     injection e with e
     rw [H.get_other _ _ (by rw [<- e]; exact hnp)]; exact hg⟩
   ·injection e with e
    rw [<- e]
    exact ⟨s.fr.free hnb,cs,by rw [H.get_other _ _ hnp]; exact g'⟩
  ·
   simp only [rL.len,AB]
   have r0 : RowOf h2 3 (slP h) (.sl nb 0 l.length (.exact l.length)) ((List.range l.length).map (GT l L 0)):=by
    refine ⟨List.replicate l.length tS,by simp,fun i x c hx hc=>?_,fun c hc=>?_,?_⟩
    ·rw [List.getElem?_map] at hx
     have ec : c = tS:=(List.mem_replicate.1 (List.mem_of_getElem? hc)).2
     have ex : x = none:=by
      cases hq : (List.range l.length)[i]? with
      | none=>rw [hq] at hx; cases hx
      | some k=>rw [hq] at hx; injection hx with hx; rw [<- hx]; unfold GT; simp
     rw [ec,ex]; exact RO h
    ·rw [(List.mem_replicate.1 hc).2]; rfl
    ·rw [RV,List.length_map,List.length_range]
     refine ⟨IF tS _,.inr ⟨nb,0,_,rfl,rfl,H.read_eq g2 (by rw [IF]; show 0 + l.length * 3 <= l.length * 3; omega) ?_⟩⟩
     rw [List.drop_zero,List.take_of_length_le (by rw [IF]; exact Nat.le_refl _)]
   refine AS (L.length + 1) (fun cn ls h'=>∃ j : Nat,ls = [.int .i64 j] /\ j <= L.length /\ Fr [] h h' /\ (∃ cs,h'.get nb = some (.live cs 148 true)) /\ RowOf h' 3 (slP h) (.sl nb 0 l.length (.exact l.length)) ((List.range l.length).map (GT l L j)) /\ (∀ k,k < j -> ∀ x,L[k]? = some x -> (atS l x).isSome = true) /\ cn = L.length + 1 - j) ⟨0,rfl,by omega,f2,⟨_,g2⟩,r0,fun k hk=>absurd hk (by omega),rfl⟩ ?_
   rintro cn ls h' ⟨j,rfl,hj,f',⟨cs,g'⟩,r',hall,rfl⟩
   by_cases qq : (j : Int) < L.length
   ·have hj' : j < L.length:=by omega
    obtain ⟨x,hx⟩:=BG hj'
    have en:=B0 j (by unfold reachBytes at hL; omega)
    obtain ⟨b7,o7,u1,u2⟩:=(rL.fr f').atI hx
    simp only [go_sem,reduceIte,qq,u1,u2]
    refine I4 (sv.mono f') x (fun e=>hno ?_) fun t e c h3 f3 rt=>?_
    ·unfold CE
     rw [if_neg]
     intro z
     rw [hr,Bool.true_and] at z
     have:=List.all_eq_true.1 z x (List.mem_of_getElem? hx)
     rw [e] at this; cases this
    ·have f3':=f'.trans f3
     have hm:=LJ e
     have hlx : l[x.toNat]? = some (some t):=by
      unfold atS at e
      rw [if_pos hm.2.1,List.getD_eq_getElem?_getD] at e
      have hlt : x.toNat < l.length:=by omega
      rw [List.getElem?_eq_getElem hlt] at e ⊢
      exact congrArg some e
     obtain ⟨b8,o8,c8,w1,w2,w3,w4,w5⟩:=F.row.el hlx
     rw [show ((x.toNat : Nat) : Int) = x by omega] at w1
     have g3:=f3 nb _ (by simp) g'
     have r3 : RowOf h3 3 (slP h) (.sl nb 0 l.length (.exact l.length)) ((List.range l.length).map (GT l L j)):=r'.mono f3 fun _ _ _ x=>x
     obtain ⟨p1,p2,_⟩:=r3.put (R':=slP h) (x:=some t) g3 (i:=x.toNat) (by rw [List.length_map,List.length_range]; omega) w3 w2.1.leaves.2 w2 (fun _ _ _ z=>z)
     rw [WG hx e] at p2
     have ec : (AV.agg c8).cells = c8:=rfl
     have st : stA h3 3 (.ptr nb (0 + x.toNat * 3)) (.agg c8) = some (h3.set nb (.live (overlay cs (0 + x.toNat * 3) c8) 148 true)):=by rw [HY,ec,if_pos w3,p1]
     have ei : (if 0 <= x /\ x < (l.length : Int) then some (AV.ptr nb (x.toNat * 3)) else none) = some (.ptr nb (x.toNat * 3)):=if_pos ⟨hm.2.1,hm.2.2⟩
     have c11:=f3'.cell F.c11
     have rd:=f3'.read w4
     rw [Nat.zero_add] at st p2
     simp only [c11,AB,w1,MZ,rd,ei,st,A3,BS,en]
     exact ⟨L.length + 1 - (j + 1),by omega,j + 1,rfl,by omega,f3'.set' hnb,⟨_,H.get_same ..⟩,p2,fun k hk y hy=>by
      by_cases q : k = j
      ·rw [q,hx] at hy; injection hy with hy; rw [<- hy,e]; rfl
      ·exact hall k (by omega) y hy,rfl⟩
   ·have : j = L.length:=by omega
    subst this
    simp only [go_sem,reduceIte,qq]
    refine hJ h' (fun k hk hm=>?_) f' ⟨cs,g'⟩ r'
    obtain ⟨i,hi⟩:=List.getElem?_of_mem hm
    have:=hall i (List.getElem?_eq_some_iff.1 hi).1 _ hi
    rw [LI] at this; exact this
 ·
  simp only [go_sem,reduceIte]
  refine AS (l.length + 1) (fun cn ls h'=>∃ i : Nat,ls = [.int .i64 i] /\ i <= l.length /\ Fr [] h h' /\ h'.get nb = some (.live (AW tS i ++ AW zS (l.length - i)) 148 true) /\ cn = l.length + 1 - i) ⟨0,rfl,by omega,f1,g1,rfl⟩ ?_
  rintro cn ls h' ⟨i,rfl,hi,f',g',rfl⟩
  by_cases qq : (i : Int) < l.length
  ·have hi' : i < l.length:=by omega
   have en:=B0 i (by omega)
   have ei : iaA 3 (.sl nb 0 l.length (.exact l.length)) (.int .i64 (i : Int)) = some (.ptr nb (i * 3)):=by rw [M0,if_pos (by omega),Int.toNat_natCast,Nat.zero_add]
   have st:=I1 (v:=.bool true) g' (off:=i * 3 + 2) (by rw [List.length_append,IF,IF]; show i * 3 + 2 < i * 3 + (l.length - i) * 3; omega) rfl rfl
   rw [rep_set hi'] at st
   simp only [qq,decide_true,AZ,BE,BO,AB,ei,H8,st,A3,BS,en]
   exact ⟨l.length + 1 - (i + 1),by omega,i + 1,rfl,by omega,f'.set' hnb,H.get_same ..,rfl⟩
  ·have : i = l.length:=by omega
   subst this
   simp only [go_sem,reduceIte,qq]
   refine hJ h' f' ?_
   rw [g',Nat.sub_self]
   show some (Obj.live (AW tS l.length ++ []) 148 true) = _
   rw [List.append_nil]
end
theorem FO {m : Img} {f : Fn} {l : List Sl} {x : Ins} {ok : Bool} (hm : FW x.op = false) (es : BZ m l x = if ok then some (some BF) else none) : CF m f l x = if ok then BI l x.d BF else none:=by
 rw [EI hm,es]; cases ok <;> rfl
theorem LS {m : Img} {f : Fn} {l : List Sl} {x : Ins} {ok : Bool} (hm : FW x.op = false) (es : BZ m l x = if ok then some none else none) : CF m f l x = if ok then some l else none:=by
 rw [EI hm,es]; cases ok <;> rfl
theorem HX {m : Img} {f : Fn} {l : List Sl} {x : Ins} {ok : Bool} {t : Ty} (hm : FW x.op = true) (h17 : x.op ≠ 17) (es : CH m l x = if ok then some t else none) : CF m f l x = if ok then (CE l x.live).bind fun n=>BI n x.d t else none:=by
 have e : ∀ n,CY m f n x = true:=fun n=>by unfold CY; rw [decide_eq_false h17]; rfl
 rw [KB hm,es]
 cases ok with
 | false=>rfl
 | true=>simp only [e,if_true,Option.bind_some]
theorem Fr.but {p : Nat} {h h' : H} (f : Fr [p] h h') {b : Nat} {o : Obj} (hb : b ≠ p) (g : h.get b = some o) : h'.get b = some o:=f b o (by simpa using hb) g
section
variable {PK : H -> Prop} {h h0 : H} {p : Nat} {m : Img} {f : Fn} {l : List Sl}
theorem Sv.ne (s : Sv h0 h p m f l) {b : Nat} (hb : h.get b = none) : b ≠ p:=fun z=>s.alive (by rw [<- z]; exact hb)
set_option maxHeartbeats 1000000 in
theorem P8 (s : Sv h0 h p m f l) {x : Ins} {cx : List AV} (rx : insR h x cx) (okx : x.ok) (hop : x.op = 12 \/ x.op = 13 \/ x.op = 14) {K : AV -> H -> Prop} (hno : CF m f l x = none -> ∀ h',Fr [] h0 h' -> PK h') (hK : ∀ l' h',CF m f l x = some l' -> Sv h0 h' p m f l' -> K (.tup []) h') : DP PK 167 [.ptr p 0,.agg cx] h K:=by
 refine runP167 ?_
 unfold sh167 zF
 refine D2 rx fun b h1 f1 hb gb rx1=>?_
 have hbp:=s.ne hb
 have s1:=s.mono f1
 obtain ⟨vl,vm,vv,ecx,rl,rmm,rlv⟩:=rx1
 have X : ∀ h',Fr [] h1 h' -> h'.cell b 0 = some (.int .i64 x.op) /\ h'.cell b 1 = some (.int .i64 x.d) /\ h'.cell b 2 = some (.int .i64 x.a) /\ h'.cell b 3 = some (.int .i64 x.b) /\ h'.cell b 8 = some vv:=fun h' f=>by
  rw [AD (f b _ (by simp) gb),AD (f b _ (by simp) gb),AD (f b _ (by simp) gb),AD (f b _ (by simp) gb),AD (f b _ (by simp) gb),ecx]; exact ⟨rfl,rfl,rfl,rfl,rfl⟩
 have rr:=Fr.refl [] h1
 have r1 : (1 : Nat) <= reachBytes:=by decide
 simp only [go_sem,reduceIte,Int.reduceEq,(X h1 rr).2.2.1]
 refine IW fun vk h2 f2 rk=>?_
 have s2:=s1.mono f2
 have no12 : (B5 m l x.a 3 3).isSome = false -> CF m f l x = none:=fun z=>by
  rcases hop with hop | hop | hop
  ·rw [FO (by rw [hop]; rfl) (QC hop),z]; rfl
  ·rw [HX (by rw [hop]; rfl) (by omega) (NZ hop),z]; rfl
  ·rw [FO (by rw [hop]; rfl) (QB hop),z]; rfl
 refine EJ (L:=[3]) s2 x.a rk r1 (fun e=>hno (no12 (by rw [C0] at e; rw [e]; rfl))) fun sa ea w h3 f3 _=>?_
 rw [C0] at ea
 have s3:=s2.mono f3
 have eb : AT (AG [.bool false,.nilsl] [(0,1,.bool true)]) = some (.agg [.bool true,.nilsl]):=rfl
 rw [eb,AB]
 refine DN rfl rfl fun a h4 f4 ha ga=>?_
 have hap:=s3.ne ha
 have s4:=s3.mono f4
 have f14:=(f2.trans f3).trans f4
 rcases hop with hop | hop | hop
 ·have e:=FO (m:=m) (f:=f) (l:=l) (x:=x) (by rw [hop]; rfl) (QC hop)
  rw [ea,Option.isSome_some,Bool.true_and] at e
  refine AI (fun (J : H -> Prop)=>isS l x.b BF = true -> ∀ h',Fr [] h4 h' -> J h') (fun z h' f'=>?_) fun J hJ=>?_
  ·rw [z,if_pos rfl] at e
   obtain ⟨x0,x1,x2,x3,x8⟩:=X h' (f14.trans f')
   have ga':=f' a _ (by simp) ga
   simp only [go_sem,reduceIte,Int.reduceEq,x0,hop]
   refine AI (fun (J : H -> Prop)=>J h') ?_ fun J hJ=>hJ
   simp only [go_sem,reduceIte,Int.reduceEq,x1,AR ga' (n:=2) rfl]
   refine I2 (s4.mono f') x.d (t:=BF) ⟨.nilsl,rfl,Row.nil _ 1⟩ (G9 m) (fun q=>hno (by rw [e]; exact q)) fun l' h5 q s5=>?_
   exact hK l' h5 (by rw [e]; exact q) s5
  ·obtain ⟨x0,x1,x2,x3,x8⟩:=X h4 f14
   simp only [go_sem,reduceIte,Int.reduceEq,x0,hop,x3]
   refine HB s4 x.b (fun z=>hno (by rw [e,z]; rfl)) fun z h5 f5=>?_
   exact hJ z h5 f5
 ·have e:=HX (m:=m) (f:=f) (l:=l) (x:=x) (by rw [hop]; rfl) (by omega) (NZ hop)
  rw [ea,Option.isSome_some,Bool.true_and] at e
  refine AI (fun (J : H -> Prop)=>(B5 m l x.b 3 3).isSome = true -> ∀ h',Fr [] h4 h' -> J h') (fun z h' f'=>?_) fun J hJ=>?_
  ·rw [z,if_pos rfl] at e
   have f1':=f14.trans f'
   obtain ⟨x0,x1,x2,x3,x8⟩:=X h' f1'
   have ga':=f' a _ (by simp) ga
   simp only [go_sem,reduceIte,Int.reduceEq,x0,hop,x8]
   refine AI (fun (J : H -> Prop)=>∀ n h'' c,CE l x.live = some n -> h''.get a = some (.live c 46 true) -> c.length = 2 -> tyR h'' (DK 0) c -> h''.get b = some (.live cx 55 true) -> Sv h0 h'' p m f n -> J h'') (fun n h'' c en gc lc rc gb'' sn=>?_) fun J hJ=>?_
   ·rw [en,Option.bind_some] at e
    have x1 : h''.cell b 1 = some (.int .i64 x.d):=by rw [AD gb'',ecx]; rfl
    simp only [go_sem,reduceIte,Int.reduceEq,x1,AR gc lc]
    refine I2 sn x.d rc (ED (by omega) (by have:=s.W.s0; omega)) (fun q=>hno (by rw [e]; exact q)) fun l' h5 q s5=>?_
    exact hK l' h5 (by rw [e]; exact q) s5
   ·refine IA (s4.mono f') (rlv.fr f1') okx.2.2.2.1 (fun q=>hno (by rw [e,q]; rfl)) fun n h5 en f5 s5=>?_
    refine LW fun c h6 f6 rc=>?_
    have ga6:=f6 a _ (by simp) (f5.but hap ga')
    obtain ⟨w1,w2,w3,_⟩:=GC ga6 (t:=BF) ⟨.nilsl,rfl,Row.nil _ 1⟩ rc
    rw [w1]
    have gb6:=f6 b _ (by simp) (f5.but hbp (f1' b _ (by simp) gb))
    have hab : b ≠ a:=fun q=>by
     have:=(f2.trans f3) b _ (by simp) gb
     rw [q,ha] at this; cases this
    have s6:=s5.mono f6
    obtain ⟨cm,cf,v,sc⟩:=s6
    have ha0 : h0.get a = none:=s3.fr.free ha
    have ni : NI h6 (h6.set a (.live c 46 true)):=NI.set ga6 (by rw [rc.len]; decide) fun i k n z=>by
     match i,z with
     | 0,z=>cases z
     | 1,z=>cases z
    refine hJ n _ c en w3 rc.len w2 (by rw [H.get_other _ _ hab]; exact gb6) ⟨cm,cf,v,sc.fr.set' ha0,sc.free,sc.im,sc.fn,by rw [H.get_other _ _ hap.symm]; exact sc.get,?_,fun b' off n' cap ev=>?_,sc.W,sc.wf,sc.ol,sc.len⟩
    ·obtain ⟨css,a1,a2,a3,a4⟩:=sc.row
     exact ⟨css,a1,fun i x c hx hc=>(a2 i x c hx hc).ni ni,a3,a4.mono fun b' off cap o ev hg=>by
      obtain ⟨_,cs,g⟩:=sc.own b' off _ cap ev
      rw [H.get_other _ _ (fun q=>by rw [q,ga6] at g; injection g with g; injection g with _ g; cases g)]; exact hg⟩
    ·obtain ⟨g1,cs,g⟩:=sc.own b' off n' cap ev
     exact ⟨g1,cs,by rw [H.get_other _ _ (fun q=>by rw [q,ga6] at g; injection g with g; injection g with _ g; cases g)]; exact g⟩
  ·obtain ⟨x0,x1,x2,x3,x8⟩:=X h4 f14
   simp only [go_sem,reduceIte,Int.reduceEq,x0,hop,x3]
   refine IW fun vk h5 f5 rk=>?_
   refine EJ (L:=[3]) (s4.mono f5) x.b rk r1 (fun z=>hno (by rw [C0] at z; rw [e,z]; rfl)) fun sb eb w h6 f6 _=>?_
   rw [C0] at eb
   exact hJ (by rw [eb]; rfl) h6 (f5.trans f6)
 ·have e:=FO (m:=m) (f:=f) (l:=l) (x:=x) (by rw [hop]; rfl) (QB hop)
  rw [ea,Option.isSome_some,Bool.true_and] at e
  refine AI (fun (J : H -> Prop)=>(B5 m l x.b 3 3).isSome = true -> ∀ h',Fr [] h4 h' -> J h') (fun z h' f'=>?_) fun J hJ=>?_
  ·rw [z,if_pos rfl] at e
   obtain ⟨x0,x1,x2,x3,x8⟩:=X h' (f14.trans f')
   have ga':=f' a _ (by simp) ga
   simp only [go_sem,reduceIte,Int.reduceEq,x0,hop]
   refine AI (fun (J : H -> Prop)=>J h') ?_ fun J hJ=>hJ
   simp only [go_sem,reduceIte,Int.reduceEq,x1,AR ga' (n:=2) rfl]
   refine I2 (s4.mono f') x.d (t:=BF) ⟨.nilsl,rfl,Row.nil _ 1⟩ (G9 m) (fun q=>hno (by rw [e]; exact q)) fun l' h5 q s5=>?_
   exact hK l' h5 (by rw [e]; exact q) s5
  ·obtain ⟨x0,x1,x2,x3,x8⟩:=X h4 f14
   simp only [go_sem,reduceIte,Int.reduceEq,x0,hop,x3]
   refine IW fun vk h5 f5 rk=>?_
   refine EJ (L:=[3]) (s4.mono f5) x.b rk r1 (fun z=>hno (by rw [C0] at z; rw [e,z]; rfl)) fun sb eb w h6 f6 _=>?_
   rw [C0] at eb
   exact hJ (by rw [eb]; rfl) h6 (f5.trans f6)
set_option maxHeartbeats 1000000 in
theorem call_c (s : Sv h0 h p m f l) {x : Ins} {cx : List AV} (rx : insR h x cx) (okx : x.ok) (hop : x.op = 17) {K : AV -> H -> Prop} (hno : CF m f l x = none -> ∀ h',Fr [] h0 h' -> PK h') (hK : ∀ l' h',CF m f l x = some l' -> Sv h0 h' p m f l' -> K (.tup []) h') : DP PK 174 [.ptr p 0,.agg cx] h K:=by
 refine runP174 ?_
 unfold sh174 zT zU zF zG
 refine D2 rx fun b h1 f1 hb gb rx1=>?_
 have hbp:=s.ne hb
 have s1:=s.mono f1
 have rx1':=rx1
 obtain ⟨vl,vm,vv,ecx,rl,rmm,rlv⟩:=rx1
 have W:=s.W
 have e:=KB (m:=m) (f:=f) (l:=l) (x:=x) (by rw [hop]; rfl)
 rw [SB hop] at e
 have ec : (m.isFn x.a && CC m l x.l (m.fn x.a).params) = FM m l x:=rfl
 rw [ec] at e
 have eth : ∀ n,CY m f n x = (if x.b = -1 then decide (x.c = 0) else match BI n x.c (m.ty m.exn) with | some w=>BB m f w x.b | none=>false):=fun n=>by unfold CY; rw [decide_eq_true hop]; rfl
 rw [MZ,AR gb (rx1'.ln)]
 simp only [AB]
 refine S5 s1 rx1' okx (fun z=>hno (by rw [e,z]; rfl)) fun z cf h2 f2 rf=>?_
 rw [z,if_pos rfl,Option.bind_some] at e
 have s2:=s1.mono f2
 refine BL rfl rf.ln rfl rf.leaves fun a h3 f3 ha ga=>?_
 have hap:=s2.ne ha
 have s3:=s2.mono f3
 have f13:=f2.trans f3
 have gb3:=f13 b _ (by simp) gb
 have x8 : h3.cell b 8 = some vv:=by rw [AD gb3,ecx]; rfl
 have z' : m.isFn x.a = true:=by
  unfold FM at z; rw [Bool.and_eq_true] at z; exact z.1
 have hfn:=(GU m x.a).1 z'
 have fw : FnW m (m.fn x.a):=W.fn _ (by
  unfold Img.fn
  rw [List.getD_eq_getElem?_getD,List.getElem?_eq_getElem (show x.a.toNat < m.fns.length by omega)]
  exact List.getElem_mem _)
 simp only [go_sem,reduceIte,Int.reduceEq,x8]
 refine IA s3 (rlv.fr f13) okx.2.2.2.1 (fun q=>hno (by rw [e,q]; rfl)) fun n h4 en f4 s4=>?_
 rw [en,Option.bind_some] at e
 have gb4:=f4.but hbp gb3
 have ga4:=f4.but hap ga
 have X : ∀ h',Fr [] h4 h' -> h'.cell b 1 = some (.int .i64 x.d) /\ h'.cell b 3 = some (.int .i64 x.b) /\ h'.cell b 4 = some (.int .i64 x.c) /\ h'.cell a 1 = some (.int .i64 (m.fn x.a).result):=fun h' f=>by
  obtain ⟨vp,vb,ecf,_⟩:=rf
  rw [AD (f b _ (by simp) gb4),AD (f b _ (by simp) gb4),AD (f b _ (by simp) gb4),AD (f a _ (by simp) ga4),ecx,ecf]; exact ⟨rfl,rfl,rfl,rfl⟩
 obtain ⟨x1,x3,x4,a1⟩:=X h4 (Fr.refl _ _)
 refine AI (fun (J : H -> Prop)=>CY m f n x = true -> ∀ h',Fr [] h4 h' -> J h') (fun q h' f'=>?_) fun J hJ=>?_
 ·rw [q,if_pos rfl] at e
  obtain ⟨x1,x3,x4,a1⟩:=X h' f'
  have s':=s4.mono f'
  obtain ⟨vt,vs,vx,vf,vp,vb,v,F⟩:=s'.facts
  obtain ⟨b9,o9,ct,v1,v2,v3⟩:=C7 F.ty fw.res.1 fw.res.2
  simp only [go_sem,reduceIte,Int.reduceEq,x1,F.c0,a1,v1,v2]
  refine I2 s' x.d v3 (W.tyOk _) (fun q=>hno (by rw [e]; exact q)) fun l' h5 q s5=>?_
  exact hK l' h5 (by rw [e]; exact q) s5
 ·by_cases b1 : x.b = -1
  ·rw [eth n,if_pos b1] at e hJ
   simp only [go_sem,reduceIte,Int.reduceEq,x3,b1,x4]
   refine FV (fun q=>hno (by rw [e,q]; rfl) h4 s4.fr) fun q=>?_
   exact hJ q h4 (Fr.refl _ _)
  ·rw [eth n,if_neg b1] at e hJ
   obtain ⟨vt,vs,vx,vf,vp,vb,v,F⟩:=s4.facts
   obtain ⟨b9,o9,ct,v1,v2,v3⟩:=C7 F.ty W.exn.1 W.exn.2
   have nx : BI n x.c (m.ty m.exn) = none -> PK h4:=fun q=>hno (by rw [e,q]; rfl) h4 s4.fr
   by_cases c0 : 0 <= x.c
   ·by_cases c1 : x.c < (n.length : Int)
    ·have ew : BI n x.c (m.ty m.exn) = some (HZ n x.c (m.ty m.exn)):=by unfold BI HZ; rw [if_pos ⟨c0,c1⟩,if_pos c0]
     rw [ew] at e hJ
     simp only [go_sem,reduceIte,Int.reduceEq,x3,b1,x4,c0,F.c11,F.row.len,c1]
     refine C8 ?_
     simp only [go_sem,reduceIte,Int.reduceEq,x3,x4,F.c0,F.c6,v1,v2]
     refine aY s4 x.b x.c v3 (W.tyOk _) (fun q=>hno (by rw [e]; simp only [q]; rfl)) fun q h5 f5=>?_
     exact hJ q h5 f5
    ·simp only [go_sem,reduceIte,Int.reduceEq,x3,b1,x4,c0,F.c11,F.row.len,c1]
     exact BK (nx (by unfold BI; rw [if_neg (by omega)]))
   ·simp only [go_sem,reduceIte,Int.reduceEq,x3,b1,x4,c0]
    exact BK (nx (by unfold BI; rw [if_neg (by omega)]))
end
theorem PB {n : Int} : decide (DX n = n) = BU n:=by
 unfold DX BU
 by_cases a : 4611686018427387904 <= n
 ·rw [if_pos a,decide_eq_false (by omega),decide_eq_false (p:=n < 4611686018427387904) (by omega),Bool.and_false]
 ·rw [if_neg a]
  by_cases b : n < -4611686018427387904
  ·rw [if_pos b,decide_eq_false (by omega),decide_eq_false (p:=-4611686018427387904 <= n) (by omega)]; rfl
  ·rw [if_neg b,decide_eq_true rfl,decide_eq_true (by omega),decide_eq_true (by omega)]; rfl
section
variable {PK : H -> Prop} {h h0 : H} {p : Nat} {m : Img} {f : Fn} {l : List Sl}
theorem lit_i2 {s t : Int} {K : AV -> H -> Prop} (hK : ∀ v h',Fr [] h h' -> Row h' v 2 1 (ic [s,t]) -> K v h') : A5 h 3 2 (AG [.int .i64 0,.int .i64 0] [(0,1,.int .i64 s),(1,1,.int .i64 t)]) K:=by
 have e : AG [.int .i64 0,.int .i64 0] [(0,1,.int .i64 s),(1,1,.int .i64 t)] = some [.int .i64 s,.int .i64 t]:=rfl
 rw [e]
 refine ⟨rfl,fun q hq=>?_⟩
 exact hK _ _ (Fr.new hq) ⟨rfl,.inr ⟨q,0,_,rfl,rfl,H.read_eq (H.get_same ..) (by simp) rfl⟩⟩
theorem LZ (h : H) : tyR h BF [.bool true,.nilsl]:=⟨.nilsl,rfl,Row.nil _ 1⟩
theorem PL {m : Img} {sh : List Int} {k : Int} (h : sh.all (BQ m k) = true) : DB m sh k = some ((sh.map (BM m k)).foldl C4 H3):=by unfold DB; rw [if_pos h]
theorem PJ {m : Img} {sh : List Int} {k : Int} (h : sh.all (BQ m k) = false) : DB m sh k = none:=by unfold DB; rw [h]; rfl
set_option maxHeartbeats 4000000 in
theorem instr_c (s : Sv h0 h p m f l) {x : Ins} {cx : List AV} (rx : insR h x cx) (okx : x.ok) {K : AV -> H -> Prop} (hno : CF m f l x = none -> ∀ h',Fr [] h0 h' -> PK h') (hK : ∀ l' h',CF m f l x = some l' -> Sv h0 h' p m f l' -> K (.tup []) h') : DP PK 122 [.ptr p 0,.agg cx] h K:=by
 refine runP122 ?_
 unfold sh122 zL zT zU zF zG
 refine D2 rx fun b h1 f1 hb gb rx1=>?_
 have hbp:=s.ne hb
 have s1:=s.mono f1
 have eb : AT (AG [.bool false,.nilsl] [(0,1,.bool true)]) = some (.agg [.bool true,.nilsl]):=rfl
 rw [eb,AB]
 refine DN rfl rfl fun a h2 f2 ha ga=>?_
 have hap:=s1.ne ha
 have s2:=s1.mono f2
 have gb2:=f2 b _ (by simp) gb
 have rx2:=rx1.fr f2
 have rx2':=rx2
 obtain ⟨vl,vm,vv,ecx,rl,rmm,rlv⟩:=rx2
 have W:=s.W
 clear s s1 rx rx1
 have Y : ∀ h' : H,h'.get b = some (.live cx 55 true) -> h'.cell b 0 = some (.int .i64 x.op) /\ h'.cell b 1 = some (.int .i64 x.d) /\ h'.cell b 2 = some (.int .i64 x.a) /\ h'.cell b 3 = some (.int .i64 x.b) /\ h'.cell b 4 = some (.int .i64 x.c) /\ h'.cell b 5 = some (.int .i64 x.n) /\ h'.cell b 6 = some vl /\ h'.cell b 8 = some vv:=fun h' g=>by
  rw [AD g,AD g,AD g,AD g,AD g,AD g,AD g,AD g,ecx]; exact ⟨rfl,rfl,rfl,rfl,rfl,rfl,rfl,rfl⟩
 have X : ∀ h',Fr [] h2 h' -> h'.cell b 0 = some (.int .i64 x.op) /\ h'.cell b 1 = some (.int .i64 x.d) /\ h'.cell b 2 = some (.int .i64 x.a) /\ h'.cell b 3 = some (.int .i64 x.b) /\ h'.cell b 4 = some (.int .i64 x.c) /\ h'.cell b 5 = some (.int .i64 x.n) /\ h'.cell b 6 = some vl /\ h'.cell b 8 = some vv:=fun h' f=>Y h' (f b _ (by simp) gb2)
 have A : ∀ h',Fr [] h2 h' -> h'.read a 0 2 = some [.bool true,.nilsl]:=fun h' f=>AR (f a _ (by simp) ga) rfl
 have rr:=Fr.refl [] h2
 have r1 : (1 : Nat) <= reachBytes:=by decide
 obtain ⟨x0,x1,x2,x3,x4,x5,x6,x8⟩:=X h2 rr
 have a2:=A h2 rr
 have setN : ∀ h',Fr [] h2 h' -> CF m f l x = BI l x.d BF -> DP PK 164 [.ptr p 0,.int .i64 x.d,.agg [.bool true,.nilsl]] h' fun _ h=>K (.tup []) h:=fun h' f' e=>
  I2 (s2.mono f') x.d (LZ h') (G9 m) (fun q=>hno (by rw [e]; exact q)) fun l' h5 q s5=>hK l' h5 (by rw [e]; exact q) s5
 have shok : ∀ {i k1 k2 : Int} {sh : List Int},B5 m l i k1 k2 = some sh -> sh.length <= 512 /\ ∀ s ∈ sh,0 <= s /\ s < m.shapes.length:=fun {i k1 k2 sh} e=>by
  obtain ⟨t,e1,e2,_⟩:=JT e
  have:=s2.ol.at e1
  rw [<- e2]
  exact ⟨Nat.le_trans this.len W.sl,this.2⟩
 by_cases hop : x.op = 1
 ·have e:=FO (m:=m) (f:=f) (l:=l) (x:=x) (by rw [hop]; rfl) (XJ hop)
  simp only [go_sem,reduceIte,Int.reduceEq,x0,hop,x5]
  refine QF okx.1.2.2.2.2.2.1 okx.1.2.2.2.2.2.2 ?_
  simp only [go_sem,reduceIte,Int.reduceEq,x5]
  rw [PB]
  refine FV (fun z=>hno (by rw [e,z]; rfl) h2 s2.fr) fun z=>?_
  simp only [go_sem,reduceIte,Int.reduceEq,x1,a2]
  exact setN h2 rr (by rw [e,z]; rfl)
 by_cases hop : x.op = 3
 ·have e:=EI (m:=m) (f:=f) (l:=l) (x:=x) (by rw [hop]; rfl)
  rw [XI hop] at e
  simp only [go_sem,reduceIte,Int.reduceEq,x0,hop,x1,x2]
  refine I4 s2 x.a (fun z=>hno (by rw [e,z]; rfl)) fun t et c h3 f3 rt=>?_
  rw [et] at e
  simp only [go_sem,reduceIte,Int.reduceEq,(X h3 f3).2.1]
  refine I2 (s2.mono f3) x.d rt (s2.ol.at et) (fun q=>hno (by rw [e]; exact q)) fun l' h5 q s5=>?_
  exact hK l' h5 (by rw [e]; exact q) s5
 by_cases hop : x.op = 15
 ·have e:=FO (m:=m) (f:=f) (l:=l) (x:=x) (ok:=true) (by rw [hop]; rfl) (UV hop)
  simp only [go_sem,reduceIte,Int.reduceEq,x0,hop,x1,a2]
  exact setN h2 rr e
 by_cases hop : x.op = 16
 ·have e:=LS (m:=m) (f:=f) (l:=l) (x:=x) (by rw [hop]; rfl) (UU hop)
  simp only [go_sem,reduceIte,Int.reduceEq,x0,hop,x2]
  refine HB s2 x.a (fun z=>hno (by rw [e,z]; rfl)) fun z h3 f3=>?_
  exact hK l h3 (by rw [e,z]; rfl) (s2.mono f3)
 by_cases hop : x.op = 4
 ·have e:=FO (m:=m) (f:=f) (l:=l) (x:=x) (by rw [hop]; rfl) (XH hop)
  by_cases c1 : 1 <= x.n
  ·by_cases c2 : x.n <= 8
   ·rw [decide_eq_true c1,decide_eq_true c2,Bool.true_and,Bool.true_and] at e
    simp only [go_sem,reduceIte,Int.reduceEq,x0,hop,x5,c1,c2]
    refine C8 ?_
    simp only [go_sem,reduceIte,Int.reduceEq,x2]
    refine HB s2 x.a (fun z=>hno (by rw [e,z]; rfl)) fun z h3 f3=>?_
    rw [z,Bool.true_and] at e
    simp only [go_sem,reduceIte,Int.reduceEq,(X h3 f3).2.2.2.1]
    refine HB (s2.mono f3) x.b (fun z=>hno (by rw [e,z]; rfl)) fun z h4 f4=>?_
    rw [z,if_pos rfl] at e
    have f24:=f3.trans f4
    simp only [go_sem,reduceIte,Int.reduceEq,(X h4 f24).2.1,A h4 f24]
    exact setN h4 f24 e
   ·rw [decide_eq_false c2,Bool.and_false,Bool.false_and,Bool.false_and] at e
    simp only [go_sem,reduceIte,Int.reduceEq,x0,hop,x5,c1,c2]
    exact BK (hno (by rw [e]; rfl) h2 s2.fr)
  ·rw [decide_eq_false c1,Bool.false_and,Bool.false_and,Bool.false_and] at e
   simp only [go_sem,reduceIte,Int.reduceEq,x0,hop,x5,c1]
   exact BK (hno (by rw [e]; rfl) h2 s2.fr)
 by_cases hop : x.op = 2
 ·have e:=HX (m:=m) (f:=f) (l:=l) (x:=x) (by rw [hop]; rfl) (by omega) (VC hop)
  obtain ⟨vt,vs,vx,vf,vp,vb,v,F⟩:=s2.facts
  by_cases c0 : 0 <= x.a
  ·by_cases c1 : x.a < (m.strs.length : Int)
   ·rw [decide_eq_true c0,decide_eq_true c1,Bool.true_and,if_pos rfl] at e
    simp only [go_sem,reduceIte,Int.reduceEq,x0,hop,x2,c0,F.c2,F.st.len,c1]
    refine C8 ?_
    simp only [go_sem,reduceIte,Int.reduceEq,x8]
    refine IA s2 rlv okx.2.2.2.1 (fun q=>hno (by rw [e,q]; rfl)) fun n h5 en f5 s5=>?_
    rw [en,Option.bind_some] at e
    have gb5:=f5.but hbp gb2
    simp only [go_sem,reduceIte,Int.reduceEq,(Y h5 gb5).2.1]
    refine LW fun c h6 f6 rc=>?_
    have gb6:=f6 b _ (by simp) gb5
    simp only [go_sem,reduceIte,Int.reduceEq,(Y h6 gb6).2.1]
    refine I2 (s5.mono f6) x.d rc (ED (by omega) (by have:=W.s0; omega)) (fun q=>hno (by rw [e]; exact q)) fun l' h7 q s7=>?_
    exact hK l' h7 (by rw [e]; exact q) s7
   ·rw [decide_eq_false c1,Bool.and_false] at e
    simp only [go_sem,reduceIte,Int.reduceEq,x0,hop,x2,c0,F.c2,F.st.len,c1]
    exact BK (hno (by rw [e]; rfl) h2 s2.fr)
  ·rw [decide_eq_false c0,Bool.false_and] at e
   simp only [go_sem,reduceIte,Int.reduceEq,x0,hop,x2,c0]
   exact BK (hno (by rw [e]; rfl) h2 s2.fr)
 have ld9 : h2.read b 0 9 = some cx:=AR gb2 rx2'.ln
 by_cases hop : x.op = 13
 ·simp only [go_sem,reduceIte,Int.reduceEq,x0,hop,decide_true,decide_false]
  refine AI (fun (J : AV -> H -> Prop)=>J (.bool true) h2) ?_ fun J hJ=>hJ
  simp only [go_sem,reduceIte,Int.reduceEq,ld9]
  refine P8 s2 rx2' okx (by omega) hno fun l' h5 q s5=>?_
  exact hK l' h5 q s5
 by_cases hop : x.op = 14
 ·simp only [go_sem,reduceIte,Int.reduceEq,x0,hop,decide_true,decide_false]
  refine AI (fun (J : AV -> H -> Prop)=>J (.bool true) h2) ?_ fun J hJ=>hJ
  simp only [go_sem,reduceIte,Int.reduceEq,ld9]
  refine P8 s2 rx2' okx (by omega) hno fun l' h5 q s5=>?_
  exact hK l' h5 q s5
 by_cases hop : x.op = 12
 ·simp only [go_sem,reduceIte,Int.reduceEq,x0,hop,decide_true,decide_false]
  refine AI (fun (J : AV -> H -> Prop)=>J (.bool true) h2) ?_ fun J hJ=>hJ
  simp only [go_sem,reduceIte,Int.reduceEq,ld9]
  refine P8 s2 rx2' okx (by omega) hno fun l' h5 q s5=>?_
  exact hK l' h5 q s5
 by_cases hop : x.op = 5
 ·have e:=HX (m:=m) (f:=f) (l:=l) (x:=x) (by rw [hop]; rfl) (by omega) (VB hop)
  rw [show (decide (0 <= x.a) && decide (x.a < (m.shapes.length : Int)) && decide ((m.shp x.a).kind = 1) && CC m l x.l (m.shp x.a).fs) = (J7 m x.a 1 && CC m l x.l (m.shp x.a).fs) from rfl] at e
  simp only [go_sem,reduceIte,Int.reduceEq,x0,hop,decide_true,decide_false]
  refine AI (fun (J : AV -> H -> Prop)=>J (.bool false) h2) ?_ fun J hJ=>hJ
  simp only [go_sem,reduceIte,Int.reduceEq,x2]
  refine RX s2 x.a 1 (fun z=>hno (by rw [e,z]; rfl)) fun z cs h3 f3 rs=>?_
  rw [z,Bool.true_and] at e
  obtain ⟨vfs,ecs,rfs⟩:=rs
  have hz:=z
  unfold J7 at hz
  simp only [Bool.and_eq_true,decide_eq_true_eq] at hz
  have wf:=W.fs hz.1.1 hz.1.2
  have efl : T3 1 none (.agg cs) = some vfs:=by rw [ecs]; rfl
  rw [efl,AB]
  simp only [go_sem,reduceIte,Int.reduceEq,(X h3 f3).2.2.2.2.2.2.1]
  refine QJ (s2.mono f3) (rl.fr f3) rfs okx.2.1.1 wf.2.1 (fun z=>hno (by rw [e,z]; rfl)) fun z h4 f4=>?_
  rw [z,if_pos rfl] at e
  have f24:=f3.trans f4
  simp only [go_sem,reduceIte,Int.reduceEq,(X h4 f24).2.2.2.2.2.2.2]
  refine IA (s2.mono f24) (rlv.fr f24) okx.2.2.2.1 (fun q=>hno (by rw [e,q]; rfl)) fun n h5 en f5 s5=>?_
  rw [en,Option.bind_some] at e
  have gb5:=f5.but hbp (f24 b _ (by simp) gb2)
  simp only [go_sem,reduceIte,Int.reduceEq,(Y h5 gb5).2.1,(Y h5 gb5).2.2.1]
  refine LW fun c h6 f6 rc=>?_
  have gb6:=f6 b _ (by simp) gb5
  simp only [go_sem,reduceIte,Int.reduceEq,(Y h6 gb6).2.1]
  refine I2 (s5.mono f6) x.d rc (ED hz.1.1 hz.1.2) (fun q=>hno (by rw [e]; exact q)) fun l' h7 q s7=>?_
  exact hK l' h7 (by rw [e]; exact q) s7
 by_cases hop : x.op = 8
 ·have e:=HX (m:=m) (f:=f) (l:=l) (x:=x) (by rw [hop]; rfl) (by omega) (VA hop)
  rw [show (decide (0 <= x.a) && decide (x.a < (m.shapes.length : Int)) && decide ((m.shp x.a).kind = 2) && isS l x.b BF && CC m l [x.c] (m.shp x.a).fs) = (J7 m x.a 2 && isS l x.b BF && CC m l [x.c] (m.shp x.a).fs) from rfl] at e
  simp only [go_sem,reduceIte,Int.reduceEq,x0,hop,decide_true,decide_false]
  refine AI (fun (J : AV -> H -> Prop)=>J (.bool false) h2) ?_ fun J hJ=>hJ
  simp only [go_sem,reduceIte,Int.reduceEq,x2]
  refine RX s2 x.a 2 (fun z=>hno (by rw [e,z]; rfl)) fun z cs h3 f3 rs=>?_
  rw [z,Bool.true_and] at e
  obtain ⟨vfs,ecs,rfs⟩:=rs
  have hz:=z
  unfold J7 at hz
  simp only [Bool.and_eq_true,decide_eq_true_eq] at hz
  have wf:=W.fs hz.1.1 hz.1.2
  have efl : T3 1 none (.agg cs) = some vfs:=by rw [ecs]; rfl
  rw [efl,AB]
  simp only [go_sem,reduceIte,Int.reduceEq,(X h3 f3).2.2.2.1]
  refine HB (s2.mono f3) x.b (fun z=>hno (by rw [e,z]; rfl)) fun z h4 f4=>?_
  rw [z,Bool.true_and] at e
  have f24:=f3.trans f4
  simp only [go_sem,reduceIte,Int.reduceEq,(X h4 f24).2.2.2.2.1]
  refine IW fun vc h4' f4' rc'=>?_
  have f24':=f24.trans f4'
  refine QJ (xs:=[x.c]) (s2.mono f24') rc' (rfs.fr (f4.trans f4')) r1 wf.2.1 (fun z=>hno (by rw [e,z]; rfl)) fun z h5' f5'=>?_
  rw [z,if_pos rfl] at e
  have f25:=f24'.trans f5'
  simp only [go_sem,reduceIte,Int.reduceEq,(X h5' f25).2.2.2.2.2.2.2]
  refine IA (s2.mono f25) (rlv.fr f25) okx.2.2.2.1 (fun q=>hno (by rw [e,q]; rfl)) fun n h5 en f5 s5=>?_
  rw [en,Option.bind_some] at e
  have gb5:=f5.but hbp (f25 b _ (by simp) gb2)
  simp only [go_sem,reduceIte,Int.reduceEq,(Y h5 gb5).2.1,(Y h5 gb5).2.2.1]
  refine LW fun c h6 f6 rc=>?_
  have gb6:=f6 b _ (by simp) gb5
  simp only [go_sem,reduceIte,Int.reduceEq,(Y h6 gb6).2.1]
  refine I2 (s5.mono f6) x.d rc (ED hz.1.1 hz.1.2) (fun q=>hno (by rw [e]; exact q)) fun l' h7 q s7=>?_
  exact hK l' h7 (by rw [e]; exact q) s7
 by_cases hop : x.op = 6
 ·have e:=EI (m:=m) (f:=f) (l:=l) (x:=x) (by rw [hop]; rfl)
  rw [XG hop] at e
  simp only [go_sem,reduceIte,Int.reduceEq,x0,hop,decide_true,decide_false]
  refine AI (fun (J : AV -> H -> Prop)=>J (.bool false) h2) ?_ fun J hJ=>hJ
  simp only [go_sem,reduceIte,Int.reduceEq,x1,x2,x3]
  refine IW fun vk h3 f3 rk=>?_
  refine EJ (L:=[1]) (s2.mono f3) x.a rk r1 (fun z=>hno (by rw [C0] at z; rw [e,z]; rfl)) fun sh es w h4 f4 rw4=>?_
  rw [C0] at es
  rw [es,Option.bind_some] at e
  have f24:=f3.trans f4
  simp only [go_sem,reduceIte,Int.reduceEq,(X h4 f24).2.1,(X h4 f24).2.2.2.1]
  refine NB (s2.mono f24) rw4 (shok es).1 (shok es).2 x.b (fun z=>hno (by rw [e,PJ z]; rfl)) fun z wt h5 f5 r5=>?_
  rw [PL z] at e
  have f25:=f24.trans f5
  have ot : ∀ t ∈ sh.map (BM m x.b),okT m t:=fun t ht=>by
   rw [List.mem_map] at ht; obtain ⟨s,_,q⟩:=ht; rw [<- q]; exact W.tyOk _
  have hle : (sh.map (BM m x.b)).length <= reachBytes:=by rw [List.length_map]; exact Nat.le_trans (shok es).1 (by decide)
  simp only [go_sem,reduceIte,Int.reduceEq,(X h5 f25).2.1]
  refine SG W r5 hle ot fun c h6 f6 rc=>?_
  have f26:=f25.trans f6
  simp only [go_sem,reduceIte,Int.reduceEq,(X h6 f26).2.1]
  refine I2 (s2.mono f26) x.d rc (JF _ _ (KF m) ot) (fun q=>hno (by rw [e]; exact q)) fun l' h7 q s7=>?_
  exact hK l' h7 (by rw [e]; exact q) s7
 by_cases hop : x.op = 7
 ·have e:=LS (m:=m) (f:=f) (l:=l) (x:=x) (by rw [hop]; rfl) (XF hop)
  simp only [go_sem,reduceIte,Int.reduceEq,x0,hop,decide_true,decide_false]
  refine AI (fun (J : AV -> H -> Prop)=>J (.bool false) h2) ?_ fun J hJ=>hJ
  simp only [go_sem,reduceIte,Int.reduceEq,x4,x2,x3]
  refine IW fun vk h3 f3 rk=>?_
  refine EJ (L:=[1]) (s2.mono f3) x.a rk r1 (fun z=>hno (by rw [C0] at z; rw [e,z]; simp)) fun sh es w h4 f4 rw4=>?_
  rw [C0] at es
  rw [es] at e
  have f24:=f3.trans f4
  have ese : (if ((atS l x.c).isSome && CX m l x.c sh x.b) = true then some l else none) = (if CX m l x.c sh x.b = true then some l else none):=by
   cases hat : atS l x.c with
   | some t=>rfl
   | none=>
    obtain ⟨_,_,_,hne⟩:=JT es
    have : CX m l x.c sh x.b = false:=by
     unfold CX
     cases sh with
     | nil=>exact absurd rfl hne
     | cons a sh=>rw [List.all_cons,H7 hat,Bool.and_false,Bool.false_and]
    rw [this]; rfl
  have e : CF m f l x = if CX m l x.c sh x.b = true then some l else none:=by rw [e]; exact ese
  simp only [go_sem,reduceIte,Int.reduceEq,(X h4 f24).2.2.2.2.1,(X h4 f24).2.2.2.1]
  refine NB (s2.mono f24) rw4 (shok es).1 (shok es).2 x.b (fun z=>hno (by rw [e,PY z]; rfl)) fun z wt h5 f5 r5=>?_
  have f25:=f24.trans f5
  obtain ⟨_,_,_,hne⟩:=JT es
  rw [<- N9 hne z] at e
  have ot : ∀ t ∈ sh.map (BM m x.b),okT m t:=fun t ht=>by
   rw [List.mem_map] at ht; obtain ⟨s,_,q⟩:=ht; rw [<- q]; exact W.tyOk _
  have hle : (sh.map (BM m x.b)).length <= reachBytes:=by rw [List.length_map]; exact Nat.le_trans (shok es).1 (by decide)
  simp only [go_sem,reduceIte,Int.reduceEq,(X h5 f25).2.2.2.2.1]
  refine T0 (s2.mono f25) x.c r5 hle ot (fun q=>hno (by rw [e,q]; rfl)) fun q h6 f6=>?_
  exact hK l h6 (by rw [e,q]; rfl) (s2.mono (f25.trans f6))
 by_cases hop : x.op = 9
 ·have e:=EI (m:=m) (f:=f) (l:=l) (x:=x) (by rw [hop]; rfl)
  rw [XE hop] at e
  simp only [go_sem,reduceIte,Int.reduceEq,x0,hop,decide_true,decide_false]
  refine AI (fun (J : AV -> H -> Prop)=>J (.bool false) h2) ?_ fun J hJ=>hJ
  simp only [go_sem,reduceIte,Int.reduceEq,x3]
  refine HB s2 x.b (fun z=>hno (by rw [e,z]; rfl)) fun z h2' f2'=>?_
  rw [z,if_pos rfl] at e
  simp only [go_sem,reduceIte,Int.reduceEq,(X h2' f2').2.1,(X h2' f2').2.2.1]
  refine IW fun vk h3 f3' rk=>?_
  have f3:=f2'.trans f3'
  refine EJ (L:=[2]) (s2.mono f3) x.a rk r1 (fun z=>hno (by rw [C0] at z; rw [e,z]; rfl)) fun sh es w h4 f4 rw4=>?_
  rw [C0] at es
  rw [es,Option.bind_some] at e
  have f24:=f3.trans f4
  simp only [go_sem,reduceIte,Int.reduceEq,(X h4 f24).2.1]
  refine NB (s2.mono f24) rw4 (shok es).1 (shok es).2 0 (fun z=>hno (by rw [e,PJ z]; rfl)) fun z wt h5 f5 r5=>?_
  rw [PL z] at e
  have f25:=f24.trans f5
  have ot : ∀ t ∈ sh.map (BM m 0),okT m t:=fun t ht=>by
   rw [List.mem_map] at ht; obtain ⟨s,_,q⟩:=ht; rw [<- q]; exact W.tyOk _
  have hle : (sh.map (BM m 0)).length <= reachBytes:=by rw [List.length_map]; exact Nat.le_trans (shok es).1 (by decide)
  simp only [go_sem,reduceIte,Int.reduceEq,(X h5 f25).2.1]
  refine SG W r5 hle ot fun c h6 f6 rc=>?_
  have f26:=f25.trans f6
  simp only [go_sem,reduceIte,Int.reduceEq,(X h6 f26).2.1]
  refine I2 (s2.mono f26) x.d rc (JF _ _ (KF m) ot) (fun q=>hno (by rw [e]; exact q)) fun l' h7 q s7=>?_
  exact hK l' h7 (by rw [e]; exact q) s7
 by_cases hop : x.op = 10
 ·have e:=LS (m:=m) (f:=f) (l:=l) (x:=x) (by rw [hop]; rfl) (UX hop)
  simp only [go_sem,reduceIte,Int.reduceEq,x0,hop,decide_true,decide_false]
  refine AI (fun (J : AV -> H -> Prop)=>J (.bool false) h2) ?_ fun J hJ=>hJ
  simp only [go_sem,reduceIte,Int.reduceEq,x3]
  refine HB s2 x.b (fun z=>hno (by rw [e,z]; rfl)) fun z h2' f2'=>?_
  rw [z,Bool.true_and] at e
  simp only [go_sem,reduceIte,Int.reduceEq,(X h2' f2').2.2.2.2.1,(X h2' f2').2.2.1]
  refine IW fun vk h3 f3' rk=>?_
  have f3:=f2'.trans f3'
  refine EJ (L:=[2]) (s2.mono f3) x.a rk r1 (fun z=>hno (by rw [C0] at z; rw [e,z]; rfl)) fun sh es w h4 f4 rw4=>?_
  rw [C0] at es
  rw [es] at e
  have e : CF m f l x = if CX m l x.c sh 0 = true then some l else none:=e
  have f24:=f3.trans f4
  simp only [go_sem,reduceIte,Int.reduceEq,(X h4 f24).2.2.2.2.1]
  refine NB (s2.mono f24) rw4 (shok es).1 (shok es).2 0 (fun z=>hno (by rw [e,PY z]; rfl)) fun z wt h5 f5 r5=>?_
  have f25:=f24.trans f5
  obtain ⟨_,_,_,hne⟩:=JT es
  rw [<- N9 hne z] at e
  have ot : ∀ t ∈ sh.map (BM m 0),okT m t:=fun t ht=>by
   rw [List.mem_map] at ht; obtain ⟨s,_,q⟩:=ht; rw [<- q]; exact W.tyOk _
  have hle : (sh.map (BM m 0)).length <= reachBytes:=by rw [List.length_map]; exact Nat.le_trans (shok es).1 (by decide)
  simp only [go_sem,reduceIte,Int.reduceEq,(X h5 f25).2.2.2.2.1]
  refine T0 (s2.mono f25) x.c r5 hle ot (fun q=>hno (by rw [e,q]; rfl)) fun q h6 f6=>?_
  exact hK l h6 (by rw [e,q]; rfl) (s2.mono (f25.trans f6))
 by_cases hop : x.op = 11
 ·have e:=FO (m:=m) (f:=f) (l:=l) (x:=x) (by rw [hop]; rfl) (UW hop)
  simp only [go_sem,reduceIte,Int.reduceEq,x0,hop,decide_true,decide_false]
  refine AI (fun (J : AV -> H -> Prop)=>J (.bool false) h2) ?_ fun J hJ=>hJ
  simp only [go_sem,reduceIte,Int.reduceEq,x2]
  refine lit_i2 fun vk h3 f3 rk=>?_
  refine EJ (L:=[2,3]) (s2.mono f3) x.a rk (by show (2 : Nat) <= _; decide) (fun z=>hno (by rw [R4] at z; rw [e,z]; rfl)) fun sh es w h4 f4 rw4=>?_
  rw [R4] at es
  have f24:=f3.trans f4
  simp only [go_sem,reduceIte,Int.reduceEq,(X h4 f24).2.1,A h4 f24]
  exact setN h4 f24 (by rw [e,es]; rfl)
 by_cases hop : x.op = 17
 ·simp only [go_sem,reduceIte,Int.reduceEq,x0,hop,decide_true,decide_false]
  refine AI (fun (J : AV -> H -> Prop)=>J (.bool false) h2) ?_ fun J hJ=>hJ
  simp only [go_sem,reduceIte,Int.reduceEq,ld9]
  refine call_c s2 rx2' okx hop hno fun l' h5 q s5=>?_
  exact hK l' h5 q s5
 have e : CF m f l x = none:=by
  have e:=EI (m:=m) (f:=f) (l:=l) (x:=x) (by unfold FW; simp only [Bool.or_eq_false_iff,decide_eq_false_iff_not]; omega)
  rw [TJ (by omega)] at e
  exact e
 have n1 : ∀ k : Int,k = 1 \/ k = 2 \/ k = 3 \/ k = 4 \/ k = 5 \/ k = 6 \/ k = 7 \/ k = 8 \/ k = 9 \/ k = 10 \/ k = 11 \/ k = 12 \/ k = 13 \/ k = 14 \/ k = 15 \/ k = 16 \/ k = 17 -> ¬ x.op = k:=fun k hk=>by omega
 simp only [go_sem,reduceIte,Int.reduceEq,x0,n1 1 (by decide),n1 2 (by decide),n1 3 (by decide),n1 4 (by decide),n1 15 (by decide),n1 16 (by decide),n1 12 (by decide),n1 13 (by decide),n1 14 (by decide),decide_false]
 refine AI (fun (J : AV -> H -> Prop)=>J (.bool false) h2) ?_ fun J hJ=>hJ
 simp only [go_sem,reduceIte,Int.reduceEq,n1 5 (by decide),n1 6 (by decide),n1 7 (by decide),n1 8 (by decide),n1 9 (by decide),n1 10 (by decide),n1 11 (by decide),n1 17 (by decide)]
 exact BK (hno e h2 s2.fr)
end
theorem NL {n : Int} : decide (n = DX n) = BU n:=by rw [<- PB]; simp only [eq_comm]
theorem WL : ∀ (n : Nat) (L : List Int),L.length <= n -> (CL L).length <= n:=by
 intro n
 induction n using Nat.strongRecOn with
 | _ n ih=>
  intro L hL
  match L with
  | []=>simp [CL]
  | [_]=>simp [CL]
  | y :: z :: L=>
   rw [CL,List.length_cons]
   simp only [List.length_cons] at hL
   have:=ih (n - 2) (by omega) L (by omega)
   omega
section
variable {PK : H -> Prop} {h h0 : H} {p : Nat} {m : Img} {f : Fn} {l : List Sl}
set_option maxHeartbeats 4000000 in
theorem V8 (s : Sv h0 h p m f l) {x : Ins} {cx : List AV} (rx : insR h x cx) (okx : x.ok) (okm : x.m.length <= 1024) {K : AV -> H -> Prop} (hno : DW m f l x = false -> ∀ h',Fr [] h0 h' -> PK h') (hK : DW m f l x = true -> ∀ h',Fr [] h h' -> K (.tup []) h') : DP PK 159 [.ptr p 0,.agg cx] h K:=by
 refine runP159 ?_
 unfold sh159 zL zT zE zU zV zF zG zH
 refine D2 rx fun b h1 f1 hb gb rx1=>?_
 have s1:=s.mono f1
 obtain ⟨vl,vm,vv,ecx,rl,rmm,rlv⟩:=rx1
 have W:=s.W
 have hll:=okx.2.1.1
 have eb : AT (AG [.bool false,.nilsl] [(0,1,.bool true)]) = some (.agg [.bool true,.nilsl]):=rfl
 have x2 : h1.cell b 2 = some (.int .i64 x.a):=by rw [AD gb,ecx]; rfl
 rw [H8,AB,E3,Nat.zero_add,x2,AB]
 refine I4 s1 x.a (fun z=>hno (by unfold DW; rw [z])) fun t hat c h2 f2 rt=>?_
 rw [eb,AB]
 refine BH rfl fun q1 hq1=>?_
 refine BH rfl fun q2 hq2=>?_
 have hq12 : q2 ≠ q1:=fun z=>by rw [z,H.get_same] at hq2; cases hq2
 have hq2' : h2.get q2 = none:=by rw [H.get_other _ _ hq12] at hq2; exact hq2
 rw [DG (n:=2) (h:=(h2.set q1 (.live [.bool false,.nilsl] 46 true)).set q2 (.live [.bool false,.nilsl] 46 true)) (b:=q1) (zs:=[.bool false,.nilsl]) (e:=46) (by rw [H.get_other _ _ hq12.symm,H.get_same]) rfl rt.len rt.leaves,A3]
 rw [DG (n:=2) (b:=q2) (zs:=[.bool false,.nilsl]) (e:=46) (by rw [H.get_other _ _ hq12,H.get_same]) rfl rfl rfl,A3]
 have f4 : Fr [] h2 ((((h2.set q1 (.live [.bool false,.nilsl] 46 true)).set q2 (.live [.bool false,.nilsl] 46 true)).set q1 (.live c 46 true)).set q2 (.live [.bool true,.nilsl] 46 true)):=((((Fr.refl _ _).set' hq1).set' hq2').set' hq1).set' hq2'
 have g1 : ((((h2.set q1 (.live [.bool false,.nilsl] 46 true)).set q2 (.live [.bool false,.nilsl] 46 true)).set q1 (.live c 46 true)).set q2 (.live [.bool true,.nilsl] 46 true)).get q1 = some (.live c 46 true):=by rw [H.get_other _ _ hq12.symm,H.get_same]
 have g2 : ((((h2.set q1 (.live [.bool false,.nilsl] 46 true)).set q2 (.live [.bool false,.nilsl] 46 true)).set q1 (.live c 46 true)).set q2 (.live [.bool true,.nilsl] 46 true)).get q2 = some (.live [.bool true,.nilsl] 46 true):=H.get_same ..
 generalize (((h2.set q1 (.live [.bool false,.nilsl] 46 true)).set q2 (.live [.bool false,.nilsl] 46 true)).set q1 (.live c 46 true)).set q2 (.live [.bool true,.nilsl] 46 true) = h4 at f4 g1 g2
 have f14:=f2.trans f4
 have s4:=s1.mono f14
 have gb4:=f14 b _ (by simp) gb
 have rt4:=rt.fr f4
 have ot:=s.ol.at hat
 have hmem:=LJ hat
 have X : ∀ h',Fr [] h4 h' -> (h'.cell b 2 = some (.int .i64 x.a) /\ h'.cell b 3 = some (.int .i64 x.b) /\ h'.cell b 6 = some vl /\ h'.cell b 7 = some vm) /\ Row h' vl x.l.length 1 (ic x.l) /\ Row h' vm x.m.length 1 (ic x.m) /\ h'.read q2 0 2 = some [.bool true,.nilsl] /\ Sv h0 h' p m f l:=fun h' f=>
  ⟨by have cc:=AD (f b _ (by simp) gb4); rw [cc,cc,cc,cc,ecx]; exact ⟨rfl,rfl,rfl,rfl⟩,rl.fr (f14.trans f),rmm.fr (f14.trans f),AR (f q2 _ (by simp) g2) rfl,s4.mono f⟩
 have e : DW m f l x = (decide (x.l.length % 2 = 0) && decide (x.m.length % 2 = 0) && (!t.imm || !decide (x.b = -1)) &&
   (decide (x.b = -1) || BB m f (l.set x.a.toNat (some BF)) x.b) &&
   CW BU (fun _ b=>BB m f (l.set x.a.toNat (some BF)) b) none x.l &&
   CW (fun s=>decide (0 <= s) && decide (s < m.shapes.length)) (fun s b=>BB m f (l.set x.a.toNat (some (DK s))) b) none x.m &&
   t.sh.all fun s=>decide (s ∈ CL x.m)):=by unfold DW; rw [hat]
 have eset : ∀ u : Ty,HZ l x.a u = l.set x.a.toNat (some u):=fun u=>by unfold HZ; rw [if_pos hmem.2.1]
 have FIT : ∀ {h'},Fr [] h4 h' -> ∀ (u : Ty) (cu : List AV) (k : Int) {K : AV -> H -> Prop},tyR h' u cu -> okT m u -> (BB m f (l.set x.a.toNat (some u)) k = false -> DW m f l x = false) -> (BB m f (l.set x.a.toNat (some u)) k = true -> ∀ h'',Fr [] h' h'' -> K (.tup []) h'') -> DP PK 157 [.ptr p 0,.int .i64 k,.int .i64 x.a,.agg cu] h' K:=fun {h'} f' u cu k K ru ou bad hk=>
  aY (s4.mono f') k x.a ru ou (fun z=>hno (bad (by rw [<- eset]; exact z))) fun z h'' f''=>hk (by rw [<- eset]; exact z) h'' f''
 obtain ⟨⟨y2,y3,y6,y7⟩,rl4,rm4,a4,_⟩:=X h4 (Fr.refl _ _)
 simp only [go_sem,reduceIte,Int.reduceEq,y6,rl4.len,UR]
 by_cases l2 : ¬ x.l.length % 2 = 0
 ·have l2' : ¬ ((x.l.length % 2 : Nat) : Int) = 0:=by omega
  simp only [go_sem,reduceIte,Int.reduceEq,l2']
  exact BK (hno (by rw [e,decide_eq_false l2]; rfl) h4 s4.fr)
 have l2 : x.l.length % 2 = 0:=Decidable.not_not.1 l2
 have l2i : ((x.l.length % 2 : Nat) : Int) = 0:=by omega
 rw [decide_eq_true l2,Bool.true_and] at e
 simp only [go_sem,reduceIte,Int.reduceEq,l2i,y7,rm4.len,UR]
 by_cases mm2 : ¬ x.m.length % 2 = 0
 ·have m2' : ¬ ((x.m.length % 2 : Nat) : Int) = 0:=by omega
  simp only [go_sem,reduceIte,Int.reduceEq,m2']
  exact BK (hno (by rw [e,decide_eq_false mm2]; rfl) h4 s4.fr)
 have mm2 : x.m.length % 2 = 0:=Decidable.not_not.1 mm2
 have m2i : ((x.m.length % 2 : Nat) : Int) = 0:=by omega
 rw [decide_eq_true mm2,Bool.true_and] at e
 simp only [go_sem,reduceIte,Int.reduceEq,m2i]
 refine C8 ?_
 refine AI (fun (J : H -> Prop)=>CW BU (fun _ b=>BB m f (l.set x.a.toNat (some BF)) b) none x.l = true -> ∀ h',Fr [] h4 h' -> J h') (fun eL h5 f5=>?_) fun J hJ=>?_
 ·rw [eL,Bool.and_true] at e
  refine AI (fun (J : H -> Prop)=>(decide (x.b = -1) || BB m f (l.set x.a.toNat (some BF)) x.b) = true -> ∀ h',Fr [] h4 h' -> J h') (fun eD h6 f6=>?_) fun J hJ=>?_
  ·rw [eD,Bool.and_true] at e
   refine AI (fun (J : AV -> H -> Prop)=>CW (fun s=>decide (0 <= s) && decide (s < m.shapes.length)) (fun s b=>BB m f (l.set x.a.toNat (some (DK s))) b) none x.m = true -> ∀ w' h'',Fr [] h4 h'' -> Row h'' w' (CL x.m).length 1 (ic (CL x.m)) -> J w' h'') (fun eM sv h7 f7 rs=>?_) fun J2 hJ2=>?_
   ·rw [eM,Bool.and_true] at e
    obtain ⟨⟨y2,y3,y6,y7⟩,_,_,_,s7⟩:=X h7 f7
    obtain ⟨vt',ect,rvt⟩:=rt4.fr f7
    have gq1:=f7 q1 _ (by simp) g1
    have c0 : h7.cell q1 0 = some (.bool t.imm):=by rw [AD gq1,ect]; rfl
    have c1 : h7.cell q1 1 = some vt':=by rw [AD gq1,ect]; rfl
    have fil : ∀ (w : AV) (L : List Int),Row h7 w L.length 1 (ic L) -> AT (AG [.bool false,.nilsl] [(1,1,w)]) = some (.agg [.bool false,w]):=fun w L r=>by
     rw [IP,r.one.2,if_pos ⟨rfl,by decide,by simp only [leaves,r.one.1]; rfl⟩]; rfl
    have hev : (CL x.m).length <= reachBytes:=Nat.le_trans (WL _ _ okm) (by decide)
    simp only [go_sem,reduceIte,Int.reduceEq,c1,fil _ _ rvt,fil _ _ rs]
    refine KR (a:=⟨false,t.sh⟩) (b:=⟨false,CL x.m⟩) ⟨_,rfl,rvt⟩ ⟨_,rfl,rs⟩ (W.tlen ot) hev fun h8 f8=>?_
    have f8':=f7.trans f8
    have es : G0 ⟨false,t.sh⟩ ⟨false,CL x.m⟩ = t.sh.all fun s=>decide (s ∈ CL x.m):=by unfold G0; simp only [Bool.not_false,Bool.or_true,Bool.true_and]
    rw [es]
    cases hz : (t.sh.all fun s=>decide (s ∈ CL x.m)) with
    | false=>
     rw [hz,Bool.and_false] at e
     simp only [go_sem,reduceIte,Int.reduceEq]
     exact BK (hno e h8 (s7.fr.trans f8))
    | true=>
     rw [hz,Bool.and_true] at e
     have c0':=f8.cell c0
     obtain ⟨⟨y2,y3,y6,y7⟩,_⟩:=X h8 f8'
     cases hi : t.imm with
     | false=>
      rw [hi] at c0' e
      simp only [go_sem,reduceIte,Int.reduceEq,c0']
      exact C8 (hK (by rw [e]; rfl) h8 (f1.trans (f14.trans f8')))
     | true=>
      rw [hi] at c0' e
      by_cases b1 : x.b = -1
      ·rw [decide_eq_true b1] at e
       simp only [go_sem,reduceIte,Int.reduceEq,c0',y3,b1]
       exact BK (hno (by rw [e]; rfl) h8 (s7.fr.trans f8))
      ·rw [decide_eq_false b1] at e
       simp only [go_sem,reduceIte,Int.reduceEq,c0',y3,b1]
       exact C8 (hK (by rw [e]; rfl) h8 (f1.trans (f14.trans f8')))
   ·skip
    refine AS (x.m.length + 1) (fun cn ls h'=>∃ (i : Nat) (sv : AV) (acc : List Int),ls = [sv,.int .i64 i] /\ i % 2 = 0 /\ i <= x.m.length /\ Fr [] h4 h' /\ Own h4 h' 3 1 sv acc.length (ic acc) /\ acc.length <= i /\ CL x.m = acc ++ CL (x.m.drop i) /\ CW (fun s=>decide (0 <= s) && decide (s < m.shapes.length)) (fun s b=>BB m f (l.set x.a.toNat (some (DK s))) b) none x.m = CW (fun s=>decide (0 <= s) && decide (s < m.shapes.length)) (fun s b=>BB m f (l.set x.a.toNat (some (DK s))) b) (FZ x.m i) (x.m.drop i) /\ cn = x.m.length + 1 - i) ⟨0,.nilsl,[],rfl,rfl,by omega,f6,Own.nil ..,by simp,rfl,rfl,rfl⟩ ?_
    rintro cn ls h' ⟨i,sv,acc,rfl,ie,hi,f',own,hacc,eE,eP,rfl⟩
    obtain ⟨⟨y2,y3,y6,y7⟩,rl8,rmm8,a8,s8⟩:=X h' f'
    obtain ⟨vt8,vs8,vx8,vf8,vp8,vb8,v8,F8⟩:=s8.facts
    by_cases qq : (i : Int) < x.m.length
    ·obtain ⟨y,k,hy,hk,hd⟩:=NC mm2 ie (by omega)
     rw [hd,G7] at eP
     rw [hd,OG] at eE
     obtain ⟨b7,o7,u1,u2⟩:=rmm8.atI hy
     obtain ⟨b6,o6,v1,v2'⟩:=rmm8.atI hk
     have en1:=B0 i (by omega)
     have en2 : IntKind.i64.wrap ((i : Int) + 2) = ((i + 2 : Nat) : Int):=by rw [A0 (by omega) (by omega)]; rfl
     by_cases a0 : ¬ 0 <= y
     ·rw [show decide (0 <= y) = false from decide_eq_false a0] at eP
      simp only [go_sem,reduceIte,Int.reduceEq,y7,rmm8.len,qq,u1,u2,a0]
      exact BK (hno (by rw [e,eP]; simp) h' s8.fr)
     have a0 : 0 <= y:=Decidable.not_not.1 a0
     by_cases a1 : ¬ y < (m.shapes.length : Int)
     ·rw [show decide (y < (m.shapes.length : Int)) = false from decide_eq_false a1] at eP
      simp only [go_sem,reduceIte,Int.reduceEq,y7,rmm8.len,qq,u1,u2,a0,F8.c1,F8.sh.len,a1]
      exact BK (hno (by rw [e,eP]; simp) h' s8.fr)
     have a1 : y < (m.shapes.length : Int):=Decidable.not_not.1 a1
     rw [show (decide (0 <= y) && decide (y < (m.shapes.length : Int))) = true from by rw [decide_eq_true a0,decide_eq_true a1]; rfl] at eP
     by_cases i0 : i = 0
     ·have hi0 : ((i : Nat) : Int) = 0:=by omega
      have el : FZ x.m i = none:=by unfold FZ; rw [if_pos i0]
      rw [el] at eP
      have hi0:=eq_true hi0
      simp only [go_sem,reduceIte,Int.reduceEq,hi0,y7,rmm8.len,qq,u1,u2,a0,F8.c1,F8.sh.len,a1]
      refine C8 ?_
      simp only [go_sem,reduceIte,Int.reduceEq,y7,en1,v1,v2',y2,u1,u2]
      refine LW fun c1 h9 f9 rn1=>?_
      have f9':=f'.trans f9
      obtain ⟨⟨z2,z3,z6,z7⟩,rl9,rmm9,a9,s9⟩:=X h9 f9'
      simp only [go_sem,reduceIte,Int.reduceEq,z7,f9.cell v2',z2]
      refine FIT f9' (DK y) c1 k rn1 (ED (by omega) (by omega)) (fun z=>by rw [z] at eP; rw [e,eP]; simp) fun z h11 f11=>?_
      rw [z] at eP
      have f11':=f9'.trans f11
      obtain ⟨⟨z2,z3,z6,z7⟩,rl11,rmm11,a11,s11⟩:=X h11 f11'
      simp only [go_sem,reduceIte,Int.reduceEq,z7,u1,(f9.trans f11).cell u2]
      refine O1 (own.keep fun c' n' p' _ ob hg=>(f9.trans f11) c' ob (by simp) hg) f11' (by omega) y fun sv h12 own' f12=>?_
      simp only [go_sem,reduceIte,Int.reduceEq,en2]
      exact ⟨x.m.length + 1 - (i + 2),by omega,i + 2,sv,acc ++ [y],rfl,by omega,by omega,f12,own',by rw [List.length_append,List.length_singleton]; omega,by rw [eE,List.append_assoc]; rfl,by rw [eP,D0 hy]; simp,rfl⟩
     ·have hi0 : ¬ ((i : Nat) : Int) = 0:=by omega
      obtain ⟨zz,hz',el⟩:=LA (L:=x.m) ie (by omega) (Nat.pos_of_ne_zero i0)
      rw [el] at eP
      have em2 : IntKind.i64.wrap ((i : Int) - 2) = ((i - 2 : Nat) : Int):=by rw [A0 (by omega) (by omega)]; omega
      obtain ⟨b5,o5,w1,w2⟩:=rmm8.atI hz'
      by_cases yz : zz < y
      ·simp only [decide_eq_true yz] at eP
       simp only [go_sem,reduceIte,Int.reduceEq,y7,rmm8.len,qq,u1,u2,a0,F8.c1,F8.sh.len,a1,hi0,em2,w1,w2,yz]
       refine C8 ?_
       simp only [go_sem,reduceIte,Int.reduceEq,y7,en1,v1,v2',y2,u1,u2]
       refine LW fun c1 h9 f9 rn1=>?_
       have f9':=f'.trans f9
       obtain ⟨⟨z2,z3,z6,z7⟩,rl9,rmm9,a9,s9⟩:=X h9 f9'
       simp only [go_sem,reduceIte,Int.reduceEq,z7,f9.cell v2',z2]
       refine FIT f9' (DK y) c1 k rn1 (ED (by omega) (by omega)) (fun z=>by rw [z] at eP; rw [e,eP]; simp) fun z h11 f11=>?_
       rw [z] at eP
       have f11':=f9'.trans f11
       obtain ⟨⟨z2,z3,z6,z7⟩,rl11,rmm11,a11,s11⟩:=X h11 f11'
       simp only [go_sem,reduceIte,Int.reduceEq,z7,u1,(f9.trans f11).cell u2]
       refine O1 (own.keep fun c' n' p' _ ob hg=>(f9.trans f11) c' ob (by simp) hg) f11' (by omega) y fun sv h12 own' f12=>?_
       simp only [go_sem,reduceIte,Int.reduceEq,en2]
       exact ⟨x.m.length + 1 - (i + 2),by omega,i + 2,sv,acc ++ [y],rfl,by omega,by omega,f12,own',by rw [List.length_append,List.length_singleton]; omega,by rw [eE,List.append_assoc]; rfl,by rw [eP,D0 hy]; simp,rfl⟩
      ·simp only [decide_eq_false yz] at eP
       simp only [go_sem,reduceIte,Int.reduceEq,y7,rmm8.len,qq,u1,u2,a0,F8.c1,F8.sh.len,a1,hi0,em2,w1,w2,yz]
       exact BK (hno (by rw [e,eP]; simp) h' s8.fr)
    ·have : i = x.m.length:=by omega
     subst this
     simp only [go_sem,reduceIte,Int.reduceEq,y7,rmm8.len,qq]
     rw [List.drop_length,IG] at eP
     rw [List.drop_length,PZ,List.append_nil] at eE
     exact hJ2 eP sv h' f' (by rw [eE]; exact own.row)
  ·obtain ⟨⟨y2,y3,y6,y7⟩,_,_,a5,s5⟩:=X h5 f5
   by_cases b1 : x.b = -1
   ·simp only [go_sem,reduceIte,Int.reduceEq,y3,b1]
    exact hJ (by rw [decide_eq_true b1]; rfl) h5 f5
   ·rw [decide_eq_false b1,Bool.false_or] at e hJ
    simp only [go_sem,reduceIte,Int.reduceEq,y3,b1,y2,a5]
    refine FIT f5 BF _ x.b (LZ h5) (G9 m) (fun z=>by rw [e,z]; simp) fun z h6 f6=>?_
    exact hJ z h6 (f5.trans f6)
 ·skip
  refine AS (x.l.length + 1) (fun cn ls h'=>∃ i : Nat,ls = [.int .i64 i] /\ i % 2 = 0 /\ i <= x.l.length /\ Fr [] h4 h' /\ CW BU (fun _ b=>BB m f (l.set x.a.toNat (some BF)) b) none x.l = CW BU (fun _ b=>BB m f (l.set x.a.toNat (some BF)) b) (FZ x.l i) (x.l.drop i) /\ cn = x.l.length + 1 - i) ⟨0,rfl,rfl,by omega,Fr.refl _ _,rfl,rfl⟩ ?_
  rintro cn ls h' ⟨i,rfl,ie,hi,f',eP,rfl⟩
  obtain ⟨⟨y2,y3,y6,y7⟩,rl8,rmm8,a8,s8⟩:=X h' f'
  by_cases qq : (i : Int) < x.l.length
  ·obtain ⟨y,k,hy,hk,hd⟩:=NC l2 ie (by omega)
   rw [hd,G7] at eP
   obtain ⟨b7,o7,u1,u2⟩:=rl8.atI hy
   obtain ⟨b6,o6,v1,v2⟩:=rl8.atI hk
   have en1:=B0 i (by unfold reachBytes at hll; omega)
   have en2 : IntKind.i64.wrap ((i : Int) + 2) = ((i + 2 : Nat) : Int):=by rw [A0 (by omega) (by unfold reachBytes at hll; omega)]; rfl
   have ry:=okx.2.1.2 y (List.mem_of_getElem? hy)
   by_cases i0 : i = 0
   ·have hi0 : ((i : Nat) : Int) = 0:=by omega
    have el : FZ x.l i = none:=by unfold FZ; rw [if_pos i0]
    rw [el] at eP
    have hi0:=eq_true hi0
    simp only [go_sem,reduceIte,Int.reduceEq,hi0,y6,rl8.len,qq,u1,u2]
    refine QF ry.1 ry.2 ?_
    simp only [go_sem,reduceIte,Int.reduceEq,y6,u1,u2]
    rw [NL]
    cases hwi : BU y with
    | false=>
     rw [hwi] at eP
     exact BK (hno (by rw [e,eP]; simp) h' s8.fr)
    | true=>
     rw [hwi] at eP
     refine C8 ?_
     simp only [go_sem,reduceIte,Int.reduceEq,y6,en1,v1,v2,y2,a8]
     refine FIT f' BF _ k (LZ h') (G9 m) (fun z=>by rw [z] at eP; rw [e,eP]; simp) fun z h9 f9=>?_
     rw [z] at eP
     simp only [go_sem,reduceIte,Int.reduceEq,en2]
     exact ⟨x.l.length + 1 - (i + 2),by omega,i + 2,rfl,by omega,by omega,f'.trans f9,by rw [eP,D0 hy]; simp,rfl⟩
   ·have hi0 : ¬ ((i : Nat) : Int) = 0:=by omega
    obtain ⟨z,hz',el⟩:=LA (L:=x.l) ie (by omega) (Nat.pos_of_ne_zero i0)
    rw [el] at eP
    have em2 : IntKind.i64.wrap ((i : Int) - 2) = ((i - 2 : Nat) : Int):=by rw [A0 (by omega) (by unfold reachBytes at hll; omega)]; omega
    obtain ⟨b5,o5,w1,w2⟩:=rl8.atI hz'
    by_cases yz : z < y
    ·simp only [decide_eq_true yz] at eP
     simp only [go_sem,reduceIte,Int.reduceEq,y6,rl8.len,qq,u1,u2,hi0,em2,w1,w2,yz]
     refine QF ry.1 ry.2 ?_
     simp only [go_sem,reduceIte,Int.reduceEq,y6,u1,u2]
     rw [NL]
     cases hwi : BU y with
     | false=>
      rw [hwi] at eP
      exact BK (hno (by rw [e,eP]; simp) h' s8.fr)
     | true=>
      rw [hwi] at eP
      refine C8 ?_
      simp only [go_sem,reduceIte,Int.reduceEq,y6,en1,v1,v2,y2,a8]
      refine FIT f' BF _ k (LZ h') (G9 m) (fun z=>by rw [z] at eP; rw [e,eP]; simp) fun z h9 f9=>?_
      rw [z] at eP
      simp only [go_sem,reduceIte,Int.reduceEq,en2]
      exact ⟨x.l.length + 1 - (i + 2),by omega,i + 2,rfl,by omega,by omega,f'.trans f9,by rw [eP,D0 hy]; simp,rfl⟩
    ·simp only [decide_eq_false yz] at eP
     simp only [go_sem,reduceIte,Int.reduceEq,y6,rl8.len,qq,u1,u2,hi0,em2,w1,w2,yz]
     exact BK (hno (by rw [e,eP]; simp) h' s8.fr)
  ·have : i = x.l.length:=by omega
   subst this
   simp only [go_sem,reduceIte,Int.reduceEq,y6,rl8.len,qq]
   rw [List.drop_length,IG] at eP
   exact hJ eP h' f'
end
section
variable {PK : H -> Prop} {h h0 : H} {p : Nat} {m : Img} {f : Fn} {l : List Sl}
theorem UY (l : List Sl) (t : Ty) : HZ l (-1) t = l:=by unfold HZ; rw [if_neg (by omega)]
set_option maxHeartbeats 2000000 in
theorem plast_c (s : Sv h0 h p m f l) {x : Ins} {cx : List AV} (rx : insR h x cx) (okx : x.ok) (okm : x.m.length <= 1024) {K : AV -> H -> Prop} (hno : BW m f l x = false -> ∀ h',Fr [] h0 h' -> PK h') (hK : BW m f l x = true -> ∀ h',Fr [] h h' -> K (.tup []) h') : DP PK 121 [.ptr p 0,.agg cx] h K:=by
 refine runP121 ?_
 unfold sh121 zL zF
 refine D2 rx fun b h1 f1 hb gb rx1=>?_
 have s1:=s.mono f1
 have rx1':=rx1
 obtain ⟨vl,vm,vv,ecx,rl,rmm,rlv⟩:=rx1
 have W:=s.W
 have wf:=s.wf
 have X : ∀ h',Fr [] h1 h' -> h'.cell b 0 = some (.int .i64 x.op) /\ h'.cell b 2 = some (.int .i64 x.a) /\ h'.cell b 3 = some (.int .i64 x.b) /\ h'.cell b 4 = some (.int .i64 x.c):=fun h' f=>by
  rw [AD (f b _ (by simp) gb),AD (f b _ (by simp) gb),AD (f b _ (by simp) gb),AD (f b _ (by simp) gb),ecx]; exact ⟨rfl,rfl,rfl,rfl⟩
 have rr:=Fr.refl [] h1
 obtain ⟨x0,x2,x3,x4⟩:=X h1 rr
 have ld9 : h1.read b 0 9 = some cx:=AR gb rx1'.ln
 have eb : AT (AG [.bool false,.nilsl] []) = some (.agg [.bool false,.nilsl]):=rfl
 have FIT : ∀ {h'},Fr [] h1 h' -> ∀ (k : Int) {K : AV -> H -> Prop},(BB m f l k = false -> BW m f l x = false) -> (BB m f l k = true -> ∀ h'',Fr [] h' h'' -> K (.tup []) h'') -> DP PK 157 [.ptr p 0,.int .i64 k,.int .i64 (-1),.agg [.bool false,.nilsl]] h' K:=fun {h'} f' k K bad hk=>
  aY (s1.mono f') k (-1) (GQ h') (KF m) (fun z=>hno (bad (by rw [UY] at z; exact z))) fun z h'' f''=>hk (by rw [UY] at z; exact z) h'' f''
 have out : ∀ h',Fr [] h1 h' -> BW m f l x = true -> K (.tup []) h':=fun h' f' e=>hK e h' (f1.trans f')
 by_cases hop : x.op = 18
 ·have e : BW m f l x = BB m f l x.a:=by unfold BW; rw [if_pos hop]
  simp only [go_sem,reduceIte,x0,hop,x2,eb]
  refine FIT rr x.a (fun z=>by rw [e,z]) fun z h4 f4=>?_
  exact out h4 f4 (by rw [e,z])
 by_cases hop : x.op = 19
 ·have e : BW m f l x = (isS l x.a BF && BB m f l x.b && BB m f l x.c):=by unfold BW; rw [if_neg (by omega),if_pos hop]
  simp only [go_sem,reduceIte,x0,hop,x2]
  refine HB s1 x.a (fun z=>hno (by rw [e,z]; rfl)) fun z1 h4 f4=>?_
  rw [z1,Bool.true_and] at e
  simp only [go_sem,reduceIte,(X h4 f4).2.2.1,eb]
  refine FIT f4 x.b (fun z=>by rw [e,z]; rfl) fun z2 h5 f5=>?_
  rw [z2,Bool.true_and] at e
  have f15:=f4.trans f5
  simp only [go_sem,reduceIte,(X h5 f15).2.2.2]
  refine FIT f15 x.c (fun z=>by rw [e,z]) fun z3 h6 f6=>?_
  exact out h6 (f15.trans f6) (by rw [e,z3])
 by_cases hop : x.op = 20
 ·have e : BW m f l x = DW m f l x:=by unfold BW; rw [if_neg (by omega),if_neg (by omega),if_pos hop]
  simp only [go_sem,reduceIte,x0,hop,ld9]
  refine V8 s1 rx1' okx okm (fun z=>hno (by rw [e,z])) fun z h4 f4=>?_
  exact out h4 f4 (by rw [e,z])
 by_cases hop : x.op = 21
 ·have e : BW m f l x = (m.isFn x.a && CC m l x.l (m.fn x.a).params && G0 (m.ty (m.fn x.a).result) (m.ty f.result)):=by unfold BW; rw [if_neg (by omega),if_neg (by omega),if_neg (by omega),if_pos hop]
  rw [show (m.isFn x.a && CC m l x.l (m.fn x.a).params) = FM m l x from rfl] at e
  simp only [go_sem,reduceIte,x0,hop,ld9]
  refine S5 s1 rx1' okx (fun z=>hno (by rw [e,z]; rfl)) fun z cf h2 f2 rf=>?_
  rw [z,Bool.true_and] at e
  refine BL rfl rf.ln rfl rf.leaves fun a h3 f3 ha ga=>?_
  have f13:=f2.trans f3
  have s3:=s1.mono f13
  have z' : m.isFn x.a = true:=by
   unfold FM at z; rw [Bool.and_eq_true] at z; exact z.1
  have hfn:=(GU m x.a).1 z'
  have fw : FnW m (m.fn x.a):=W.fn _ (by
   unfold Img.fn
   rw [List.getD_eq_getElem?_getD,List.getElem?_eq_getElem (show x.a.toNat < m.fns.length by omega)]
   exact List.getElem_mem _)
  obtain ⟨vt,vs,vx,vf,vp,vb,v,F⟩:=s3.facts
  obtain ⟨b8,o8,ct,u1,u2,u3⟩:=C7 F.ty fw.res.1 fw.res.2
  obtain ⟨b7,o7,ct2,v1,v2,v3⟩:=C7 F.ty wf.res.1 wf.res.2
  have a1 : h3.cell a 1 = some (.int .i64 (m.fn x.a).result):=by
   obtain ⟨vp,vb,ecf,_⟩:=rf
   rw [AD ga,ecf]; rfl
  simp only [go_sem,reduceIte,F.c0,a1,u1,u2,F.c8,v1,v2]
  refine KR u3 v3 (W.tlen (W.tyOk _)) (W.tlen (W.tyOk _)) fun h4 f4=>?_
  refine FV (fun z=>hno (by rw [e,z]) h4 (s3.fr.trans f4)) fun z=>?_
  exact out h4 (f13.trans f4) (by rw [e,z])
 by_cases hop : x.op = 22
 ·have e : BW m f l x = isS l x.a (m.ty f.result):=by unfold BW; rw [if_neg (by omega),if_neg (by omega),if_neg (by omega),if_neg (by omega),if_pos hop]
  obtain ⟨vt,vs,vx,vf,vp,vb,v,F⟩:=s1.facts
  obtain ⟨b7,o7,ct2,v1,v2,v3⟩:=C7 F.ty wf.res.1 wf.res.2
  simp only [go_sem,reduceIte,x0,hop,x2,F.c0,F.c8,v1,v2]
  refine I4 s1 x.a (fun z=>hno (by rw [e]; exact H7 z)) fun t et c h4 f4 rt=>?_
  rw [JB et] at e
  simp only [go_sem,reduceIte,f4.cell F.c0,f4.cell F.c8,f4.read v2]
  refine KR rt (v3.fr f4) (W.tlen (s.ol.at et)) (W.tlen (W.tyOk _)) fun h5 f5=>?_
  refine FV (fun z=>hno (by rw [e,z]) h5 ((s1.fr.trans f4).trans f5)) fun z=>?_
  exact out h5 (f4.trans f5) (by rw [e,z])
 by_cases hop : x.op = 23
 ·have e : BW m f l x = isS l x.a (m.ty m.exn):=by unfold BW; rw [if_neg (by omega),if_neg (by omega),if_neg (by omega),if_neg (by omega),if_neg (by omega),if_pos hop]
  obtain ⟨vt,vs,vx,vf,vp,vb,v,F⟩:=s1.facts
  obtain ⟨b7,o7,ct2,v1,v2,v3⟩:=C7 F.ty W.exn.1 W.exn.2
  simp only [go_sem,reduceIte,x0,hop,x2,F.c0,F.c6,v1,v2]
  refine I4 s1 x.a (fun z=>hno (by rw [e]; exact H7 z)) fun t et c h4 f4 rt=>?_
  rw [JB et] at e
  simp only [go_sem,reduceIte,f4.cell F.c0,f4.cell F.c6,f4.read v2]
  refine KR rt (v3.fr f4) (W.tlen (s.ol.at et)) (W.tlen (W.tyOk _)) fun h5 f5=>?_
  refine FV (fun z=>hno (by rw [e,z]) h5 ((s1.fr.trans f4).trans f5)) fun z=>?_
  exact out h5 (f4.trans f5) (by rw [e,z])
 have e : BW m f l x = false:=by unfold BW; rw [if_neg (by omega),if_neg (by omega),if_neg (by omega),if_neg (by omega),if_neg (by omega),if_neg (by omega)]
 have n1 : ∀ k : Int,k = 18 \/ k = 19 \/ k = 20 \/ k = 21 \/ k = 22 \/ k = 23 -> ¬ x.op = k:=fun k hk=>by omega
 simp only [go_sem,reduceIte,x0,n1 18 (by decide),n1 19 (by decide),n1 20 (by decide),n1 21 (by decide),n1 22 (by decide),n1 23 (by decide)]
 exact BK (hno e h1 s1.fr)
end
section
variable {h : H} {b e : Nat} {w : Bool}
theorem Row.bool (g : h.get b = some (.live [.bool false] e w)) {v : AV} {n esz : Nat} {cs : List AV} (r : Row h v n esz cs) (hc : n * esz ≠ 1 \/ cs ≠ [.bool false]) : Row (h.set b (.live [.bool true] e w)) v n esz cs:=by
 obtain ⟨hl,r⟩:=r
 refine ⟨hl,?_⟩
 rcases r with q | ⟨b2,off,cap,rfl,hfit,hr⟩
 ·exact .inl q
 ·refine .inr ⟨b2,off,cap,rfl,hfit,?_⟩
  by_cases q : b2 = b
  ·subst q
   unfold H.read at hr ⊢
   rw [g] at hr
   rw [H.get_same]
   simp only at hr ⊢
   split at hr
   ·rename_i hle
    injection hr with hr
    simp only [List.length_singleton] at hle ⊢
    rw [if_pos hle]
    by_cases z : n * esz = 0
    ·rw [z] at hr ⊢
     simp only [List.take_zero] at hr ⊢
     rw [hr]
    ·have z1 : n * esz = 1:=by omega
     have z2 : off = 0:=by omega
     subst z2
     rw [z1] at hr
     rcases hc with hc | hc
     ·exact absurd z1 hc
     ·exact absurd hr.symm hc
   ·cases hr
  ·unfold H.read at hr ⊢
   rw [H.get_other _ _ q]; exact hr
theorem Row.boolI (g : h.get b = some (.live [.bool false] e w)) {v : AV} {L : List Int} (r : Row h v L.length 1 (ic L)) : Row (h.set b (.live [.bool true] e w)) v L.length 1 (ic L):=r.bool g (.inr fun z=>by
 cases L with
 | nil=>cases z
 | cons a l=>injection z with z; cases z)
theorem RowOf.bool {α : Type} {esz : Nat} (h2 : 2 <= esz) (g : h.get b = some (.live [.bool false] e w)) {R R' : α -> List AV -> Prop} {v : AV} {l : List α} (r : RowOf h esz R v l) (hr : ∀ x c,R x c -> R' x c) : RowOf (h.set b (.live [.bool true] e w)) esz R' v l:=by
 obtain ⟨css,h1,h2',h3,r⟩:=r
 refine ⟨css,h1,fun i x c hx hc=>hr x c (h2' i x c hx hc),h3,r.bool g (.inl fun z=>?_)⟩
 have:=Nat.eq_one_of_mul_eq_one_left z
 omega
theorem RowOf.boolS (g : h.get b = some (.live [.bool false] e w)) {v : AV} {l : List (List UInt8)} (r : RowOf h 1 stR v l) : RowOf (h.set b (.live [.bool true] e w)) 1 stR v l:=by
 obtain ⟨css,h1,h2,h3,r⟩:=r
 refine ⟨css,h1,h2,h3,r.bool g (.inr fun z=>?_)⟩
 cases l with
 | nil=>
  have : css = []:=List.eq_nil_of_length_eq_zero h1
  rw [this] at z; cases z
 | cons a l=>
  cases css with
  | nil=>cases h1
  | cons c css=>
   have:=h2 0 a c rfl rfl
   rw [show c = [.str a] from this,List.flatten_cons] at z
   injection z with z; cases z
theorem tyR.bool (g : h.get b = some (.live [.bool false] e w)) {x : Ty} {c : List AV} (r : tyR h x c) : tyR (h.set b (.live [.bool true] e w)) x c:=by obtain ⟨v,e',r⟩:=r; exact ⟨v,e',r.boolI g⟩
theorem shR.bool (g : h.get b = some (.live [.bool false] e w)) {x : Shp} {c : List AV} (r : shR h x c) : shR (h.set b (.live [.bool true] e w)) x c:=by obtain ⟨v,e',r⟩:=r; exact ⟨v,e',r.boolI g⟩
theorem insR.bool (g : h.get b = some (.live [.bool false] e w)) {x : Ins} {c : List AV} (r : insR h x c) : insR (h.set b (.live [.bool true] e w)) x c:=by obtain ⟨v1,v2,v3,e',r1,r2,r3⟩:=r; exact ⟨v1,v2,v3,e',r1.boolI g,r2.boolI g,r3.boolI g⟩
theorem blkR.bool (g : h.get b = some (.live [.bool false] e w)) {x : Blk} {c : List AV} (r : blkR h x c) : blkR (h.set b (.live [.bool true] e w)) x c:=by obtain ⟨v1,v2,e',r1,r2⟩:=r; exact ⟨v1,v2,e',r1.boolI g,r2.bool (by decide) g fun _ _ z=>z.bool g⟩
theorem fnR.bool (g : h.get b = some (.live [.bool false] e w)) {x : Fn} {c : List AV} (r : fnR h x c) : fnR (h.set b (.live [.bool true] e w)) x c:=by obtain ⟨v1,v2,e',r1,r2⟩:=r; exact ⟨v1,v2,e',r1.boolI g,r2.bool (by decide) g fun _ _ z=>z.bool g⟩
theorem imgR.bool (g : h.get b = some (.live [.bool false] e w)) {x : Img} {c : List AV} (r : imgR h x c) : imgR (h.set b (.live [.bool true] e w)) x c:=by
 obtain ⟨v1,v2,v3,v4,v5,e',r1,r2,r3,r4,r5⟩:=r
 exact ⟨v1,v2,v3,v4,v5,e',r1.bool (by decide) g fun _ _ z=>z.bool g,r2.bool (by decide) g fun _ _ z=>z.bool g,r3.boolS g,r4.boolS g,r5.bool (by decide) g fun _ _ z=>z.bool g⟩
end
theorem Sv.bool {h0 h : H} {p b : Nat} {m : Img} {f : Fn} {l : List Sl} (s : Sv h0 h p m f l) (g : h0.get b = some (.live [.bool false] 4 true)) : Sv (h0.set b (.live [.bool true] 4 true)) (h.set b (.live [.bool true] 4 true)) p m f l:=by
 obtain ⟨cm,cf,v,s⟩:=s
 have gh:=s.fr b _ (by simp) g
 have hbp : b ≠ p:=fun z=>by rw [z,s.free] at g; cases g
 have ni : NI h (h.set b (.live [.bool true] 4 true)):=NI.set gh (by simp) fun i k n z=>by
  match i,z with
  | 0,z=>cases z
 refine ⟨cm,cf,v,fun k o _ hk=>?_,by rw [H.get_other _ _ hbp.symm]; exact s.free,s.im.bool g,s.fn.bool g,by rw [H.get_other _ _ hbp.symm]; exact s.get,?_,fun b' off n cap ev=>?_,s.W,s.wf,s.ol,s.len⟩
 ·by_cases q : k = b
  ·subst q; rw [H.get_same] at hk ⊢; exact hk
  ·rw [H.get_other _ _ q] at hk ⊢; exact s.fr k o (by simp) hk
 ·obtain ⟨css,a1,a2,a3,a4⟩:=s.row
  exact ⟨css,a1,fun i x c hx hc=>(a2 i x c hx hc).ni ni,a3,a4.mono fun b' off cap o ev hg=>by
   obtain ⟨g0,_⟩:=s.own b' off _ cap ev
   rw [H.get_other _ _ (fun q=>by rw [q,g] at g0; cases g0)]; exact hg⟩
 ·obtain ⟨g0,cs,g1⟩:=s.own b' off n cap ev
  have : b' ≠ b:=fun q=>by rw [q,g] at g0; cases g0
  exact ⟨by rw [H.get_other _ _ this]; exact g0,cs,by rw [H.get_other _ _ this]; exact g1⟩
theorem Sv.base {h0 h1 h : H} {p : Nat} {m : Img} {f : Fn} {l : List Sl} (s : Sv h0 h p m f l) (f01 : Fr [] h0 h1) (f1 : Fr [] h1 h) (hp : h1.get p = none) (hv : ∀ b cs,h0.get b = none -> h.get b = some (.live cs 148 true) -> h1.get b = none) : Sv h1 h p m f l:=by
 obtain ⟨cm,cf,v,s⟩:=s
 exact ⟨cm,cf,v,f1,hp,s.im.fr f01,s.fn.fr f01,s.get,s.row,fun b off n cap ev=>by
  obtain ⟨g0,cs,g1⟩:=s.own b off n cap ev
  exact ⟨hv b cs g0 g1,cs,g1⟩,s.W,s.wf,s.ol,s.len⟩
section
variable {PK : H -> Prop} {h hB : H}
theorem of_c {m : Img} {p : Nat} {vt : AV} (fB : Fr [] hB h) (r : RowOf hB 2 (tyR hB) vt m.types) (hc : h.cell p 0 = some vt) {t : Int} (ht : t < m.types.length) {K : AV -> H -> Prop} (hK : ∀ cs h',Fr [] h h' -> slP hB (if t < 0 then none else some (m.ty t)) cs -> K (.agg cs) h') : DP PK 118 [.ptr p 0,.int .i64 t] h K:=by
 refine runB118 ?_
 unfold sh118 zF
 refine BH rfl fun q hq=>?_
 have f0 : Fr [] h (h.set q (.live [.bool false,.nilsl,.bool false] 148 true)):=Fr.new hq
 have gq : (h.set q (.live [.bool false,.nilsl,.bool false] 148 true)).get q = some (.live [.bool false,.nilsl,.bool false] 148 true):=H.get_same ..
 generalize h.set q (.live [.bool false,.nilsl,.bool false] 148 true) = h1 at f0 gq
 by_cases t0 : t < 0
 ·rw [if_pos t0] at hK
  have eb : AT (AG [.bool false,.nilsl,.bool false] [(2,1,.bool true)]) = some (.agg [.bool false,.nilsl,.bool true]):=rfl
  have st : stA h1 3 (.ptr q 0) (.agg [.bool false,.nilsl,.bool true]) = some (h1.set q (.live [.bool false,.nilsl,.bool true] 148 true)):=DG (n:=3) gq rfl rfl rfl
  have rd : (h1.set q (.live [.bool false,.nilsl,.bool true] 148 true)).read q 0 3 = some [.bool false,.nilsl,.bool true]:=AR (H.get_same ..) rfl
  simp only [go_sem,reduceIte,t0,eb,st,rd]
  exact hK _ _ (f0.set' hq) (RO hB)
 ·rw [if_neg t0] at hK
  obtain ⟨b,o,ct,u1,u2,u3⟩:=C7 r (t:=t) (by omega) ht
  obtain ⟨vv,ect,rs,lvs,eb⟩:=LT u3
  have st : stA h1 3 (.ptr q 0) (.agg [.bool (m.ty t).imm,vv,.bool false]) = some (h1.set q (.live [.bool (m.ty t).imm,vv,.bool false] 148 true)):=DG (n:=3) gq rfl rfl lvs
  have rd : (h1.set q (.live [.bool (m.ty t).imm,vv,.bool false] 148 true)).read q 0 3 = some [.bool (m.ty t).imm,vv,.bool false]:=AR (H.get_same ..) rfl
  simp only [go_sem,reduceIte,t0,f0.cell hc,u1,(fB.trans f0).read u2,eb,st,rd]
  exact hK _ _ (f0.set' hq) rs
theorem set11 {c cf : List AV} {v v' : AV} (h1 : c.length = 7) (h2 : cf.length = 4) : (c ++ cf ++ [v]).set 11 v' = c ++ cf ++ [v']:=by
 rw [List.set_append_right _ _ (by simp [h1,h2])]
 simp [h1,h2]
theorem VJ {p sb xb lb : Nat} {m : Img} {f : Fn} {l : List Sl} (s : Sv hB h p m f l) (gs : hB.get sb = some (.live [.ptr p 0] 143 true)) {x : Ins} {cx : List AV} (rx : insR h x cx) (okx : x.ok) (okm : x.m.length <= 1024) (gx : h.get xb = some (.live cx 55 true)) {last : Bool} (gl : h.get lb = some (.live [.bool last] 4 true)) {K : AV -> H -> Prop}
  (hno : (if last then BW m f l x = false else CF m f l x = none) -> ∀ h',Fr [] hB h' -> K (.bool false) h')
  (hK : ∀ l' hB' h',(if last then BW m f l x = true /\ l' = l else CF m f l x = some l') -> Fr [] hB hB' -> Sv hB' h' p m f l' -> K (.bool true) h') : DP PK 119 [.fn 120 [] [.ptr lb 0,.ptr sb 0,.ptr xb 0]] h K:=by
 refine UI (by decide) fun b hb=>?_
 show DP (fun h2=>AM (h2.write b 0 [.bool false]) (.bool false) K) 120 [.ptr lb 0,.ptr sb 0,.ptr xb 0] (h.set b (.live [.bool false] 4 true)) (fun _ h2=>AM (h2.write b 0 [.bool true]) (.bool true) K)
 have fb : Fr [] h (h.set b (.live [.bool false] 4 true)):=Fr.new hb
 have hb0 : hB.get b = none:=s.fr.free hb
 have hbp:=s.ne hb
 have f01 : Fr [] hB (hB.set b (.live [.bool false] 4 true)):=Fr.new hb0
 have f1 : Fr [] (hB.set b (.live [.bool false] 4 true)) (h.set b (.live [.bool false] 4 true)):=fun k o _ hk=>by
  by_cases q : k = b
  ·subst q; rw [H.get_same] at hk ⊢; exact hk
  ·rw [H.get_other _ _ q] at hk ⊢; exact s.fr k o (by simp) hk
 have s1:=(s.mono fb).base f01 f1 (by rw [H.get_other _ _ hbp.symm]; exact s.free) fun b' cs g0 g1=>by
  by_cases q : b' = b
  ·subst q; rw [H.get_same] at g1; injection g1 with g1; injection g1 with _ g1; cases g1
  ·rw [H.get_other _ _ q]; exact g0
 have gB : (hB.set b (.live [.bool false] 4 true)).get b = some (.live [.bool false] 4 true):=H.get_same ..
 have gx1:=fb xb _ (by simp) gx
 have gl1:=fb lb _ (by simp) gl
 have gs1:=(s.fr.trans fb) sb _ (by simp) gs
 have rx1:=rx.fr fb
 generalize hB.set b (.live [.bool false] 4 true) = hB1 at f01 f1 s1 gB
 generalize h.set b (.live [.bool false] 4 true) = h1 at fb f1 s1 gx1 gl1 gs1 rx1
 have no : (if last then BW m f l x = false else CF m f l x = none) -> ∀ h',Fr [] hB1 h' -> AM (h'.write b 0 [.bool false]) (.bool false) K:=fun z h' f'=>by
  have g:=f' b _ (by simp) gB
  rw [HS g (by simp) rfl,A3]
  exact hno z _ ((f01.trans f').set' hb0)
 have yes : ∀ l' h',(if last then BW m f l x = true /\ l' = l else CF m f l x = some l') -> Sv hB1 h' p m f l' -> AM (h'.write b 0 [.bool true]) (.bool true) K:=fun l' h' z s'=>by
  have g:=s'.fr b _ (by simp) gB
  rw [HS g (by simp) rfl,A3]
  exact hK l' _ _ z (f01.set' hb0) (s'.bool gB)
 refine runP120 ?_
 unfold sh120 zL
 have cs : h1.cell sb 0 = some (.ptr p 0):=by rw [AD gs1]; rfl
 have cl : h1.cell lb 0 = some (.bool last):=by rw [AD gl1]; rfl
 have rdx:=AR gx1 rx1.ln
 cases last with
 | true=>
  simp only [go_sem,reduceIte,cl,cs,rdx]
  refine plast_c s1 rx1 okx okm (fun z=>no (by rw [if_pos rfl]; exact z)) fun z h2 f2=>?_
  exact yes l h2 (by rw [if_pos rfl]; exact ⟨z,rfl⟩) (s1.mono f2)
 | false=>
  simp only [go_sem,reduceIte,cl,cs,rdx]
  refine instr_c s1 rx1 okx (fun z=>no (by rw [if_neg (by decide)]; exact z)) fun l' h2 z s2=>?_
  exact yes l' h2 (by rw [if_neg (by decide)]; exact z) s2
end
section
variable {PK : H -> Prop} {h : H}
set_option maxHeartbeats 4000000 in
theorem XX {m : Img} {c : List AV} (rm : imgR h m c) (W : Wh m) {f : Fn} {cf : List AV} (rf : fnR h f cf) (wf : FnW m f) {bk : Blk} {cb : List AV} (rb : blkR h bk cb) (hbk : bk ∈ f.blocks) {K : AV -> H -> Prop}
  (hK : ∀ h',Fr [] h h' -> K (.int .i64 (plN (DJ m f bk))) h') : DP PK 70 [.agg c,.agg cf,.agg cb] h K:=by
 refine runB70 ?_
 unfold sh70 zL zT zE zV zF zH
 refine B8 rm fun pm h1 f1 hpm gpm rm1=>?_
 refine IN (rf.fr f1) fun pf h2 f2 hpf gpf rf2=>?_
 refine VX ((rb.fr f1).fr f2) fun pb h3 f3 hpb gpb rb3=>?_
 have f03 : Fr [] h h3:=(f1.trans f2).trans f3
 have gpm3:=(f2.trans f3) pm _ (by simp) gpm
 have gpf3:=f3 pf _ (by simp) gpf
 have rm3:=rm.fr f03
 have rf3:=rf.fr f03
 have hcn:=rm.ln
 have hfn:=rf.ln
 have wb:=wf.inn bk hbk
 have hcl:=wb.2.2.1
 have hil:=wb.2.1
 have ebuild : AT (AG [.nilsl,.nilsl,.nilsl,.nilsl,.nilsl,.int .i64 0,.int .i64 0,.nilsl,.int .i64 0,.int .i64 0,.nilsl,.nilsl] [(0,7,.agg c),(7,4,.agg cf)]) = some (.agg (c ++ cf ++ [.nilsl])):=by
  have e1 : (AV.agg c).cells = c:=rfl
  have e2 : (AV.agg cf).cells = cf:=rfl
  have l1:=rm.leaves
  have l2:=rf.leaves
  obtain ⟨a1,a2,a3,a4,a5,rfl,_⟩:=rm
  obtain ⟨b1,b2,rfl,_⟩:=rf
  rw [IP,e1,if_pos ⟨rfl,by decide,l1⟩,IP,e2,if_pos ⟨rfl,by rw [ER]; exact Nat.le_of_ble_eq_true rfl,l2⟩]
  rfl
 rw [EH gpm3 hcn,AB,EH gpf3 hfn,AB,ebuild,AB]
 refine BH (cs:=c ++ cf ++ [.nilsl]) (by rw [EA,EA,rm.leaves,rf.leaves]; rfl) fun p hp=>?_
 refine BH rfl fun sb hsb=>?_
 have hsp : sb ≠ p:=fun z=>by rw [z,H.get_same] at hsb; cases hsb
 have hs0 : h3.get sb = none:=by rw [H.get_other _ _ hsp] at hsb; exact hsb
 have st0 : stA ((h3.set p (.live (c ++ cf ++ [.nilsl]) 146 true)).set sb (.live [.nilp] 143 true)) 1 (.ptr sb 0) (.ptr p 0) = some (((h3.set p (.live (c ++ cf ++ [.nilsl]) 146 true)).set sb (.live [.nilp] 143 true)).set sb (.live [.ptr p 0] 143 true)):=I1 (H.get_same ..) (by simp) rfl rfl
 rw [st0,A3]
 have f3B : Fr [] h3 (h3.set sb (.live [.ptr p 0] 143 true)):=Fr.new hs0
 have gsB : (h3.set sb (.live [.ptr p 0] 143 true)).get sb = some (.live [.ptr p 0] 143 true):=H.get_same ..
 have pB : (h3.set sb (.live [.ptr p 0] 143 true)).get p = none:=by rw [H.get_other _ _ hsp.symm]; exact hp
 have fB6 : Fr [] (h3.set sb (.live [.ptr p 0] 143 true)) (((h3.set p (.live (c ++ cf ++ [.nilsl]) 146 true)).set sb (.live [.nilp] 143 true)).set sb (.live [.ptr p 0] 143 true)):=fun k o _ hk=>by
  by_cases q : k = sb
  ·subst q; rw [H.get_same] at hk ⊢; exact hk
  ·rw [H.get_other _ _ q] at hk ⊢
   rw [H.get_other _ _ q,H.get_other _ _ (fun z=>by rw [z,hp] at hk; cases hk)]; exact hk
 have gp6 : (((h3.set p (.live (c ++ cf ++ [.nilsl]) 146 true)).set sb (.live [.nilp] 143 true)).set sb (.live [.ptr p 0] 143 true)).get p = some (.live (c ++ cf ++ [.nilsl]) 146 true):=by rw [H.get_other _ _ hsp.symm,H.get_other _ _ hsp.symm,H.get_same]
 have rmB:=rm3.fr f3B
 have rfB:=rf3.fr f3B
 have rbB:=rb3.fr f3B
 have gbB:=f3B pb _ (by simp) gpb
 have f0B:=f03.trans f3B
 generalize h3.set sb (.live [.ptr p 0] 143 true) = hB at f3B gsB pB fB6 rmB rfB rbB gbB f0B
 generalize ((h3.set p (.live (c ++ cf ++ [.nilsl]) 146 true)).set sb (.live [.nilp] 143 true)).set sb (.live [.ptr p 0] 143 true) = h6 at fB6 gp6
 have rmB':=rmB
 obtain ⟨vt,vs,vx,vn,vf,ecm,m1,m2,m3,m4,m5⟩:=rmB
 obtain ⟨vi,vc,ecb,ri,rc⟩:=rbB
 have F : ∀ h',Fr [] hB h' -> (h'.cell pb 0 = some vi /\ h'.cell pb 1 = some vc) /\ Row h' vi bk.inn.length 1 (ic bk.inn) /\ RowOf h' 9 (insR h') vc bk.code /\ h'.cell sb 0 = some (.ptr p 0):=fun h' f=>
  ⟨by have cc:=AD (f pb _ (by simp) gbB); rw [cc,cc,ecb]; exact ⟨rfl,rfl⟩,ri.fr f,rc.mono f fun _ _ _ x=>x.fr f,by rw [AD (f sb _ (by simp) gsB)]; rfl⟩
 have out : ∀ (o : Option Nat) h',Fr [] hB h' -> DJ m f bk = o -> K (.int .i64 (plN o)) h':=fun o h' f' e=>by
  have:=hK h' (f0B.trans f'); rw [e] at this; exact this
 refine AI (fun (J : H -> Prop)=>∀ h',Sv hB h' p m f (CM m bk.inn) -> J h') (fun h4 s4=>?_) fun J hJ=>?_
 ·
  have f4:=s4.fr
  obtain ⟨⟨c0,c1⟩,ri4,rc4,cs4⟩:=F h4 f4
  refine AI (fun (J : H -> Prop)=>∀ h',Fr [] hB h' -> ((DJ m f bk = some bk.code.length /\ (bk.code.length = 0 \/ ∃ y,bk.code[bk.code.length - 1]? = some y /\ ¬ 18 <= y.op)) \/ (DJ m f bk = none /\ ∃ y,bk.code[bk.code.length - 1]? = some y /\ 18 <= y.op)) -> J h') (fun h5 f5 hend=>?_) fun J hJ=>?_
  ·obtain ⟨⟨_,d1⟩,_,rc5,_⟩:=F h5 f5
   by_cases n0 : bk.code.length = 0
   ·have n0' : ((bk.code.length : Nat) : Int) = 0:=by omega
    have e : DJ m f bk = some bk.code.length:=by
     rcases hend with ⟨e,_⟩ | ⟨_,y,hy,_⟩
     ·exact e
     ·have:=(List.getElem?_eq_some_iff.1 hy).1; omega
    have:=out _ h5 f5 e
    simp only [go_sem,reduceIte,d1,rc5.len,eq_true n0']
    exact this
   ·have n0' : ¬ ((bk.code.length : Nat) : Int) = 0:=by omega
    obtain ⟨y,hy⟩ : ∃ y,bk.code[bk.code.length - 1]? = some y:=⟨bk.code[bk.code.length - 1]'(by omega),by simp [show bk.code.length - 1 < bk.code.length by omega]⟩
    obtain ⟨b7,o7,cy,u1,u2,u3,u4,u5⟩:=rc5.el hy
    have em : IntKind.i64.wrap ((bk.code.length : Int) - 1) = ((bk.code.length - 1 : Nat) : Int):=by rw [A0 (by omega) (by unfold reachBytes at hcl; omega)]; omega
    have y0 : h5.cell b7 o7 = some (.int .i64 y.op):=by
     have:=u5 0 (by decide)
     obtain ⟨_,_,_,rfl,_⟩:=u2
     exact this
    by_cases yl : y.op < 18
    ·have e : DJ m f bk = some bk.code.length:=by
      rcases hend with ⟨e,_⟩ | ⟨_,y',hy',hl⟩
      ·exact e
      ·rw [hy] at hy'; injection hy' with hy'; subst hy'; omega
     have:=out _ h5 f5 e
     simp only [go_sem,reduceIte,d1,rc5.len,n0',em,u1,y0,yl]
     exact this
    ·have e : DJ m f bk = none:=by
      rcases hend with ⟨_,q⟩ | ⟨e,_⟩
      ·rcases q with q | ⟨y',hy',hl⟩
       ·omega
       ·rw [hy] at hy'; injection hy' with hy'; subst hy'; omega
      ·exact e
     have:=out _ h5 f5 e
     simp only [go_sem,reduceIte,d1,rc5.len,n0',em,u1,y0,yl]
     exact this
  ·simp only [go_sem,reduceIte,c1,rc4.len]
   refine AS (bk.code.length + 1) (fun cn ls h'=>∃ (i : Nat) (l : List Sl) (hC : H),ls = [.int .i64 i] /\ i <= bk.code.length /\ Fr [] hB hC /\ Sv hC h' p m f l /\ ((DJ m f bk = J8 m f (bk.code.drop i) i l /\ (i = 0 \/ ∃ y,bk.code[i - 1]? = some y /\ ¬ 18 <= y.op)) \/ (i = bk.code.length /\ DJ m f bk = none /\ ∃ y,bk.code[i - 1]? = some y /\ 18 <= y.op)) /\ cn = bk.code.length + 1 - i) ⟨0,CM m bk.inn,hB,rfl,by omega,Fr.refl _ _,s4,.inl ⟨rfl,.inl rfl⟩,rfl⟩ ?_
   rintro cn ls h' ⟨i,l,hC,rfl,hi,fBC,s',hinv,rfl⟩
   have f':=fBC.trans s'.fr
   obtain ⟨⟨d0,d1⟩,ri5,rc5,cs5⟩:=F h' f'
   by_cases qq : (i : Int) < bk.code.length
   ·have hi' : i < bk.code.length:=by omega
    obtain ⟨x,hx⟩:=BG hi'
    obtain ⟨eP,_⟩ : DJ m f bk = J8 m f (bk.code.drop i) i l /\ (i = 0 \/ ∃ y,bk.code[i - 1]? = some y /\ ¬ 18 <= y.op):=by
     rcases hinv with q | ⟨q,_⟩
     ·exact q
     ·omega
    rw [DE hx,J8] at eP
    have en:=B0 i (by unfold reachBytes at hcl; omega)
    obtain ⟨bx,ox,cx,q1,q2,q3,q4',q5'⟩:=rc5.el hx
    obtain ⟨okx,okm⟩:=wb.2.2.2.1 x (List.mem_of_getElem? hx)
    simp only [go_sem,reduceIte,qq,q1,q4']
    refine BL rfl q3 rfl q2.leaves fun a h6 f6 ha ga=>?_
    have f6':=f'.trans f6
    have s6:=s'.mono f6
    have rx6:=q2.fr f6
    have ax : h6.cell a 0 = some (.int .i64 x.op):=by
     obtain ⟨_,_,_,e,_⟩:=rx6
     rw [AD ga,e]; rfl
    simp only [go_sem,reduceIte,ax]
    refine BH rfl fun lb hlb=>?_
    have stl : stA (h6.set lb (.live [.bool false] 4 true)) 1 (.ptr lb 0) (.bool (decide (18 <= x.op))) = some ((h6.set lb (.live [.bool false] 4 true)).set lb (.live [.bool (decide (18 <= x.op))] 4 true)):=I1 (H.get_same ..) (by simp) rfl rfl
    have f7 : Fr [] h6 ((h6.set lb (.live [.bool false] 4 true)).set lb (.live [.bool (decide (18 <= x.op))] 4 true)):=((Fr.refl _ _).set' hlb).set' hlb
    have gl : ((h6.set lb (.live [.bool false] 4 true)).set lb (.live [.bool (decide (18 <= x.op))] 4 true)).get lb = some (.live [.bool (decide (18 <= x.op))] 4 true):=H.get_same ..
    simp only [stl,A3]
    generalize (h6.set lb (.live [.bool false] 4 true)).set lb (.live [.bool (decide (18 <= x.op))] 4 true) = h7 at f7 gl
    have f7':=f6'.trans f7
    have s7:=s6.mono f7
    have cl : h7.cell lb 0 = some (.bool (decide (18 <= x.op))):=by rw [AD gl]; rfl
    obtain ⟨⟨d0,d1⟩,ri7,rc7,cs7⟩:=F h7 f7'
    have gsC : hC.get sb = some (.live [.ptr p 0] 143 true):=fBC sb _ (by simp) gsB
    have ga7:=f7 a _ (by simp) ga
    by_cases hlast : 18 <= x.op
    ·rw [if_pos hlast] at eP
     rw [decide_eq_true hlast] at cl gl
     by_cases hend : ((i + 1 : Nat) : Int) = bk.code.length
     ·have hne : (bk.code.drop (i + 1)).isEmpty = true:=by
       rw [List.drop_eq_nil_of_le (by omega)]; rfl
      rw [hne,Bool.true_and] at eP
      simp only [go_sem,reduceIte,cl,en,d1,rc7.len,eq_true hend,decide_true]
      refine VJ (last:=true) s7 gsC (rx6.fr f7) okx okm ga7 gl (fun z h8 f8=>?_) fun l' hC' h8 z fC s8=>?_
      ·rw [if_pos rfl] at z
       rw [z] at eP
       simp only [go_sem,reduceIte]
       exact out (some i) h8 (fBC.trans f8) eP
      ·rw [if_pos rfl] at z
       obtain ⟨z,rfl⟩:=z
       rw [z] at eP
       simp only [go_sem,reduceIte,en]
       exact ⟨bk.code.length + 1 - (i + 1),by omega,i + 1,l',hC',rfl,by omega,fBC.trans fC,s8,.inr ⟨by omega,eP,x,hx,hlast⟩,rfl⟩
     ·have hne : (bk.code.drop (i + 1)).isEmpty = false:=by
       cases hh : bk.code.drop (i + 1) with
       | nil=>have:=congrArg List.length hh; rw [List.length_drop,List.length_nil] at this; omega
       | cons y ys=>rfl
      rw [hne] at eP
      simp only [go_sem,reduceIte,cl,en,d1,rc7.len,hend,decide_false,decide_true]
      exact out (some i) h7 f7' (by rw [eP]; rfl)
    ·rw [if_neg hlast] at eP
     rw [decide_eq_false hlast] at cl gl
     have go : DP AU 119 [.fn 120 [] [.ptr lb 0,.ptr sb 0,.ptr a 0]] h7 fun t62 h=>AA (unOp .not t62) h fun t63 h=>AC t63 (K (.int .i64 (i : Int)) h) (AA (binOp .add .num (.int .i64 (i : Int)) (.int .i64 1)) h fun t65 h=>(∃ n',n' < bk.code.length + 1 - i /\ ∃ (i' : Nat) (l : List Sl) (hC : H),[t65] = [.int .i64 (i' : Int)] /\ i' <= bk.code.length /\ Fr [] hB hC /\ Sv hC h p m f l /\ ((DJ m f bk = J8 m f (bk.code.drop i') i' l /\ (i' = 0 \/ ∃ y,bk.code[i' - 1]? = some y /\ ¬ 18 <= y.op)) \/ (i' = bk.code.length /\ DJ m f bk = none /\ ∃ y,bk.code[i' - 1]? = some y /\ 18 <= y.op)) /\ n' = bk.code.length + 1 - i')):=by
      refine VJ (last:=false) s7 gsC (rx6.fr f7) okx okm ga7 gl (fun z h8 f8=>?_) fun l' hC' h8 z fC s8=>?_
      ·rw [if_neg (by decide)] at z
       rw [z] at eP
       simp only [go_sem,reduceIte]
       exact out (some i) h8 (fBC.trans f8) eP
      ·rw [if_neg (by decide)] at z
       rw [z] at eP
       simp only [go_sem,reduceIte,en]
       exact ⟨bk.code.length + 1 - (i + 1),by omega,i + 1,l',hC',rfl,by omega,fBC.trans fC,s8,.inl ⟨eP,.inr ⟨x,hx,hlast⟩⟩,rfl⟩
     by_cases hend : ((i + 1 : Nat) : Int) = bk.code.length
     ·simp only [go_sem,reduceIte,cl,en,d1,rc7.len,eq_true hend,decide_true,decide_false]
      simpa only [go_sem,reduceIte,en] using go
     ·simp only [go_sem,reduceIte,cl,en,d1,rc7.len,hend,decide_false,decide_true]
      simpa only [go_sem,reduceIte,en] using go
   ·have : i = bk.code.length:=by omega
    subst this
    simp only [go_sem,reduceIte,qq]
    refine hJ h' f' ?_
    rcases hinv with ⟨e,q⟩ | ⟨_,e,q⟩
    ·rw [List.drop_length,J8] at e
     exact .inl ⟨e,q⟩
    ·exact .inr ⟨e,q⟩
 ·
  obtain ⟨⟨c0,c1⟩,ri6,_,_⟩:=F h6 fB6
  simp only [go_sem,reduceIte,c0,ri6.len]
  refine AS (bk.inn.length + 1) (fun cn ls h'=>∃ (i : Nat) (v : AV),ls = [.int .i64 i] /\ i <= bk.inn.length /\ Fr [] hB h' /\ h'.get p = some (.live (c ++ cf ++ [v]) 146 true) /\ OwnOf hB h' 148 3 (slP hB) v (CM m (bk.inn.take i)) /\ cn = bk.inn.length + 1 - i) ⟨0,.nilsl,rfl,by omega,fB6,gp6,OwnOf.nil ..,rfl⟩ ?_
  rintro cn ls h' ⟨i,v,rfl,hi,f',gp,o,rfl⟩
  by_cases qq : (i : Int) < bk.inn.length
  ·have hi' : i < bk.inn.length:=by omega
   obtain ⟨t,ht⟩:=BG hi'
   obtain ⟨⟨d0,d1⟩,ri5,_,cs5⟩:=F h' f'
   have en:=B0 i (by omega)
   obtain ⟨b7,o7,u1,u2⟩:=ri5.atI ht
   have hsl : (CM m (bk.inn.take i)).length = i:=by unfold CM; rw [List.length_map,List.length_take]; omega
   have htt:=wb.2.2.2.2 t (List.mem_of_getElem? ht)
   have c11 : h'.cell p 11 = some v:=by rw [AD gp,List.getElem?_append_right (by simp [hcn,hfn])]; simp [hcn,hfn]
   have cp0 : h'.cell p 0 = some vt:=by rw [AD gp,ecm]; rfl
   simp only [go_sem,reduceIte,qq,u1,u2,cs5,c11]
   refine of_c f' m1 cp0 htt.2 fun cs h8 f8 rs=>?_
   have f18:=f'.trans f8
   obtain ⟨_,_,_,cs8⟩:=F h8 f18
   have gp8:=f8 p _ (by simp) gp
   have hcs:=rs.1.leaves
   simp only [go_sem,reduceIte,cs8,f8.cell c11]
   rw [GV (n:=3) rfl hcs.1 hcs.2]
   have o8:=o.fr f8
   refine MS o8 (x:=if t < 0 then none else some (m.ty t)) rs hcs.1 hcs.2 (by decide) f18 (by rw [hsl]; unfold AQ; omega) fun v' h9 o9 f9 k9=>?_
   have gp9 : h9.get p = some (.live (c ++ cf ++ [v]) 146 true):=k9 p _ gp8 (by
    obtain ⟨_,_,_,_,ow⟩:=o8
    exact ow.ne gp8 (by decide))
   obtain ⟨_,_,_,cs9⟩:=F h9 f9
   have v1 : v'.leaf = true /\ v'.cells = [v']:=o9.row.one
   have st:=I1 (v:=v') gp9 (off:=11) (by simp [hcn,hfn]) v1.1 v1.2
   rw [set11 hcn hfn] at st
   simp only [go_sem,reduceIte,cs9,st,en]
   refine ⟨bk.inn.length + 1 - (i + 1),by omega,i + 1,v',rfl,by omega,f9.set' pB,H.get_same ..,?_,rfl⟩
   rw [IC ht]
   refine o9.keep fun b' n' q' ev ob hg=>?_
   obtain ⟨_,_,_,_,ow⟩:=o9
   rw [H.get_other _ _ (fun z=>ow.ne gp9 (by decide) n' q' (by rw [ev,z]))]; exact hg
  ·have : i = bk.inn.length:=by omega
   subst this
   simp only [go_sem,reduceIte,qq]
   rw [List.take_length] at o
   refine hJ h' ⟨c,cf,v,f',pB,rmB',rfB,gp,o.row.mono (Fr.refl _ _) fun _ _ _ x=>x.fr f',fun b off n cap ev=>?_,W,wf,NP W _,?_⟩
   ·obtain ⟨css,_,_,_,ow⟩:=o
    rcases ow.2 with ⟨_,q⟩ | ⟨b',q,q2,q3⟩
    ·rw [q] at ev; cases ev
    ·rw [q] at ev
     injection ev with ev
     subst ev
     exact ⟨q2,_,q3⟩
   ·unfold CM
    rw [List.length_map]
    exact ⟨wb.1,hil⟩
end
section
variable {PK : H -> Prop} {h : H}
set_option maxHeartbeats 1000000 in
theorem KZ {m : Img} {c : List AV} (rm : imgR h m c) (ok : m.ok) {K : AV -> H -> Prop} (hK : ∀ h',Fr [] h h' -> K (IQ (GW m (CI m))) h') : DP PK 27 [.agg c] h K:=by
 refine runB27 ?_
 unfold sh27 zF
 refine B8 rm fun p h1 f1 hp gp rm1=>?_
 have hcn:=rm.ln
 have rm1':=rm1
 obtain ⟨vt,vs,vx,vn,vf,ecm,m1,m2,m3,m4,m5⟩:=rm1
 clear rm
 have F : ∀ h',Fr [] h1 h' -> h'.read p 0 7 = some c /\ h'.cell p 4 = some vf /\ imgR h' m c /\ RowOf h' 4 (fnR h') vf m.fns:=fun h' f=>
  ⟨AR (f p _ (by simp) gp) hcn,by rw [AD (f p _ (by simp) gp),ecm]; rfl,rm1'.fr f,m5.mono f fun _ _ _ x=>x.fr f⟩
 obtain ⟨p0,q4,rm0,m50⟩:=F h1 (Fr.refl _ _)
 simp only [go_sem,reduceIte,p0]
 refine RW rm0 ok fun h2 f2=>?_
 obtain ⟨p2,q4,rm2,m52⟩:=F h2 f2
 have out : ∀ (r : Int × Int × Int × Bool) h',Fr [] h1 h' -> GW m (CI m) = r -> K (IQ r) h':=fun r h' f' e=>by
  have:=hK h' (f1.trans f'); rw [e] at this; exact this
 cases hw : CI m with
 | false=>
  simp only [go_sem,reduceIte]
  exact out (-1,-1,-1,false) h2 f2 (by rw [hw]; try rfl)
 | true=>
  have W : Wh m:=by
   unfold CI at hw
   rw [Bool.and_eq_true,decide_eq_true_eq] at hw
   exact wh_of ok hw.1 hw.2
  have eW : GW m (CI m) = match M6 m m.fns 0 with | some (i,k,n)=>((i : Int),(k : Int),(n : Int),false) | none=>(0,0,0,true):=by rw [hw]; rfl
  have hnl:=W.nl
  simp only [go_sem,reduceIte]
  refine AI (fun (J : H -> Prop)=>M6 m m.fns 0 = none -> ∀ h',Fr [] h1 h' -> J h') (fun e h' f'=>out (0,0,0,true) h' f' (by rw [eW,e])) fun J hJ=>?_
  simp only [go_sem,reduceIte,q4,m52.len]
  refine AS (m.fns.length + 1) (fun cn ls h'=>∃ i : Nat,ls = [.int .i64 i] /\ i <= m.fns.length /\ Fr [] h1 h' /\ M6 m m.fns 0 = M6 m (m.fns.drop i) i /\ cn = m.fns.length + 1 - i) ⟨0,rfl,by omega,f2,rfl,rfl⟩ ?_
  rintro cn ls h' ⟨i,rfl,hi,f',eE,rfl⟩
  by_cases qq : (i : Int) < m.fns.length
  ·have hi' : i < m.fns.length:=by omega
   obtain ⟨f,hx⟩:=BG hi'
   rw [DE hx,PV] at eE
   have en:=B0 i (by unfold reachBytes at hnl; omega)
   obtain ⟨p3,q4,rm3,m53⟩:=F h' f'
   obtain ⟨bb,bo,cf,z1,z2,z3,z4,z5⟩:=m53.el hx
   have wf:=W.fn f (List.mem_of_getElem? hx)
   have hbl:=wf.blen
   simp only [go_sem,reduceIte,qq]
   refine AI (fun (J : H -> Prop)=>E1 m f f.blocks 0 = none -> ∀ h'',Fr [] h1 h'' -> J h'') (fun e h'' f''=>?_) fun J2 hJ2=>?_
   ·rw [e] at eE
    simp only [go_sem,reduceIte,en]
    exact ⟨m.fns.length + 1 - (i + 1),by omega,i + 1,rfl,by omega,f'',eE,rfl⟩
   ·simp only [go_sem,reduceIte,z1,z4]
    refine BL rfl z3 rfl z2.leaves fun a h4 f4 ha ga=>?_
    have f4':=f'.trans f4
    have rf4:=z2.fr f4
    have rf4':=rf4
    obtain ⟨vp,vb,ecf,rp,rb⟩:=rf4
    have a3 : h4.cell a 3 = some vb:=by rw [AD ga,ecf]; rfl
    simp only [go_sem,reduceIte,a3,rb.len]
    refine AS (f.blocks.length + 1) (fun cn ls h''=>∃ k : Nat,ls = [.int .i64 k] /\ k <= f.blocks.length /\ Fr [] h4 h'' /\ E1 m f f.blocks 0 = E1 m f (f.blocks.drop k) k /\ cn = f.blocks.length + 1 - k) ⟨0,rfl,by omega,Fr.refl _ _,rfl,rfl⟩ ?_
    rintro cn ls h5 ⟨k,rfl,hk,f5,eB,rfl⟩
    have f5':=f4'.trans f5
    by_cases kk : (k : Int) < f.blocks.length
    ·have hk' : k < f.blocks.length:=by omega
     obtain ⟨b,hb⟩:=BG hk'
     rw [DE hb,LG] at eB
     have en2:=B0 k (by unfold reachBytes at hbl; omega)
     obtain ⟨b6,o6,cb,y1,y2,y3,y4,y5⟩:=(rb.mono f5 (Rel':=blkR h5) fun _ _ _ x=>x.fr f5).el hb
     simp only [go_sem,reduceIte,kk,y1,y4]
     refine BL rfl y3 rfl y2.leaves fun a2 h6 f6 ha2 ga2=>?_
     have f6':=f5'.trans f6
     obtain ⟨p6,_,rm6,_⟩:=F h6 f6'
     have ga6:=(f5.trans f6) a _ (by simp) ga
     simp only [go_sem,reduceIte,p6,AR ga6 z3,AR ga2 y3]
     refine XX rm6 W (rf4'.fr (f5.trans f6)) wf (y2.fr f6) (List.mem_of_getElem? hb) fun h7 f7=>?_
     have f7':=f6'.trans f7
     cases hz : DJ m f b with
     | none=>
      rw [hz] at eB
      simp only [go_sem,reduceIte,plN,en2]
      exact ⟨f.blocks.length + 1 - (k + 1),by omega,k + 1,rfl,by omega,(f5.trans f6).trans f7,eB,rfl⟩
     | some n=>
      rw [hz] at eB
      rw [eB] at eE
      have n0 : (0 : Int) <= (n : Nat):=by omega
      simp only [go_sem,reduceIte,plN,n0]
      exact out (i,k,n,false) h7 f7' (by rw [eW,eE])
    ·have : k = f.blocks.length:=by omega
     subst this
     simp only [go_sem,reduceIte,kk]
     rw [List.drop_length] at eB
     exact hJ2 eB h5 f5'
  ·have : i = m.fns.length:=by omega
   subst this
   simp only [go_sem,reduceIte,qq]
   rw [List.drop_length] at eE
   exact hJ eE h' f'
theorem NM {m : Img} {c : List AV} (rm : imgR h m c) (ok : m.ok) {K : AV -> H -> Prop} (hK : ∀ h',Fr [] h h' -> K (.int .i64 (if (GW m (CI m)).2.2.2 then 0 else 21)) h') : DP PK 29 [.agg c] h K:=by
 refine runB29 ?_
 unfold sh29
 refine B8 rm fun p h1 f1 hp gp rm1=>?_
 rw [EH gp rm.ln,AB]
 refine KZ rm1 ok fun h2 f2=>?_
 have:=hK h2 (f1.trans f2)
 unfold IQ
 cases hz : (GW m (CI m)).2.2.2 with
 | true=>
  rw [hz] at this
  simp only [go_sem,reduceIte,List.getElem?_cons_zero,List.getElem?_cons_succ]
  exact this
 | false=>
  rw [hz] at this
  simp only [go_sem,reduceIte,List.getElem?_cons_zero,List.getElem?_cons_succ]
  exact this
end
def MB : List AV:=IM ⟨1,0,0,0,0,5,[],[],[]⟩ .nilsl .nilsl .nilsl ++ IM ⟨22,0,0,0,0,0,[],[],[]⟩ .nilsl .nilsl .nilsl
def HO (code : List Ins) : Img:=⟨[⟨true,[]⟩,⟨false,[0]⟩],[⟨3,[],[]⟩],[],[],[⟨[],0,1,[⟨[-1],code⟩]⟩],0,0⟩
def leastX : List Ins:=[⟨1,0,0,0,0,5,[],[],[]⟩,⟨22,0,0,0,0,0,[],[],[]⟩]
structure LeastAt (h : H) (b2 b4 b6 b7 b10 b12 b14 : Nat) (vc : AV) : Prop where
 g2 : h.get b2 = some (.live [.int .i64 0] 3 true)
 g4 : h.get b4 = some (.live [.bool true,.nilsl,.bool false,.sl b2 0 1 (.exact 1)] 46 true)
 g6 : h.get b6 = some (.live [.int .i64 3,.nilsl,.str []] 61 true)
 g7 : h.get b7 = some (.live [.int .i64 (-1)] 3 true)
 g10 : h.get b10 = some (.live MB 55 true)
 g12 : h.get b12 = some (.live [.sl b7 0 1 (.exact 1),vc] 42 true)
 g14 : h.get b14 = some (.live [.nilsl,.int .i64 0,.int .i64 1,.sl b12 0 1 (.exact 1)] 39 true)
def GS (b4 b6 b14 : Nat) : List AV:=[.sl b4 0 2 (.exact 2),.sl b6 0 1 (.exact 1),.nilsl,.nilsl,.sl b14 0 1 (.exact 1),.int .i64 0,.int .i64 0]
section
variable {PK : H -> Prop} {h : H} {b2 b4 b6 b7 b10 b12 b14 : Nat} {vc : AV}
theorem QD {α : Type} {R : α -> List AV -> Prop} {b e k : Nat} {x : α} {c : List AV} {esz : Nat} (g : h.get b = some (.live c e true)) (hl : c.length = esz) (r : R x c) : RowOf h esz R (.sl b 0 1 (.exact k)) [x]:=
 ⟨[c],rfl,fun i y d hy hd=>by
  match i,hy,hd with
  | 0,hy,hd=>injection hy with hy; injection hd with hd; subst hy; subst hd; exact r,fun d hd=>by rcases List.mem_singleton.1 hd with rfl; exact hl,by simp [hl],.inr ⟨b,0,_,rfl,rfl,H.read_eq g (by simp [hl]) (by rw [List.drop_zero,List.take_of_length_le (by simp [hl])]; simp)⟩⟩
theorem U1 {b e : Nat} {n : Int} {k : Nat} (g : h.get b = some (.live [.int .i64 n] e true)) : Row h (.sl b 0 1 (.exact k)) 1 1 (ic [n]):=⟨rfl,.inr ⟨b,0,_,rfl,rfl,H.read_eq g (by simp) rfl⟩⟩
theorem LeastAt.img (L : LeastAt h b2 b4 b6 b7 b10 b12 b14 vc) {code : List Ins} (rc : RowOf h 9 (insR h) vc code) : imgR h (HO code) (GS b4 b6 b14):=by
 refine ⟨_,_,_,_,_,rfl,?_,?_,RowOf.nil ..,RowOf.nil ..,?_⟩
 ·refine ⟨[[.bool true,.nilsl],[.bool false,.sl b2 0 1 (.exact 1)]],rfl,fun i y d hy hd=>?_,fun d hd=>?_,rfl,.inr ⟨b4,0,_,rfl,rfl,H.read_eq L.g4 (by simp [HO]) rfl⟩⟩
  ·match i,hy,hd with
   | 0,hy,hd=>injection hy with hy; injection hd with hd; subst hy; subst hd; exact ⟨_,rfl,Row.nil _ 1⟩
   | 1,hy,hd=>injection hy with hy; injection hd with hd; subst hy; subst hd; exact ⟨_,rfl,U1 L.g2⟩
  ·simp only [List.mem_cons,List.not_mem_nil,or_false] at hd
   rcases hd with rfl | rfl <;> rfl
 ·exact QD L.g6 rfl ⟨_,rfl,Row.nil _ 1⟩
 ·refine QD L.g14 rfl ⟨_,_,rfl,Row.nil _ 1,?_⟩
  exact QD L.g12 rfl ⟨_,_,rfl,U1 L.g7,rc⟩
theorem LeastAt.fr (L : LeastAt h b2 b4 b6 b7 b10 b12 b14 vc) {h' : H} (f : Fr [] h h') : LeastAt h' b2 b4 b6 b7 b10 b12 b14 vc:=
 ⟨f _ _ (by simp) L.g2,f _ _ (by simp) L.g4,f _ _ (by simp) L.g6,f _ _ (by simp) L.g7,f _ _ (by simp) L.g10,f _ _ (by simp) L.g12,f _ _ (by simp) L.g14⟩
theorem LeastAt.two (L : LeastAt h b2 b4 b6 b7 b10 b12 b14 vc) : RowOf h 9 (insR h) (.sl b10 0 2 (.exact 2)) leastX:=by
 refine ⟨[IM ⟨1,0,0,0,0,5,[],[],[]⟩ .nilsl .nilsl .nilsl,IM ⟨22,0,0,0,0,0,[],[],[]⟩ .nilsl .nilsl .nilsl],rfl,fun i y d hy hd=>?_,fun d hd=>?_,rfl,.inr ⟨b10,0,_,rfl,rfl,H.read_eq L.g10 (by decide) rfl⟩⟩
 ·match i,hy,hd with
  | 0,hy,hd=>injection hy with hy; injection hd with hd; subst hy; subst hd; exact ⟨_,_,_,rfl,Row.nil _ 1,Row.nil _ 1,Row.nil _ 1⟩
  | 1,hy,hd=>injection hy with hy; injection hd with hd; subst hy; subst hd; exact ⟨_,_,_,rfl,Row.nil _ 1,Row.nil _ 1,Row.nil _ 1⟩
 ·simp only [List.mem_cons,List.not_mem_nil,or_false] at hd
  rcases hd with rfl | rfl <;> rfl
theorem LeastAt.last (L : LeastAt h b2 b4 b6 b7 b10 b12 b14 vc) : RowOf h 9 (insR h) (.sl b10 9 1 (.exact 1)) leastX.tail:=by
 refine ⟨[IM ⟨22,0,0,0,0,0,[],[],[]⟩ .nilsl .nilsl .nilsl],rfl,fun i y d hy hd=>?_,fun d hd=>?_,rfl,.inr ⟨b10,9,_,rfl,rfl,H.read_eq L.g10 (by decide) rfl⟩⟩
 ·match i,hy,hd with
  | 0,hy,hd=>injection hy with hy; injection hd with hd; subst hy; subst hd; exact ⟨_,_,_,rfl,Row.nil _ 1,Row.nil _ 1,Row.nil _ 1⟩
 ·rcases List.mem_singleton.1 hd with rfl; rfl
set_option maxHeartbeats 1000000 in
theorem VF {K : AV -> H -> Prop} (hK : ∀ b2 b4 b6 b7 b10 b12 b14 h',Fr [] h h' -> h.get b12 = none -> LeastAt h' b2 b4 b6 b7 b10 b12 b14 (.sl b10 0 2 (.exact 2)) -> K (.agg (GS b4 b6 b14)) h') : DP PK 33 [] h K:=by
 refine runB33 ?_
 unfold sh33
 refine BH rfl fun q hq=>?_
 have f0 : Fr [] h (h.set q (.live [.nilsl,.nilsl,.nilsl,.nilsl,.nilsl,.int .i64 0,.int .i64 0] 28 true)):=Fr.new hq
 have gq : (h.set q (.live [.nilsl,.nilsl,.nilsl,.nilsl,.nilsl,.int .i64 0,.int .i64 0] 28 true)).get q = some (.live [.nilsl,.nilsl,.nilsl,.nilsl,.nilsl,.int .i64 0,.int .i64 0] 28 true):=H.get_same ..
 generalize h.set q (.live [.nilsl,.nilsl,.nilsl,.nilsl,.nilsl,.int .i64 0,.int .i64 0] 28 true) = h0 at f0 gq
 have e1 : AT (AG [.bool false,.nilsl] [(0,1,.bool true)]) = some (.agg [.bool true,.nilsl]):=rfl
 rw [e1,AB,OE]
 refine ⟨rfl,fun b2 hb2=>?_⟩
 have f2 : Fr [] h0 (h0.set b2 (.live [.int .i64 0] 3 true)):=Fr.new hb2
 have g2 : (h0.set b2 (.live [.int .i64 0] 3 true)).get b2 = some (.live [.int .i64 0] 3 true):=H.get_same ..
 generalize h0.set b2 (.live [.int .i64 0] 3 true) = h2 at f2 g2
 have e3 : AT (AG [.bool false,.nilsl] [(1,1,.sl b2 0 1 (.exact 1))]) = some (.agg [.bool false,.sl b2 0 1 (.exact 1)]):=rfl
 have e4 : AG [.bool false,.nilsl,.bool false,.nilsl] [(0,2,.agg [.bool true,.nilsl]),(2,2,.agg [.bool false,.sl b2 0 1 (.exact 1)])] = some [.bool true,.nilsl,.bool false,.sl b2 0 1 (.exact 1)]:=rfl
 simp only [e3,AB,e4]
 refine ⟨rfl,fun b4 hb4=>?_⟩
 have f4 : Fr [] h2 (h2.set b4 (.live [.bool true,.nilsl,.bool false,.sl b2 0 1 (.exact 1)] 46 true)):=Fr.new hb4
 have g4 : (h2.set b4 (.live [.bool true,.nilsl,.bool false,.sl b2 0 1 (.exact 1)] 46 true)).get b4 = some (.live [.bool true,.nilsl,.bool false,.sl b2 0 1 (.exact 1)] 46 true):=H.get_same ..
 generalize h2.set b4 (.live [.bool true,.nilsl,.bool false,.sl b2 0 1 (.exact 1)] 46 true) = h4 at f4 g4
 have e5 : AT (AG [.int .i64 0,.nilsl,.str []] [(0,1,.int .i64 3)]) = some (.agg [.int .i64 3,.nilsl,.str []]):=rfl
 have e6 : AG [.int .i64 0,.nilsl,.str []] [(0,3,.agg [.int .i64 3,.nilsl,.str []])] = some [.int .i64 3,.nilsl,.str []]:=rfl
 simp only [e5,AB,e6]
 refine ⟨rfl,fun b6 hb6=>?_⟩
 have f6 : Fr [] h4 (h4.set b6 (.live [.int .i64 3,.nilsl,.str []] 61 true)):=Fr.new hb6
 have g6 : (h4.set b6 (.live [.int .i64 3,.nilsl,.str []] 61 true)).get b6 = some (.live [.int .i64 3,.nilsl,.str []] 61 true):=H.get_same ..
 generalize h4.set b6 (.live [.int .i64 3,.nilsl,.str []] 61 true) = h6 at f6 g6
 simp only [OE]
 refine ⟨rfl,fun b7 hb7=>?_⟩
 have f7 : Fr [] h6 (h6.set b7 (.live [.int .i64 (-1)] 3 true)):=Fr.new hb7
 have g7 : (h6.set b7 (.live [.int .i64 (-1)] 3 true)).get b7 = some (.live [.int .i64 (-1)] 3 true):=H.get_same ..
 generalize h6.set b7 (.live [.int .i64 (-1)] 3 true) = h7 at f7 g7
 have z9 : ∀ (X : Prop),X -> X:=fun _ x=>x
 have e8 : AT (AG [.int .i64 0,.int .i64 0,.int .i64 0,.int .i64 0,.int .i64 0,.int .i64 0,.nilsl,.nilsl,.nilsl] [(0,1,.int .i64 1),(5,1,.int .i64 5)]) = some (.agg (IM ⟨1,0,0,0,0,5,[],[],[]⟩ .nilsl .nilsl .nilsl)):=rfl
 have e9 : AT (AG [.int .i64 0,.int .i64 0,.int .i64 0,.int .i64 0,.int .i64 0,.int .i64 0,.nilsl,.nilsl,.nilsl] [(0,1,.int .i64 22)]) = some (.agg (IM ⟨22,0,0,0,0,0,[],[],[]⟩ .nilsl .nilsl .nilsl)):=rfl
 simp only [e8,e9,AB]
 refine ⟨rfl,fun b10 hb10=>?_⟩
 have f10 : Fr [] h7 (h7.set b10 (.live MB 55 true)):=Fr.new hb10
 have g10 : (h7.set b10 (.live MB 55 true)).get b10 = some (.live MB 55 true):=H.get_same ..
 change AA (AT (AG [.nilsl,.nilsl] [(0,1,.sl b7 0 1 (.exact 1)),(1,1,.sl b10 0 2 (.exact 2))])) (h7.set b10 (.live MB 55 true)) _
 generalize h7.set b10 (.live MB 55 true) = h10 at f10 g10
 have e11 : AT (AG [.nilsl,.nilsl] [(0,1,.sl b7 0 1 (.exact 1)),(1,1,.sl b10 0 2 (.exact 2))]) = some (.agg [.sl b7 0 1 (.exact 1),.sl b10 0 2 (.exact 2)]):=rfl
 have e12 : AG [.nilsl,.nilsl] [(0,2,.agg [.sl b7 0 1 (.exact 1),.sl b10 0 2 (.exact 2)])] = some [.sl b7 0 1 (.exact 1),.sl b10 0 2 (.exact 2)]:=rfl
 simp only [e11,e12,AB]
 refine ⟨rfl,fun b12 hb12=>?_⟩
 have f12 : Fr [] h10 (h10.set b12 (.live [.sl b7 0 1 (.exact 1),.sl b10 0 2 (.exact 2)] 42 true)):=Fr.new hb12
 have g12 : (h10.set b12 (.live [.sl b7 0 1 (.exact 1),.sl b10 0 2 (.exact 2)] 42 true)).get b12 = some (.live [.sl b7 0 1 (.exact 1),.sl b10 0 2 (.exact 2)] 42 true):=H.get_same ..
 generalize h10.set b12 (.live [.sl b7 0 1 (.exact 1),.sl b10 0 2 (.exact 2)] 42 true) = h12 at f12 g12
 have e13 : AT (AG [.nilsl,.int .i64 0,.int .i64 0,.nilsl] [(2,1,.int .i64 1),(3,1,.sl b12 0 1 (.exact 1))]) = some (.agg [.nilsl,.int .i64 0,.int .i64 1,.sl b12 0 1 (.exact 1)]):=rfl
 have e14 : AG [.nilsl,.int .i64 0,.int .i64 0,.nilsl] [(0,4,.agg [.nilsl,.int .i64 0,.int .i64 1,.sl b12 0 1 (.exact 1)])] = some [.nilsl,.int .i64 0,.int .i64 1,.sl b12 0 1 (.exact 1)]:=rfl
 simp only [e13,e14,AB]
 refine ⟨rfl,fun b14 hb14=>?_⟩
 have f14 : Fr [] h12 (h12.set b14 (.live [.nilsl,.int .i64 0,.int .i64 1,.sl b12 0 1 (.exact 1)] 39 true)):=Fr.new hb14
 have g14 : (h12.set b14 (.live [.nilsl,.int .i64 0,.int .i64 1,.sl b12 0 1 (.exact 1)] 39 true)).get b14 = some (.live [.nilsl,.int .i64 0,.int .i64 1,.sl b12 0 1 (.exact 1)] 39 true):=H.get_same ..
 generalize h12.set b14 (.live [.nilsl,.int .i64 0,.int .i64 1,.sl b12 0 1 (.exact 1)] 39 true) = h14 at f14 g14
 have e15 : AT (AG [.nilsl,.nilsl,.nilsl,.nilsl,.nilsl,.int .i64 0,.int .i64 0] [(0,1,.sl b4 0 2 (.exact 2)),(1,1,.sl b6 0 1 (.exact 1)),(4,1,.sl b14 0 1 (.exact 1))]) = some (.agg (GS b4 b6 b14)):=rfl
 have fA:=f12.trans f14
 have fB:=f10.trans fA
 have fC:=f7.trans fB
 have fD:=f6.trans fC
 have fE:=f4.trans fD
 have fF:=f2.trans fE
 have gq14:=fF q _ (by simp) gq
 have st : stA h14 7 (.ptr q 0) (.agg (GS b4 b6 b14)) = some (h14.set q (.live (GS b4 b6 b14) 28 true)):=DG (n:=7) gq14 rfl rfl rfl
 have rd : ldA (h14.set q (.live (GS b4 b6 b14) 28 true)) (some 7) (.ptr q 0) = some (.agg (GS b4 b6 b14)):=EH (H.get_same ..) rfl
 simp only [e15,AB,st,A3,rd]
 have ff:=(f0.trans fF).set' (o:=.live (GS b4 b6 b14) 28 true) hq
 have ne : ∀ {b : Nat} {o : Obj} {h' : H},h'.get b = none -> h'.get q = some o -> b ≠ q:=fun a c e=>by rw [e,c] at a; cases a
 have nq : ∀ {b : Nat} {o : Obj},b ≠ q -> h14.get b = some o -> (h14.set q (.live (GS b4 b6 b14) 28 true)).get b = some o:=fun hn g=>by rw [H.get_other _ _ hn]; exact g
 refine hK b2 b4 b6 b7 b10 b12 b14 _ ff ((((((f0.trans f2).trans f4).trans f6).trans f7).trans f10).free hb12) ⟨nq (ne hb2 gq) (fE b2 _ (by simp) g2),nq (ne hb4 (f2 q _ (by simp) gq)) (fD b4 _ (by simp) g4),nq (ne hb6 ((f2.trans f4) q _ (by simp) gq)) (fC b6 _ (by simp) g6),nq (ne hb7 (((f2.trans f4).trans f6) q _ (by simp) gq)) (fB b7 _ (by simp) g7),nq (ne hb10 ((((f2.trans f4).trans f6).trans f7) q _ (by simp) gq)) (fA b10 _ (by simp) g10),nq (ne hb12 (((((f2.trans f4).trans f6).trans f7).trans f10) q _ (by simp) gq)) (f14 b12 _ (by simp) g12),nq (ne hb14 ((((((f2.trans f4).trans f6).trans f7).trans f10).trans f12) q _ (by simp) gq)) g14⟩
theorem SD (code : List Ins) (hc : ∀ x ∈ code,x.ok) (hl : code.length <= 2) : (HO code).ok:=by
 have r : ∀ n : Nat,n <= 2 -> n <= reachBytes:=fun n hn=>Nat.le_trans hn (by decide)
 refine ⟨⟨r 2 (by decide),fun t ht=>?_⟩,⟨r 1 (by decide),fun t ht=>?_⟩,⟨r 0 (by decide),fun t ht=>by cases ht⟩,⟨r 0 (by decide),fun t ht=>by cases ht⟩,⟨r 1 (by decide),fun t ht=>?_⟩,rg0,rg0⟩
 ·simp only [HO,List.mem_cons,List.not_mem_nil,or_false] at ht
  rcases ht with rfl | rfl
  ·exact ⟨r 0 (by decide),fun n hn=>by cases hn⟩
  ·exact ⟨r 1 (by decide),fun n hn=>by rcases List.mem_singleton.1 hn with rfl; exact rg0⟩
 ·simp only [HO,List.mem_cons,List.not_mem_nil,or_false] at ht
  subst ht
  exact ⟨⟨by decide,by decide⟩,⟨r 0 (by decide),fun n hn=>by cases hn⟩,r 0 (by decide)⟩
 ·simp only [HO,List.mem_cons,List.not_mem_nil,or_false] at ht
  subst ht
  refine ⟨⟨r 0 (by decide),fun n hn=>by cases hn⟩,rg0,⟨by show (-9223372036854775808 : Int) <= 1; decide,by show (1 : Int) <= 9223372036854775807; decide⟩,r 1 (by decide),fun b hb=>?_⟩
  rcases List.mem_singleton.1 hb with rfl
  exact ⟨⟨r 1 (by decide),fun n hn=>by rcases List.mem_singleton.1 hn with rfl; exact ⟨by decide,by decide⟩⟩,r _ hl,hc⟩
theorem PU : ∀ x ∈ leastX,x.ok:=fun x hx=>by
 have r : rgs []:=⟨Nat.zero_le _,fun n hn=>by cases hn⟩
 simp only [leastX,List.mem_cons,List.not_mem_nil,or_false] at hx
 rcases hx with rfl | rfl
 ·exact ⟨⟨⟨by decide,by decide⟩,rg0,rg0,rg0,rg0,⟨by decide,by decide⟩⟩,r,r,r⟩
 ·exact ⟨⟨⟨by decide,by decide⟩,rg0,rg0,rg0,rg0,rg0⟩,r,r,r⟩
theorem VE : GW (HO leastX) (CI (HO leastX)) = (0,0,0,true):=by kernel_rfl
theorem SE : GW (HO leastX.tail) (CI (HO leastX.tail)) = (0,0,0,false):=by kernel_rfl
set_option maxHeartbeats 1000000 in
theorem X8 {K : AV -> H -> Prop} (hK : ∀ h',Fr [] h h' -> K (.bool true) h') : sh26 (DP AU) h K:=by
 unfold sh26 zT zU zF
 have okT:=SD leastX PU (by decide)
 have okL:=SD leastX.tail (fun x hx=>PU x (List.mem_of_mem_tail hx)) (by decide)
 refine VF fun b2 b4 b6 b7 b10 b12 b14 h1 f1 hb12 L1=>?_
 refine BL (n:=7) (zs:=[.nilsl,.nilsl,.nilsl,.nilsl,.nilsl,.int .i64 0,.int .i64 0]) (c:=GS b4 b6 b14) rfl rfl rfl rfl fun q h2 f2 hq gq=>?_
 have L2:=L1.fr f2
 have hq12 : b12 ≠ q:=fun z=>by have:=L1.g12; rw [z,hq] at this; cases this
 rw [EH (n:=7) gq rfl,AB]
 refine KZ (L2.img L2.two) okT fun h3 f3=>?_
 rw [VE]
 have L3:=L2.fr f3
 have gq3:=f3 q _ (by simp) gq
 have c4 : h3.cell q 4 = some (.sl b14 0 1 (.exact 1)):=by rw [AD gq3]; rfl
 have c14 : h3.cell b14 3 = some (.sl b12 0 1 (.exact 1)):=by rw [AD L3.g14]; rfl
 have c12 : h3.cell b12 1 = some (.sl b10 0 2 (.exact 2)):=by rw [AD L3.g12]; rfl
 have i4 : ∀ b,iaA 4 (.sl b 0 1 (.exact 1)) (.int .i64 0) = some (.ptr b 0):=fun b=>rfl
 have i2 : ∀ b,iaA 2 (.sl b 0 1 (.exact 1)) (.int .i64 0) = some (.ptr b 0):=fun b=>rfl
 have sl : B7 (.row 9) (.sl b10 0 2 (.exact 2)) (some (.int .i64 1)) none none = some (.sl b10 9 1 (.exact 1)):=rfl
 have st : stA h3 1 (.ptr b12 1) (.sl b10 9 1 (.exact 1)) = some (h3.set b12 (.live [.sl b7 0 1 (.exact 1),.sl b10 9 1 (.exact 1)] 42 true)):=I1 L3.g12 (by simp) rfl rfl
 have t0 : ∀ a b c d : AV,A8 (.tup [a,b,c,d]) 0 = some a:=fun _ _ _ _=>rfl
 have t1 : ∀ a b c d : AV,A8 (.tup [a,b,c,d]) 1 = some b:=fun _ _ _ _=>rfl
 have t2 : ∀ a b c d : AV,A8 (.tup [a,b,c,d]) 2 = some c:=fun _ _ _ _=>rfl
 have t3 : ∀ a b c d : AV,A8 (.tup [a,b,c,d]) 3 = some d:=fun _ _ _ _=>rfl
 have f13:=f2.trans f3
 have gq4 : (h3.set b12 (.live [.sl b7 0 1 (.exact 1),.sl b10 9 1 (.exact 1)] 42 true)).get q = some (.live (GS b4 b6 b14) 28 true):=by rw [H.get_other _ _ hq12.symm]; exact gq3
 have L4 : LeastAt (h3.set b12 (.live [.sl b7 0 1 (.exact 1),.sl b10 9 1 (.exact 1)] 42 true)) b2 b4 b6 b7 b10 b12 b14 (.sl b10 9 1 (.exact 1)):=by
  have n : ∀ {b e : Nat} {cs : List AV},h3.get b = some (.live cs e true) -> e ≠ 42 -> (h3.set b12 (.live [.sl b7 0 1 (.exact 1),.sl b10 9 1 (.exact 1)] 42 true)).get b = some (.live cs e true):=fun g he=>by
   rw [H.get_other _ _ fun z=>by
    rw [z,L3.g12] at g; injection g with g; injection g with _ g; exact he g.symm]
   exact g
  exact ⟨n L3.g2 (by decide),n L3.g4 (by decide),n L3.g6 (by decide),n L3.g7 (by decide),n L3.g10 (by decide),H.get_same ..,n L3.g14 (by decide)⟩
 have f4 : Fr [] h (h3.set b12 (.live [.sl b7 0 1 (.exact 1),.sl b10 9 1 (.exact 1)] 42 true)):=(f1.trans f13).set' hb12
 unfold IQ
 simp only [t0,t1,t2,t3,AB,H8,Nat.zero_add,E3,c4,i4,c14,i2,c12,sl,st,A3]
 generalize h3.set b12 (.live [.sl b7 0 1 (.exact 1),.sl b10 9 1 (.exact 1)] 42 true) = h4 at gq4 L4 f4
 rw [EH (n:=7) gq4 rfl,AB]
 refine KZ (L4.img L4.last) okL fun h5 f5=>?_
 rw [SE]
 have gq5:=f5 q _ (by simp) gq4
 unfold IQ
 have tt : ∀ {x y : AV} {n : Int} , True:=fun {_ _ _}=>trivial
 simp only [go_sem,reduceIte,t0,t1,t2,t3,decide_true,AR gq5 (n:=7) rfl]
 refine NM ((L4.fr f5).img (L4.fr f5).last) okL fun h6 f6=>?_
 rw [SE]
 simp only [go_sem,reduceIte,decide_true]
 refine VF fun c2 c4 c6 c7 c10 c12 c14 h7 f7 _ M7=>?_
 refine NM (M7.img M7.two) okT fun h8 f8=>?_
 rw [VE]
 have e1 : AT (AG [.bool false,.nilsl] []) = some (.agg [.bool false,.nilsl]):=rfl
 have e2 : AT (AG [.bool false,.nilsl] [(0,1,.bool true)]) = some (.agg [.bool true,.nilsl]):=rfl
 simp only [go_sem,reduceIte,decide_true,e1,e2]
 refine KR (GQ h8) (LZ h8) (Nat.zero_le _) (Nat.zero_le _) fun h9 f9=>?_
 have s1 : G0 H3 BF = true:=rfl
 rw [s1]
 simp only [go_sem,reduceIte,e1,e2]
 refine KR (LZ h9) (GQ h9) (Nat.zero_le _) (Nat.zero_le _) fun h10 f10=>?_
 have s2 : G0 BF H3 = false:=rfl
 rw [s2]
 simp only [go_sem,reduceIte]
 exact hK h10 (((((f4.trans f5).trans f6).trans f7).trans f8).trans (f9.trans f10))
end
theorem N4 {PK : H -> Prop} {h : H} {K : AV -> H -> Prop} (hK : ∀ h',Fr [] h h' -> K (.bool true) h') : DP PK 26 [] h K:=runB26 (X8 hK)
def FrB (h h' : H) : Prop:=∀ c cs e w,e ≠ 5 -> h.get c = some (.live cs e w) -> h'.get c = some (.live cs e w)
theorem FrB.trans {h h1 h2 : H} (f : FrB h h1) (g : FrB h1 h2) : FrB h h2:=fun c cs e w he x=>g c cs e w he (f c cs e w he x)
theorem FrB.refl (h : H) : FrB h h:=fun _ _ _ _ _ x=>x
structure V (h0 h : H) (v : AV) (L : List Nat) : Prop where
 ws : WS h0 h v L
 fr : Fr [] h0 h
section
variable {h0 h h' : H} {v : AV} {L : List Nat}
theorem V.keep (w : V h0 h v L) (f : Fr [] h h') : V h0 h' v L:=⟨w.ws.fr f,w.fr.trans f⟩
theorem WS.ne (s : WS h0 h v L) {c e : Nat} {cs : List AV} {w : Bool} (he : e ≠ 5) (hg : h.get c = some (.live cs e w)) : ∀ n p,v ≠ .sl c 0 n p:=by
 intro n p q
 rcases s with s | ⟨m,q1,_,q3⟩
 ·rcases s.2 with ⟨_,z⟩ | ⟨b,z1,_,z3⟩
  ·rw [q] at z; cases z
  ·rw [q] at z1; injection z1 with z1 _; subst z1
   rw [hg] at z3; injection z3 with z3; injection z3 with _ z3 _; exact he z3
 ·rw [q] at q1; injection q1 with q1 _; subst q1
  rw [hg] at q3; injection q3 with q3; injection q3 with _ q3 _; exact he q3
theorem cA {α : Type} {esz ty : Nat} {zs : List AV} {lv : AV} {l : List α} {Rel : H -> α -> List AV -> Prop} (hleaf : ∀ {h : H} {x c},Rel h x c -> leaves c = true) (hz : zs.length = esz) (lz : leaves zs = true)
  (r : RowOf h0 esz (Rel h0) lv l) (hl : l.length <= reachBytes) {Inv : Nat -> AV -> H -> Prop} {a0 : AV} (hi : Inv 0 a0 h) (hfr : ∀ i a h,Inv i a h -> Fr [] h0 h) (hkeep : ∀ i a h h',Inv i a h -> Fr [] h h' -> Inv i a h')
  {J : AV -> H -> Prop} {BODY : (List AV -> H -> Prop) -> AV -> AV -> AV -> H -> Prop}
  (hJ : ∀ a h2,Inv l.length a h2 -> J a h2)
  (hB : ∀ (N : List AV -> H -> Prop) (i : Nat) x a,l[i]? = some x -> IntKind.i64.wrap ((i : Int) + 1) = ((i + 1 : Nat) : Int) -> ∀ h1 d c,Inv i a h1 -> h1.get d = some (.live c ty true) -> Rel h0 x c -> c.length = esz ->
   (∀ a' h2,Inv (i + 1) a' h2 -> N [a',.int .i64 ((i + 1 : Nat) : Int)] h2) -> BODY N a (.int .i64 i) (.ptr d 0) h1) :
  AP (fun N l' h=>AX l' 0 fun a=>AX l' 1 fun t51=>AA (binOp .lss .num t51 (.int .i64 l.length)) h fun t52 h=>AC t52
   (AA (iaA esz lv t51) h fun t53 h=>AA (ldA h (some esz) t53) h fun t54 h=>AL h zs ty fun d h=>AM (stA h esz d t54) .undef fun _ h=>BODY N a t51 d h) (J a h)) [a0,.int .i64 0] h:=by
 have hr : reachBytes <= 4611686018427387903:=by decide
 refine AS (l.length + 1) (fun k ls h2=>∃ (i : Nat) (a : AV),ls = [a,.int .i64 i] /\ i <= l.length /\ Inv i a h2 /\ k = l.length + 1 - i) ⟨0,a0,rfl,by omega,hi,rfl⟩ ?_
 rintro k ls h2 ⟨i,a,rfl,hi,ha,rfl⟩
 by_cases q : (i : Int) < l.length
 ·have hi' : i < l.length:=by omega
  obtain ⟨x,hx⟩ : ∃ x,l[i]? = some x:=⟨l[i],by simp [hi']⟩
  obtain ⟨b,o,c,e1,e2,e3,e4,e5⟩:=(r.mono (hfr _ _ _ ha) fun _ _ _ z=>z).el hx
  have en : IntKind.i64.wrap ((i : Int) + 1) = ((i + 1 : Nat) : Int):=by rw [A0 (by omega) (by omega)]; rfl
  simp only [BE,CJ,BO,AB,q,decide_true,AZ,e1,CK e4]
  refine BH lz fun d hdd=>?_
  rw [HG e3 hz (hleaf e2),A3]
  have fd : Fr [] h2 (h2.set d (.live c ty true)):=(Fr.refl _ _).set' hdd
  exact hB _ i x a hx en _ d c (hkeep _ _ _ _ ha fd) (H.get_same ..) e2 e3 fun a' h3 ia=>⟨l.length + 1 - (i + 1),by omega,i + 1,a',rfl,by omega,ia,rfl⟩
 ·have : i = l.length:=by omega
  subst this
  simp only [BE,CJ,BO,AB,q,decide_false,AO]
  exact hJ a h2 ha
theorem bZ {α : Type} {esz ty : Nat} {zs : List AV} {lv : AV} {l : List α} {Rel : H -> α -> List AV -> Prop} (hleaf : ∀ {h : H} {x c},Rel h x c -> leaves c = true) (hz : zs.length = esz) (lz : leaves zs = true)
  (r : RowOf h0 esz (Rel h0) lv l) (hl : l.length <= reachBytes) {Inv : Nat -> AV -> H -> Prop} {a0 : AV} (hi : Inv 0 a0 h) (hfr : ∀ i a h,Inv i a h -> Fr [] h0 h) (hkeep : ∀ i a h h',Inv i a h -> Fr [] h h' -> Inv i a h')
  {J : AV -> H -> Prop} {BODY : (AV -> H -> Prop) -> AV -> AV -> AV -> H -> Prop}
  (hJ : ∀ a h2,Inv l.length a h2 -> J a h2)
  (hB : ∀ (N : AV -> H -> Prop) (i : Nat) x a,l[i]? = some x -> IntKind.i64.wrap ((i : Int) + 1) = ((i + 1 : Nat) : Int) -> ∀ h1 d c,Inv i a h1 -> h1.get d = some (.live c ty true) -> Rel h0 x c -> c.length = esz ->
   (∀ a' h2,Inv (i + 1) a' h2 -> N a' h2) -> BODY N a (.int .i64 i) (.ptr d 0) h1) :
  AP (fun N l' h=>AX l' 0 fun a=>AX l' 1 fun t51=>AA (binOp .lss .num t51 (.int .i64 l.length)) h fun t52 h=>AC t52
   (AJ (fun (b : AV) (h : H)=>AA (binOp .add .num t51 (.int .i64 1)) h fun t40 h=>N [b,t40] h) fun N=>AA (iaA esz lv t51) h fun t53 h=>AA (ldA h (some esz) t53) h fun t54 h=>AL h zs ty fun d h=>AM (stA h esz d t54) .undef fun _ h=>BODY N a t51 d h) (J a h)) [a0,.int .i64 0] h:=by
 have hr : reachBytes <= 4611686018427387903:=by decide
 refine AS (l.length + 1) (fun k ls h2=>∃ (i : Nat) (a : AV),ls = [a,.int .i64 i] /\ i <= l.length /\ Inv i a h2 /\ k = l.length + 1 - i) ⟨0,a0,rfl,by omega,hi,rfl⟩ ?_
 rintro k ls h2 ⟨i,a,rfl,hi,ha,rfl⟩
 by_cases q : (i : Int) < l.length
 ·have hi' : i < l.length:=by omega
  obtain ⟨x,hx⟩ : ∃ x,l[i]? = some x:=⟨l[i],by simp [hi']⟩
  obtain ⟨b,o,c,e1,e2,e3,e4,e5⟩:=(r.mono (hfr _ _ _ ha) fun _ _ _ z=>z).el hx
  have en : IntKind.i64.wrap ((i : Int) + 1) = ((i + 1 : Nat) : Int):=by rw [A0 (by omega) (by omega)]; rfl
  simp only [BE,CJ,BO,AB,q,decide_true,AZ,AJ,e1,CK e4]
  refine BH lz fun d hdd=>?_
  rw [HG e3 hz (hleaf e2),A3]
  have fd : Fr [] h2 (h2.set d (.live c ty true)):=(Fr.refl _ _).set' hdd
  exact hB _ i x a hx en _ d c (hkeep _ _ _ _ ha fd) (H.get_same ..) e2 e3 fun a' h3 ia=>by
   rw [BS,en,AB]
   exact ⟨l.length + 1 - (i + 1),by omega,i + 1,a',rfl,by omega,ia,rfl⟩
 ·have : i = l.length:=by omega
  subst this
  simp only [BE,CJ,BO,AB,q,decide_false,AO]
  exact hJ a h2 ha
theorem acc1_r {α : Type} {lv : AV} {l : List α} {val : α -> AV} (r : Row h0 lv l.length 1 (l.map val)) (hl : l.length <= reachBytes) {Inv : Nat -> AV -> H -> Prop} {a0 : AV} (hi : Inv 0 a0 h) (hfr : ∀ i a h,Inv i a h -> Fr [] h0 h)
  {J : AV -> H -> Prop} {BODY : (List AV -> H -> Prop) -> AV -> AV -> AV -> H -> Prop}
  (hJ : ∀ a h2,Inv l.length a h2 -> J a h2)
  (hB : ∀ (N : List AV -> H -> Prop) (i : Nat) x a,l[i]? = some x -> IntKind.i64.wrap ((i : Int) + 1) = ((i + 1 : Nat) : Int) -> ∀ h1,Inv i a h1 -> (∀ a' h2,Inv (i + 1) a' h2 -> N [a',.int .i64 ((i + 1 : Nat) : Int)] h2) -> BODY N a (.int .i64 i) (val x) h1) :
  AP (fun N l' h=>AX l' 0 fun a=>AX l' 1 fun t51=>AA (binOp .lss .num t51 (.int .i64 l.length)) h fun t52 h=>AC t52
   (AA (iaA 1 lv t51) h fun t53 h=>AA (ldA h none t53) h fun t54 h=>BODY N a t51 t54 h) (J a h)) [a0,.int .i64 0] h:=by
 have hr : reachBytes <= 4611686018427387903:=by decide
 refine AS (l.length + 1) (fun k ls h2=>∃ (i : Nat) (a : AV),ls = [a,.int .i64 i] /\ i <= l.length /\ Inv i a h2 /\ k = l.length + 1 - i) ⟨0,a0,rfl,by omega,hi,rfl⟩ ?_
 rintro k ls h2 ⟨i,a,rfl,hi,ha,rfl⟩
 by_cases q : (i : Int) < l.length
 ·have hi' : i < l.length:=by omega
  obtain ⟨x,hx⟩ : ∃ x,l[i]? = some x:=⟨l[i],by simp [hi']⟩
  obtain ⟨b,o,e1,e2⟩:=(r.fr (hfr _ _ _ ha)).at (i:=i) (x:=val x) (by omega) q (by rw [Int.toNat_natCast,List.getElem?_map,hx]; rfl)
  have en : IntKind.i64.wrap ((i : Int) + 1) = ((i + 1 : Nat) : Int):=by rw [A0 (by omega) (by omega)]; rfl
  simp only [BE,CJ,BO,AB,q,decide_true,AZ,e1,E3,e2]
  exact hB _ i x a hx en _ ha fun a' h3 ia=>⟨l.length + 1 - (i + 1),by omega,i + 1,a',rfl,by omega,ia,rfl⟩
 ·have : i = l.length:=by omega
  subst this
  simp only [BE,CJ,BO,AB,q,decide_false,AO]
  exact hJ a h2 ha
end
end Go.Proofs.YtdljelicbnjfjaaGreat.X
namespace Go.Proofs.YtdljelicbnjfjaaGreat.X
open Go
variable {H : Type} {P : Program}
mutual
/-- Elements of few bytes. -/
def G4 (P : Program) (t : TypeId) : Sh -> Bool
 | .int _=>match P.underlying t with | some (.int _)=>true | _=>false
 | .bool=>match P.underlying t with | some .bool=>true | _=>false
 | .str=>match P.underlying t with | some .string=>true | _=>false
 | .sl s=>match P.underlying t with | some (.slice e)=>G4 P e s && decide (P.bytesOf e <= 65536) | _=>false
 | .st ss=>match P.underlying t with | some (.struct fs)=>smallShs P (fs.toList.map (·.type)) ss | _=>false
def smallShs (P : Program) : List TypeId -> List Sh -> Bool
 | [],[]=>true
 | t :: ts,s :: ss=>G4 P t s && smallShs P ts ss
 | _,_=>false
end
theorem bP (d : DataW H) : 1 <= Rows.uptoBulk d:=by
 cases d with
 | lit l=>cases l <;> simp [Rows.uptoBulk]
 | nil=>simp [Rows.uptoBulk]
 | ptr d=>simp [Rows.uptoBulk]
 | slice elems spare=>simp [Rows.uptoBulk]
 | agg parts=>simp [Rows.uptoBulk]
 | iface t d=>simp [Rows.uptoBulk]
 | map entries=>simp [Rows.uptoBulk]
 | held h=>simp [Rows.uptoBulk]
theorem OT : ∀ l : List (DataW H),l.length <= Rows.uptoBulkAll l
 | []=>Nat.zero_le _
 | d :: r=>by have:=OT r; have:=bP d; simp only [Rows.uptoBulkAll,List.length_cons]; omega
theorem TC {e : TypeId} (hd : ∀ (d : DataW H) (k : Nat),k ∈ d.weights P e -> k <= 65536 * Rows.uptoBulk d) : ∀ (l : List (DataW H)) (k : Nat),k ∈ DataW.weightsAll P e l -> k <= 65536 * Rows.uptoBulkAll l
 | [],k,h=>by simp [DataW.weightsAll] at h
 | d :: r,k,h=>by
  rw [DataW.weightsAll] at h
  simp only [Rows.uptoBulkAll]
  rcases List.mem_append.1 h with h | h
  ·have:=hd d k h; omega
  ·have:=TC hd r k h; omega
theorem MF {t : TypeId} (h1 : ∀ e,P.underlying t ≠ some (.pointer e)) (h2 : ∀ e,P.underlying t ≠ some (.slice e)) (h3 : ∀ fs,P.underlying t ≠ some (.struct fs)) (h4 : ∀ n e,P.underlying t ≠ some (.array n e)) (h5 : ∀ k e,P.underlying t ≠ some (.map k e))
  (d : DataW H) (k : Nat) (h : k ∈ d.weights P t) : k <= 65536 * Rows.uptoBulk d:=by
 cases d with
 | lit l=>
  cases l <;> simp [DataW.weights] at h
  subst h; simp only [Rows.uptoBulk]; omega
 | nil=>simp [DataW.weights] at h
 | ptr d=>rw [DataW.weights] at h; split at h <;> first | exact absurd ‹_› (h1 _) | cases h
 | slice elems spare=>rw [DataW.weights] at h; split at h <;> first | exact absurd ‹_› (h2 _) | cases h
 | agg parts=>
  rw [DataW.weights] at h; split at h
  ·exact absurd ‹_› (h3 _)
  ·exact absurd ‹_› (h4 _ _)
  ·cases h
 | iface t d=>simp [DataW.weights] at h
 | map entries=>rw [DataW.weights] at h; split at h <;> first | exact absurd ‹_› (h5 _ _) | cases h
 | held x=>simp [DataW.weights] at h
mutual
theorem KQ : ∀ (s : Sh) (t : TypeId),G4 P t s = true -> ∀ (d : DataW H) (k : Nat),k ∈ d.weights P t -> k <= 65536 * Rows.uptoBulk d
 | .int _,t,hs=>by
  unfold G4 at hs
  split at hs
  ·rename_i hu; exact MF (by simp [hu]) (by simp [hu]) (by simp [hu]) (by simp [hu]) (by simp [hu])
  ·cases hs
 | .bool,t,hs=>by
  unfold G4 at hs
  split at hs
  ·rename_i hu; exact MF (by simp [hu]) (by simp [hu]) (by simp [hu]) (by simp [hu]) (by simp [hu])
  ·cases hs
 | .str,t,hs=>by
  unfold G4 at hs
  split at hs
  ·rename_i hu; exact MF (by simp [hu]) (by simp [hu]) (by simp [hu]) (by simp [hu]) (by simp [hu])
  ·cases hs
 | .sl s,t,hs=>by
  unfold G4 at hs
  split at hs
  ·rename_i e hu
   simp only [Bool.and_eq_true,decide_eq_true_eq] at hs
   have ih:=TC (KQ s e hs.1 : ∀ (d : DataW H) (k : Nat),k ∈ d.weights P e -> k <= 65536 * Rows.uptoBulk d)
   intro d k h
   cases d with
   | slice elems spare=>
    rw [DataW.weights,hu] at h
    simp only at h
    have l1:=OT elems
    have l2:=OT spare
    simp only [Rows.uptoBulk]
    rcases List.mem_cons.1 h with rfl | h
    ·have : (elems.length + spare.length) * P.bytesOf e <= (elems.length + spare.length) * 65536:=Nat.mul_le_mul_left _ hs.2
     omega
    ·rcases List.mem_append.1 h with h | h
     ·have:=ih elems k h; omega
     ·have:=ih spare k h; omega
   | lit l=>
    cases l <;> simp [DataW.weights] at h
    subst h; simp only [Rows.uptoBulk]; omega
   | nil=>simp [DataW.weights] at h
   | ptr d=>simp [DataW.weights,hu] at h
   | agg parts=>simp [DataW.weights,hu] at h
   | iface t d=>simp [DataW.weights] at h
   | map entries=>simp [DataW.weights,hu] at h
   | held x=>simp [DataW.weights] at h
  ·cases hs
 | .st ss,t,hs=>by
  unfold G4 at hs
  split at hs
  ·rename_i fs hu
   intro d k h
   cases d with
   | agg parts=>
    rw [DataW.weights,hu] at h
    simp only at h
    have:=each_bulk ss _ hs parts k h
    simp only [Rows.uptoBulk]; omega
   | lit l=>
    cases l <;> simp [DataW.weights] at h
    subst h; simp only [Rows.uptoBulk]; omega
   | nil=>simp [DataW.weights] at h
   | ptr d=>simp [DataW.weights,hu] at h
   | slice elems spare=>simp [DataW.weights,hu] at h
   | iface t d=>simp [DataW.weights] at h
   | map entries=>simp [DataW.weights,hu] at h
   | held x=>simp [DataW.weights] at h
  ·cases hs
theorem each_bulk : ∀ (ss : List Sh) (ts : List TypeId),smallShs P ts ss = true -> ∀ (l : List (DataW H)) (k : Nat),k ∈ DataW.weightsEach P ts l -> k <= 65536 * Rows.uptoBulkAll l
 | [],[],_=>fun l k h=>by cases l <;> simp [DataW.weightsEach] at h
 | [],_ :: _,h=>by simp [smallShs] at h
 | _ :: _,[],h=>by simp [smallShs] at h
 | s :: ss,t :: ts,hs=>fun l k h=>by
  cases l with
  | nil=>simp [DataW.weightsEach] at h
  | cons d r=>
   simp only [smallShs,Bool.and_eq_true] at hs
   rw [DataW.weightsEach] at h
   simp only [Rows.uptoBulkAll]
   rcases List.mem_append.1 h with h | h
   ·have:=KQ s t hs.1 d k h; omega
   ·have:=each_bulk ss ts hs.2 r k h; omega
end
def lim : Nat:=68719476736
theorem upto_weights {ss : List Sh} {ts : List TypeId} (hs : smallShs P ts ss = true) {ds : List (DataW H)} (hk : Rows.uptoSmall H ds = true) : ∀ k ∈ DataW.weightsEach P ts ds,k <= lim:=by
 intro k hk'
 have h1 : Rows.uptoBulkAll ds <= 1048576:=of_decide_eq_true hk
 have h2:=each_bulk ss ts hs ds k hk'
 unfold lim; omega
theorem lim_le : lim <= reachBytes:=by decide
end Go.Proofs.YtdljelicbnjfjaaGreat.X
namespace Go.Proofs.YtdljelicbnjfjaaGreat.X
open Go Go.RowKit
def I0 {α : Type} (w : α -> Nat) (l : List α) : Nat:=(l.map w).sum
def wTy (t : Ty) : Nat:=t.sh.length
def wShp (s : Shp) : Nat:=s.fs.length + s.name.length
def wStr (s : List UInt8) : Nat:=s.length
def wIns (x : Ins) : Nat:=x.l.length + x.m.length + x.live.length
def wBlk (b : Blk) : Nat:=b.inn.length + b.code.length + I0 wIns b.code
def wFn (f : Fn) : Nat:=f.params.length + f.blocks.length + I0 wBlk f.blocks
def wImg (m : Img) : Nat:=m.types.length + m.shapes.length + m.strs.length + m.names.length + m.fns.length + I0 wTy m.types + I0 wShp m.shapes + I0 wStr (m.strs ++ m.names) + I0 wFn m.fns
theorem W6 {α : Type} (w : α -> Nat) {l : List α} {i : Nat} {x : α} (h : l[i]? = some x) : I0 w (l.take (i + 1)) = I0 w (l.take i) + w x:=by
 unfold I0
 rw [List.take_add_one,h,List.map_append,List.sum_append]; simp
section
variable {h : H}
theorem VY {m0 n : Nat} {y : AV} {cs : List AV} (g : h.get m0 = some (.live [] 9 true)) (hs : KV h 1 y = some (n,cs)) (hc : cs.length = n) (hl : leaves cs = true) (hb : n * 16 <= AQ) {K : AV -> H -> Prop}
  (h0 : n = 0 -> K (.sl m0 0 0 (.exact 0)) h) (hK : ∀ v h',Own h h' 9 1 v n cs -> Fr [] h h' -> K v h') : A4 h 9 1 16 (.sl m0 0 0 (.exact 0)) y K:=by
 unfold A4
 rw [hs]
 simp only
 by_cases q : n = 0
 ·rw [if_pos q]; exact h0 q
 ·rw [if_neg q,if_neg (by omega)]
  refine ⟨by omega,?_⟩
  rw [Nat.zero_mul,show h.read m0 0 0 = some [] from H.read_eq g (by simp) rfl]
  simp only [List.nil_append,Nat.zero_add]
  exact ⟨hl,fun b hb=>hK _ _ ⟨by omega,.inr ⟨b,rfl,hb,H.get_same ..⟩⟩ ((Fr.refl _ _).set' hb)⟩
theorem W5 {vx vn : AV} {l1 l2 : List (List UInt8)} (r1 : Row h vx l1.length 1 (l1.map AV.str)) (r2 : Row h vn l2.length 1 (l2.map AV.str)) (b1 : l1.length <= lim) (b2 : l2.length <= lim) {P : H -> Prop} {K : AV -> H -> Prop}
  (hP : ∀ h',Fr [] h h' -> P h') (hK : ∀ v h',Fr [] h h' -> Row h' v (l1 ++ l2).length 1 ((l1 ++ l2).map AV.str) -> K v h') :
  A5 h 9 0 (AG [] []) fun t70 h=>A4 h 9 1 16 t70 vx fun t73 h=>AY (P h) <| A4 h 9 1 16 t73 vn fun t76 h=>K t76 h:=by
 have hs : ∀ l : List (List UInt8),leaves (l.map AV.str) = true:=fun l=>KL _ (fun _=>rfl) l
 unfold lim at b1 b2
 have hmost : AQ = 140737488355328:=rfl
 refine ⟨rfl,fun m0 hm0=>?_⟩
 have f1 : Fr [] h (h.set m0 (.live [] 9 true)):=(Fr.refl _ _).set' hm0
 have g0 : (h.set m0 (.live [] 9 true)).get m0 = some (.live [] 9 true):=H.get_same ..
 change A4 (h.set m0 (.live [] 9 true)) 9 1 16 (.sl m0 0 0 (.exact 0)) vx _
 generalize h.set m0 (.live [] 9 true) = h1 at *
 have r1':=r1.fr f1
 have r2':=r2.fr f1
 refine VY g0 r1'.src (by simp) (hs _) (by omega) (fun q=>?_) fun v2 h2 o2 f2=>?_
 ·have e1 : l1 = []:=List.eq_nil_of_length_eq_zero q
  subst e1
  rw [show P h1 = True from eq_true (hP h1 f1),LM]
  refine VY g0 r2'.src (by simp) (hs _) (by omega) (fun q=>?_) fun v3 h3 o3 f3=>?_
  ·have e2 : l2 = []:=List.eq_nil_of_length_eq_zero q
   subst e2
   exact hK _ _ f1 ⟨rfl,.inr ⟨m0,0,_,rfl,rfl,H.read_eq g0 (by simp) rfl⟩⟩
  ·exact hK _ _ (f1.trans f3) (by simpa using o3.row)
 ·have r2'':=r2'.fr f2
  rw [show P h2 = True from eq_true (hP h2 (f1.trans f2)),LM]
  refine OZ o2 r2''.src (by simp) (by decide) (hs _) (hs _) f2 (by omega) fun v3 h3 o3 f3 _=>?_
  refine hK _ _ (f1.trans f3) ?_
  rw [List.length_append,List.map_append]; exact o3.row
def Cnt {α : Type} (h0 : H) (n0 : Int) (w : α -> Nat) (l : List α) (i : Nat) (a : AV) (h : H) : Prop:=∃ n : Int,a = .int .i64 n /\ n = n0 - (I0 w (l.take i) : Nat) /\ -4503599627370496 <= n /\ n0 <= 40000 /\ Fr [] h0 h
theorem Cnt.zero {α : Type} {h0 : H} {n0 : Int} {w : α -> Nat} {l : List α} (h1 : -4503599627370496 <= n0) (h2 : n0 <= 40000) (f : Fr [] h0 h) : Cnt h0 n0 w l 0 (.int .i64 n0) h:=⟨n0,rfl,by simp [I0],h1,h2,f⟩
theorem Cnt.fin {α : Type} {h0 : H} {n0 : Int} {w : α -> Nat} {l : List α} {a : AV} (c : Cnt h0 n0 w l l.length a h) : ∃ n : Int,a = .int .i64 n /\ n = n0 - (I0 w l : Nat) /\ -4503599627370496 <= n /\ n <= 40000 /\ Fr [] h0 h:=by
 obtain ⟨n,h1,h2,h3,h4,h5⟩:=c
 rw [List.take_length] at h2
 exact ⟨n,h1,h2,h3,by omega,h5⟩
theorem MK {n d : Int} (h1 : -4503599627370496 <= n) (h2 : n <= 40000) (hd : 0 <= d) (hb : d <= 4503599627370496) {Y : AV -> H -> Prop} {out : H -> Prop}
  (hX : out h) (hY : 0 <= n - d -> Y (.int .i64 (n - d)) h) :
  AA (binOp .sub .num (.int .i64 n) (.int .i64 d)) h fun t47 h=>AA (binOp .lss .num t47 (.int .i64 0)) h fun t49 h=>AC t49 (out h) (Y t47 h):=by
 have e : IntKind.i64.wrap (n - d) = n - d:=A0 (by omega) (by omega)
 rw [JN,e,AB,BO,AB]
 by_cases q : n - d < 0
 ·rw [decide_eq_true q,AZ]; exact hX
 ·rw [decide_eq_false q,AO]
  exact hY (by omega)
theorem Cnt.succ {α : Type} {h0 : H} {n0 : Int} {w : α -> Nat} {l : List α} {i : Nat} {x : α} (hx : l[i]? = some x) {n : Int} (hn : n = n0 - (I0 w (l.take i) : Nat)) {n' : Int} (hn' : n' = n - (w x : Nat)) (h1 : -4503599627370496 <= n') (h2 : n0 <= 40000) (f : Fr [] h0 h) : Cnt h0 n0 w l (i + 1) (.int .i64 n') h:=
 ⟨n',rfl,by rw [W6 w hx]; omega,h1,h2,f⟩
theorem Cnt.keep {α : Type} {h0 h' : H} {n0 : Int} {w : α -> Nat} {l : List α} {i : Nat} {a : AV} (c : Cnt h0 n0 w l i a h) (f : Fr [] h h') : Cnt h0 n0 w l i a h':=by
 obtain ⟨n,h1,h2,h3,h4,h5⟩:=c
 exact ⟨n,h1,h2,h3,h4,h5.trans f⟩
theorem Cnt.fr {α : Type} {h0 : H} {n0 : Int} {w : α -> Nat} {l : List α} {i : Nat} {a : AV} (c : Cnt h0 n0 w l i a h) : Fr [] h0 h:=by
 obtain ⟨n,h1,h2,h3,h4,h5⟩:=c; exact h5
theorem EP : reachBytes = 140737488351232:=rfl
set_option maxHeartbeats 1000000 in
theorem light_c {m : Img} {c : List AV} (r : imgR h m c) (ok : m.ok) (b3 : m.strs.length <= lim) (b4 : m.names.length <= lim) {K : AV -> H -> Prop} (hK : ∀ h' b,Fr [] h h' -> (b = true -> wImg m <= 40000) -> K (.bool b) h') : C 17 [.agg c] h K:=by
 refine run17 ?_
 have hl:=r.leaves
 have ec : (AV.agg c).cells = c:=rfl
 obtain ⟨vt,vs,vx,vn,vf,rfl,r1,r2,r3,r4,r5⟩:=r
 obtain ⟨⟨k1,k1'⟩,⟨k2,k2'⟩,⟨k3,k3'⟩,⟨k4,k4'⟩,⟨k5,k5'⟩,k6,k7⟩:=ok
 rw [EP] at k1 k2 k3 k4 k5
 have reach : ∀ {n : Nat},n <= 140737488351232 -> n <= reachBytes:=fun h=>by rw [EP]; exact h
 have out : ∀ {h'},Fr [] h h' -> K (.bool false) h':=fun f=>hK _ false f (by simp)
 unfold sh17 zL zF
 rw [ec]
 refine BH hl fun b hb=>?_
 have f0 : Fr [] h (h.set b (.live [vt,vs,vx,vn,vf,.int .i64 m.main,.int .i64 m.exn] 28 true)):=(Fr.refl _ _).set' hb
 have gb : (h.set b (.live [vt,vs,vx,vn,vf,.int .i64 m.main,.int .i64 m.exn] 28 true)).get b = some (.live [vt,vs,vx,vn,vf,.int .i64 m.main,.int .i64 m.exn] 28 true):=H.get_same ..
 have r1:=r1.mono f0 fun _ _ _=>tyR.fr f0
 have r2:=r2.mono f0 fun _ _ _=>shR.fr f0
 have r3:=r3.mono f0 fun _ _ _ x=>x
 have r4:=r4.mono f0 fun _ _ _ x=>x
 have r5:=r5.mono f0 fun _ _ _=>fnR.fr f0
 generalize h.set b (.live [vt,vs,vx,vn,vf,.int .i64 m.main,.int .i64 m.exn] 28 true) = h1 at *
 have cb : ∀ {h5 : H},Fr [] h1 h5 -> ∀ o v,([vt,vs,vx,vn,vf,AV.int .i64 m.main,.int .i64 m.exn] : List AV)[o]? = some v -> h5.cell b o = some v:=fun f o v e=>by rw [AD (f b _ (by simp) gb)]; exact e
 have w1 : IntKind.i64.wrap (40000 - (m.types.length : Int)) = 40000 - m.types.length:=A0 (by omega) (by omega)
 have w2 : IntKind.i64.wrap (40000 - (m.types.length : Int) - m.shapes.length) = 40000 - m.types.length - m.shapes.length:=A0 (by omega) (by omega)
 have w3 : IntKind.i64.wrap (40000 - (m.types.length : Int) - m.shapes.length - m.strs.length) = 40000 - m.types.length - m.shapes.length - m.strs.length:=A0 (by omega) (by omega)
 have w4 : IntKind.i64.wrap (40000 - (m.types.length : Int) - m.shapes.length - m.strs.length - m.names.length) = 40000 - m.types.length - m.shapes.length - m.strs.length - m.names.length:=A0 (by omega) (by omega)
 have w5 : IntKind.i64.wrap (40000 - (m.types.length : Int) - m.shapes.length - m.strs.length - m.names.length - m.fns.length) = 40000 - m.types.length - m.shapes.length - m.strs.length - m.names.length - m.fns.length:=A0 (by omega) (by omega)
 have fR:=Fr.refl [] h1
 refine BC (cb fR 0 _ rfl) ?_
 rw [r1.len,AB,JN,w1,AB]
 refine BC (cb fR 1 _ rfl) ?_
 rw [r2.len,AB,JN,w2,AB]
 refine BC (cb fR 2 _ rfl) ?_
 rw [r3.len,AB,JN,w3,AB]
 refine BC (cb fR 3 _ rfl) ?_
 rw [r4.len,AB,JN,w4,AB]
 refine BC (cb fR 4 _ rfl) ?_
 rw [r5.len,AB,JN,w5,AB]
 obtain ⟨n0,hn0⟩ : ∃ n0 : Int,40000 - (m.types.length : Int) - m.shapes.length - m.strs.length - m.names.length - m.fns.length = n0:=⟨_,rfl⟩
 rw [hn0]
 refine AI (fun (J : AV -> H -> Prop)=>∀ n h',Fr [] h1 h' -> n = n0 - (I0 wTy m.types : Nat) -> -4503599627370496 <= n -> n <= 40000 -> J (.int .i64 n) h') ?_ fun J hJ=>?_
 ·intro n h2 f2 e2 e2' e2''
  refine AI (fun (J : AV -> H -> Prop)=>∀ n' h',Fr [] h1 h' -> n' = n - (I0 wShp m.shapes : Nat) -> -4503599627370496 <= n' -> n' <= 40000 -> J (.int .i64 n') h') ?_ fun J hJ=>?_
  ·intro n3 h3 f3 e3 e3' e3''
   refine AI (fun (J : AV -> H -> Prop)=>∀ n' h',Fr [] h1 h' -> n' = n3 - (I0 wStr (m.strs ++ m.names) : Nat) -> -4503599627370496 <= n' -> n' <= 40000 -> J (.int .i64 n') h') ?_ fun J hJ=>?_
   ·intro n4 h4 f4 e4 e4' e4''
    refine AI (fun (J : AV -> H -> Prop)=>∀ n' h',Fr [] h1 h' -> n' = n4 - (I0 wFn m.fns : Nat) -> J (.int .i64 n') h') ?_ fun J hJ=>?_
    ·intro n5 h5 f5 e5
     rw [b_geq,AB]
     refine hK h5 _ (f0.trans f5) fun q=>?_
     have q:=of_decide_eq_true q
     unfold wImg; omega
    ·refine BC (cb f4 4 _ rfl) ?_
     rw [r5.len,AB]
     refine bZ (h0:=h1) (esz:=4) (ty:=39) (zs:=[.nilsl,.int .i64 0,.int .i64 0,.nilsl]) (Rel:=fnR) (fun r=>fnR.leaves r) rfl rfl r5 (reach k5) (Inv:=Cnt h1 n4 wFn m.fns) (Cnt.zero e4' e4'' f4) (fun i a h i1=>i1.fr) (fun i a h h' i1 f=>i1.keep f) (fun a h2 i1=>?_) ?_
     ·obtain ⟨n,rfl,e,_,_,f⟩:=i1.fin; exact hJ n h2 f e
     ·rintro N i x a hx en h5 d c ⟨n,rfl,en1,en2,en3,f5⟩ gd re hc hN
      obtain ⟨vp,vb,rfl,q1,q2⟩:=re
      obtain ⟨o1,o2,o3,o4,o5⟩:=k5' x (List.mem_of_getElem? hx)
      have o1:=o1.1
      rw [EP] at o1 o4
      have cd : ∀ {h6 : H},Fr [] h5 h6 -> ∀ o w,([vp,AV.int .i64 x.result,.int .i64 x.slots,vb] : List AV)[o]? = some w -> h6.cell d o = some w:=fun f o w e=>by rw [AD (f d _ (by simp) gd)]; exact e
      have ea : IntKind.i64.wrap ((x.params.length : Int) + x.blocks.length) = x.params.length + x.blocks.length:=A0 (by omega) (by omega)
      refine BC (cd (Fr.refl _ _) 0 _ rfl) ?_
      rw [q1.len,AB]
      refine BC (cd (Fr.refl _ _) 3 _ rfl) ?_
      rw [q2.len,AB,BS,ea,AB]
      refine MK (d:=(x.params.length : Int) + x.blocks.length) en2 (by omega) (by omega) (by omega) ?_ fun hge=>?_
      ·exact out (f0.trans f5)
      refine BC (cd (Fr.refl _ _) 3 _ rfl) ?_
      rw [q2.len,AB]
      refine bZ (h0:=h1) (esz:=2) (ty:=42) (zs:=[.nilsl,.nilsl]) (Rel:=blkR) (fun r=>blkR.leaves r) rfl rfl q2 (reach o4) (Inv:=Cnt h1 (n - ((x.params.length : Int) + x.blocks.length)) wBlk x.blocks) (Cnt.zero (by omega) (by omega) f5) (fun i a h i1=>i1.fr) (fun i a h h' i1 f=>i1.keep f) (fun a h2 i1=>?_) ?_
      ·obtain ⟨n',rfl,e,e',_,f⟩:=i1.fin
       exact hN _ h2 (Cnt.succ hx en1 (by unfold wFn; omega) e' en3 f)
      ·rintro N i y a hy en h6 d c ⟨n,rfl,en1,en2,en3,f6⟩ gd re hc hN
       obtain ⟨vi,vc,rfl,p1,p2⟩:=re
       obtain ⟨u1,u2,u3⟩:=o5 y (List.mem_of_getElem? hy)
       have u1:=u1.1
       rw [EP] at u1 u2
       have cd : ∀ {h7 : H},Fr [] h6 h7 -> ∀ o w,([vi,vc] : List AV)[o]? = some w -> h7.cell d o = some w:=fun f o w e=>by rw [AD (f d _ (by simp) gd)]; exact e
       have ea : IntKind.i64.wrap ((y.inn.length : Int) + y.code.length) = y.inn.length + y.code.length:=A0 (by omega) (by omega)
       refine BC (cd (Fr.refl _ _) 0 _ rfl) ?_
       rw [p1.len,AB]
       refine BC (cd (Fr.refl _ _) 1 _ rfl) ?_
       rw [p2.len,AB,BS,ea,AB]
       refine MK (d:=(y.inn.length : Int) + y.code.length) en2 (by omega) (by omega) (by omega) ?_ fun hge=>?_
       ·exact out (f0.trans f6)
       refine BC (cd (Fr.refl _ _) 1 _ rfl) ?_
       rw [p2.len,AB]
       refine cA (h0:=h1) (esz:=9) (ty:=55) (zs:=[.int .i64 0,.int .i64 0,.int .i64 0,.int .i64 0,.int .i64 0,.int .i64 0,.nilsl,.nilsl,.nilsl]) (Rel:=insR) (fun r=>insR.leaves r) rfl rfl p2 (reach u2) (Inv:=Cnt h1 (n - ((y.inn.length : Int) + y.code.length)) wIns y.code) (Cnt.zero (by omega) (by omega) f6) (fun i a h i1=>i1.fr) (fun i a h h' i1 f=>i1.keep f) (fun a h2 i1=>?_) ?_
       ·obtain ⟨n',rfl,e,e',_,f⟩:=i1.fin
        exact hN _ h2 (Cnt.succ hy en1 (by unfold wBlk; omega) e' en3 f)
       ·rintro N i z a hz en h7 d c ⟨n,rfl,en1,en2,en3,f7⟩ gd re hc hN
        obtain ⟨vl,vm,vv,rfl,z1,z2,z3⟩:=re
        obtain ⟨_,t1,t2,t3⟩:=u3 z (List.mem_of_getElem? hz)
        have t1:=t1.1
        have t2:=t2.1
        have t3:=t3.1
        rw [EP] at t1 t2 t3
        have cd : ∀ o w,([AV.int .i64 z.op,.int .i64 z.d,.int .i64 z.a,.int .i64 z.b,.int .i64 z.c,.int .i64 z.n,vl,vm,vv] : List AV)[o]? = some w -> h7.cell d o = some w:=fun o w e=>by rw [AD gd]; exact e
        have ea : IntKind.i64.wrap ((z.l.length : Int) + z.m.length) = z.l.length + z.m.length:=A0 (by omega) (by omega)
        have eb : IntKind.i64.wrap ((z.l.length : Int) + z.m.length + z.live.length) = z.l.length + z.m.length + z.live.length:=A0 (by omega) (by omega)
        refine BC (cd 6 _ rfl) ?_
        rw [z1.len,AB]
        refine BC (cd 7 _ rfl) ?_
        rw [z2.len,AB,BS,ea,AB]
        refine BC (cd 8 _ rfl) ?_
        rw [z3.len,AB,BS,eb,AB]
        refine MK (d:=(z.l.length : Int) + z.m.length + z.live.length) en2 (by omega) (by omega) (by omega) ?_ fun hge=>?_
        ·exact out (f0.trans f7)
        rw [BS,en,AB]
        exact hN _ h7 (Cnt.succ hz en1 (by unfold wIns; omega) (by omega) en3 f7)
   ·refine BC (cb f3 2 _ rfl) ?_
    refine BC (cb f3 3 _ rfl) ?_
    refine W5 ((HW r3).fr f3) ((HW r4).fr f3) b3 b4 (fun h' f'=>?_) fun v h4 f4 rv=>?_
    ·rw [E3,Nat.zero_add,cb (f3.trans f') 3 _ rfl]; rfl
    ·rw [rv.len,AB]
     have f14:=f3.trans f4
     refine acc1_r (h0:=h4) rv (by rw [EP]; unfold lim at b3 b4; simp only [List.length_append]; omega) (Inv:=Cnt h4 n3 wStr (m.strs ++ m.names)) (Cnt.zero e3' e3'' (Fr.refl _ _)) (fun i a h i1=>i1.fr) (fun a h2 i1=>?_) ?_
     ·obtain ⟨n,rfl,e,e',e'',f⟩:=i1.fin; exact hJ n h2 (f14.trans f) e e' e''
     ·rintro N i x a hx en h5 ⟨n,rfl,en1,en2,en3,f5⟩ hN
      have hx' : x.length <= 140737488351232:=by
       rw [<- EP]
       rcases List.mem_append.1 (List.mem_of_getElem? hx) with q | q
       ·exact k3' x q
       ·exact k4' x q
      rw [show AF true (.str x) = some (.int .i64 x.length) from rfl,AB]
      refine MK (d:=(x.length : Int)) en2 (by omega) (by omega) (by omega) ?_ fun hge=>?_
      ·exact out ((f0.trans f14).trans f5)
      rw [BS,en,AB]
      exact hN _ h5 (Cnt.succ hx en1 rfl (by omega) en3 f5)
  ·refine BC (cb f2 1 _ rfl) ?_
   rw [r2.len,AB]
   refine cA (h0:=h1) (esz:=3) (ty:=61) (zs:=[.int .i64 0,.nilsl,.str []]) (Rel:=shR) (fun r=>shR.leaves r) rfl rfl r2 (reach k2) (Inv:=Cnt h1 n wShp m.shapes) (Cnt.zero e2' e2'' f2) (fun i a h i1=>i1.fr) (fun i a h h' i1 f=>i1.keep f) (fun a h2 i1=>?_) ?_
   ·obtain ⟨n,rfl,e,e',e'',f⟩:=i1.fin; exact hJ n h2 f e e' e''
   ·rintro N i x a hx en h5 d c ⟨n,rfl,en1,en2,en3,f5⟩ gd re hc hN
    obtain ⟨v,rfl,rr⟩:=re
    obtain ⟨o1,o2,o3⟩:=k2' x (List.mem_of_getElem? hx)
    have o2:=o2.1
    rw [EP] at o2 o3
    have cd : ∀ o w,([AV.int .i64 x.kind,v,.str x.name] : List AV)[o]? = some w -> h5.cell d o = some w:=fun o w e=>by rw [AD gd]; exact e
    have ea : IntKind.i64.wrap ((x.fs.length : Int) + x.name.length) = x.fs.length + x.name.length:=A0 (by omega) (by omega)
    refine BC (cd 1 _ rfl) ?_
    rw [rr.len,AB]
    refine BC (cd 2 _ rfl) ?_
    rw [show AF true (.str x.name) = some (.int .i64 x.name.length) from rfl,AB,BS,ea,AB]
    refine MK (d:=(x.fs.length : Int) + x.name.length) en2 (by omega) (by omega) (by omega) ?_ fun hge=>?_
    ·exact out (f0.trans f5)
    rw [BS,en,AB]
    exact hN _ h5 (Cnt.succ hx en1 (by unfold wShp; omega) (by omega) en3 f5)
 ·refine BC (cb fR 0 _ rfl) ?_
  rw [r1.len,AB]
  refine cA (h0:=h1) (esz:=2) (ty:=46) (zs:=[.bool false,.nilsl]) (Rel:=tyR) (fun r=>tyR.leaves r) rfl rfl r1 (reach k1) (Inv:=Cnt h1 n0 wTy m.types) (Cnt.zero (by omega) (by omega) fR) (fun i a h i1=>i1.fr) (fun i a h h' i1 f=>i1.keep f) (fun a h2 i1=>?_) ?_
  ·obtain ⟨n,rfl,e,e',e'',f⟩:=i1.fin; exact hJ n h2 f e e' e''
  ·rintro N i x a hx en h5 d c ⟨n,rfl,en1,en2,en3,f5⟩ gd re hc hN
   obtain ⟨v,rfl,rr⟩:=re
   have o2:=(k1' x (List.mem_of_getElem? hx)).1
   rw [EP] at o2
   have cd : ∀ o w,([AV.bool x.imm,v] : List AV)[o]? = some w -> h5.cell d o = some w:=fun o w e=>by rw [AD gd]; exact e
   refine BC (cd 1 _ rfl) ?_
   rw [rr.len,AB]
   refine MK (d:=(x.sh.length : Int)) en2 (by omega) (by omega) (by omega) ?_ fun hge=>?_
   ·exact out (f0.trans f5)
   rw [BS,en,AB]
   exact hN _ h5 (Cnt.succ hx en1 (by unfold wTy; omega) (by omega) en3 f5)
end
section
variable {PK : H -> Prop} {h : H}
theorem TI {ls : List (List AV)} {l : List AV} {m : Img} (hs : Short lim ls) (hl : l ∈ ls) (r : imgR h m l) : m.strs.length <= lim /\ m.names.length <= lim:=by
 obtain ⟨vt,vs,vx,vn,vf,rfl,_,_,r3,r4,_⟩:=r
 have one : ∀ {v : AV} {L : List (List UInt8)},RowOf h 1 stR v L -> (v ∈ ([vt,vs,vx,vn,vf,.int .i64 m.main,.int .i64 m.exn] : List AV)) -> L.length <= lim:=by
  intro v L r hv
  obtain ⟨_,_,_,_,r⟩:=r
  rcases r.2 with ⟨q,_⟩ | ⟨b,off,cap,rfl,_,_⟩
  ·rw [q]; exact Nat.zero_le _
  ·exact hs _ hl b off _ cap hv
 exact ⟨one r3 (by simp),one r4 (by simp)⟩
theorem YH {m : Img} {c : List AV} (rm : imgR h m c) (ok : m.ok) (b3 : m.strs.length <= lim) (b4 : m.names.length <= lim) {K : AV -> H -> Prop} (hK : ∀ h',Fr [] h h' -> K (.bool true) h') : DP PK 7 [.agg c] h K:=by
 refine runB7 ?_
 unfold sh7 zT zE zU zV
 refine B8 rm fun p h1 f1 hp gp rm1=>?_
 have hcn:=rm.ln
 have R : ∀ h',Fr [] h1 h' -> h'.read p 0 7 = some c /\ imgR h' m c:=fun h' f=>⟨AR (f p _ (by simp) gp) hcn,rm1.fr f⟩
 simp only [go_sem,reduceIte,(R h1 (Fr.refl _ _)).1]
 refine TV (light_c rm1 ok b3 b4 fun h2 lt f2 _=>?_)
 cases lt with
 | false=>
  simp only [go_sem,reduceIte]
  exact N4 fun h' f'=>hK h' ((f1.trans f2).trans f')
 | true=>
  simp only [go_sem,reduceIte,(R h2 f2).1]
  refine KZ (R h2 f2).2 ok fun h3 f3=>?_
  have f3:=f2.trans f3
  unfold IQ
  simp only [go_sem,reduceIte,List.getElem?_cons_zero,List.getElem?_cons_succ,(R h3 f3).1]
  refine XS (R h3 f3).2 ok fun h4 f4=>?_
  have f4:=f3.trans f4
  unfold IQ
  simp only [go_sem,reduceIte,List.getElem?_cons_zero,List.getElem?_cons_succ,(R h4 f4).1]
  refine NM (R h4 f4).2 ok fun h5 f5=>?_
  have f5:=f4.trans f5
  simp only [go_sem,reduceIte,(R h5 f5).1]
  refine RW (R h5 f5).2 ok fun h6 f6=>?_
  have f6:=f5.trans f6
  simp only [go_sem,reduceIte,(R h6 f6).1]
  refine RP (R h6 f6).2 ok fun h7 f7=>?_
  have f7:=f6.trans f7
  cases hz : (GW m (CI m)).2.2.2 with
  | true=>
   simp only [go_sem,reduceIte,decide_true]
   refine N4 fun h8 f8=>?_
   exact hK h8 ((f1.trans f7).trans f8)
  | false=>
   simp only [go_sem,reduceIte,decide_true]
   refine N4 fun h8 f8=>?_
   exact hK h8 ((f1.trans f7).trans f8)
end
section
variable {P : Program} {w : World} {H' : Type} {enc : TypeId × Value -> H'} {pv : Value}
theorem law_callD {bd : Nat} (hbd : bd <= reachBytes) {S : Sp} {tab : Nat -> Option AN} (htab : ∀ f i,tab f = some i -> NW P f i = true) (hmix : P.follows .mixedOrders = true) (hm : UO P pv S.must) (hh : UP P pv S.hold S.okTy) (hl : RE P S)
  {f : Nat} {ts : List TypeId} (ss : List Sh) (hok : O5 P ts ss = true) (contract : ∀ (h : H) (m : Mem) ls,(∀ b,m.get b = h.get b) -> SitsA bd m ss ls -> callB S tab AU f (OY ss ls) h yes) {r : Reach} {b : Nat} {args : Array Value} {ds : List (DataW H')} {p : List MemPlace}
  (hsz : ∀ k ∈ DataW.weightsEach P ts ds,k <= bd) (hA : DataW.TrodAll enc P w 0 (fun _=>true) true ts args.toList ds p) (hval : ∀ (j : Nat) t v,ts[j]? = some t -> args.toList[j]? = some v -> Value.okWide P w r b t v) :
  Calls P f args w fun e W'=>e = .returned (.bool true) /\ Below w.heap.size w W':=by
 obtain ⟨ρ,m,ls,_,g2,_,g4,g5⟩:=P2 (base:=w.heap.size) ts ss args.toList ds p hok hsz hA hval _ _ (MR_none P w) (fun b cs e own h=>by unfold Mem.get T.get at h; cases h)
 have hok : m.ok:=fun b hb=>by
  cases hg : m.get b with
  | none=>rfl
  | some o=>have:=(g2.dom b o hg).1; omega
 obtain ⟨k,⟨v,m',h',h1,_,_,rfl⟩ | ⟨_,_,_,_,_,x⟩⟩:=contract ⟨m.get,m.next,hok⟩ m ls (fun _=>rfl) g5 m ⟨hok,fun _=>rfl⟩
 ·have h2:=((OK (base:=w.heap.size) htab hmix hm hh hl k).1 _ _ _ _ _ h1).2 ρ w args.toList g4 g2
  simp only [Array.toArray_toList] at h2
  refine h2.mono ?_
  rintro e w' ⟨ρ',u,_,rfl,hv,_,hb⟩
  simp only [VR] at hv
  subst hv
  exact ⟨rfl,hb⟩
 ·exact x.elim
end
section
variable {h : H} {bd : Nat} {M : Mem}
theorem SS {e : Nat} (he : 0 < e) : ∀ {a b : List (List AV)},(∀ c ∈ a,c.length = e) -> (∀ c ∈ b,c.length = e) -> a.flatten = b.flatten -> a = b
 | [],[],_,_,_=>rfl
 | [],y :: b,_,hb,q=>by
  have q:=congrArg List.length q
  have:=hb y (by simp)
  rw [List.flatten_cons,List.length_append] at q
  rw [List.flatten_nil,List.length_nil] at q; omega
 | x :: a,[],ha,_,q=>by
  have q:=congrArg List.length q
  have:=ha x (by simp)
  rw [List.flatten_cons,List.length_append,List.flatten_nil,List.length_nil] at q; omega
 | x :: a,y :: b,ha,hb,q=>by
  rw [List.flatten_cons,List.flatten_cons] at q
  obtain ⟨q1,q2⟩:=List.append_inj q (by rw [ha x (by simp),hb y (by simp)])
  rw [q1,SS he (fun c hc=>ha c (by simp [hc])) (fun c hc=>hb c (by simp [hc])) q2]
theorem NR {α : Type} (hm : ∀ b,M.get b = h.get b) {s : Sh} {esz : Nat} (hs : s.size = esz) (hp : 0 < esz) {Rel : α -> List AV -> Prop} {v : AV} {l : List α} (r : RowOf h esz Rel v l) (q : Sits bd M (.sl s) [v]) : l.length <= bd /\ ∀ x ∈ l,∃ c,Rel x c /\ Sits bd M s c:=by
 simp only [Sits] at q
 obtain ⟨css,h1,h2,h3,hl,r⟩:=r
 rcases q with q | ⟨b,ei,cs2,q1,q2,q3,q4⟩
 ·injection q with q _
  subst q
  rcases r with ⟨r,_⟩ | ⟨b,off,cap,r,_⟩
  ·obtain rfl:=List.eq_nil_of_length_eq_zero r
   exact ⟨Nat.zero_le _,fun x hx=>by cases hx⟩
  ·cases r
 ·injection q1 with q1 _
  subst q1
  rcases r with ⟨_,r⟩ | ⟨b',off,cap,r,_,r2⟩
  ·cases r
  injection r with e1 e2 e3 e4
  subst e1; subst e2
  rw [hm] at q2
  have hsz : ∀ c ∈ cs2,c.length = esz:=fun c hc=>by rw [<- hs]; exact (q4 c hc).facts.2
  have hf:=EB hsz
  have h5:=AR q2 (n:=l.length * esz) (by rw [hf,e3])
  rw [r2] at h5
  injection h5 with h5
  have e:=SS hp h3 hsz h5
  subst e
  refine ⟨by omega,fun x hx=>?_⟩
  obtain ⟨i,hi⟩:=List.getElem?_of_mem hx
  have hi':=(List.getElem?_eq_some_iff.1 hi).1
  obtain ⟨c,hc⟩:=BG (show i < css.length by omega)
  exact ⟨c,h2 i x c hi hc,q4 c (List.mem_of_getElem? hc)⟩
theorem EN {s : Sh} {ss : List Sh} {v : AV} {l : List AV} (hs : s.size = 1) (q : SitsL bd M (s :: ss) (v :: l)) : Sits bd M s [v] /\ SitsL bd M ss l:=by
 simp only [SitsL] at q
 obtain ⟨l1,l2,e,q1,q2⟩:=q
 have hl:=q1.facts.2
 rw [hs] at hl
 match l1,hl with
 | [y],_=>
  injection e with e1 e2
  subst e1; subst e2
  exact ⟨q1,q2⟩
theorem bH (hm : ∀ b,M.get b = h.get b) {m : Img} {l : List AV} (r : imgR h m l) (q : Sits bd M shM l) : m.fns.length <= bd /\ ∀ f ∈ m.fns,f.blocks.length <= bd /\ ∀ b ∈ f.blocks,b.code.length <= bd:=by
 obtain ⟨vt,vs,vx,vn,vf,rfl,_,_,_,_,r⟩:=r
 unfold shM at q
 simp only [Sits] at q
 obtain ⟨_,q⟩:=EN (s:=.sl shT) rfl q
 obtain ⟨_,q⟩:=EN (s:=.sl shS) rfl q
 obtain ⟨_,q⟩:=EN (s:=.sl .str) rfl q
 obtain ⟨_,q⟩:=EN (s:=.sl .str) rfl q
 obtain ⟨q,_⟩:=EN (s:=.sl shF) rfl q
 obtain ⟨hl,he⟩:=NR hm (esz:=4) rfl (by decide) r q
 refine ⟨hl,fun f hf=>?_⟩
 obtain ⟨c,⟨vp,vb,rfl,_,rb⟩,q⟩:=he f hf
 unfold shF at q
 simp only [Sits] at q
 obtain ⟨_,q⟩:=EN (s:=.sl (.int .i64)) rfl q
 obtain ⟨_,q⟩:=EN (s:=.int .i64) rfl q
 obtain ⟨_,q⟩:=EN (s:=.int .i64) rfl q
 obtain ⟨q,_⟩:=EN (s:=.sl XD) rfl q
 obtain ⟨hl,he⟩:=NR hm (esz:=2) rfl (by decide) rb q
 refine ⟨hl,fun b hb=>?_⟩
 obtain ⟨c,⟨vi,vc,rfl,_,rc⟩,q⟩:=he b hb
 unfold XD at q
 simp only [Sits] at q
 obtain ⟨_,q⟩:=EN (s:=.sl (.int .i64)) rfl q
 obtain ⟨q,_⟩:=EN (s:=.sl shI) rfl q
 exact (NR hm (esz:=9) rfl (by decide) rc q).1
end
theorem OC : ∀ {css : List (List AV)} {e i j : Nat} {c : List AV} {v : AV},(∀ c ∈ css,c.length = e) -> css[i]? = some c -> j < e -> css.flatten.set (i * e + j) v = (css.set i (c.set j v)).flatten
 | [],e,i,j,c,v,_,h,_=>by simp at h
 | y :: css,e,0,j,c,v,he,h,hj=>by
  simp at h; subst h
  have:=he y (by simp)
  rw [Nat.zero_mul,Nat.zero_add,List.flatten_cons,List.set_append_left _ _ (by omega),List.set_cons_zero,List.flatten_cons]
 | y :: css,e,i + 1,j,c,v,he,h,hj=>by
  have hy:=he y (by simp)
  rw [List.flatten_cons,List.set_append_right _ _ (by rw [hy,Nat.add_mul]; omega),hy,show (i + 1) * e + j - e = i * e + j by rw [Nat.add_mul]; omega,OC (fun d hd=>he d (by simp [hd])) (by simpa using h) hj,List.set_cons_succ,List.flatten_cons]
section
variable {PK : H -> Prop} {h h' : H}
theorem RowOf.set1 {α : Type} {esz b e : Nat} {cap : Cap} {o : Bool} {R R' : α -> List AV -> Prop} {css : List (List AV)} {l : List α} {x' : α} {i : Nat} {c' : List AV} (h1 : css.length = l.length) (h2 : ∀ (i : Nat) x c,l[i]? = some x -> css[i]? = some c -> R x c) (h3 : ∀ c ∈ css,c.length = esz)
  (hc' : c'.length = esz) (hx : R' x' c') (hr : ∀ y ∈ l,∀ d,R y d -> R' y d) (hg : h'.get b = some (.live (css.set i c').flatten e o)) (hf : cap.fits esz = true) : RowOf h' esz R' (.sl b 0 l.length cap) (l.set i x'):=by
 have h3' : ∀ c ∈ css.set i c',c.length = esz:=fun c hc=>(List.mem_or_eq_of_mem_set hc).elim (h3 c) (fun e=>e ▸ hc')
 have hn : (css.set i c').flatten.length = (l.set i x').length * esz:=by rw [EB h3']; simp [h1]
 refine ⟨css.set i c',by simp [h1],fun k y d hy hd=>?_,h3',hn,.inr ⟨b,0,cap,by simp,hf,AR hg hn⟩⟩
 rw [List.getElem?_set] at hy hd
 by_cases q : i = k
 ·subst q
  rw [if_pos rfl] at hy hd
  split at hy
  ·split at hd
   ·injection hy with hy; injection hd with hd
    subst hy; subst hd; exact hx
   ·cases hd
  ·cases hy
 ·rw [if_neg q] at hy hd
  exact hr y (List.mem_of_getElem? hy) d (h2 k y d hy hd)
theorem RowOf.keep {α : Type} {esz : Nat} {R R' : α -> List AV -> Prop} {b n : Nat} {cap : Cap} {o : Obj} {l : List α} (r : RowOf h esz R (.sl b 0 n cap) l) (g : h.get b = some o) (g' : h'.get b = some o) (hr : ∀ x c,R x c -> R' x c) : RowOf h' esz R' (.sl b 0 n cap) l:=by
 obtain ⟨css,h1,h2,h3,r⟩:=r
 refine ⟨css,h1,fun i x c hx hc=>hr x c (h2 i x c hx hc),h3,r.mono fun b' off cap' o' e hg=>?_⟩
 injection e with e
 subst e
 rw [g] at hg; injection hg with hg
 rw [g',hg]
theorem UA {α : Type} {R : α -> List AV -> Prop} {l : List α} {ty esz bytes q : Nat} {y : AV} (g : h'.get q = some (.live [] ty true)) (hq : h.get q = none) (f : Fr [] h h') (r : RowOf h' esz R y l) (lv : ∀ x c,R x c -> leaves c = true) (hb : l.length * bytes <= AQ) {K : AV -> H -> Prop}
  (hK : ∀ (b : Nat) (cap : Cap) (css : List (List AV)) (h2 : H),cap.fits esz = true -> h.get b = none -> h2.get b = some (.live css.flatten ty true) -> css.length = l.length -> (∀ (i : Nat) (x : α) (c : List AV),l[i]? = some x -> css[i]? = some c -> R x c) -> (∀ c ∈ css,c.length = esz) -> Fr [] h h2 -> RowOf h2 esz R (.sl b 0 l.length cap) l -> K (.sl b 0 l.length cap) h2) : A4 h' ty esz bytes (.sl q 0 0 (.exact 0)) y K:=by
 obtain ⟨css,h1,h2,h3,r⟩:=r
 have hfl : css.flatten.length = l.length * esz:=by rw [EB h3,h1]
 have lf : leaves css.flatten = true:=DS fun v hv=>by
  obtain ⟨c,hc,hv⟩:=List.mem_flatten.1 hv
  obtain ⟨i,hi⟩:=List.getElem?_of_mem hc
  have hi':=(List.getElem?_eq_some_iff.1 hi).1
  obtain ⟨x,hx⟩:=BG (show i < l.length by omega)
  exact C9 (lv x c (h2 i x c hx hi)) v hv
 have out : ∀ b cap (h2' : H),cap.fits esz = true -> h2'.get b = some (.live css.flatten ty true) -> RowOf h2' esz R (.sl b 0 l.length cap) l:=fun b cap h2' hc hg=>⟨css,h1,h2,h3,hfl,.inr ⟨b,0,cap,rfl,hc,AR hg hfl⟩⟩
 unfold A4
 rw [r.src]
 simp only
 by_cases z : l.length = 0
 ·rw [if_pos z]
  have e : css.flatten = []:=List.eq_nil_of_length_eq_zero (by rw [hfl,z,Nat.zero_mul])
  have g' : h'.get q = some (.live css.flatten ty true):=by rw [e]; exact g
  have:=hK q (.exact 0) css h' rfl hq g' h1 h2 h3 f (out q _ h' rfl g')
  rwa [z] at this
 ·rw [if_neg z,if_neg (by omega)]
  refine ⟨by rw [Nat.zero_add]; exact hb,?_⟩
  rw [Nat.zero_mul,show h'.read q 0 0 = some [] from H.read_eq g (by simp) rfl]
  simp only [List.nil_append,Nat.zero_add]
  refine ⟨lf,fun b hb=>?_⟩
  have g2 : (h'.set b (.live css.flatten ty true)).get b = some (.live css.flatten ty true):=H.get_same ..
  exact hK b _ css _ (by simp [Cap.fits]) (f.free hb) g2 h1 h2 h3 (f.set' (f.free hb)) (out b _ _ (by simp [Cap.fits]) g2)
theorem st_1 {b e off : Nat} {cs : List AV} {v : AV} (hb : h.get b = some (.live cs e true)) (ho : off < cs.length) (hv : v.leaf = true) (hc : v.cells = [v]) : stA h 1 (.ptr b off) v = some (h.set b (.live (cs.set off v) e true)):=by
 rw [HY,hc]
 exact HS hb ho hv
end
section
variable {PK : H -> Prop} {h : H}
def putI (m : Img) (i : Nat) (f : Fn) (k : Nat) (b : Blk) (a : Nat) (x : Ins) : Img:={ m with fns:=m.fns.set i { f with blocks:=f.blocks.set k { b with code:=b.code.set a x } } }
theorem QQ {α : Type} {P : α -> Prop} {l : List α} {i : Nat} {x : α} (h : ∀ y ∈ l,P y) (hx : P x) : ∀ y ∈ l.set i x,P y:=fun y hy=>(List.mem_or_eq_of_mem_set hy).elim (h y) (fun e=>e ▸ hx)
theorem putI_ok {m : Img} {i : Nat} {f : Fn} {k : Nat} {b : Blk} {a : Nat} {x : Ins} (ok : m.ok) (hf : f.ok) (hb : b.ok) (hx : x.ok) : (putI m i f k b a x).ok:=by
 refine ⟨ok.1,ok.2.1,ok.2.2.1,ok.2.2.2.1,⟨by simp only [putI,List.length_set]; exact ok.2.2.2.2.1.1,?_⟩,ok.2.2.2.2.2⟩
 refine QQ ok.2.2.2.2.1.2 ⟨hf.1,hf.2.1,hf.2.2.1,by simp only [List.length_set]; exact hf.2.2.2.1,?_⟩
 exact QQ hf.2.2.2.2 ⟨hb.1,by simp only [List.length_set]; exact hb.2.1,QQ hb.2.2 hx⟩
set_option maxHeartbeats 2000000 in
theorem putI_c {h0 : H} (hf : Fr [] h0 h) {m : Img} {c : List AV} (rm : imgR h0 m c) (ok : m.ok) {x : Ins} {cx : List AV} (rx : insR h0 x cx) (ox : x.ok) (bf : m.fns.length <= lim) (bb : ∀ f ∈ m.fns,f.blocks.length <= lim /\ ∀ b ∈ f.blocks,b.code.length <= lim) {a : Int} (a0 : 0 <= a) (a1 : a <= 18446744073709551615) {K : AV -> H -> Prop}
  (hK : ∀ m' c' h',Fr [] h h' -> (∀ h2,Fr [] h0 h2 -> (∀ b o,h.get b = none -> h'.get b = some o -> h2.get b = some o) -> imgR h2 m' c') -> m'.ok -> m'.strs = m.strs -> m'.names = m.names -> K (.agg c') h') : DP PK 32 [.agg c,.agg cx,.int .u64 a] h K:=by
 have hmost : AQ = 140737488355328:=rfl
 have elim' : lim = 68719476736:=rfl
 have i0 : ∀ n : Nat,(0 : Int) <= (n : Int):=fun n=>Int.natCast_nonneg n
 refine runB32 ?_
 unfold sh32 zL zF
 refine B8 (rm.fr hf) fun p h1 f1 hp gp rm1=>?_
 refine D2 ((rx.fr hf).fr f1) fun bx h2 f2 hbx gx rx2=>?_
 refine BH rfl fun q6 hq6=>?_
 have f3 : Fr [] h2 (h2.set q6 (.live [.nilsl,.nilsl,.nilsl,.nilsl,.nilsl,(.int .i64 0),(.int .i64 0)] 28 true)):=Fr.new hq6
 have gq : (h2.set q6 (.live [.nilsl,.nilsl,.nilsl,.nilsl,.nilsl,(.int .i64 0),(.int .i64 0)] 28 true)).get q6 = some (.live [.nilsl,.nilsl,.nilsl,.nilsl,.nilsl,(.int .i64 0),(.int .i64 0)] 28 true):=H.get_same ..
 generalize h2.set q6 (.live [.nilsl,.nilsl,.nilsl,.nilsl,.nilsl,(.int .i64 0),(.int .i64 0)] 28 true) = h3 at f3 gq ⊢
 have gp3:=(f2.trans f3) p _ (by simp) gp
 have gx3:=f3 bx _ (by simp) gx
 have f03:=(f1.trans f2).trans f3
 have hcn:=rm.ln
 have hcx:=rx.ln
 have lvc:=rm.leaves
 have npq : p ≠ q6:=by have:=f2 p _ (by simp) gp; intro e; subst e; rw [this] at hq6; cases hq6
 have hq0 : h.get q6 = none:=(f1.trans f2).free hq6
 have rm':=rm
 obtain ⟨vt,vs,vx,vn,vf,ec,m1,m2,m3,m4,m5⟩:=rm'
 have rd : ∀ h',Fr [] h3 h' -> h'.cell p 4 = some vf /\ RowOf h' 4 (fnR h0) vf m.fns:=fun h' f=>⟨by rw [AD (f p _ (by simp) gp3),ec]; rfl,m5.mono (hf.trans (f03.trans f)) fun _ _ _ x=>x⟩
 have hnl:=ok.2.2.2.2.1.1
 refine AI (fun (J : AV -> H -> Prop)=>∀ (n : Int) h',0 <= n -> n < 18446744073709551616 -> Fr [] h3 h' -> J (.int .u64 n) h') (fun n h4 n0 n1 f4=>?_) fun J hJ=>?_
 ·have gp4:=f4 p _ (by simp) gp3
  have gq4:=f4 q6 _ (by simp) gq
  by_cases z : n = 0
  ·subst z
   simp only [go_sem,reduceIte,Nat.reduceAdd,Nat.reduceSub,Nat.reduceMul,Nat.reducePow,Nat.reduceLT,Nat.reduceLeDiff,Nat.reduceEqDiff,Int.reduceAdd,Int.reduceSub,Int.reduceMul,Int.reduceNeg,Int.reducePow,Int.reduceLT,Int.reduceLE,Int.reduceEq,Int.reduceNe,Int.reduceToNat,AR gp4 hcn,DG (n:=7) gq4 rfl hcn lvc,AR (H.get_same ..) hcn]
   have f5:=(f03.trans f4).set' (o:=.live c 28 true) hq0
   exact hK m c _ f5 (fun h2 f _=>rm.fr f) ok rfl rfl
  ·have e1 : 0 <= a.tmod n:=Int.tmod_nonneg _ a0
   have e2 : a.tmod n < 18446744073709551616:=by
    rw [Int.tmod_eq_emod_of_nonneg a0]
    have:=Int.emod_lt_of_pos a (show 0 < n by omega)
    omega
   simp only [go_sem,reduceIte,Nat.reduceAdd,Nat.reduceSub,Nat.reduceMul,Nat.reducePow,Nat.reduceLT,Nat.reduceLeDiff,Nat.reduceEqDiff,Int.reduceAdd,Int.reduceSub,Int.reduceMul,Int.reduceNeg,Int.reducePow,Int.reduceLT,Int.reduceLE,Int.reduceEq,Int.reduceNe,Int.reduceToNat,z,b_rem z]
   generalize a.tmod n = a at e1 e2
   refine ⟨rfl,fun q1 hq1=>?_⟩
   have f5 : Fr [] h4 (h4.set q1 (.live [] 39 true)):=Fr.new hq1
   have g5 : (h4.set q1 (.live [] 39 true)).get q1 = some (.live [] 39 true):=H.get_same ..
   obtain ⟨p4,r5⟩:=rd _ (f4.trans f5)
   simp only [go_sem,reduceIte,Nat.reduceAdd,Nat.reduceSub,Nat.reduceMul,Nat.reducePow,Nat.reduceLT,Nat.reduceLeDiff,Nat.reduceEqDiff,Int.reduceAdd,Int.reduceSub,Int.reduceMul,Int.reduceNeg,Int.reducePow,Int.reduceLT,Int.reduceLE,Int.reduceEq,Int.reduceNe,Int.reduceToNat,p4]
   generalize h4.set q1 (.live [] 39 true) = h5 at f5 g5 r5 ⊢
   refine UA g5 hq1 f5 r5 (fun _ _ r=>r.leaves) (by omega) fun bF capF cssF h6 hF nF gF F1 F2 F3 f6 rF=>?_
   generalize hvF : AV.sl bF 0 m.fns.length capF = vF at rF ⊢
   have gp6:=f6 p _ (by simp) gp4
   have nFp : p ≠ bF:=fun e=>by subst e; rw [gp4] at nF; cases nF
   obtain ⟨c7,hc7⟩ : ∃ c7,c.set 4 vF = c7:=⟨_,rfl⟩
   simp only [go_sem,reduceIte,Nat.reduceAdd,Nat.reduceSub,Nat.reduceMul,Nat.reducePow,Nat.reduceLT,Nat.reduceLeDiff,Nat.reduceEqDiff,Int.reduceAdd,Int.reduceSub,Int.reduceMul,Int.reduceNeg,Int.reducePow,Int.reduceLT,Int.reduceLE,Int.reduceEq,Int.reduceNe,Int.reduceToNat,st_1 (v:=vF) gp6 (off:=4) (by omega) (by rw [<- hvF]; rfl) (by rw [<- hvF]; rfl),hc7]
   have gp7 : (h6.set p (.live c7 28 true)).get p = _:=H.get_same ..
   have o7 : ∀ k o,k ≠ p -> h6.get k = some o -> (h6.set p (.live c7 28 true)).get k = some o:=fun k o hk g=>by rw [H.get_other _ _ hk]; exact g
   have f7 : Fr [] h (h6.set p (.live c7 28 true)):=((f03.trans f4).trans f6).set' hp
   have nF0:=(f03.trans f4).free nF
   generalize h6.set p (.live c7 28 true) = h7 at gp7 o7 f7 ⊢
   have gF7:=o7 bF _ (Ne.symm nFp) gF
   have gq7:=o7 q6 _ (Ne.symm npq) (f6 q6 _ (by simp) gq4)
   have nxp : bx ≠ p:=fun e=>by subst e; rw [gp3] at gx3; cases gx3
   have gx7:=o7 bx _ nxp (f6 bx _ (by simp) (f4 bx _ (by simp) gx3))
   have rF7 : RowOf h7 4 (fnR h0) vF m.fns:=by rw [<- hvF] at rF ⊢; exact rF.keep gF gF7 fun _ _ x=>x
   have ec7 : c7 = [vt,vs,vx,vn,vF,.int .i64 m.main,.int .i64 m.exn]:=by rw [<- hc7,ec]; rfl
   have l7 : c7.length = 7:=by rw [ec7]; rfl
   have nFq : bF ≠ q6:=fun e=>by subst e; rw [gq4] at nF; cases nF
   have rd7 : ∀ h',Fr [] h7 h' -> h'.cell p 4 = some vF /\ RowOf h' 4 (fnR h0) vF m.fns:=fun h' f=>⟨by rw [AD (f p _ (by simp) gp7),ec7]; rfl,rF7.mono f fun _ _ _ x=>x⟩
   have mk : ∀ h' L,Fr [] h0 h' -> RowOf h' 4 (fnR h') vF L -> imgR h' { m with fns:=L } c7:=fun h' L f r=>⟨_,_,_,_,_,ec7,m1.mono f fun _ _ _=>tyR.fr f,m2.mono f fun _ _ _=>shR.fr f,m3.mono f fun _ _ _ x=>x,m4.mono f fun _ _ _ x=>x,r⟩
   have lv7 : leaves c7 = true:=(mk h7 _ (hf.trans f7) (rF7.mono (Fr.refl _ _) fun _ _ _ x=>x.fr (hf.trans f7))).leaves
   obtain ⟨p7,r7⟩:=rd7 h7 (Fr.refl _ _)
   clear rd
   refine AI (fun (J : H -> Prop)=>∀ h',Fr [] h7 h' -> J h') (fun h8 f8=>?_) fun J hJ=>?_
   ·have gp8:=f8 p _ (by simp) gp7
    have gq8:=f8 q6 _ (by simp) gq7
    have gF8:=f8 bF _ (by simp) gF7
    simp only [go_sem,reduceIte,Nat.reduceAdd,Nat.reduceSub,Nat.reduceMul,Nat.reducePow,Nat.reduceLT,Nat.reduceLeDiff,Nat.reduceEqDiff,Int.reduceAdd,Int.reduceSub,Int.reduceMul,Int.reduceNeg,Int.reducePow,Int.reduceLT,Int.reduceLE,Int.reduceEq,Int.reduceNe,Int.reduceToNat,AR gp8 l7,DG (n:=7) gq8 rfl l7 lv7,AR (H.get_same h8 q6 (.live c7 28 true)) l7]
    have fF:=(f7.trans f8).set' (o:=.live c7 28 true) hq0
    have r8:=(rd7 h8 f8).2
    rw [<- hvF] at r8 mk
    refine hK { m with fns:=m.fns } _ _ fF (fun h2 f g=>mk _ m.fns f (r8.keep gF8 (g bF _ nF0 (by rw [H.get_other _ _ nFq]; exact gF8)) fun _ _ x=>x.fr f)) ok rfl rfl
   ·simp only [go_sem,reduceIte,Nat.reduceAdd,Nat.reduceSub,Nat.reduceMul,Nat.reducePow,Nat.reduceLT,Nat.reduceLeDiff,Nat.reduceEqDiff,Int.reduceAdd,Int.reduceSub,Int.reduceMul,Int.reduceNeg,Int.reducePow,Int.reduceLT,Int.reduceLE,Int.reduceEq,Int.reduceNe,Int.reduceToNat,p7,r7.len]
    refine AS (m.fns.length + 1) (fun cn ls h'=>∃ (a : Int) (i : Nat),ls = [.int .u64 a,.int .i64 i] /\ 0 <= a /\ a < 18446744073709551616 /\ i <= m.fns.length /\ Fr [] h7 h' /\ cn = m.fns.length + 1 - i) ⟨a,0,rfl,e1,e2,by omega,Fr.refl _ _,rfl⟩ ?_
    clear e1 e2 a0 a1
    rintro cn ls h' ⟨a,i,rfl,a0,a1,hi,f',rfl⟩
    by_cases qq : (i : Int) < m.fns.length
    ·have hi' : i < m.fns.length:=by omega
     obtain ⟨f,hx⟩:=BG hi'
     have hfm:=List.mem_of_getElem? hx
     have okf:=ok.2.2.2.2.1.2 f hfm
     have en:=B0 i (by omega)
     obtain ⟨bb',bo,cf,z1,z2,z3,z4,z5⟩:=(rd7 h' f').2.el hx
     have hbl:=(bb f hfm).1
     simp only [go_sem,reduceIte,Nat.reduceAdd,Nat.reduceSub,Nat.reduceMul,Nat.reducePow,Nat.reduceLT,Nat.reduceLeDiff,Nat.reduceEqDiff,Int.reduceAdd,Int.reduceSub,Int.reduceMul,Int.reduceNeg,Int.reducePow,Int.reduceLT,Int.reduceLE,Int.reduceEq,Int.reduceNe,Int.reduceToNat,qq]
     refine AI (fun (J : AV -> H -> Prop)=>∀ (n : Int) h'',0 <= n -> n < 18446744073709551616 -> Fr [] h7 h'' -> J (.int .u64 n) h'') (fun n' h'' m0 m1 f''=>?_) fun J2 hJ2=>?_
     ·simp only [go_sem,reduceIte,Nat.reduceAdd,Nat.reduceSub,Nat.reduceMul,Nat.reducePow,Nat.reduceLT,Nat.reduceLeDiff,Nat.reduceEqDiff,Int.reduceAdd,Int.reduceSub,Int.reduceMul,Int.reduceNeg,Int.reducePow,Int.reduceLT,Int.reduceLE,Int.reduceEq,Int.reduceNe,Int.reduceToNat,en]
      exact ⟨m.fns.length + 1 - (i + 1),by omega,n',i + 1,rfl,m0,m1,by omega,f'',rfl⟩
     ·simp only [go_sem,reduceIte,Nat.reduceAdd,Nat.reduceSub,Nat.reduceMul,Nat.reducePow,Nat.reduceLT,Nat.reduceLeDiff,Nat.reduceEqDiff,Int.reduceAdd,Int.reduceSub,Int.reduceMul,Int.reduceNeg,Int.reducePow,Int.reduceLT,Int.reduceLE,Int.reduceEq,Int.reduceNe,Int.reduceToNat,z1,z4]
      refine BL rfl z3 rfl z2.leaves fun A h8 f8 hA gA=>?_
      have f8':=f'.trans f8
      obtain ⟨vp,vb,ecf,rp,rb⟩:=z2
      have a3 : h8.cell A 3 = some vb:=by rw [AD gA,ecf]; rfl
      simp only [go_sem,reduceIte,Nat.reduceAdd,Nat.reduceSub,Nat.reduceMul,Nat.reducePow,Nat.reduceLT,Nat.reduceLeDiff,Nat.reduceEqDiff,Int.reduceAdd,Int.reduceSub,Int.reduceMul,Int.reduceNeg,Int.reducePow,Int.reduceLT,Int.reduceLE,Int.reduceEq,Int.reduceNe,Int.reduceToNat,a3,rb.len]
      refine AS (f.blocks.length + 1) (fun cn ls h''=>∃ (a : Int) (k : Nat),ls = [.int .u64 a,.int .i64 k] /\ 0 <= a /\ a < 18446744073709551616 /\ k <= f.blocks.length /\ Fr [] h8 h'' /\ cn = f.blocks.length + 1 - k) ⟨a,0,rfl,a0,a1,by omega,Fr.refl _ _,rfl⟩ ?_
      clear a0 a1
      rintro cn ls h9 ⟨a,k,rfl,a0,a1,hk,f9,rfl⟩
      by_cases kk : (k : Int) < f.blocks.length
      ·have hk' : k < f.blocks.length:=by omega
       obtain ⟨b,hb⟩:=BG hk'
       have hbm:=List.mem_of_getElem? hb
       have okb:=okf.2.2.2.2 b hbm
       have hcl:=(bb f hfm).2 b hbm
       have en2:=B0 k (by omega)
       obtain ⟨b6,o6,cb,y1,y2,y3,y4,y5⟩:=(rb.mono (hf.trans ((f7.trans f8').trans f9)) (Rel':=blkR h0) fun _ _ _ x=>x).el hb
       simp only [go_sem,reduceIte,Nat.reduceAdd,Nat.reduceSub,Nat.reduceMul,Nat.reducePow,Nat.reduceLT,Nat.reduceLeDiff,Nat.reduceEqDiff,Int.reduceAdd,Int.reduceSub,Int.reduceMul,Int.reduceNeg,Int.reducePow,Int.reduceLT,Int.reduceLE,Int.reduceEq,Int.reduceNe,Int.reduceToNat,kk,y1,y4]
       refine BL rfl y3 rfl y2.leaves fun A2 h10 f10 hA2 gA2=>?_
       have f10':=(f8'.trans f9).trans f10
       obtain ⟨vi,vc,ecb,ri,rc⟩:=y2
       have a4 : h10.cell A2 1 = some vc:=by rw [AD gA2,ecb]; rfl
       have eu:=u64_id (i0 b.code.length) (by omega)
       by_cases hit : a < (b.code.length : Int)
       ·simp only [go_sem,reduceIte,Nat.reduceAdd,Nat.reduceSub,Nat.reduceMul,Nat.reducePow,Nat.reduceLT,Nat.reduceLeDiff,Nat.reduceEqDiff,Int.reduceAdd,Int.reduceSub,Int.reduceMul,Int.reduceNeg,Int.reducePow,Int.reduceLT,Int.reduceLE,Int.reduceEq,Int.reduceNe,Int.reduceToNat,a4,rc.len,eu,hit]
        refine ⟨rfl,fun q2 hq2=>?_⟩
        have f11 : Fr [] h10 (h10.set q2 (.live [] 55 true)):=Fr.new hq2
        have g11 : (h10.set q2 (.live [] 55 true)).get q2 = some (.live [] 55 true):=H.get_same ..
        have a5 : (h10.set q2 (.live [] 55 true)).cell A2 1 = some vc:=by rw [AD (f11 A2 _ (by simp) gA2),ecb]; rfl
        simp only [go_sem,reduceIte,Nat.reduceAdd,Nat.reduceSub,Nat.reduceMul,Nat.reducePow,Nat.reduceLT,Nat.reduceLeDiff,Nat.reduceEqDiff,Int.reduceAdd,Int.reduceSub,Int.reduceMul,Int.reduceNeg,Int.reducePow,Int.reduceLT,Int.reduceLE,Int.reduceEq,Int.reduceNe,Int.reduceToNat,a5]
        have rc11:=rc.mono (hf.trans ((f7.trans f10').trans f11)) (Rel':=insR h0) fun _ _ _ x=>x
        generalize h10.set q2 (.live [] 55 true) = h11 at f11 g11 a5 rc11 ⊢
        refine UA g11 hq2 f11 rc11 (fun _ _ r=>r.leaves) (by omega) fun bC capC cssC h12 hC nC gC C1 C2 C3 f12 rC=>?_
        have gx12:=f12 bx _ (by simp) (f10' bx _ (by simp) gx7)
        have hn : a.toNat < b.code.length:=by omega
        obtain ⟨w1,w2,_,_⟩:=rC.put (R':=insR h0) (x:=x) gC hn hcx rx.leaves rx (fun _ _ _ x=>x)
        rw [Nat.zero_add] at w1 w2
        have st : stA h12 9 (.ptr bC (a.toNat * 9)) (.agg cx) = some (h12.set bC (.live (overlay cssC.flatten (a.toNat * 9) cx) 55 true)):=by rw [HY,if_pos (show (AV.agg cx).cells.length = 9 from hcx)]; exact w1
        simp only [go_sem,reduceIte,Nat.reduceAdd,Nat.reduceSub,Nat.reduceMul,Nat.reducePow,Nat.reduceLT,Nat.reduceLeDiff,Nat.reduceEqDiff,Int.reduceAdd,Int.reduceSub,Int.reduceMul,Int.reduceNeg,Int.reducePow,Int.reduceLT,Int.reduceLE,Int.reduceEq,Int.reduceNe,Int.reduceToNat,AR gx12 hcx,a0,hit,st]
        have f13:=f12.set' (o:=.live (overlay cssC.flatten (a.toNat * 9) cx) 55 true) nC
        have gC13 : (h12.set bC (.live (overlay cssC.flatten (a.toNat * 9) cx) 55 true)).get bC = _:=H.get_same ..
        clear st w1
        generalize h12.set bC (.live (overlay cssC.flatten (a.toNat * 9) cx) 55 true) = h13 at f13 gC13 w2 ⊢
        have f13':=f10'.trans f13
        obtain ⟨p13,r13⟩:=rd7 h13 f13'
        have a13 : h13.cell A 3 = some vb:=by rw [AD (((f9.trans f10).trans f13) A _ (by simp) gA),ecf]; rfl
        simp only [go_sem,reduceIte,Nat.reduceAdd,Nat.reduceSub,Nat.reduceMul,Nat.reducePow,Nat.reduceLT,Nat.reduceLeDiff,Nat.reduceEqDiff,Int.reduceAdd,Int.reduceSub,Int.reduceMul,Int.reduceNeg,Int.reducePow,Int.reduceLT,Int.reduceLE,Int.reduceEq,Int.reduceNe,Int.reduceToNat,p13,a13]
        refine ⟨rfl,fun q3 hq3=>?_⟩
        have f14 : Fr [] h13 (h13.set q3 (.live [] 42 true)):=Fr.new hq3
        have g14 : (h13.set q3 (.live [] 42 true)).get q3 = some (.live [] 42 true):=H.get_same ..
        have rb14:=rb.mono (hf.trans ((f7.trans f13').trans f14)) (Rel':=blkR h0) fun _ _ _ x=>x
        refine UA g14 hq3 f14 rb14 (fun _ _ r=>r.leaves) (by omega) fun bB capB cssB h15 hB nB gB B1 B2 B3 f15 rB=>?_
        have f75:=f13'.trans f15
        obtain ⟨p15,r15⟩:=rd7 h15 f75
        have gF15:=f75 bF _ (by simp) gF7
        have gF13:=f13' bF _ (by simp) gF7
        have gp13:=f13' p _ (by simp) gp7
        have gq13:=f13' q6 _ (by simp) gq7
        have nBF : bB ≠ bF:=fun e=>by subst e; rw [gF13] at nB; cases nB
        have nBp : bB ≠ p:=fun e=>by subst e; rw [gp13] at nB; cases nB
        have nBq : bB ≠ q6:=fun e=>by subst e; rw [gq13] at nB; cases nB
        have nBC : bB ≠ bC:=fun e=>by subst e; rw [gC13] at nB; cases nB
        have n10 : ∀ {z : Nat} {o : Obj},h7.get z = some o -> bC ≠ z:=fun g e=>by subst e; rw [f10' _ _ (by simp) g] at nC; cases nC
        obtain ⟨cF,hcF⟩:=BG (show i < cssF.length by omega)
        obtain ⟨cB,hcB⟩:=BG (show k < cssB.length by omega)
        have lF : i * 4 + 3 < cssF.flatten.length:=by rw [EB F3]; omega
        have lB : k * 2 + 1 < cssB.flatten.length:=by rw [EB B3]; omega
        have s1:=st_1 (v:=.sl bB 0 f.blocks.length capB) gF15 lF rfl rfl
        have c16 : (h15.set bF (.live (cssF.flatten.set (i * 4 + 3) (.sl bB 0 f.blocks.length capB)) 39 true)).cell bF (i * 4 + 3) = some (.sl bB 0 f.blocks.length capB):=by rw [EZ,List.getElem?_set_self lF]
        have o16 : ∀ z o,z ≠ bF -> h15.get z = some o -> (h15.set bF (.live (cssF.flatten.set (i * 4 + 3) (.sl bB 0 f.blocks.length capB)) 39 true)).get z = some o:=fun z o hz g=>by rw [H.get_other _ _ hz]; exact g
        have g16 : (h15.set bF (.live (cssF.flatten.set (i * 4 + 3) (.sl bB 0 f.blocks.length capB)) 39 true)).get bF = some (.live (cssF.set i (cF.set 3 (.sl bB 0 f.blocks.length capB))).flatten 39 true):=by rw [H.get_same,OC F3 hcF (by decide)]
        have p16 : (h15.set bF (.live (cssF.flatten.set (i * 4 + 3) (.sl bB 0 f.blocks.length capB)) 39 true)).cell p 4 = some vF:=by rw [UD nFp]; exact p15
        simp only [go_sem,reduceIte,Nat.reduceAdd,Nat.reduceSub,Nat.reduceMul,Nat.reducePow,Nat.reduceLT,Nat.reduceLeDiff,Nat.reduceEqDiff,Int.reduceAdd,Int.reduceSub,Int.reduceMul,Int.reduceNeg,Int.reducePow,Int.reduceLT,Int.reduceLE,Int.reduceEq,Int.reduceNe,Int.reduceToNat,p15,<- hvF,s1,qq,i0,Int.toNat_natCast]
        have f16 : Fr [] h (h15.set bF (.live (cssF.flatten.set (i * 4 + 3) (.sl bB 0 f.blocks.length capB)) 39 true)):=(f7.trans f75).set' nF0
        generalize h15.set bF (.live (cssF.flatten.set (i * 4 + 3) (.sl bB 0 f.blocks.length capB)) 39 true) = h16 at c16 o16 g16 p16 f16 ⊢
        have gB16:=o16 bB _ nBF gB
        have s2:=st_1 (v:=.sl bC 0 b.code.length capC) gB16 lB rfl rfl
        have o17 : ∀ z o,z ≠ bF -> z ≠ bB -> h15.get z = some o -> (h16.set bB (.live (cssB.flatten.set (k * 2 + 1) (.sl bC 0 b.code.length capC)) 42 true)).get z = some o:=fun z o hz hz' g=>by rw [H.get_other _ _ hz']; exact o16 z o hz g
        have g17 : (h16.set bB (.live (cssB.flatten.set (k * 2 + 1) (.sl bC 0 b.code.length capC)) 42 true)).get bB = some (.live (cssB.set k (cB.set 1 (.sl bC 0 b.code.length capC))).flatten 42 true):=by rw [H.get_same,OC B3 hcB (by decide)]
        have gF17:=(H.get_other h16 (.live (cssB.flatten.set (k * 2 + 1) (.sl bC 0 b.code.length capC)) 42 true) (Ne.symm nBF)).trans g16
        have f17 : ∀ {o : Obj},Fr [] h ((h16.set bB (.live (cssB.flatten.set (k * 2 + 1) (.sl bC 0 b.code.length capC)) 42 true)).set q6 o):=fun {o}=>(f16.set' ((f7.trans f13').free nB)).set' hq0
        simp only [go_sem,reduceIte,Nat.reduceAdd,Nat.reduceSub,Nat.reduceMul,Nat.reducePow,Nat.reduceLT,Nat.reduceLeDiff,Nat.reduceEqDiff,Int.reduceAdd,Int.reduceSub,Int.reduceMul,Int.reduceNeg,Int.reducePow,Int.reduceLT,Int.reduceLE,Int.reduceEq,Int.reduceNe,Int.reduceToNat,p16,<- hvF,qq,i0,Int.toNat_natCast,c16,kk,s2]
        generalize h16.set bB (.live (cssB.flatten.set (k * 2 + 1) (.sl bC 0 b.code.length capC)) 42 true) = h17 at o17 g17 gF17 f17 ⊢
        have gp17:=o17 p _ nFp (Ne.symm nBp) (f75 p _ (by simp) gp7)
        have gq17:=o17 q6 _ (Ne.symm nFq) (Ne.symm nBq) (f75 q6 _ (by simp) gq7)
        simp only [go_sem,reduceIte,Nat.reduceAdd,Nat.reduceSub,Nat.reduceMul,Nat.reducePow,Nat.reduceLT,Nat.reduceLeDiff,Nat.reduceEqDiff,Int.reduceAdd,Int.reduceSub,Int.reduceMul,Int.reduceNeg,Int.reducePow,Int.reduceLT,Int.reduceLE,Int.reduceEq,Int.reduceNe,Int.reduceToNat,AR gp17 l7,DG (n:=7) gq17 rfl l7 lv7,AR (H.get_same h17 q6 (.live c7 28 true)) l7]
        have fF:=f17 (o:=.live c7 28 true)
        rw [<- hvF] at mk
        have nB0:=(f7.trans f13').free nB
        have o18 : ∀ {z o},z ≠ q6 -> h17.get z = some o -> (h17.set q6 (.live c7 28 true)).get z = some o:=fun hz g=>by rw [H.get_other _ _ hz]; exact g
        refine hK (putI m i f k b a.toNat x) _ _ fF (fun h2 f18 g18=>mk _ _ f18 ?_) (putI_ok ok okf okb ox) rfl rfl
        refine RowOf.set1 F1 F2 F3 (by rw [List.length_set]; exact F3 cF (List.mem_of_getElem? hcF)) ?_ (fun _ _ _ x=>x.fr f18) (g18 bF _ nF0 (o18 nFq gF17)) hF
        obtain ⟨vp',vb',e,rp',_⟩:=F2 i f cF hx hcF
        refine ⟨vp',_,by rw [e]; rfl,rp'.fr f18,RowOf.set1 B1 B2 B3 (by rw [List.length_set]; exact B3 cB (List.mem_of_getElem? hcB)) ?_ (fun _ _ _ x=>x.fr f18) (g18 bB _ nB0 (o18 nBq g17)) hB⟩
        obtain ⟨vi',vc',e,ri',_⟩:=B2 k b cB hb hcB
        exact ⟨vi',_,by rw [e]; rfl,ri'.fr f18,w2.keep gC13 (g18 bC _ ((f7.trans f10').free nC) (o18 (n10 gq7) (o17 bC _ (n10 gF7) (Ne.symm nBC) (f15 bC _ (by simp) gC13)))) fun _ _ x=>x.fr f18⟩
       ·simp only [go_sem,reduceIte,Nat.reduceAdd,Nat.reduceSub,Nat.reduceMul,Nat.reducePow,Nat.reduceLT,Nat.reduceLeDiff,Nat.reduceEqDiff,Int.reduceAdd,Int.reduceSub,Int.reduceMul,Int.reduceNeg,Int.reducePow,Int.reduceLT,Int.reduceLE,Int.reduceEq,Int.reduceNe,Int.reduceToNat,a4,rc.len,eu,hit,en2,NN]
        exact ⟨f.blocks.length + 1 - (k + 1),by omega,_,k + 1,rfl,by omega,by omega,by omega,f9.trans f10,rfl⟩
      ·simp only [go_sem,reduceIte,Nat.reduceAdd,Nat.reduceSub,Nat.reduceMul,Nat.reducePow,Nat.reduceLT,Nat.reduceLeDiff,Nat.reduceEqDiff,Int.reduceAdd,Int.reduceSub,Int.reduceMul,Int.reduceNeg,Int.reducePow,Int.reduceLT,Int.reduceLE,Int.reduceEq,Int.reduceNe,Int.reduceToNat,kk]
       exact hJ2 a h9 a0 a1 (f8'.trans f9)
    ·simp only [go_sem,reduceIte,Nat.reduceAdd,Nat.reduceSub,Nat.reduceMul,Nat.reducePow,Nat.reduceLT,Nat.reduceLeDiff,Nat.reduceEqDiff,Int.reduceAdd,Int.reduceSub,Int.reduceMul,Int.reduceNeg,Int.reducePow,Int.reduceLT,Int.reduceLE,Int.reduceEq,Int.reduceNe,Int.reduceToNat,qq]
     exact hJ h' f'
 ·obtain ⟨p4,r4⟩:=rd h3 (Fr.refl _ _)
  simp only [go_sem,reduceIte,Nat.reduceAdd,Nat.reduceSub,Nat.reduceMul,Nat.reducePow,Nat.reduceLT,Nat.reduceLeDiff,Nat.reduceEqDiff,Int.reduceAdd,Int.reduceSub,Int.reduceMul,Int.reduceNeg,Int.reducePow,Int.reduceLT,Int.reduceLE,Int.reduceEq,Int.reduceNe,Int.reduceToNat,p4,r4.len]
  refine AS (m.fns.length + 1) (fun cn ls h'=>∃ (n : Int) (i : Nat),ls = [.int .u64 n,.int .i64 i] /\ 0 <= n /\ n < 18446744073709551616 /\ i <= m.fns.length /\ Fr [] h3 h' /\ cn = m.fns.length + 1 - i) ⟨0,0,rfl,by omega,by omega,by omega,Fr.refl _ _,rfl⟩ ?_
  rintro cn ls h' ⟨n,i,rfl,n0,n1,hi,f',rfl⟩
  by_cases qq : (i : Int) < m.fns.length
  ·have hi' : i < m.fns.length:=by omega
   obtain ⟨f,hx⟩:=BG hi'
   have en:=B0 i (by omega)
   obtain ⟨bb',bo,cf,z1,z2,z3,z4,z5⟩:=(rd h' f').2.el hx
   have hbl:=(bb f (List.mem_of_getElem? hx)).1
   simp only [go_sem,reduceIte,Nat.reduceAdd,Nat.reduceSub,Nat.reduceMul,Nat.reducePow,Nat.reduceLT,Nat.reduceLeDiff,Nat.reduceEqDiff,Int.reduceAdd,Int.reduceSub,Int.reduceMul,Int.reduceNeg,Int.reducePow,Int.reduceLT,Int.reduceLE,Int.reduceEq,Int.reduceNe,Int.reduceToNat,qq]
   refine AI (fun (J : AV -> H -> Prop)=>∀ (n : Int) h'',0 <= n -> n < 18446744073709551616 -> Fr [] h3 h'' -> J (.int .u64 n) h'') (fun n' h'' m0 m1 f''=>?_) fun J2 hJ2=>?_
   ·simp only [go_sem,reduceIte,Nat.reduceAdd,Nat.reduceSub,Nat.reduceMul,Nat.reducePow,Nat.reduceLT,Nat.reduceLeDiff,Nat.reduceEqDiff,Int.reduceAdd,Int.reduceSub,Int.reduceMul,Int.reduceNeg,Int.reducePow,Int.reduceLT,Int.reduceLE,Int.reduceEq,Int.reduceNe,Int.reduceToNat,en]
    exact ⟨m.fns.length + 1 - (i + 1),by omega,n',i + 1,rfl,m0,m1,by omega,f'',rfl⟩
   ·simp only [go_sem,reduceIte,Nat.reduceAdd,Nat.reduceSub,Nat.reduceMul,Nat.reducePow,Nat.reduceLT,Nat.reduceLeDiff,Nat.reduceEqDiff,Int.reduceAdd,Int.reduceSub,Int.reduceMul,Int.reduceNeg,Int.reducePow,Int.reduceLT,Int.reduceLE,Int.reduceEq,Int.reduceNe,Int.reduceToNat,z1,z4]
    refine BL rfl z3 rfl z2.leaves fun a h4 f4 ha ga=>?_
    have f4':=f'.trans f4
    obtain ⟨vp,vb,ecf,rp,rb⟩:=z2.fr (hf.trans (f03.trans f4'))
    have a3 : h4.cell a 3 = some vb:=by rw [AD ga,ecf]; rfl
    simp only [go_sem,reduceIte,Nat.reduceAdd,Nat.reduceSub,Nat.reduceMul,Nat.reducePow,Nat.reduceLT,Nat.reduceLeDiff,Nat.reduceEqDiff,Int.reduceAdd,Int.reduceSub,Int.reduceMul,Int.reduceNeg,Int.reducePow,Int.reduceLT,Int.reduceLE,Int.reduceEq,Int.reduceNe,Int.reduceToNat,a3,rb.len]
    refine AS (f.blocks.length + 1) (fun cn ls h''=>∃ (n : Int) (k : Nat),ls = [.int .u64 n,.int .i64 k] /\ 0 <= n /\ n < 18446744073709551616 /\ k <= f.blocks.length /\ Fr [] h4 h'' /\ cn = f.blocks.length + 1 - k) ⟨n,0,rfl,n0,n1,by omega,Fr.refl _ _,rfl⟩ ?_
    rintro cn ls h5 ⟨n,k,rfl,n0,n1,hk,f5,rfl⟩
    by_cases kk : (k : Int) < f.blocks.length
    ·have hk' : k < f.blocks.length:=by omega
     obtain ⟨b,hb⟩:=BG hk'
     have en2:=B0 k (by omega)
     obtain ⟨b6,o6,cb,y1,y2,y3,y4,y5⟩:=(rb.mono f5 (Rel':=blkR h5) fun _ _ _ x=>x.fr f5).el hb
     simp only [go_sem,reduceIte,Nat.reduceAdd,Nat.reduceSub,Nat.reduceMul,Nat.reducePow,Nat.reduceLT,Nat.reduceLeDiff,Nat.reduceEqDiff,Int.reduceAdd,Int.reduceSub,Int.reduceMul,Int.reduceNeg,Int.reducePow,Int.reduceLT,Int.reduceLE,Int.reduceEq,Int.reduceNe,Int.reduceToNat,kk,y1,y4]
     refine BL rfl y3 rfl y2.leaves fun a2 h6 f6 ha2 ga2=>?_
     obtain ⟨vi,vc,ecb,ri,rc⟩:=y2.fr f6
     have a4 : h6.cell a2 1 = some vc:=by rw [AD ga2,ecb]; rfl
     simp only [go_sem,reduceIte,Nat.reduceAdd,Nat.reduceSub,Nat.reduceMul,Nat.reducePow,Nat.reduceLT,Nat.reduceLeDiff,Nat.reduceEqDiff,Int.reduceAdd,Int.reduceSub,Int.reduceMul,Int.reduceNeg,Int.reducePow,Int.reduceLT,Int.reduceLE,Int.reduceEq,Int.reduceNe,Int.reduceToNat,a4,rc.len,en2,NN]
     exact ⟨f.blocks.length + 1 - (k + 1),by omega,_,k + 1,rfl,by omega,by omega,by omega,f5.trans f6,rfl⟩
    ·simp only [go_sem,reduceIte,Nat.reduceAdd,Nat.reduceSub,Nat.reduceMul,Nat.reducePow,Nat.reduceLT,Nat.reduceLeDiff,Nat.reduceEqDiff,Int.reduceAdd,Int.reduceSub,Int.reduceMul,Int.reduceNeg,Int.reducePow,Int.reduceLT,Int.reduceLE,Int.reduceEq,Int.reduceNe,Int.reduceToNat,kk]
     exact hJ2 n h5 n0 n1 (f4'.trans f5)
  ·simp only [go_sem,reduceIte,Nat.reduceAdd,Nat.reduceSub,Nat.reduceMul,Nat.reducePow,Nat.reduceLT,Nat.reduceLeDiff,Nat.reduceEqDiff,Int.reduceAdd,Int.reduceSub,Int.reduceMul,Int.reduceNeg,Int.reducePow,Int.reduceLT,Int.reduceLE,Int.reduceEq,Int.reduceNe,Int.reduceToNat,qq]
   exact hJ n h' n0 n1 f'
end
section
theorem law8 (h : H) (M : Mem) (ls : List (List AV)) (hm : ∀ b,M.get b = h.get b) (q : SitsA lim M [shM,shI,.int .u64] ls) : DP AU 8 (OY [shM,shI,.int .u64] ls) h yes:=by
 have hl:=SitsA.lies lim_le hm _ _ q
 have hs:=SitsA.short _ _ q
 obtain ⟨l0,ls,rfl,h0,hl⟩:=KJ hl
 obtain ⟨l1,ls,rfl,h1,hl⟩:=KJ hl
 obtain ⟨l2,ls,rfl,h2,hl⟩:=KJ hl
 obtain rfl:=WE hl
 have q0 : Sits lim M shM l0:=by simp only [SitsA] at q; exact q.1
 obtain ⟨m,rm,ok⟩:=YA h0
 obtain ⟨x,rx,ox,_⟩:=N5 h1
 obtain ⟨a,rfl,a0,a1⟩:=X9 h2
 obtain ⟨b3,b4⟩:=TI hs (by simp) rm
 obtain ⟨d1,d2⟩:=bH hm rm q0
 show DP AU 8 [.agg l0,.agg l1,.int .u64 a] h yes
 refine runB8 ?_
 unfold sh8
 refine B8 rm fun p h1 f1 hp gp rm1=>?_
 refine D2 (rx.fr f1) fun bx h2 f2 hbx gx rx2=>?_
 have gp2:=f2 p _ (by simp) gp
 simp only [go_sem,reduceIte,Nat.reduceAdd,Nat.reduceSub,Nat.reduceMul,Nat.reducePow,Nat.reduceLT,Nat.reduceLeDiff,Nat.reduceEqDiff,Int.reduceAdd,Int.reduceSub,Int.reduceMul,Int.reduceNeg,Int.reducePow,Int.reduceLT,Int.reduceLE,Int.reduceEq,Int.reduceNe,Int.reduceToNat,AR gp2 rm.ln,AR gx rx.ln]
 refine putI_c (f1.trans f2) rm ok rx ox d1 d2 a0 (by omega) fun m' c' h3 f3 rm3 ok3 es en=>?_
 have f4:=((f1.trans f2).trans f3).set' (o:=.live c' 28 true) hp
 have r3:=rm3 h3 ((f1.trans f2).trans f3) fun _ _ _ g=>g
 have r4:=rm3 _ f4 fun b o hb g=>by rw [H.get_other _ _ (fun e=>by subst e; rw [gp2] at hb; cases hb)]; exact g
 simp only [go_sem,reduceIte,Nat.reduceAdd,Nat.reduceSub,Nat.reduceMul,Nat.reducePow,Nat.reduceLT,Nat.reduceLeDiff,Nat.reduceEqDiff,Int.reduceAdd,Int.reduceSub,Int.reduceMul,Int.reduceNeg,Int.reducePow,Int.reduceLT,Int.reduceLE,Int.reduceEq,Int.reduceNe,Int.reduceToNat,DG (n:=7) (f3 p _ (by simp) gp2) rm.ln r3.ln r3.leaves,AR (H.get_same h3 p (.live c' 28 true)) r3.ln]
 exact YH r4 ok3 (by rw [es]; exact b3) (by rw [en]; exact b4) fun _ _=>rfl
#print axioms law8
end
end Go.Proofs.YtdljelicbnjfjaaGreat.X
namespace Go.Proofs.YtdljelicbnjfjaaGreat.X
open Go
def XC : List Char:=[Char.ofNat 104,Char.ofNat 97,Char.ofNat 114,Char.ofNat 110,Char.ofNat 101,Char.ofNat 115,Char.ofNat 115,Char.ofNat 32,Char.ofNat 102,Char.ofNat 53,Char.ofNat 48,Char.ofNat 49,Char.ofNat 51,Char.ofNat 48,Char.ofNat 100,Char.ofNat 53,Char.ofNat 98,Char.ofNat 97,Char.ofNat 54,Char.ofNat 53,Char.ofNat 49,Char.ofNat 100,Char.ofNat 55,Char.ofNat 57,Char.ofNat 57,Char.ofNat 57,Char.ofNat 55,Char.ofNat 49,Char.ofNat 55,Char.ofNat 51,Char.ofNat 57,Char.ofNat 102,Char.ofNat 99,Char.ofNat 50,Char.ofNat 49,Char.ofNat 48,Char.ofNat 52,Char.ofNat 55,Char.ofNat 97,Char.ofNat 48,Char.ofNat 99,Char.ofNat 53,Char.ofNat 48,Char.ofNat 49,Char.ofNat 50,Char.ofNat 49,Char.ofNat 52,Char.ofNat 100,Char.ofNat 99,Char.ofNat 48,Char.ofNat 57,Char.ofNat 101,Char.ofNat 56,Char.ofNat 53,Char.ofNat 53,Char.ofNat 50,Char.ofNat 49,Char.ofNat 57,Char.ofNat 50,Char.ofNat 100,Char.ofNat 51,Char.ofNat 98,Char.ofNat 49,Char.ofNat 54,Char.ofNat 55,Char.ofNat 97,Char.ofNat 55,Char.ofNat 100,Char.ofNat 49,Char.ofNat 48,Char.ofNat 51,Char.ofNat 100,Char.ofNat 32,Char.ofNat 99,Char.ofNat 117,Char.ofNat 116,Char.ofNat 32,Char.ofNat 97,Char.ofNat 116,Char.ofNat 32,Char.ofNat 98,Char.ofNat 101,Char.ofNat 108,Char.ofNat 108,Char.ofNat 111,Char.ofNat 119,Char.ofNat 115,Char.ofNat 47,Char.ofNat 98,Char.ofNat 101,Char.ofNat 108,Char.ofNat 108,Char.ofNat 111,Char.ofNat 119,Char.ofNat 115,Char.ofNat 108,Char.ofNat 97,Char.ofNat 119,Char.ofNat 48,Char.ofNat 52,Char.ofNat 46,Char.ofNat 67,Char.ofNat 111,Char.ofNat 100,Char.ofNat 101,Char.ofNat 68,Char.ofNat 101,Char.ofNat 99,Char.ofNat 111,Char.ofNat 100,Char.ofNat 101,Char.ofNat 115,Char.ofNat 32,Char.ofNat 98,Char.ofNat 101,Char.ofNat 108,Char.ofNat 108,Char.ofNat 111,Char.ofNat 119,Char.ofNat 115,Char.ofNat 47,Char.ofNat 98,Char.ofNat 101,Char.ofNat 108,Char.ofNat 108,Char.ofNat 111,Char.ofNat 119,Char.ofNat 115,Char.ofNat 108,Char.ofNat 97,Char.ofNat 119,Char.ofNat 48,Char.ofNat 52,Char.ofNat 46,Char.ofNat 67,Char.ofNat 111,Char.ofNat 100,Char.ofNat 101,Char.ofNat 83,Char.ofNat 97,Char.ofNat 109,Char.ofNat 101,Char.ofNat 32,Char.ofNat 98,Char.ofNat 101,Char.ofNat 108,Char.ofNat 108,Char.ofNat 111,Char.ofNat 119,Char.ofNat 115,Char.ofNat 47,Char.ofNat 98,Char.ofNat 101,Char.ofNat 108,Char.ofNat 108,Char.ofNat 111,Char.ofNat 119,Char.ofNat 115,Char.ofNat 108,Char.ofNat 97,Char.ofNat 119,Char.ofNat 48,Char.ofNat 53,Char.ofNat 46,Char.ofNat 86,Char.ofNat 101,Char.ofNat 114,Char.ofNat 105,Char.ofNat 102,Char.ofNat 121,Char.ofNat 84,Char.ofNat 121,Char.ofNat 112,Char.ofNat 101,Char.ofNat 115,Char.ofNat 32,Char.ofNat 98,Char.ofNat 101,Char.ofNat 108,Char.ofNat 108,Char.ofNat 111,Char.ofNat 119,Char.ofNat 115,Char.ofNat 47,Char.ofNat 98,Char.ofNat 101,Char.ofNat 108,Char.ofNat 108,Char.ofNat 111,Char.ofNat 119,Char.ofNat 115,Char.ofNat 108,Char.ofNat 97,Char.ofNat 119,Char.ofNat 48,Char.ofNat 53,Char.ofNat 46,Char.ofNat 86,Char.ofNat 101,Char.ofNat 114,Char.ofNat 105,Char.ofNat 102,Char.ofNat 121,Char.ofNat 79,Char.ofNat 114,Char.ofNat 100,Char.ofNat 101,Char.ofNat 114,Char.ofNat 32,Char.ofNat 98,Char.ofNat 101,Char.ofNat 108,Char.ofNat 108,Char.ofNat 111,Char.ofNat 119,Char.ofNat 115,Char.ofNat 47,Char.ofNat 98,Char.ofNat 101,Char.ofNat 108,Char.ofNat 108,Char.ofNat 111,Char.ofNat 119,Char.ofNat 115,Char.ofNat 108,Char.ofNat 97,Char.ofNat 119,Char.ofNat 48,Char.ofNat 53,Char.ofNat 46,Char.ofNat 86,Char.ofNat 101,Char.ofNat 114,Char.ofNat 105,Char.ofNat 102,Char.ofNat 121,Char.ofNat 73,Char.ofNat 109,Char.ofNat 97,Char.ofNat 103,Char.ofNat 101,Char.ofNat 115,Char.ofNat 32,Char.ofNat 98,Char.ofNat 101,Char.ofNat 108,Char.ofNat 108,Char.ofNat 111,Char.ofNat 119,Char.ofNat 115,Char.ofNat 47,Char.ofNat 98,Char.ofNat 101,Char.ofNat 108,Char.ofNat 108,Char.ofNat 111,Char.ofNat 119,Char.ofNat 115,Char.ofNat 108,Char.ofNat 97,Char.ofNat 119,Char.ofNat 48,Char.ofNat 53,Char.ofNat 46,Char.ofNat 86,Char.ofNat 101,Char.ofNat 114,Char.ofNat 105,Char.ofNat 102,Char.ofNat 121,Char.ofNat 73,Char.ofNat 110,Char.ofNat 115,Char.ofNat 116,Char.ofNat 114,Char.ofNat 32,Char.ofNat 98,Char.ofNat 101,Char.ofNat 108,Char.ofNat 108,Char.ofNat 111,Char.ofNat 119,Char.ofNat 115,Char.ofNat 47,Char.ofNat 98,Char.ofNat 101,Char.ofNat 108,Char.ofNat 108,Char.ofNat 111,Char.ofNat 119,Char.ofNat 115,Char.ofNat 108,Char.ofNat 97,Char.ofNat 119,Char.ofNat 48,Char.ofNat 53,Char.ofNat 46,Char.ofNat 86,Char.ofNat 101,Char.ofNat 114,Char.ofNat 105,Char.ofNat 102,Char.ofNat 121,Char.ofNat 76,Char.ofNat 105,Char.ofNat 118,Char.ofNat 101,Char.ofNat 32,Char.ofNat 98,Char.ofNat 101,Char.ofNat 108,Char.ofNat 108,Char.ofNat 111,Char.ofNat 119,Char.ofNat 115,Char.ofNat 47,Char.ofNat 98,Char.ofNat 101,Char.ofNat 108,Char.ofNat 108,Char.ofNat 111,Char.ofNat 119,Char.ofNat 115,Char.ofNat 108,Char.ofNat 97,Char.ofNat 119,Char.ofNat 48,Char.ofNat 53,Char.ofNat 46,Char.ofNat 86,Char.ofNat 101,Char.ofNat 114,Char.ofNat 105,Char.ofNat 102,Char.ofNat 121,Char.ofNat 83,Char.ofNat 119,Char.ofNat 105,Char.ofNat 116,Char.ofNat 99,Char.ofNat 104,Char.ofNat 32,Char.ofNat 98,Char.ofNat 101,Char.ofNat 108,Char.ofNat 108,Char.ofNat 111,Char.ofNat 119,Char.ofNat 115,Char.ofNat 47,Char.ofNat 98,Char.ofNat 101,Char.ofNat 108,Char.ofNat 108,Char.ofNat 111,Char.ofNat 119,Char.ofNat 115,Char.ofNat 108,Char.ofNat 97,Char.ofNat 119,Char.ofNat 48,Char.ofNat 53,Char.ofNat 46,Char.ofNat 86,Char.ofNat 101,Char.ofNat 114,Char.ofNat 105,Char.ofNat 102,Char.ofNat 121,Char.ofNat 82,Char.ofNat 101,Char.ofNat 116,Char.ofNat 117,Char.ofNat 114,Char.ofNat 110,Char.ofNat 115]
theorem initIs : Tryz.pinned.checked.prog.initOrder = String.ofList XC:=by kernel_rfl
theorem XB : Tryz.pinned.checked.prog.initOrder.toList = XC:=by rw [initIs,String.toList_ofList]
def HK : List (List Char):=[[Char.ofNat 99,Char.ofNat 117,Char.ofNat 116],[Char.ofNat 97,Char.ofNat 116],[Char.ofNat 98,Char.ofNat 101,Char.ofNat 108,Char.ofNat 108,Char.ofNat 111,Char.ofNat 119,Char.ofNat 115,Char.ofNat 47,Char.ofNat 98,Char.ofNat 101,Char.ofNat 108,Char.ofNat 108,Char.ofNat 111,Char.ofNat 119,Char.ofNat 115,Char.ofNat 108,Char.ofNat 97,Char.ofNat 119,Char.ofNat 48,Char.ofNat 52,Char.ofNat 46,Char.ofNat 67,Char.ofNat 111,Char.ofNat 100,Char.ofNat 101,Char.ofNat 68,Char.ofNat 101,Char.ofNat 99,Char.ofNat 111,Char.ofNat 100,Char.ofNat 101,Char.ofNat 115],[Char.ofNat 98,Char.ofNat 101,Char.ofNat 108,Char.ofNat 108,Char.ofNat 111,Char.ofNat 119,Char.ofNat 115,Char.ofNat 47,Char.ofNat 98,Char.ofNat 101,Char.ofNat 108,Char.ofNat 108,Char.ofNat 111,Char.ofNat 119,Char.ofNat 115,Char.ofNat 108,Char.ofNat 97,Char.ofNat 119,Char.ofNat 48,Char.ofNat 52,Char.ofNat 46,Char.ofNat 67,Char.ofNat 111,Char.ofNat 100,Char.ofNat 101,Char.ofNat 83,Char.ofNat 97,Char.ofNat 109,Char.ofNat 101],[Char.ofNat 98,Char.ofNat 101,Char.ofNat 108,Char.ofNat 108,Char.ofNat 111,Char.ofNat 119,Char.ofNat 115,Char.ofNat 47,Char.ofNat 98,Char.ofNat 101,Char.ofNat 108,Char.ofNat 108,Char.ofNat 111,Char.ofNat 119,Char.ofNat 115,Char.ofNat 108,Char.ofNat 97,Char.ofNat 119,Char.ofNat 48,Char.ofNat 53,Char.ofNat 46,Char.ofNat 86,Char.ofNat 101,Char.ofNat 114,Char.ofNat 105,Char.ofNat 102,Char.ofNat 121,Char.ofNat 84,Char.ofNat 121,Char.ofNat 112,Char.ofNat 101,Char.ofNat 115],[Char.ofNat 98,Char.ofNat 101,Char.ofNat 108,Char.ofNat 108,Char.ofNat 111,Char.ofNat 119,Char.ofNat 115,Char.ofNat 47,Char.ofNat 98,Char.ofNat 101,Char.ofNat 108,Char.ofNat 108,Char.ofNat 111,Char.ofNat 119,Char.ofNat 115,Char.ofNat 108,Char.ofNat 97,Char.ofNat 119,Char.ofNat 48,Char.ofNat 53,Char.ofNat 46,Char.ofNat 86,Char.ofNat 101,Char.ofNat 114,Char.ofNat 105,Char.ofNat 102,Char.ofNat 121,Char.ofNat 79,Char.ofNat 114,Char.ofNat 100,Char.ofNat 101,Char.ofNat 114],[Char.ofNat 98,Char.ofNat 101,Char.ofNat 108,Char.ofNat 108,Char.ofNat 111,Char.ofNat 119,Char.ofNat 115,Char.ofNat 47,Char.ofNat 98,Char.ofNat 101,Char.ofNat 108,Char.ofNat 108,Char.ofNat 111,Char.ofNat 119,Char.ofNat 115,Char.ofNat 108,Char.ofNat 97,Char.ofNat 119,Char.ofNat 48,Char.ofNat 53,Char.ofNat 46,Char.ofNat 86,Char.ofNat 101,Char.ofNat 114,Char.ofNat 105,Char.ofNat 102,Char.ofNat 121,Char.ofNat 73,Char.ofNat 109,Char.ofNat 97,Char.ofNat 103,Char.ofNat 101,Char.ofNat 115],[Char.ofNat 98,Char.ofNat 101,Char.ofNat 108,Char.ofNat 108,Char.ofNat 111,Char.ofNat 119,Char.ofNat 115,Char.ofNat 47,Char.ofNat 98,Char.ofNat 101,Char.ofNat 108,Char.ofNat 108,Char.ofNat 111,Char.ofNat 119,Char.ofNat 115,Char.ofNat 108,Char.ofNat 97,Char.ofNat 119,Char.ofNat 48,Char.ofNat 53,Char.ofNat 46,Char.ofNat 86,Char.ofNat 101,Char.ofNat 114,Char.ofNat 105,Char.ofNat 102,Char.ofNat 121,Char.ofNat 73,Char.ofNat 110,Char.ofNat 115,Char.ofNat 116,Char.ofNat 114],[Char.ofNat 98,Char.ofNat 101,Char.ofNat 108,Char.ofNat 108,Char.ofNat 111,Char.ofNat 119,Char.ofNat 115,Char.ofNat 47,Char.ofNat 98,Char.ofNat 101,Char.ofNat 108,Char.ofNat 108,Char.ofNat 111,Char.ofNat 119,Char.ofNat 115,Char.ofNat 108,Char.ofNat 97,Char.ofNat 119,Char.ofNat 48,Char.ofNat 53,Char.ofNat 46,Char.ofNat 86,Char.ofNat 101,Char.ofNat 114,Char.ofNat 105,Char.ofNat 102,Char.ofNat 121,Char.ofNat 76,Char.ofNat 105,Char.ofNat 118,Char.ofNat 101],[Char.ofNat 98,Char.ofNat 101,Char.ofNat 108,Char.ofNat 108,Char.ofNat 111,Char.ofNat 119,Char.ofNat 115,Char.ofNat 47,Char.ofNat 98,Char.ofNat 101,Char.ofNat 108,Char.ofNat 108,Char.ofNat 111,Char.ofNat 119,Char.ofNat 115,Char.ofNat 108,Char.ofNat 97,Char.ofNat 119,Char.ofNat 48,Char.ofNat 53,Char.ofNat 46,Char.ofNat 86,Char.ofNat 101,Char.ofNat 114,Char.ofNat 105,Char.ofNat 102,Char.ofNat 121,Char.ofNat 83,Char.ofNat 119,Char.ofNat 105,Char.ofNat 116,Char.ofNat 99,Char.ofNat 104],[Char.ofNat 98,Char.ofNat 101,Char.ofNat 108,Char.ofNat 108,Char.ofNat 111,Char.ofNat 119,Char.ofNat 115,Char.ofNat 47,Char.ofNat 98,Char.ofNat 101,Char.ofNat 108,Char.ofNat 108,Char.ofNat 111,Char.ofNat 119,Char.ofNat 115,Char.ofNat 108,Char.ofNat 97,Char.ofNat 119,Char.ofNat 48,Char.ofNat 53,Char.ofNat 46,Char.ofNat 86,Char.ofNat 101,Char.ofNat 114,Char.ofNat 105,Char.ofNat 102,Char.ofNat 121,Char.ofNat 82,Char.ofNat 101,Char.ofNat 116,Char.ofNat 117,Char.ofNat 114,Char.ofNat 110,Char.ofNat 115]]
theorem WZ : behindMainWord (wordsSigns XC) = HK:=by kernel_rfl
theorem make_of {P : Program} (h : behindMainWord (wordsSigns P.initOrder.toList) = HK) : P.make = some .cut:=by
 unfold Program.make
 rw [h]
 rfl
theorem R8 {P : Program} (h : behindMainWord (wordsSigns P.initOrder.toList) = HK) (hl : P.laysLater = false) (hr : P.bearsReflect = false) (hd : P.doorFits [] = true) : P.mayEnter = true:=by
 unfold Program.mayEnter
 rw [h,hl,hr]
 have e : (stripLifts liftWords HK).1 = []:=by kernel_rfl
 have e2 : (stripLifts liftWords HK).2.head? = some "cut".toList:=by kernel_rfl
 show (_ || _ || ((stripLifts liftWords HK).2.head? == some "cut".toList && _ && _ && _ && P.doorFits (stripLifts liftWords HK).1) : Bool) = true
 rw [e,e2,hd]
 rfl
theorem QU {P : Program} (h : behindMainWord (wordsSigns P.initOrder.toList) = HK) : P.headLifts = []:=by
 unfold Program.headLifts
 rw [h]
 kernel_rfl
theorem O6 {P : Program} (h : behindMainWord (wordsSigns P.initOrder.toList) = HK) : P.liftsFinal = false:=by
 unfold Program.liftsFinal
 rw [h,QU h]
 kernel_rfl
theorem P5 : behindMainWord (wordsSigns Tryz.pinned.checked.prog.initOrder.toList) = HK:=by rw [XB,WZ]
theorem mayEnterIs : Tryz.pinned.checked.prog.mayEnter = true:=R8 P5 (by kernel_rfl) (by kernel_rfl) (by kernel_rfl)
theorem liftsFinalIs : Tryz.pinned.checked.prog.liftsFinal = false:=O6 P5
theorem makeIs : Tryz.pinned.checked.prog.make = some .cut:=make_of P5
end Go.Proofs.YtdljelicbnjfjaaGreat.X
