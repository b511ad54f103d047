/- What the law needs (4): the plain machine, functions' contracts, plain facts; put together out of texts of one's own. -/
import Derived.Test.YtdljelicbnjfjaaGreatS8C
set_option linter.unusedVariables false
set_option linter.unusedSimpArgs false
set_option maxRecDepth 100000
namespace Go.Proofs.YtdljelicbnjfjaaGreat.X
open Go
def an162 : ACode:=
 (.seq (zr [sD 4 (.al none 46 [(.bool false),.nilsl])])
 (.seq (zr [zm 5 1,zd 6 .geq 5 0,zm 7 6,zmt 8 7 1,zmt 9 7 0,sG 10 7 true (.nilc (.t 9)),zft 11 7 11 10,zlt 12 7 11,znt 13 7 12,zbt 14 7 .lss 8 13,zp 15 7 14,zm 16 15,zmt 17 16 0,sG 18 16 true (.nilc (.t 17)),zft 19 16 11 18,zlt 20 16 19,zmt 21 16 1,zit 22 16 3 20 21,zft 23 16 2 22,zlt 24 16 23,zot 25 16 24,zp 26 16 25,z1 27 161 26])
 (.seq (zr [zm 28 0,sD 29 (.nilc (.t 28)),zf 30 11 29,zl 31 30,zm 32 1,zi 33 3 31 32,zf 34 0 33,zk 35 2 34,zst 2 4 35])
 .ret)))
def Z4 : AN:=⟨36,[(.cell 4 (some 2))],an162.erase⟩
theorem ok162 : OKF 162 Z4 = true:=by kernel_rfl
def sh162 (C : AK) (s0 i1 : AV) (h : H) (R : AV -> H -> Prop) : Prop:=
 AL h [(.bool false),.nilsl] 46 fun a h=>
 AA (binOp .geq .num i1 (.int .i64 0)) h fun b h=>
 zU b i1 h fun c h=>
 zU b s0 h fun d h=>
 zT b (BJ d) h fun d h=>
 zG b 11 d h fun d h=>
 zT b (AF false d) h fun d h=>
 zT b (binOp .lss .num c d) h fun d h=>
 AA (AE b d (.bool false)) h fun d h=>
 zU d s0 h fun b h=>
 zT d (BJ b) h fun b h=>
 zG d 11 b h fun b h=>
 zU d i1 h fun c h=>
 zT d (iaA 3 b c) h fun c h=>
 zG d 2 c h fun c h=>
 zT d (unOp .not c) h fun c h=>
 AA (AE d c (.bool false)) h fun c h=>
 C 161 [c] h fun c h=>
 AA (BJ s0) h fun c h=>
 zF 11 c h fun c h=>
 AA (iaA 3 c i1) h fun c h=>
 AA (faA 0 c) h fun c h=>
 AA (ldA h (some 2) c) h fun c h=>
 AM (stA h 2 a c) .undef fun _ h=>
 AA (ldA h (some 2) a) h fun res _=>R res h
def an163 : ACode:=
 (.seq (zr [z0 2 0])
 (.seq (zr [zm 3 0,sD 4 (.bin .shl .num (.t 3) (.c (.int .u64 1))),sD 5 (.bin .shr .num (.t 4) (.c (.int .u64 1))),zm 2 5])
 .ret))
def Z3 : AN:=⟨6,[(.tmp 2)],an163.erase⟩
theorem ok163 : OKF 163 Z3 = true:=by kernel_rfl
def sh163 (C : AK) (n0 : AV) (h : H) (R : AV -> H -> Prop) : Prop:=
 AA (binOp .shl .num n0 (.int .u64 1)) h fun a h=>
 AA (binOp .shr .num a (.int .u64 1)) h fun a h=>
 R a h
def an164 : ACode:=
 (.seq (zr [sD 5 (.bx none 46 (.t 2))])
 (.seq (zr [zm 6 1,zd 7 .geq 6 0,zm 8 7,zmt 9 8 1,zmt 10 8 0,sG 11 8 true (.nilc (.t 10)),zft 12 8 11 11,zlt 13 8 12,znt 14 8 13,zbt 15 8 .lss 9 14,zp 16 8 15,z1 17 161 16])
 (.reg 0 [0,1,2,3,4,5,6,7,8] (zcz [[],[0],[1],[2],[],[],[5],[6,4,3],[7]]) [zm 18 0,sD 19 (.nilc (.t 18)),zf 20 11 19,zl 21 20,zm 22 1,zk 23 2 5,sD 24 (.build [(.bool false),.nilsl,(.bool false)] [(0,2,(.t 23))]),zi 25 3 21 22,zst 3 25 24])))
def Z2 : AN:=⟨26,[],an164.erase⟩
theorem ok164 : OKF 164 Z2 = true:=by kernel_rfl
def sh164 (C : AK) (s0 i1 a : AV) (h : H) (R : AV -> H -> Prop) : Prop:=
 AL h (AV.cells a) 46 fun a h=>
 AA (binOp .geq .num i1 (.int .i64 0)) h fun b h=>
 zU b i1 h fun c h=>
 zU b s0 h fun d h=>
 zT b (BJ d) h fun d h=>
 zG b 11 d h fun d h=>
 zT b (AF false d) h fun d h=>
 zT b (binOp .lss .num c d) h fun d h=>
 AA (AE b d (.bool false)) h fun d h=>
 C 161 [d] h fun d h=>
 AA (BJ s0) h fun d h=>
 zF 11 d h fun d h=>
 AA (ldA h (some 2) a) h fun a h=>
 AA (AT (AG [(.bool false),.nilsl,(.bool false)] [(0,2,a)])) h fun a h=>
 AA (iaA 3 d i1) h fun d h=>
 AM (stA h 3 d a) .undef fun _ h=>
 R (.tup []) h
def an165 : ACode:=
 (.seq (zr [zm 8 1,zm 9 0,sD 10 (.nilc (.t 9)),zf 11 11 10,zl 12 11,zn 13 12,z2 14 73 8 13,z1 15 161 14])
 (.seq (zr [zm 16 0,sD 17 (.nilc (.t 16)),zf 18 11 17,zl 19 18,zn 20 19,sD 21 (.mks none 148 [(.bool false),.nilsl,(.bool false)] 40 (.t 20) (.t 20)),zm 4 21])
 (.seq (.seq (zr [zm 22 4,zn 23 22,z0 24 0])
 (.block 0 (.loop [24] 25165843 (.seq (zr [zb 25 .lss 24 23])
 (.seq (.cond (.t 25) .skip
 (.exit 0))
 (.seq (.block 1 (.seq (zr [zm 26 24,zm 5 26])
 (zr [zm 27 4,zm 28 5,zi 29 3 27 28,zf 30 2 29,sN (.st 1 (.t 30) (.c (.bool true)))])))
 (zr [zd 31 .add 24 1,zm 24 31])))))))
 (.seq (.seq (zr [zm 32 1,zn 33 32,z0 34 0])
 (.block 2 (.loop [34] 30064771089 (.seq (zr [zb 35 .lss 34 33])
 (.seq (.cond (.t 35) .skip
 (.exit 2))
 (.seq (.block 3 (.seq (zr [zi 36 1 32 34,zl 37 36,zm 7 37])
 (.seq (zr [zm 38 0,zm 39 7,z2 40 162 38 39])
 (zr [zm 41 4,zm 42 7,zm 43 0,sD 44 (.nilc (.t 43)),zf 45 11 44,zl 46 45,zm 47 7,zi 48 3 46 47,zk 49 3 48,zi 50 3 41 42,zst 3 50 49]))))
 (zr [zd 51 .add 34 1,zm 34 51])))))))
 (zr [zm 52 0,zm 53 4,sD 54 (.nilc (.t 52)),zf 55 11 54,zst 1 55 53])))))
def Z1 : AN:=⟨56,[],an165.erase⟩
theorem ok165 : OKF 165 Z1 = true:=by kernel_rfl
def sh165 (C : AK) (s0 live1 : AV) (h : H) (R : AV -> H -> Prop) : Prop:=
 AA (BJ s0) h fun a h=>
 zF 11 a h fun a h=>
 AA (AF false a) h fun a h=>
 C 73 [live1,a] h fun a h=>
 C 161 [a] h fun a h=>
 AA (BJ s0) h fun a h=>
 zF 11 a h fun a h=>
 AA (AF false a) h fun a h=>
 TS h 148 [(.bool false),.nilsl,(.bool false)] 40 a a fun a h=>
 AJ (fun (h : H)=>
 AJ (fun (h : H)=>
 AA (BJ s0) h fun b h=>
 AA (faA 11 b) h fun b h=>
 AM (stA h 1 b a) .undef fun _ h=>
 R (.tup []) h) fun J=>
 AA (AF false live1) h fun b h=>
 AP (fun N l h=>AX l 0 fun c=>
 AA (binOp .lss .num c b) h fun b h=>
 AC b
 (AA (iaA 1 live1 c) h fun b h=>
 zL b h fun b h=>
 C 162 [s0,b] h fun d h=>
 AA (BJ s0) h fun d h=>
 zF 11 d h fun d h=>
 AA (iaA 3 d b) h fun d h=>
 AA (ldA h (some 3) d) h fun d h=>
 AA (iaA 3 a b) h fun b h=>
 AM (stA h 3 b d) .undef fun _ h=>
 AA (binOp .add .num c (.int .i64 1)) h fun c h=>
 N [c] h)
 (J h)) [(.int .i64 0)] h) fun J_0=>
 AA (AF false a) h fun c h=>
 AP (fun N_1 l h=>AX l 0 fun d=>
 AA (binOp .lss .num d c) h fun c h=>
 AC c
 (AA (iaA 3 a d) h fun a h=>
 AA (faA 2 a) h fun a h=>
 AM (stA h 1 a (.bool true)) .undef fun _ h=>
 AA (binOp .add .num d (.int .i64 1)) h fun d h=>
 N_1 [d] h)
 (J_0 h)) [(.int .i64 0)] h
def an166 : ACode:=
 (.seq (zr [sD 2 (.al none 46 [(.bool false),.nilsl])])
 (.seq (zr [zm 3 0,sD 4 (.mksl none 3 [(.int .i64 0)] 1 [(0,1,(.t 3))]),sD 5 (.build [(.bool false),.nilsl] [(1,1,(.t 4))]),zst 2 2 5])
 .ret))
def Z0 : AN:=⟨6,[(.cell 2 (some 2))],an166.erase⟩
theorem ok166 : OKF 166 Z0 = true:=by kernel_rfl
def sh166 (C : AK) (shape0 : AV) (h : H) (R : AV -> H -> Prop) : Prop:=
 AL h [(.bool false),.nilsl] 46 fun a h=>
 A5 h 3 1 (AG [(.int .i64 0)] [(0,1,shape0)]) fun b h=>
 AA (AT (AG [(.bool false),.nilsl] [(1,1,b)])) h fun b h=>
 AM (stA h 2 a b) .undef fun _ h=>
 AA (ldA h (some 2) a) h fun res _=>R res h
def an167 : ACode:=
 (.seq (zr [sD 3 (.bx none 55 (.t 1))])
 (.seq (zr [zm 5 0,zf 6 2 3,zl 7 6,sD 8 (.mksl none 3 [(.int .i64 0)] 1 [(0,1,(.c (.int .i64 3)))]),z3 9 172 5 7 8])
 (.seq (zr [sD 10 (.build [(.bool false),.nilsl] [(0,1,(.c (.bool true)))]),sD 4 (.al none 46 [(.bool false),.nilsl]),zst 2 4 10])
 (.seq (.seq (zr [zf 11 0 3,zl 12 11,zd 13 .eql 12 12])
 (.cond (.t 13) (zr [zm 14 0,zf 15 3 3,zl 16 15,z2 17 158 14 16])
 (zr [zm 18 0,zf 19 3 3,zl 20 19,sD 21 (.mksl none 3 [(.int .i64 0)] 1 [(0,1,(.c (.int .i64 3)))]),z3 22 172 18 20 21])))
 (.seq (.seq (zr [zf 23 0 3,zl 24 23,zd 25 .eql 24 13])
 (.cond (.t 25) (.seq (zr [zm 26 0,zf 27 8 3,zl 28 27,z2 29 165 26 28])
 (zr [sD 30 (.call 166 [(.c (.int .i64 0))]),zst 2 4 30]))
 .skip))
 (zr [zm 31 0,zf 32 1 3,zl 33 32,zk 34 2 4,z3 35 164 31 33 34]))))))
def ZZ : AN:=⟨36,[],an167.erase⟩
theorem ok167 : OKF 167 ZZ = true:=by kernel_rfl
def sh167 (C : AK) (s0 x1 : AV) (h : H) (R : AV -> H -> Prop) : Prop:=
 AL h (AV.cells x1) 55 fun x3 h=>
 zF 2 x3 h fun a h=>
 A5 h 3 1 (AG [(.int .i64 0)] [(0,1,(.int .i64 3))]) fun b h=>
 C 172 [s0,a,b] h fun b h=>
 AA (AT (AG [(.bool false),.nilsl] [(0,1,(.bool true))])) h fun b h=>
 AL h [(.bool false),.nilsl] 46 fun a h=>
 AM (stA h 2 a b) .undef fun _ h=>
 AJ (fun (h : H)=>
 AJ (fun (h : H)=>
 zF 1 x3 h fun b h=>
 AA (ldA h (some 2) a) h fun c h=>
 C 164 [s0,b,c] h fun c h=>
 R (.tup []) h) fun J=>
 zF 0 x3 h fun c h=>
 AA (binOp .eql .num c (.int .i64 13)) h fun c h=>
 AC c
 (zF 8 x3 h fun c h=>
 C 165 [s0,c] h fun c h=>
 C 166 [(.int .i64 0)] h fun c h=>
 AM (stA h 2 a c) .undef fun _ h=>
 J h)
 (J h)) fun J_0=>
 zF 0 x3 h fun c h=>
 AA (binOp .eql .num c (.int .i64 12)) h fun c h=>
 AC c
 (zF 3 x3 h fun c h=>
 C 158 [s0,c] h fun c h=>
 J_0 h)
 (zF 3 x3 h fun c h=>
 A5 h 3 1 (AG [(.int .i64 0)] [(0,1,(.int .i64 3))]) fun a h=>
 C 172 [s0,c,a] h fun a h=>
 J_0 h)
def an168 : ACode:=
 (.seq (zr [sD 6 (.al none 61 [(.int .i64 0),.nilsl,(.str [])])])
 (.seq (zr [zm 7 1,zd 8 .geq 7 0,zm 9 8,zmt 10 9 1,zmt 11 9 0,sG 12 9 true (.nilc (.t 11)),zft 13 9 0 12,zft 14 9 1 13,zlt 15 9 14,znt 16 9 15,zbt 17 9 .lss 10 16,zp 18 9 17,zm 19 18,zmt 20 19 0,sG 21 19 true (.nilc (.t 20)),zft 22 19 0 21,zft 23 19 1 22,zlt 24 19 23,zmt 25 19 1,zit 26 19 3 24 25,zft 27 19 0 26,zlt 28 19 27,zmt 29 19 2,zbt 30 19 .eql 28 29,zp 31 19 30,z1 32 161 31])
 (.seq (zr [zm 33 0,sD 34 (.nilc (.t 33)),zf 35 0 34,zf 36 1 35,zl 37 36,zm 38 1,zi 39 3 37 38,zk 40 3 39,zst 3 6 40])
 .ret)))
def ZY : AN:=⟨41,[(.cell 6 (some 3))],an168.erase⟩
theorem ok168 : OKF 168 ZY = true:=by kernel_rfl
def sh168 (C : AK) (s0 i1 kind2 : AV) (h : H) (R : AV -> H -> Prop) : Prop:=
 AL h [(.int .i64 0),.nilsl,(.str [])] 61 fun a h=>
 AA (binOp .geq .num i1 (.int .i64 0)) h fun b h=>
 zU b i1 h fun c h=>
 zU b s0 h fun d h=>
 zT b (BJ d) h fun d h=>
 zT b (faA 0 d) h fun d h=>
 zG b 1 d h fun d h=>
 zT b (AF false d) h fun d h=>
 zT b (binOp .lss .num c d) h fun d h=>
 AA (AE b d (.bool false)) h fun d h=>
 zU d s0 h fun b h=>
 zT d (BJ b) h fun b h=>
 zT d (faA 0 b) h fun b h=>
 zG d 1 b h fun b h=>
 zU d i1 h fun c h=>
 zT d (iaA 3 b c) h fun c h=>
 zG d 0 c h fun c h=>
 zU d kind2 h fun b h=>
 zT d (binOp .eql .num c b) h fun b h=>
 AA (AE d b (.bool false)) h fun b h=>
 C 161 [b] h fun b h=>
 AA (BJ s0) h fun b h=>
 AA (faA 0 b) h fun b h=>
 zF 1 b h fun b h=>
 AA (iaA 3 b i1) h fun b h=>
 AA (ldA h (some 3) b) h fun b h=>
 AM (stA h 3 a b) .undef fun _ h=>
 AA (ldA h (some 3) a) h fun res _=>R res h
def an169 : ACode:=
 (.seq (zr [zm 8 1,zn 9 8,zm 10 2,zn 11 10,zb 12 .eql 9 11,z1 13 161 12])
 (.seq (zr [zm 14 1,zn 15 14,z0 16 0])
 (.block 0 (.loop [16] 114693 (.seq (zr [zb 17 .lss 16 15])
 (.seq (.cond (.t 17) .skip
 (.exit 0))
 (.seq (.block 1 (.seq (zr [zm 18 16,zi 19 1 14 16,zl 20 19,zm 6 18,zm 7 20])
 (.reg 1 [0,1,2,3,4,5,6,7,8,9,10,11,12,13,14] (zcz [[],[],[],[2],[3],[4],[5],[],[],[8,7],[9],[10,6],[11],[12],[13,1,0]]) [zm 21 0,zm 22 7,zm 23 0,sD 24 (.nilc (.t 23)),zf 25 0 24,zf 26 0 25,zl 27 26,zm 28 2,zm 29 6,zi 30 1 28 29,zl 31 30,zi 32 2 27 31,zk 33 2 32,sD 34 (.mksl (some 0) 46 [(.bool false),.nilsl] 1 [(0,2,(.t 33))]),z3 35 173 21 22 34])))
 (zr [zd 36 .add 16 1,zm 16 36]))))))))
def ZX : AN:=⟨37,[],an169.erase⟩
theorem ok169 : OKF 169 ZX = true:=by kernel_rfl
def sh169 (C : AK) (s0 l1 want2 : AV) (h : H) (R : AV -> H -> Prop) : Prop:=
 AA (AF false l1) h fun a h=>
 AA (AF false want2) h fun b h=>
 AA (binOp .eql .num a b) h fun b h=>
 C 161 [b] h fun b h=>
 AA (AF false l1) h fun b h=>
 AP (fun N l h=>AX l 0 fun a=>
 AA (binOp .lss .num a b) h fun b h=>
 AC b
 (AA (iaA 1 l1 a) h fun b h=>
 zL b h fun b h=>
 AA (BJ s0) h fun c h=>
 AA (faA 0 c) h fun c h=>
 zF 0 c h fun c h=>
 AA (iaA 1 want2 a) h fun d h=>
 zL d h fun d h=>
 AA (iaA 2 c d) h fun d h=>
 AA (ldA h (some 2) d) h fun d h=>
 A5 h 46 1 (AG [(.bool false),.nilsl] [(0,2,d)]) fun d h=>
 C 173 [s0,b,d] h fun d h=>
 AA (binOp .add .num a (.int .i64 1)) h fun a h=>
 N [a] h)
 (R (.tup []) h)) [(.int .i64 0)] h
def an170 : ACode:=
 (.seq (zr [sD 2 (.al none 46 [(.bool false),.nilsl])])
 (.seq (.seq (zr [zm 5 0,zn 6 5,z0 7 0])
 (.block 0 (.loop [7] 228 (.seq (zr [zb 8 .lss 7 6])
 (.seq (.cond (.t 8) .skip
 (.exit 0))
 (.seq (.block 1 (.seq (zr [zi 9 2 5 7,zk 10 2 9,sD 4 (.al none 46 [(.bool false),.nilsl]),zst 2 4 10])
 (zr [zk 11 2 2,zk 12 2 4,z2 13 21 11 12,zst 2 2 13])))
 (zr [zd 14 .add 7 1,zm 7 14])))))))
 (.seq (zr [zk 15 2 2,zst 2 2 15])
 .ret)))
def ZW : AN:=⟨16,[(.cell 2 (some 2))],an170.erase⟩
theorem ok170 : OKF 170 ZW = true:=by kernel_rfl
def sh170 (C : AK) (l0 : AV) (h : H) (R : AV -> H -> Prop) : Prop:=
 AL h [(.bool false),.nilsl] 46 fun a h=>
 AJ (fun (h : H)=>
 AA (ldA h (some 2) a) h fun b h=>
 AM (stA h 2 a b) .undef fun _ h=>
 AA (ldA h (some 2) a) h fun res _=>R res h) fun J=>
 AA (AF false l0) h fun b h=>
 AP (fun N l h=>AX l 0 fun c=>
 AA (binOp .lss .num c b) h fun b h=>
 AC b
 (AA (iaA 2 l0 c) h fun b h=>
 AA (ldA h (some 2) b) h fun b h=>
 AL h [(.bool false),.nilsl] 46 fun x4 h=>
 AM (stA h 2 x4 b) .undef fun _ h=>
 AA (ldA h (some 2) a) h fun b h=>
 AA (ldA h (some 2) x4) h fun d h=>
 C 21 [b,d] h fun d h=>
 AM (stA h 2 a d) .undef fun _ h=>
 AA (binOp .add .num c (.int .i64 1)) h fun c h=>
 N [c] h)
 (J h)) [(.int .i64 0)] h
def an171 : ACode:=
 (.seq (zr [sD 6 (.mv (.c .nilsl))])
 (.seq (.seq (zr [zm 10 1,zn 11 10,z0 12 0])
 (.block 0 (.loop [6,12] 7237 (.seq (zr [zb 13 .lss 12 11])
 (.seq (.cond (.t 13) .skip
 (.exit 0))
 (.seq (.block 1 (.seq (zr [zi 14 1 10 12,zl 15 14,zm 8 15])
 (.seq (zr [zm 16 0,sD 17 (.nilc (.t 16)),zf 18 0 17,zf 19 1 18,zl 20 19,zm 21 8,zi 22 3 20 21,zf 23 1 22,zl 24 23,zm 9 24])
 (.seq (zr [zm 25 2,zd 26 .geq 25 0,zm 27 26,zmt 28 27 2,zmt 29 27 9,znt 30 27 29,zbt 31 27 .lss 28 30,zp 32 27 31,z1 33 161 32])
 (.reg 1 [0,1,2,3,4,5,6,7,8,9,10,11,12,13,14] (zcz [[],[],[1],[2],[3],[4],[],[],[7,6],[8],[9,5],[10],[11],[12,0],[13]]) [zm 34 6,zm 35 0,sD 36 (.nilc (.t 35)),zf 37 0 36,zf 38 0 37,zl 39 38,zm 40 9,zm 41 2,zi 42 1 40 41,zl 43 42,zi 44 2 39 43,zk 45 2 44,sD 46 (.mksl (some 0) 46 [(.bool false),.nilsl] 1 [(0,2,(.t 45))]),sD 47 (.app 46 2 32 [(.bool false),.nilsl] (.t 34) (.t 46)),zm 6 47])))))
 (zr [zd 48 .add 12 1,zm 12 48])))))))
 (.seq (zr [zm 49 6,zm 6 49])
 .ret)))
def ZV : AN:=⟨50,[(.tmp 6)],an171.erase⟩
theorem ok171 : OKF 171 ZV = true:=by kernel_rfl
def sh171 (C : AK) (s0 shapes1 field2 : AV) (h : H) (R : AV -> H -> Prop) : Prop:=
 AJ (fun (l6' : AV) (h : H)=>
 R l6' h) fun J=>
 AA (AF false shapes1) h fun a h=>
 AP (fun N l h=>AX l 0 fun l6=>AX l 1 fun b=>
 AA (binOp .lss .num b a) h fun a h=>
 AC a
 (AA (iaA 1 shapes1 b) h fun a h=>
 zL a h fun a h=>
 AA (BJ s0) h fun c h=>
 AA (faA 0 c) h fun c h=>
 zF 1 c h fun c h=>
 AA (iaA 3 c a) h fun a h=>
 zF 1 a h fun a h=>
 AA (binOp .geq .num field2 (.int .i64 0)) h fun c h=>
 zU c field2 h fun d h=>
 zU c a h fun e h=>
 zT c (AF false e) h fun e h=>
 zT c (binOp .lss .num d e) h fun e h=>
 AA (AE c e (.bool false)) h fun e h=>
 C 161 [e] h fun e h=>
 AA (BJ s0) h fun e h=>
 AA (faA 0 e) h fun e h=>
 zF 0 e h fun e h=>
 AA (iaA 1 a field2) h fun a h=>
 zL a h fun a h=>
 AA (iaA 2 e a) h fun a h=>
 AA (ldA h (some 2) a) h fun a h=>
 A5 h 46 1 (AG [(.bool false),.nilsl] [(0,2,a)]) fun a h=>
 A4 h 46 2 32 l6 a fun a h=>
 AA (binOp .add .num b (.int .i64 1)) h fun b h=>
 N [a,b] h)
 (J l6 h)) [.nilsl,(.int .i64 0)] h
def an172 : ACode:=
 (.seq (zr [sD 6 (.mv (.c .nilsl))])
 (.seq (zr [zm 10 0,zm 11 1,z2 12 162 10 11,sD 7 (.al none 46 [(.bool false),.nilsl]),zst 2 7 12])
 (.seq (zr [zf 13 0 7,zl 14 13,zo 15 14,zm 16 15,zft 17 16 1 7,zlt 18 16 17,znt 19 16 18,zdt 20 16 .gtr 19 0,zp 21 16 20,z1 22 161 21])
 (.seq (.seq (zr [zf 23 1 7,zl 24 23,zn 25 24,z0 26 0])
 (.block 0 (.loop [26] 117440645 (.seq (zr [zb 27 .lss 26 25])
 (.seq (.cond (.t 27) .skip
 (.exit 0))
 (.seq (.block 1 (.seq (zr [zi 28 1 24 26,zl 29 28,zm 9 29])
 (zr [zm 30 2,zm 31 0,sD 32 (.nilc (.t 31)),zf 33 0 32,zf 34 1 33,zl 35 34,zm 36 9,zi 37 3 35 36,zf 38 0 37,zl 39 38,z2 40 69 30 39,z1 41 161 40])))
 (zr [zd 42 .add 26 1,zm 26 42])))))))
 (.seq (zr [zf 43 1 7,zl 44 43,zm 6 44])
 .ret)))))
def ZU : AN:=⟨45,[(.tmp 6)],an172.erase⟩
theorem ok172 : OKF 172 ZU = true:=by kernel_rfl
def sh172 (C : AK) (s0 i1 kinds2 : AV) (h : H) (R : AV -> H -> Prop) : Prop:=
 C 162 [s0,i1] h fun a h=>
 AL h [(.bool false),.nilsl] 46 fun b h=>
 AM (stA h 2 b a) .undef fun _ h=>
 zF 0 b h fun a h=>
 AA (unOp .not a) h fun a h=>
 zG a 1 b h fun c h=>
 zT a (AF false c) h fun c h=>
 zT a (binOp .gtr .num c (.int .i64 0)) h fun c h=>
 AA (AE a c (.bool false)) h fun c h=>
 C 161 [c] h fun c h=>
 AJ (fun (h : H)=>
 zF 1 b h fun c h=>
 R c h) fun J=>
 zF 1 b h fun b h=>
 AA (AF false b) h fun c h=>
 AP (fun N l h=>AX l 0 fun a=>
 AA (binOp .lss .num a c) h fun c h=>
 AC c
 (AA (iaA 1 b a) h fun b h=>
 zL b h fun b h=>
 AA (BJ s0) h fun c h=>
 AA (faA 0 c) h fun c h=>
 zF 1 c h fun c h=>
 AA (iaA 3 c b) h fun b h=>
 zF 0 b h fun b h=>
 C 69 [kinds2,b] h fun b h=>
 C 161 [b] h fun b h=>
 AA (binOp .add .num a (.int .i64 1)) h fun a h=>
 N [a] h)
 (J h)) [(.int .i64 0)] h
def an173 : ACode:=
 (.seq (zr [zm 9 0,zm 10 1,z2 11 162 9 10,sD 6 (.al none 46 [(.bool false),.nilsl]),zst 2 6 11])
 (.seq (zr [zm 12 2,zn 13 12,z0 14 0])
 (.block 0 (.loop [14] 28736 (.seq (zr [zb 15 .lss 14 13])
 (.seq (.cond (.t 15) .skip
 (.exit 0))
 (.seq (.block 1 (.seq (zr [zi 16 2 12 14,zk 17 2 16,sD 8 (.al none 46 [(.bool false),.nilsl]),zst 2 8 17])
 (zr [zk 18 2 6,zk 19 2 8,z2 20 23 18 19,z1 21 161 20])))
 (zr [zd 22 .add 14 1,zm 14 22]))))))))
def ZT : AN:=⟨23,[],an173.erase⟩
theorem ok173 : OKF 173 ZT = true:=by kernel_rfl
def sh173 (C : AK) (s0 i1 l2 : AV) (h : H) (R : AV -> H -> Prop) : Prop:=
 C 162 [s0,i1] h fun a h=>
 AL h [(.bool false),.nilsl] 46 fun b h=>
 AM (stA h 2 b a) .undef fun _ h=>
 AA (AF false l2) h fun a h=>
 AP (fun N l h=>AX l 0 fun c=>
 AA (binOp .lss .num c a) h fun a h=>
 AC a
 (AA (iaA 2 l2 c) h fun a h=>
 AA (ldA h (some 2) a) h fun a h=>
 AL h [(.bool false),.nilsl] 46 fun x8 h=>
 AM (stA h 2 x8 a) .undef fun _ h=>
 AA (ldA h (some 2) b) h fun b h=>
 AA (ldA h (some 2) x8) h fun a h=>
 C 23 [b,a] h fun a h=>
 C 161 [a] h fun a h=>
 AA (binOp .add .num c (.int .i64 1)) h fun c h=>
 N [c] h)
 (R (.tup []) h)) [(.int .i64 0)] h
def an174 : ACode:=
 (.seq (zr [sD 3 (.bx none 55 (.t 1))])
 (.seq (zr [zm 5 0,zk 6 9 3,z2 7 160 5 6,sD 4 (.al none 39 [.nilsl,(.int .i64 0),(.int .i64 0),.nilsl]),zst 4 4 7])
 (.seq (zr [zm 8 0,zf 9 8 3,zl 10 9,z2 11 165 8 10])
 (.seq (.seq (zr [zf 12 3 3,zl 13 12,zd 14 .eql 13 (-1)])
 (.cond (.t 14) (zr [zf 15 4 3,zl 16 15,zd 17 .eql 16 0,z1 18 161 17])
 (.seq (.reg 0 [0,1,2,3,4,5,6,7,8,9,10,11,12,13] (zcz [[],[0],[1],[2],[3],[4],[3],[6],[7],[8],[9],[10,5],[11],[12]]) [zf 19 4 3,zl 20 19,zd 21 .geq 20 0,zm 22 21,zft 23 22 4 3,zlt 24 22 23,zmt 25 22 0,sG 26 22 true (.nilc (.t 25)),zft 27 22 11 26,zlt 28 22 27,znt 29 22 28,zbt 30 22 .lss 24 29,zp 31 22 30,z1 32 161 31])
 (.reg 0 [0,1,2,3,4,5,6,7,8,9,10,11,12,13,14,15,16,17] (zcz [[],[],[1],[],[3],[],[5],[6],[7],[8],[],[10],[11],[12],[13],[14,9],[15],[16,4,2,0]]) [zm 33 0,zf 34 3 3,zl 35 34,zf 36 4 3,zl 37 36,zm 38 0,sD 39 (.nilc (.t 38)),zf 40 0 39,zf 41 0 40,zl 42 41,zm 43 0,sD 44 (.nilc (.t 43)),zf 45 0 44,zf 46 6 45,zl 47 46,zi 48 2 42 47,zk 49 2 48,sD 50 (.call 157 [(.t 33),(.t 35),(.t 37),(.t 49)])]))))
 (.reg 0 [0,1,2,3,4,5,6,7,8,9,10,11,12] (zcz [[],[],[1],[],[3],[4],[5],[6],[],[8],[9,7],[10],[11,2,0]]) [zm 51 0,zf 52 1 3,zl 53 52,zm 54 0,sD 55 (.nilc (.t 54)),zf 56 0 55,zf 57 0 56,zl 58 57,zf 59 1 4,zl 60 59,zi 61 2 58 60,zk 62 2 61,z3 63 164 51 53 62])))))
def ZS : AN:=⟨64,[],an174.erase⟩
theorem ok174 : OKF 174 ZS = true:=by kernel_rfl
def sh174 (C : AK) (s0 x1 : AV) (h : H) (R : AV -> H -> Prop) : Prop:=
 AL h (AV.cells x1) 55 fun x3 h=>
 AA (ldA h (some 9) x3) h fun a h=>
 C 160 [s0,a] h fun a h=>
 AL h [.nilsl,(.int .i64 0),(.int .i64 0),.nilsl] 39 fun f4 h=>
 AM (stA h 4 f4 a) .undef fun _ h=>
 zF 8 x3 h fun a h=>
 C 165 [s0,a] h fun a h=>
 AJ (fun (h : H)=>
 zF 1 x3 h fun a h=>
 AA (BJ s0) h fun b h=>
 AA (faA 0 b) h fun b h=>
 zF 0 b h fun b h=>
 zF 1 f4 h fun c h=>
 AA (iaA 2 b c) h fun c h=>
 AA (ldA h (some 2) c) h fun c h=>
 C 164 [s0,a,c] h fun c h=>
 R (.tup []) h) fun J=>
 zF 3 x3 h fun c h=>
 AA (binOp .eql .num c (.int .i64 (-1))) h fun c h=>
 AC c
 (zF 4 x3 h fun c h=>
 AA (binOp .eql .num c (.int .i64 0)) h fun c h=>
 C 161 [c] h fun c h=>
 J h)
 (zF 4 x3 h fun c h=>
 AA (binOp .geq .num c (.int .i64 0)) h fun c h=>
 zG c 4 x3 h fun a h=>
 zU c s0 h fun b h=>
 zT c (BJ b) h fun b h=>
 zG c 11 b h fun b h=>
 zT c (AF false b) h fun b h=>
 zT c (binOp .lss .num a b) h fun b h=>
 AA (AE c b (.bool false)) h fun b h=>
 C 161 [b] h fun b h=>
 zF 3 x3 h fun b h=>
 zF 4 x3 h fun c h=>
 AA (BJ s0) h fun a h=>
 AA (faA 0 a) h fun a h=>
 zF 0 a h fun a h=>
 AA (BJ s0) h fun d h=>
 AA (faA 0 d) h fun d h=>
 zF 6 d h fun d h=>
 AA (iaA 2 a d) h fun d h=>
 AA (ldA h (some 2) d) h fun d h=>
 C 157 [s0,b,c,d] h fun d h=>
 J h)
def an175 : ACode:=
 (.seq (zr [sD 4 (.bx none 28 (.t 0)),sD 5 (.bx none 39 (.t 1)),zy 8 false])
 (.seq (.seq (zr [zm 11 3,zd 12 .lss 11 0,zm 13 12,zmf 14 13 3,zff 15 13 3 5,zlf 16 13 15,znf 17 13 16,zbf 18 13 .geq 14 17,zq 19 13 18])
 (.cond (.t 19) (.seq (zr [zy 8 false])
 .ret)
 .skip))
 (.seq (.seq (zr [zf 20 3 5,zl 21 20,zm 22 3,zi 23 2 21 22,zf 24 0 23,zl 25 24,zn 26 25,z0 27 0])
 (.block 0 (.loop [27] 234881044 (.seq (zr [zb 28 .lss 27 26])
 (.seq (.cond (.t 28) .skip
 (.exit 0))
 (.seq (.block 1 (.seq (zr [zm 29 27,zi 30 1 25 27,zl 31 30,zm 9 29,zm 10 31])
 (.seq (zr [zm 32 10,zd 33 .geq 32 0,zm 34 33,zmt 35 34 2,zmt 36 34 9,zft 37 34 0 4,zlt 38 34 37,zmt 39 34 10,zit 40 34 2 38 39,zkt 41 34 2 40,z3t 42 34 176 35 36 41,zot 43 34 42,zp 44 34 43])
 (.cond (.t 44) (.seq (zr [zy 8 false])
 .ret)
 .skip))))
 (zr [zd 45 .add 27 1,zm 27 45])))))))
 (.seq (zr [zy 8 true])
 .ret))))
def ZR : AN:=⟨46,[(.tmp 8)],an175.erase⟩
theorem ok175 : OKF 175 ZR = true:=by kernel_rfl
def sh175 (C : AK) (m0 f1 l2 block3 : AV) (h : H) (R : AV -> H -> Prop) : Prop:=
 AL h (AV.cells m0) 28 fun m4 h=>
 AL h (AV.cells f1) 39 fun f5 h=>
 AA (binOp .lss .num block3 (.int .i64 0)) h fun a h=>
 zV a block3 h fun b h=>
 zH a 3 f5 h fun c h=>
 zE a (AF false c) h fun c h=>
 zE a (binOp .geq .num b c) h fun c h=>
 AA (AE a (.bool true) c) h fun c h=>
 AC c
 (R (.bool false) h)
 (AJ (fun (h : H)=>
 R (.bool true) h) fun J=>
 zF 3 f5 h fun c h=>
 AA (iaA 2 c block3) h fun c h=>
 zF 0 c h fun c h=>
 AA (AF false c) h fun a h=>
 AP (fun N l h=>AX l 0 fun b=>
 AA (binOp .lss .num b a) h fun a h=>
 AC a
 (AA (iaA 1 c b) h fun c h=>
 zL c h fun c h=>
 AA (binOp .geq .num c (.int .i64 0)) h fun a h=>
 zU a l2 h fun d h=>
 zU a b h fun e h=>
 zG a 0 m4 h fun f h=>
 zU a c h fun c h=>
 zT a (iaA 2 f c) h fun c h=>
 zT a (ldA h (some 2) c) h fun c h=>
 AH a true (fun K=>C 176 [d,e,c] h K) h fun c h=>
 zT a (unOp .not c) h fun c h=>
 AA (AE a c (.bool false)) h fun c h=>
 AC c
 (R (.bool false) h)
 (AA (binOp .add .num b (.int .i64 1)) h fun b h=>
 N [b] h))
 (J h)) [(.int .i64 0)] h)
def an176 : ACode:=
 (.seq (zr [sD 5 (.bx none 46 (.t 2)),zy 6 false])
 (.seq (zr [zm 10 0,zm 11 1,z2 12 207 10 11,zm 9 12,zx 13 9 0,zx 14 9 1,sD 7 (.al none 46 [(.bool false),.nilsl]),zst 2 7 13,zm 8 14])
 (.seq (zr [zm 15 8,zm 16 15,zkt 17 16 2 7,zkt 18 16 2 5,z2t 19 16 24 17 18,zp 20 16 19,zm 6 20])
 .ret)))
def ZQ : AN:=⟨21,[(.tmp 6)],an176.erase⟩
theorem ok176 : OKF 176 ZQ = true:=by kernel_rfl
def sh176 (C : AK) (l0 i1 a : AV) (h : H) (R : AV -> H -> Prop) : Prop:=
 AL h (AV.cells a) 46 fun a h=>
 C 207 [l0,i1] h fun b h=>
 AA (A8 b 0) h fun c h=>
 AA (A8 b 1) h fun b h=>
 AL h [(.bool false),.nilsl] 46 fun x7 h=>
 AM (stA h 2 x7 c) .undef fun _ h=>
 zT b (ldA h (some 2) x7) h fun c h=>
 zT b (ldA h (some 2) a) h fun a h=>
 AH b true (fun K=>C 24 [c,a] h K) h fun a h=>
 AA (AE b a (.bool false)) h fun a h=>
 R a h
def an177 : ACode:=
 (.seq (zr [sD 0 (.al none 46 [(.bool false),.nilsl])])
 (.seq (zr [sD 1 (.build [(.bool false),.nilsl] [(0,1,(.c (.bool true)))]),zst 2 0 1])
 .ret))
def ZP : AN:=⟨2,[(.cell 0 (some 2))],an177.erase⟩
theorem ok177 : OKF 177 ZP = true:=by kernel_rfl
def sh177 (C : AK) (h : H) (R : AV -> H -> Prop) : Prop:=
 AL h [(.bool false),.nilsl] 46 fun a h=>
 AA (AT (AG [(.bool false),.nilsl] [(0,1,(.bool true))])) h fun b h=>
 AM (stA h 2 a b) .undef fun _ h=>
 AA (ldA h (some 2) a) h fun res _=>R res h
def an178 : ACode:=
 (.seq (zr [sD 4 (.bx none 28 (.t 0)),sD 5 (.bx none 39 (.t 1)),sD 7 (.bx none 55 (.t 3)),zy 8 false])
 (.seq (zr [zm 21 2,zf 22 2 7,zl 23 22,z2 24 207 21 23,zm 20 24,zx 25 20 0,zx 26 20 1,sD 9 (.al none 46 [(.bool false),.nilsl]),zst 2 9 25,zm 10 26])
 (.seq (.seq (zr [zm 27 10,zo 28 27,zm 29 28,zff 30 29 6 7,zlf 31 29 30,znf 32 29 31,zdf 33 29 .rem 32 2,zdf 34 29 .neq 33 0,zq 35 29 34,zm 36 35,zff 37 36 7 7,zlf 38 36 37,znf 39 36 38,zdf 40 36 .rem 39 2,zdf 41 36 .neq 40 0,zq 42 36 41,zm 43 42,zff 44 43 0 9,zlf 45 43 44,zmf 46 43 45,zft 47 46 3 7,zlt 48 46 47,zdt 49 46 .eql 48 (-1),zpf 50 43 46 49,zq 51 43 50])
 (.cond (.t 51) (.seq (zr [zy 8 false])
 .ret)
 .skip))
 (.seq (.reg 0 [0,1,2,3,4,5,6,7,8,9] (zcz [[],[],[1],[],[3,2,0],[4],[5],[5],[6],[8,7]]) [zm 53 2,zf 54 2 7,zl 55 54,⟨(some 56),none,(.call 177 []),[⟨none,(.ld none (.t 54)),55⟩]⟩,z3 57 181 53 55 56,zm 52 57,zx 58 52 0,zx 59 52 1,zm 11 58,zm 12 59])
 (.seq (.seq (zr [zf 60 3 7,zl 61 60,zd 62 .neq 61 (-1),zm 63 62,zkt 64 63 7 4,zkt 65 63 4 5,zmt 66 63 11,zft 67 63 3 7,zlt 68 63 67,sG 69 63 true (.call 175 [(.t 64),(.t 65),(.t 66),(.t 68)]),zot 70 63 69,zp 71 63 70])
 (.cond (.t 71) (.seq (zr [zy 8 false])
 .ret)
 .skip))
 (.seq (.seq (zr [z0 13 0])
 (.block 0 (.loop [13] 10932 (.seq (.seq (zr [zm 72 13,zf 73 6 7,zl 74 73,zn 75 74,zb 76 .lss 72 75])
 (.cond (.t 76) .skip
 (.exit 0)))
 (.seq (.block 1 (.seq (.reg 0 [0,1,2,3,4,5,6,7,8,9,10,11,12,13,14,15,16,17,18,19,20,21,22,23,24,25,26,27,28,29,30,31,32,33,34,35,36,37] (zcz [[],[0],[],[2,1],[3],[4],[5],[6],[7],[8],[9],[10],[11],[10],[13,12],[14],[10],[16],[10],[18],[19,17],[20],[21,15],[22],[23],[24],[25],[25],[25],[25],[29],[25],[31],[32,30],[33],[34,28,27,26],[35],[36]]) [zf 79 6 7,zl 80 79,zm 81 13,zi 82 1 80 81,zl 83 82,z1 84 208 83,zo 85 84,zm 86 85,zmf 87 86 13,zdf 88 86 .gtr 87 0,zmf 89 86 88,zft 90 89 6 7,zlt 91 89 90,zmt 92 89 13,zit 93 89 1 91 92,zlt 94 89 93,zft 95 89 6 7,zlt 96 89 95,zmt 97 89 13,zdt 98 89 .sub 97 2,zit 99 89 1 96 98,zlt 100 89 99,zbt 101 89 .leq 94 100,zpf 102 86 89 101,zq 103 86 102,zm 104 103,zkf 105 104 7 4,zkf 106 104 4 5,zmf 107 104 11,zff 108 104 6 7,zlf 109 104 108,zmf 110 104 13,zdf 111 104 .add 110 1,zif 112 104 1 109 111,zlf 113 104 112,sG 114 104 false (.call 175 [(.t 105),(.t 106),(.t 107),(.t 113)]),zof 115 104 114,zq 116 104 115])
 (.cond (.t 116) (.seq (zr [zy 8 false])
 .ret)
 .skip)))
 (zr [zm 77 13,zd 78 .add 77 2,zm 13 78]))))))
 (.seq (zr [sD 14 (.mv (.c .nilsl))])
 (.seq (.seq (zr [z0 15 0])
 (.block 2 (.loop [14,15] 49844 (.seq (.seq (zr [zm 117 15,zf 118 7 7,zl 119 118,zn 120 119,zb 121 .lss 117 120])
 (.cond (.t 121) .skip
 (.exit 2)))
 (.seq (.block 3 (.seq (.seq (.reg 0 [0,1,2,3,4,5,6,7,8,9,10,11,12,13,14,15,16,17,18,19,20,21,22,23,24,25,26,27,28,29,30,31,32,33,34] (zcz [[],[0],[],[2,1],[3],[4],[5],[6],[7],[6],[9,8],[10],[6],[12],[13],[14,11],[15],[16],[17],[18],[19],[20],[21],[20],[23,22],[24],[20],[26],[20],[28],[29,27],[30],[31,25],[32],[33]]) [zf 124 7 7,zl 125 124,zm 126 15,zi 127 1 125 126,zl 128 127,zd 129 .lss 128 0,zm 130 129,zff 131 130 7 7,zlf 132 130 131,zmf 133 130 15,zif 134 130 1 132 133,zlf 135 130 134,zff 136 130 1 4,zlf 137 130 136,znf 138 130 137,zbf 139 130 .geq 135 138,zq 140 130 139,zm 141 140,zmf 142 141 15,zdf 143 141 .gtr 142 0,zmf 144 141 143,zft 145 144 7 7,zlt 146 144 145,zmt 147 144 15,zit 148 144 1 146 147,zlt 149 144 148,zft 150 144 7 7,zlt 151 144 150,zmt 152 144 15,zdt 153 144 .sub 152 2,zit 154 144 1 151 153,zlt 155 144 154,zbt 156 144 .leq 149 155,zpf 157 141 144 156,zq 158 141 157])
 (.cond (.t 158) (.seq (zr [zy 8 false])
 .ret)
 .skip))
 (.seq (.reg 0 [0,1,2,3,4,5,6,7,8,9,10,11,12,13,14] (zcz [[],[],[1],[],[3],[],[5,4],[6],[7],[8,2,0],[9],[10],[10],[11],[13,12]]) [zm 160 2,zf 161 2 7,zl 162 161,zf 163 7 7,zl 164 163,zm 165 15,zi 166 1 164 165,zl 167 166,⟨(some 168),none,(.call 209 [(.t 167)]),[⟨none,(.ld none (.t 161)),162⟩]⟩,z3 169 181 160 162 168,zm 159 169,zx 170 159 0,zx 171 159 1,zm 16 170,zm 17 171])
 (.seq (.seq (.reg 0 [0,1,2,3,4,5,6,7,8,9,10] (zcz [[],[],[],[],[3],[],[5],[6,4],[7],[8,2,1,0],[9]]) [zk 172 7 4,zk 173 4 5,zm 174 16,zf 175 7 7,zl 176 175,zm 177 15,zd 178 .add 177 1,zi 179 1 176 178,zl 180 179,sD 181 (.call 175 [(.t 172),(.t 173),(.t 174),(.t 180)]),zo 182 181])
 (.cond (.t 182) (.seq (zr [zy 8 false])
 .ret)
 .skip))
 (zr [zm 183 14,zf 184 7 7,zl 185 184,zm 186 15,zi 187 1 185 186,zl 188 187,sD 189 (.mksl none 3 [(.int .i64 0)] 1 [(0,1,(.t 188))]),sD 190 (.app 3 1 8 [(.int .i64 0)] (.t 183) (.t 189)),zm 14 190])))))
 (zr [zm 122 15,zd 123 .add 122 2,zm 15 123]))))))
 (.seq (.seq (zr [zf 191 1 9,zl 192 191,zn 193 192,z0 194 0])
 (.block 4 (.loop [194] 43939712147706765346850525962453664912716488111248241606656 (.seq (zr [zb 195 .lss 194 193])
 (.seq (.cond (.t 195) .skip
 (.exit 4))
 (.seq (.block 5 (.seq (zr [zi 196 1 192 194,zl 197 196,zm 19 197])
 (.seq (zr [zm 198 14,zm 199 19,z2 200 66 198 199,zo 201 200])
 (.cond (.t 201) (.seq (zr [zy 8 false])
 .ret)
 .skip))))
 (zr [zd 202 .add 194 1,zm 194 202])))))))
 (.seq (zr [zy 8 true])
 .ret))))))))))
def ZO : AN:=⟨203,[(.tmp 8)],an178.erase⟩
theorem ok178 : OKF 178 ZO = true:=by kernel_rfl
def sh178 (C : AK) (m0 f1 l2 x3 : AV) (h : H) (R : AV -> H -> Prop) : Prop:=
 AL h (AV.cells m0) 28 fun m4 h=>
 AL h (AV.cells f1) 39 fun f5 h=>
 AL h (AV.cells x3) 55 fun x7 h=>
 zF 2 x7 h fun a h=>
 C 207 [l2,a] h fun a h=>
 AA (A8 a 0) h fun b h=>
 AA (A8 a 1) h fun a h=>
 AL h [(.bool false),.nilsl] 46 fun c h=>
 AM (stA h 2 c b) .undef fun _ h=>
 AA (unOp .not a) h fun a h=>
 zH a 6 x7 h fun b h=>
 zE a (AF false b) h fun b h=>
 zE a (binOp .rem .num b (.int .i64 2)) h fun b h=>
 zE a (binOp .neq .num b (.int .i64 0)) h fun b h=>
 AA (AE a (.bool true) b) h fun b h=>
 zH b 7 x7 h fun a h=>
 zE b (AF false a) h fun a h=>
 zE b (binOp .rem .num a (.int .i64 2)) h fun a h=>
 zE b (binOp .neq .num a (.int .i64 0)) h fun a h=>
 AA (AE b (.bool true) a) h fun a h=>
 zH a 0 c h fun b h=>
 zV a b h fun b h=>
 zG b 3 x7 h fun d h=>
 zT b (binOp .eql .num d (.int .i64 (-1))) h fun d h=>
 zE a (AE b d (.bool false)) h fun d h=>
 AA (AE a (.bool true) d) h fun d h=>
 AC d
 (R (.bool false) h)
 (AA (faA 2 x7) h fun d h=>
 zL d h fun a h=>
 C 177 [] h fun b h=>
 AY (AA (ldA h none d) h (fun v _=>v = a)) <|
 C 181 [l2,a,b] h fun b h=>
 AA (A8 b 0) h fun a h=>
 AA (A8 b 1) h fun b h=>
 zF 3 x7 h fun b h=>
 AA (binOp .neq .num b (.int .i64 (-1))) h fun b h=>
 zT b (ldA h (some 7) m4) h fun d h=>
 zT b (ldA h (some 4) f5) h fun e h=>
 zU b a h fun f h=>
 zG b 3 x7 h fun g h=>
 AH b true (fun K=>C 175 [d,e,f,g] h K) h fun g h=>
 zT b (unOp .not g) h fun g h=>
 AA (AE b g (.bool false)) h fun g h=>
 AC g
 (R (.bool false) h)
 (AJ (fun (h : H)=>
 AJ (fun (shapes14' : AV) (h : H)=>
 AJ (fun (h : H)=>
 R (.bool true) h) fun J=>
 zF 1 c h fun c h=>
 AA (AF false c) h fun g h=>
 AP (fun N l h=>AX l 0 fun b=>
 AA (binOp .lss .num b g) h fun g h=>
 AC g
 (AA (iaA 1 c b) h fun c h=>
 zL c h fun c h=>
 C 66 [shapes14',c] h fun c h=>
 AA (unOp .not c) h fun c h=>
 AC c
 (R (.bool false) h)
 (AA (binOp .add .num b (.int .i64 1)) h fun b h=>
 N [b] h))
 (J h)) [(.int .i64 0)] h) fun J_2=>
 AP (fun N_3 l h=>AX l 0 fun shapes14=>AX l 1 fun i15=>
 zF 7 x7 h fun b h=>
 AA (AF false b) h fun b h=>
 AA (binOp .lss .num i15 b) h fun b h=>
 AC b
 (zF 7 x7 h fun b h=>
 AA (iaA 1 b i15) h fun b h=>
 zL b h fun b h=>
 AA (binOp .lss .num b (.int .i64 0)) h fun b h=>
 zH b 7 x7 h fun c h=>
 zV b i15 h fun g h=>
 zE b (iaA 1 c g) h fun g h=>
 zE b (ldA h none g) h fun g h=>
 zH b 1 m4 h fun c h=>
 zE b (AF false c) h fun c h=>
 zE b (binOp .geq .num g c) h fun c h=>
 AA (AE b (.bool true) c) h fun c h=>
 zV c i15 h fun b h=>
 zE c (binOp .gtr .num b (.int .i64 0)) h fun b h=>
 zV c b h fun b h=>
 zG b 7 x7 h fun g h=>
 zU b i15 h fun f h=>
 zT b (iaA 1 g f) h fun f h=>
 zT b (ldA h none f) h fun f h=>
 zG b 7 x7 h fun g h=>
 zU b i15 h fun e h=>
 zT b (binOp .sub .num e (.int .i64 2)) h fun e h=>
 zT b (iaA 1 g e) h fun e h=>
 zT b (ldA h none e) h fun e h=>
 zT b (binOp .leq .num f e) h fun e h=>
 zE c (AE b e (.bool false)) h fun e h=>
 AA (AE c (.bool true) e) h fun e h=>
 AC e
 (R (.bool false) h)
 (AA (faA 2 x7) h fun e h=>
 zL e h fun c h=>
 zF 7 x7 h fun b h=>
 AA (iaA 1 b i15) h fun b h=>
 zL b h fun b h=>
 C 209 [b] h fun b h=>
 AY (AA (ldA h none e) h (fun v _=>v = c)) <|
 C 181 [l2,c,b] h fun b h=>
 AA (A8 b 0) h fun c h=>
 AA (A8 b 1) h fun b h=>
 AA (ldA h (some 7) m4) h fun b h=>
 AA (ldA h (some 4) f5) h fun e h=>
 zF 7 x7 h fun f h=>
 AA (binOp .add .num i15 (.int .i64 1)) h fun g h=>
 AA (iaA 1 f g) h fun g h=>
 zL g h fun g h=>
 C 175 [b,e,c,g] h fun g h=>
 AA (unOp .not g) h fun g h=>
 AC g
 (R (.bool false) h)
 (zF 7 x7 h fun g h=>
 AA (iaA 1 g i15) h fun g h=>
 zL g h fun g h=>
 A5 h 3 1 (AG [(.int .i64 0)] [(0,1,g)]) fun g h=>
 A4 h 3 1 8 shapes14 g fun g h=>
 AA (binOp .add .num i15 (.int .i64 2)) h fun c h=>
 N_3 [g,c] h)))
 (J_2 shapes14 h)) [.nilsl,(.int .i64 0)] h) fun J_4=>
 AP (fun N_5 l h=>AX l 0 fun i13=>
 zF 6 x7 h fun c h=>
 AA (AF false c) h fun c h=>
 AA (binOp .lss .num i13 c) h fun c h=>
 AC c
 (zF 6 x7 h fun c h=>
 AA (iaA 1 c i13) h fun c h=>
 zL c h fun c h=>
 C 208 [c] h fun c h=>
 AA (unOp .not c) h fun c h=>
 zV c i13 h fun g h=>
 zE c (binOp .gtr .num g (.int .i64 0)) h fun g h=>
 zV c g h fun g h=>
 zG g 6 x7 h fun e h=>
 zU g i13 h fun b h=>
 zT g (iaA 1 e b) h fun b h=>
 zT g (ldA h none b) h fun b h=>
 zG g 6 x7 h fun e h=>
 zU g i13 h fun f h=>
 zT g (binOp .sub .num f (.int .i64 2)) h fun f h=>
 zT g (iaA 1 e f) h fun f h=>
 zT g (ldA h none f) h fun f h=>
 zT g (binOp .leq .num b f) h fun f h=>
 zE c (AE g f (.bool false)) h fun f h=>
 AA (AE c (.bool true) f) h fun f h=>
 zE f (ldA h (some 7) m4) h fun c h=>
 zE f (ldA h (some 4) f5) h fun g h=>
 zV f a h fun a h=>
 zH f 6 x7 h fun b h=>
 zV f i13 h fun e h=>
 zE f (binOp .add .num e (.int .i64 1)) h fun e h=>
 zE f (iaA 1 b e) h fun e h=>
 zE f (ldA h none e) h fun e h=>
 AH f false (fun K=>C 175 [c,g,a,e] h K) h fun e h=>
 zE f (unOp .not e) h fun e h=>
 AA (AE f (.bool true) e) h fun e h=>
 AC e
 (R (.bool false) h)
 (AA (binOp .add .num i13 (.int .i64 2)) h fun e h=>
 N_5 [e] h))
 (J_4 h)) [(.int .i64 0)] h))
def an179 : ACode:=
 (.seq (zr [sD 4 (.bx none 28 (.t 0)),zy 8 false])
 (.seq (.seq (zr [zm 10 2,zn 11 10,zm 12 3,zn 13 12,zb 14 .neq 11 13])
 (.cond (.t 14) (.seq (zr [zy 8 false])
 .ret)
 .skip))
 (.seq (.seq (zr [zm 15 2,zn 16 15,z0 17 0])
 (.block 0 (.loop [17] 196638 (.seq (zr [zb 18 .lss 17 16])
 (.seq (.cond (.t 18) .skip
 (.exit 0))
 (.seq (.block 1 (.seq (zr [zm 19 17,zm 9 19])
 (.seq (.reg 0 [0,1,2,3,4,5,6,7,8,9,10,11,12,13,14] (zcz [[],[],[],[2,1],[3],[],[5],[],[],[8,7],[9],[10,6],[11],[12,4,0],[13]]) [zm 20 1,zm 21 2,zm 22 9,zi 23 1 21 22,zl 24 23,zf 25 0 4,zl 26 25,zm 27 3,zm 28 9,zi 29 1 27 28,zl 30 29,zi 31 2 26 30,zk 32 2 31,z3 33 176 20 24 32,zo 34 33])
 (.cond (.t 34) (.seq (zr [zy 8 false])
 .ret)
 .skip))))
 (zr [zd 35 .add 17 1,zm 17 35])))))))
 (.seq (zr [zy 8 true])
 .ret))))
def ZN : AN:=⟨36,[(.tmp 8)],an179.erase⟩
theorem ok179 : OKF 179 ZN = true:=by kernel_rfl
def sh179 (C : AK) (m0 l1 slots2 want3 : AV) (h : H) (R : AV -> H -> Prop) : Prop:=
 AL h (AV.cells m0) 28 fun m4 h=>
 AA (AF false slots2) h fun a h=>
 AA (AF false want3) h fun b h=>
 AA (binOp .neq .num a b) h fun b h=>
 AC b
 (R (.bool false) h)
 (AJ (fun (h : H)=>
 R (.bool true) h) fun J=>
 AA (AF false slots2) h fun b h=>
 AP (fun N l h=>AX l 0 fun a=>
 AA (binOp .lss .num a b) h fun b h=>
 AC b
 (AA (iaA 1 slots2 a) h fun b h=>
 zL b h fun b h=>
 zF 0 m4 h fun c h=>
 AA (iaA 1 want3 a) h fun d h=>
 zL d h fun d h=>
 AA (iaA 2 c d) h fun d h=>
 AA (ldA h (some 2) d) h fun d h=>
 C 176 [l1,b,d] h fun d h=>
 AA (unOp .not d) h fun d h=>
 AC d
 (R (.bool false) h)
 (AA (binOp .add .num a (.int .i64 1)) h fun a h=>
 N [a] h))
 (J h)) [(.int .i64 0)] h)
def an180 : ACode:=
 (.seq (zr [sD 3 (.bx none 28 (.t 0)),sD 5 (.bx none 55 (.t 2)),sD 6 (.al none 46 [(.bool false),.nilsl]),zy 7 false,zy 8 false])
 (.seq (zr [sD 34 (.call 177 []),sD 9 (.al none 46 [(.bool false),.nilsl]),zst 2 9 34])
 (.seq (.seq (zr [zf 35 0 5,zl 36 35])
 (.block 0 (.seq (zr [zd 38 .eql 36 1,zm 37 38])
 (.cond (.t 37) (.seq (.reg 0 [0,1,2,3,4,5,6] (zcz [[],[],[1],[2],[3,0],[4],[5]]) [zk 39 2 9,zf 40 5 5,zl 41 40,⟨(some 42),none,(.call 208 [(.t 41)]),[⟨none,(.ld (some 2) (.t 9)),39⟩]⟩,zst 2 6 39,zy 7 true,zm 8 42])
 .ret)
 (.seq (zr [zd 44 .eql 36 15,zm 43 44])
 (.cond (.t 43) (.seq (zr [zk 45 2 9,zst 2 6 45,zy 7 true,zy 8 true])
 .ret)
 (.seq (zr [zd 47 .eql 36 3,zm 46 47])
 (.cond (.t 46) (.seq (zr [zm 49 1,zf 50 2 5,zl 51 50,z2 52 207 49 51,zm 48 52,zx 53 48 0,zx 54 48 1,sD 10 (.al none 46 [(.bool false),.nilsl]),zst 2 10 53,zm 11 54])
 (.seq (zr [zk 55 2 10,zm 56 11,zst 2 6 55,zy 7 true,zm 8 56])
 .ret))
 (.seq (zr [zd 58 .eql 36 16,zm 57 58])
 (.cond (.t 57) (.seq (.reg 0 [0,1,2,3,4,5,6,7,8] (zcz [[],[],[],[2],[],[4,3,1],[5,0],[6],[7]]) [zk 59 2 9,zm 60 1,zf 61 2 5,zl 62 61,zk 63 2 9,⟨(some 64),none,(.call 176 [(.t 60),(.t 62),(.t 63)]),[⟨none,(.ld (some 2) (.t 9)),59⟩]⟩,zst 2 6 59,zy 7 false,zm 8 64])
 .ret)
 (.seq (zr [zd 66 .eql 36 4,zm 65 66])
 (.cond (.t 65) (.seq (.reg 0 [0,1,2,3,4,5,6,7,8,9,10,11,12,13,14,15,16,17,18,19,20,21,22,23,24,25] (zcz [[],[],[1],[2],[3],[4],[5],[6],[7],[8],[9],[9],[11],[9],[13,12,10],[14],[15],[16],[16],[18],[16],[20,19,17],[21],[21,0],[23],[24,22]]) [zk 67 2 9,zf 68 5 5,zl 69 68,zd 70 .geq 69 1,zm 71 70,zft 72 71 5 5,zlt 73 71 72,zdt 74 71 .leq 73 8,zp 75 71 74,zm 76 75,zmt 77 76 1,zft 78 76 2 5,zlt 79 76 78,zkt 80 76 2 9,⟨(some 81),(some (76,true)),(.call 176 [(.t 77),(.t 79),(.t 80)]),[⟨none,(.ld (some 2) (.t 9)),67⟩]⟩,zp 82 76 81,zm 83 82,zmt 84 83 1,zft 85 83 3 5,zlt 86 83 85,zkt 87 83 2 9,⟨(some 88),(some (83,true)),(.call 176 [(.t 84),(.t 86),(.t 87)]),[⟨none,(.ld (some 2) (.t 9)),67⟩]⟩,zp 89 83 88,zst 2 6 67,zy 7 true,zm 8 89])
 .ret)
 (.seq (zr [zd 91 .eql 36 14,zm 90 91])
 (.cond (.t 90) (.seq (zr [zk 93 7 3,zm 94 1,zf 95 2 5,zl 96 95,sD 97 (.call 210 [(.t 93),(.t 94),(.t 96),(.c (.int .i64 3)),(.c (.int .i64 3))]),zm 92 97,zx 98 92 0,zx 99 92 1,zm 12 98,zm 13 99])
 (.seq (zr [zk 101 7 3,zm 102 1,zf 103 3 5,zl 104 103,sD 105 (.call 210 [(.t 101),(.t 102),(.t 104),(.c (.int .i64 3)),(.c (.int .i64 3))]),zm 100 105,zx 106 100 0,zx 107 100 1,zm 14 106,zm 15 107])
 (.seq (zr [zk 108 2 9,zm 109 13,zm 110 109,zmt 111 110 15,zp 112 110 111,zst 2 6 108,zy 7 true,zm 8 112])
 .ret)))
 (.seq (zr [zd 114 .eql 36 12,zm 113 114])
 (.cond (.t 113) (.seq (zr [zk 116 7 3,zm 117 1,zf 118 2 5,zl 119 118,sD 120 (.call 210 [(.t 116),(.t 117),(.t 119),(.c (.int .i64 3)),(.c (.int .i64 3))]),zm 115 120,zx 121 115 0,zx 122 115 1,zm 16 121,zm 17 122])
 (.seq (.reg 0 [0,1,2,3,4,5,6,7,8,9,10,11] (zcz [[],[],[1],[2],[2],[4],[2],[6,5,3],[7],[7,0],[9],[10,8]]) [zk 123 2 9,zm 124 17,zm 125 124,zmt 126 125 1,zft 127 125 3 5,zlt 128 125 127,zkt 129 125 2 9,⟨(some 130),(some (125,true)),(.call 176 [(.t 126),(.t 128),(.t 129)]),[⟨none,(.ld (some 2) (.t 9)),123⟩]⟩,zp 131 125 130,zst 2 6 123,zy 7 true,zm 8 131])
 .ret))
 (.seq (zr [zd 133 .eql 36 11,zm 132 133])
 (.cond (.t 132) (.seq (zr [zk 135 7 3,zm 136 1,zf 137 2 5,zl 138 137,sD 139 (.call 210 [(.t 135),(.t 136),(.t 138),(.c (.int .i64 2)),(.c (.int .i64 3))]),zm 134 139,zx 140 134 0,zx 141 134 1,zm 18 140,zm 19 141])
 (.seq (zr [zk 142 2 9,zm 143 19,zst 2 6 142,zy 7 true,zm 8 143])
 .ret))
 (.seq (zr [zd 145 .eql 36 6,zm 144 145])
 (.cond (.t 144) (.seq (zr [zk 147 7 3,zm 148 1,zf 149 2 5,zl 150 149,sD 151 (.call 210 [(.t 147),(.t 148),(.t 150),(.c (.int .i64 1)),(.c (.int .i64 1))]),zm 146 151,zx 152 146 0,zx 153 146 1,zm 20 152,zm 21 153])
 (.seq (zr [zk 155 7 3,zm 156 20,zf 157 3 5,zl 158 157,z3 159 211 155 156 158,zm 154 159,zx 160 154 0,zx 161 154 1,sD 22 (.al none 46 [(.bool false),.nilsl]),zst 2 22 160,zm 23 161])
 (.seq (zr [zk 162 2 22,zm 163 21,zm 164 163,zmt 165 164 23,zp 166 164 165,zst 2 6 162,zy 7 true,zm 8 166])
 .ret)))
 (.seq (zr [zd 168 .eql 36 7,zm 167 168])
 (.cond (.t 167) (.seq (zr [zk 170 7 3,zm 171 1,zf 172 2 5,zl 173 172,sD 174 (.call 210 [(.t 170),(.t 171),(.t 173),(.c (.int .i64 1)),(.c (.int .i64 1))]),zm 169 174,zx 175 169 0,zx 176 169 1,zm 24 175,zm 25 176])
 (.seq (zr [zm 178 1,zf 179 4 5,zl 180 179,z2 181 207 178 180,zm 177 181,zx 182 177 0,zx 183 177 1,sD 26 (.al none 46 [(.bool false),.nilsl]),zst 2 26 182,zm 27 183])
 (.seq (.reg 0 [0,1,2,3,4,5,6,7,8,9,10,11,12,13,14,15,16,17] (zcz [[],[],[1],[2],[3],[4],[5],[5],[5],[8],[5],[5],[11],[12,10,9,7,6],[13],[13,0],[15],[16,14]]) [zk 184 2 9,zm 185 25,zm 186 185,zmt 187 186 27,zp 188 186 187,zm 189 188,zkt 190 189 7 3,zmt 191 189 1,zft 192 189 4 5,zlt 193 189 192,zmt 194 189 24,zft 195 189 3 5,zlt 196 189 195,⟨(some 197),(some (189,true)),(.call 212 [(.t 190),(.t 191),(.t 193),(.t 194),(.t 196)]),[⟨none,(.ld (some 2) (.t 9)),184⟩]⟩,zp 198 189 197,zst 2 6 184,zy 7 false,zm 8 198])
 .ret)))
 (.seq (zr [zd 200 .eql 36 9,zm 199 200])
 (.cond (.t 199) (.seq (zr [zk 202 7 3,zm 203 1,zf 204 2 5,zl 205 204,sD 206 (.call 210 [(.t 202),(.t 203),(.t 205),(.c (.int .i64 2)),(.c (.int .i64 2))]),zm 201 206,zx 207 201 0,zx 208 201 1,zm 28 207,zm 29 208])
 (.seq (zr [zk 210 7 3,zm 211 28,sD 212 (.call 211 [(.t 210),(.t 211),(.c (.int .i64 0))]),zm 209 212,zx 213 209 0,zx 214 209 1,sD 30 (.al none 46 [(.bool false),.nilsl]),zst 2 30 213,zm 31 214])
 (.seq (.reg 0 [0,1,2,3,4,5,6,7,8,9,10,11,12,13,14] (zcz [[],[],[1],[2],[3],[4],[5],[5],[7],[5],[9,8,6],[10],[10,0],[12],[13,11]]) [zk 215 2 30,zm 216 29,zm 217 216,zmt 218 217 31,zp 219 217 218,zm 220 219,zmt 221 220 1,zft 222 220 3 5,zlt 223 220 222,zkt 224 220 2 9,⟨(some 225),(some (220,true)),(.call 176 [(.t 221),(.t 223),(.t 224)]),[⟨none,(.ld (some 2) (.t 30)),215⟩]⟩,zp 226 220 225,zst 2 6 215,zy 7 true,zm 8 226])
 .ret)))
 (.seq (zr [zd 228 .eql 36 10,zm 227 228])
 (.cond (.t 227) (.seq (zr [zk 230 7 3,zm 231 1,zf 232 2 5,zl 233 232,sD 234 (.call 210 [(.t 230),(.t 231),(.t 233),(.c (.int .i64 2)),(.c (.int .i64 2))]),zm 229 234,zx 235 229 0,zx 236 229 1,zm 32 235,zm 33 236])
 (.seq (.reg 0 [0,1,2,3,4,5,6,7,8,9,10,11,12,13,14,15,16,17,18,19] (zcz [[],[],[1],[2],[2],[4],[2],[6,5,3],[7],[8],[9],[9],[9],[12],[9],[14,13,11,10],[15],[15,0],[17],[18,16]]) [zk 237 2 9,zm 238 33,zm 239 238,zmt 240 239 1,zft 241 239 3 5,zlt 242 239 241,zkt 243 239 2 9,⟨(some 244),(some (239,true)),(.call 176 [(.t 240),(.t 242),(.t 243)]),[⟨none,(.ld (some 2) (.t 9)),237⟩]⟩,zp 245 239 244,zm 246 245,zkt 247 246 7 3,zmt 248 246 1,zft 249 246 4 5,zlt 250 246 249,zmt 251 246 32,⟨(some 252),(some (246,true)),(.call 212 [(.t 247),(.t 248),(.t 250),(.t 251),(.c (.int .i64 0))]),[⟨none,(.ld (some 2) (.t 9)),237⟩]⟩,zp 253 246 252,zst 2 6 237,zy 7 false,zm 8 253])
 .ret))
 .skip))))))))))))))))))))))))))
 (.seq (zr [zk 254 2 9,zst 2 6 254,zy 7 false,zy 8 false])
 .ret))))
def ZM : AN:=⟨255,[(.cell 6 (some 2)),(.tmp 7),(.tmp 8)],an180.erase⟩
theorem ok180 : OKF 180 ZM = true:=by kernel_rfl
def sh180 (C : AK) (m0 l1 x2 : AV) (h : H) (R : AV -> H -> Prop) : Prop:=
 AL h (AV.cells m0) 28 fun m3 h=>
 AL h (AV.cells x2) 55 fun x5 h=>
 AL h [(.bool false),.nilsl] 46 fun a h=>
 C 177 [] h fun b h=>
 AL h [(.bool false),.nilsl] 46 fun c h=>
 AM (stA h 2 c b) .undef fun _ h=>
 zF 0 x5 h fun b h=>
 AA (binOp .eql .num b (.int .i64 1)) h fun d h=>
 AC d
 (AA (ldA h (some 2) c) h fun d h=>
 zF 5 x5 h fun e h=>
 C 208 [e] h fun e h=>
 AY (AA (ldA h (some 2) c) h (fun v _=>v = d)) <|
 AM (stA h 2 a d) .undef fun _ h=>
 AA (ldA h (some 2) a) h fun res _=>R (.tup [res,(.bool true),e]) h)
 (AA (binOp .eql .num b (.int .i64 15)) h fun e h=>
 AC e
 (AA (ldA h (some 2) c) h fun e h=>
 AM (stA h 2 a e) .undef fun _ h=>
 AA (ldA h (some 2) a) h fun res_0 _=>R (.tup [res_0,(.bool true),(.bool true)]) h)
 (AA (binOp .eql .num b (.int .i64 3)) h fun e h=>
 AC e
 (zF 2 x5 h fun e h=>
 C 207 [l1,e] h fun e h=>
 AA (A8 e 0) h fun d h=>
 AA (A8 e 1) h fun e h=>
 AL h [(.bool false),.nilsl] 46 fun a10 h=>
 AM (stA h 2 a10 d) .undef fun _ h=>
 AA (ldA h (some 2) a10) h fun d h=>
 AM (stA h 2 a d) .undef fun _ h=>
 AA (ldA h (some 2) a) h fun res_1 _=>R (.tup [res_1,(.bool true),e]) h)
 (AA (binOp .eql .num b (.int .i64 16)) h fun e h=>
 AC e
 (AA (ldA h (some 2) c) h fun e h=>
 zF 2 x5 h fun d h=>
 AA (ldA h (some 2) c) h fun f h=>
 C 176 [l1,d,f] h fun f h=>
 AY (AA (ldA h (some 2) c) h (fun v _=>v = e)) <|
 AM (stA h 2 a e) .undef fun _ h=>
 AA (ldA h (some 2) a) h fun res_2 _=>R (.tup [res_2,(.bool false),f]) h)
 (AA (binOp .eql .num b (.int .i64 4)) h fun f h=>
 AC f
 (AA (ldA h (some 2) c) h fun f h=>
 zF 5 x5 h fun e h=>
 AA (binOp .geq .num e (.int .i64 1)) h fun e h=>
 zG e 5 x5 h fun d h=>
 zT e (binOp .leq .num d (.int .i64 8)) h fun d h=>
 AA (AE e d (.bool false)) h fun d h=>
 zU d l1 h fun e h=>
 zG d 2 x5 h fun g h=>
 zT d (ldA h (some 2) c) h fun i h=>
 AH d true (fun K=>C 176 [e,g,i] h K) h fun i h=>
 AY (AA (ldA h (some 2) c) h (fun v _=>v = f)) <|
 AA (AE d i (.bool false)) h fun i h=>
 zU i l1 h fun d h=>
 zG i 3 x5 h fun g h=>
 zT i (ldA h (some 2) c) h fun e h=>
 AH i true (fun K=>C 176 [d,g,e] h K) h fun e h=>
 AY (AA (ldA h (some 2) c) h (fun v _=>v = f)) <|
 AA (AE i e (.bool false)) h fun e h=>
 AM (stA h 2 a f) .undef fun _ h=>
 AA (ldA h (some 2) a) h fun res_3 _=>R (.tup [res_3,(.bool true),e]) h)
 (AA (binOp .eql .num b (.int .i64 14)) h fun e h=>
 AC e
 (AA (ldA h (some 7) m3) h fun e h=>
 zF 2 x5 h fun f h=>
 C 210 [e,l1,f,(.int .i64 3),(.int .i64 3)] h fun f h=>
 AA (A8 f 0) h fun e h=>
 AA (A8 f 1) h fun f h=>
 AA (ldA h (some 7) m3) h fun e h=>
 zF 3 x5 h fun i h=>
 C 210 [e,l1,i,(.int .i64 3),(.int .i64 3)] h fun i h=>
 AA (A8 i 0) h fun e h=>
 AA (A8 i 1) h fun i h=>
 AA (ldA h (some 2) c) h fun e h=>
 zU f i h fun i h=>
 AA (AE f i (.bool false)) h fun i h=>
 AM (stA h 2 a e) .undef fun _ h=>
 AA (ldA h (some 2) a) h fun res_4 _=>R (.tup [res_4,(.bool true),i]) h)
 (AA (binOp .eql .num b (.int .i64 12)) h fun i h=>
 AC i
 (AA (ldA h (some 7) m3) h fun i h=>
 zF 2 x5 h fun e h=>
 C 210 [i,l1,e,(.int .i64 3),(.int .i64 3)] h fun e h=>
 AA (A8 e 0) h fun i h=>
 AA (A8 e 1) h fun e h=>
 AA (ldA h (some 2) c) h fun i h=>
 zU e l1 h fun f h=>
 zG e 3 x5 h fun g h=>
 zT e (ldA h (some 2) c) h fun d h=>
 AH e true (fun K=>C 176 [f,g,d] h K) h fun d h=>
 AY (AA (ldA h (some 2) c) h (fun v _=>v = i)) <|
 AA (AE e d (.bool false)) h fun d h=>
 AM (stA h 2 a i) .undef fun _ h=>
 AA (ldA h (some 2) a) h fun res_5 _=>R (.tup [res_5,(.bool true),d]) h)
 (AA (binOp .eql .num b (.int .i64 11)) h fun d h=>
 AC d
 (AA (ldA h (some 7) m3) h fun d h=>
 zF 2 x5 h fun i h=>
 C 210 [d,l1,i,(.int .i64 2),(.int .i64 3)] h fun i h=>
 AA (A8 i 0) h fun d h=>
 AA (A8 i 1) h fun i h=>
 AA (ldA h (some 2) c) h fun d h=>
 AM (stA h 2 a d) .undef fun _ h=>
 AA (ldA h (some 2) a) h fun res_6 _=>R (.tup [res_6,(.bool true),i]) h)
 (AA (binOp .eql .num b (.int .i64 6)) h fun i h=>
 AC i
 (AA (ldA h (some 7) m3) h fun i h=>
 zF 2 x5 h fun d h=>
 C 210 [i,l1,d,(.int .i64 1),(.int .i64 1)] h fun d h=>
 AA (A8 d 0) h fun i h=>
 AA (A8 d 1) h fun d h=>
 AA (ldA h (some 7) m3) h fun e h=>
 zF 3 x5 h fun g h=>
 C 211 [e,i,g] h fun g h=>
 AA (A8 g 0) h fun i h=>
 AA (A8 g 1) h fun g h=>
 AL h [(.bool false),.nilsl] 46 fun p22 h=>
 AM (stA h 2 p22 i) .undef fun _ h=>
 AA (ldA h (some 2) p22) h fun i h=>
 zU d g h fun g h=>
 AA (AE d g (.bool false)) h fun g h=>
 AM (stA h 2 a i) .undef fun _ h=>
 AA (ldA h (some 2) a) h fun res_7 _=>R (.tup [res_7,(.bool true),g]) h)
 (AA (binOp .eql .num b (.int .i64 7)) h fun g h=>
 AC g
 (AA (ldA h (some 7) m3) h fun g h=>
 zF 2 x5 h fun i h=>
 C 210 [g,l1,i,(.int .i64 1),(.int .i64 1)] h fun i h=>
 AA (A8 i 0) h fun g h=>
 AA (A8 i 1) h fun i h=>
 zF 4 x5 h fun d h=>
 C 207 [l1,d] h fun d h=>
 AA (A8 d 0) h fun e h=>
 AA (A8 d 1) h fun d h=>
 AL h [(.bool false),.nilsl] 46 fun f h=>
 AM (stA h 2 f e) .undef fun _ h=>
 AA (ldA h (some 2) c) h fun e h=>
 zU i d h fun d h=>
 AA (AE i d (.bool false)) h fun d h=>
 zT d (ldA h (some 7) m3) h fun i h=>
 zU d l1 h fun f h=>
 zG d 4 x5 h fun j h=>
 zU d g h fun g h=>
 zG d 3 x5 h fun k h=>
 AH d true (fun K=>C 212 [i,f,j,g,k] h K) h fun k h=>
 AY (AA (ldA h (some 2) c) h (fun v _=>v = e)) <|
 AA (AE d k (.bool false)) h fun k h=>
 AM (stA h 2 a e) .undef fun _ h=>
 AA (ldA h (some 2) a) h fun res_8 _=>R (.tup [res_8,(.bool false),k]) h)
 (AA (binOp .eql .num b (.int .i64 9)) h fun k h=>
 AC k
 (AA (ldA h (some 7) m3) h fun k h=>
 zF 2 x5 h fun e h=>
 C 210 [k,l1,e,(.int .i64 2),(.int .i64 2)] h fun e h=>
 AA (A8 e 0) h fun k h=>
 AA (A8 e 1) h fun e h=>
 AA (ldA h (some 7) m3) h fun d h=>
 C 211 [d,k,(.int .i64 0)] h fun k h=>
 AA (A8 k 0) h fun d h=>
 AA (A8 k 1) h fun k h=>
 AL h [(.bool false),.nilsl] 46 fun p30 h=>
 AM (stA h 2 p30 d) .undef fun _ h=>
 AA (ldA h (some 2) p30) h fun d h=>
 zU e k h fun k h=>
 AA (AE e k (.bool false)) h fun k h=>
 zU k l1 h fun e h=>
 zG k 3 x5 h fun g h=>
 zT k (ldA h (some 2) c) h fun j h=>
 AH k true (fun K=>C 176 [e,g,j] h K) h fun j h=>
 AY (AA (ldA h (some 2) p30) h (fun v _=>v = d)) <|
 AA (AE k j (.bool false)) h fun j h=>
 AM (stA h 2 a d) .undef fun _ h=>
 AA (ldA h (some 2) a) h fun res_9 _=>R (.tup [res_9,(.bool true),j]) h)
 (AA (binOp .eql .num b (.int .i64 10)) h fun b h=>
 AC b
 (AA (ldA h (some 7) m3) h fun b h=>
 zF 2 x5 h fun j h=>
 C 210 [b,l1,j,(.int .i64 2),(.int .i64 2)] h fun j h=>
 AA (A8 j 0) h fun b h=>
 AA (A8 j 1) h fun j h=>
 AA (ldA h (some 2) c) h fun d h=>
 zU j l1 h fun k h=>
 zG j 3 x5 h fun g h=>
 zT j (ldA h (some 2) c) h fun e h=>
 AH j true (fun K=>C 176 [k,g,e] h K) h fun e h=>
 AY (AA (ldA h (some 2) c) h (fun v _=>v = d)) <|
 AA (AE j e (.bool false)) h fun e h=>
 zT e (ldA h (some 7) m3) h fun j h=>
 zU e l1 h fun g h=>
 zG e 4 x5 h fun k h=>
 zU e b h fun b h=>
 AH e true (fun K=>C 212 [j,g,k,b,(.int .i64 0)] h K) h fun b h=>
 AY (AA (ldA h (some 2) c) h (fun v _=>v = d)) <|
 AA (AE e b (.bool false)) h fun b h=>
 AM (stA h 2 a d) .undef fun _ h=>
 AA (ldA h (some 2) a) h fun res_10 _=>R (.tup [res_10,(.bool false),b]) h)
 (AA (ldA h (some 2) c) h fun c h=>
 AM (stA h 2 a c) .undef fun _ h=>
 AA (ldA h (some 2) a) h fun res_11 _=>R (.tup [res_11,(.bool false),(.bool false)]) h))))))))))))
def an181 : ACode:=
 (.seq (zr [sD 5 (.bx none 46 (.t 2)),sD 6 (.mv (.c .nilsl)),zy 7 false])
 (.seq (.seq (zr [zm 9 1,zd 10 .lss 9 0,zm 11 10,zmf 12 11 1,zmf 13 11 0,znf 14 11 13,zbf 15 11 .geq 12 14,zq 16 11 15])
 (.cond (.t 16) (.seq (zr [sD 6 (.mv (.c .nilsl)),zy 7 false])
 .ret)
 .skip))
 (.seq (zr [sD 17 (.mksl none 154 [] 0 []),zm 18 0,sD 19 (.app 154 3 40 [(.bool false),.nilsl,(.bool false)] (.t 17) (.t 18)),zm 8 19])
 (.seq (zr [zm 20 8,zm 21 1,zk 22 2 5,sD 23 (.build [(.bool false),.nilsl,(.bool false)] [(0,2,(.t 22))]),zi 24 3 20 21,zst 3 24 23])
 (.seq (zr [zm 25 8,zm 6 25,zy 7 true])
 .ret)))))
def ZL : AN:=⟨26,[(.tmp 6),(.tmp 7)],an181.erase⟩
theorem ok181 : OKF 181 ZL = true:=by kernel_rfl
def sh181 (C : AK) (l0 i1 a : AV) (h : H) (R : AV -> H -> Prop) : Prop:=
 AL h (AV.cells a) 46 fun a h=>
 AA (binOp .lss .num i1 (.int .i64 0)) h fun b h=>
 zV b i1 h fun c h=>
 zV b l0 h fun d h=>
 zE b (AF false d) h fun d h=>
 zE b (binOp .geq .num c d) h fun d h=>
 AA (AE b (.bool true) d) h fun d h=>
 AC d
 (R (.tup [.nilsl,(.bool false)]) h)
 (A5 h 154 0 (AG [] []) fun d h=>
 A4 h 154 3 40 d l0 fun d h=>
 AA (ldA h (some 2) a) h fun a h=>
 AA (AT (AG [(.bool false),.nilsl,(.bool false)] [(0,2,a)])) h fun a h=>
 AA (iaA 3 d i1) h fun b h=>
 AM (stA h 3 b a) .undef fun _ h=>
 R (.tup [d,(.bool true)]) h)
def an182 : ACode:=
 (.seq (zr [sD 3 (.bx none 28 (.t 0)),sD 5 (.bx none 55 (.t 2)),sD 6 (.al none 46 [(.bool false),.nilsl]),zy 7 false])
 (.seq (.seq (zr [zf 12 0 5,zl 13 12])
 (.block 0 (.seq (zr [zd 15 .eql 13 2,zm 14 15])
 (.cond (.t 14) (.seq (.reg 0 [1,2,0,3,4,5,6,7,8,9,10,11,12,13] (zcz [[],[],[1],[2],[0,3],[4],[5],[4],[7],[8],[9,6],[10],[4],[12,11]]) [zf 17 2 5,zl 18 17,⟨(some 16),none,(.call 209 [(.c (.int .i64 0))]),[⟨none,(.ld none (.t 17)),18⟩]⟩,zd 19 .geq 18 0,zm 20 19,zft 21 20 2 5,zlt 22 20 21,zft 23 20 2 3,zlt 24 20 23,znt 25 20 24,zbt 26 20 .lss 22 25,zp 27 20 26,⟨none,none,(.st 2 (.t 6) (.t 16)),[⟨(some (20,true)),(.ld none (.t 21)),22⟩,⟨(some (20,true)),(.ld none (.t 23)),24⟩]⟩,zm 7 27])
 .ret)
 (.seq (zr [zd 29 .eql 13 13,zm 28 29])
 (.cond (.t 28) (.seq (zr [zk 31 7 3,zm 32 1,zf 33 2 5,zl 34 33,sD 35 (.call 210 [(.t 31),(.t 32),(.t 34),(.c (.int .i64 3)),(.c (.int .i64 3))]),zm 30 35,zx 36 30 0,zx 37 30 1,zm 8 36,zm 9 37])
 (.seq (zr [zk 39 7 3,zm 40 1,zf 41 3 5,zl 42 41,sD 43 (.call 210 [(.t 39),(.t 40),(.t 42),(.c (.int .i64 3)),(.c (.int .i64 3))]),zm 38 43,zx 44 38 0,zx 45 38 1,zm 10 44,zm 11 45])
 (.seq (zr [sD 46 (.call 209 [(.c (.int .i64 0))]),zm 47 9,zm 48 47,zmt 49 48 11,zp 50 48 49,zst 2 6 46,zm 7 50])
 .ret)))
 (.seq (zr [zd 52 .eql 13 5,zm 51 52])
 (.cond (.t 51) (.seq (.reg 0 [0,1,3,4,2,5,6,7,8,9,10,11,12,13,14,15,16,17,18,19,20,21,22,23,24,25,26,27,28,29,30,31,32,33,34,35,36,37,38,39] (zcz [[],[0],[1],[],[3],[4],[2,5],[6],[7],[6],[9],[10],[11,8],[12],[13],[14],[15],[14],[17],[18,16],[19],[20],[21],[22],[23],[24],[24],[24],[27],[24],[29],[24],[31],[32,30],[33],[34],[35,28,26,25],[36],[36],[38,37]]) [zf 53 2 5,zl 54 53,zf 56 2 5,zl 57 56,⟨(some 55),none,(.call 209 [(.t 54)]),[⟨none,(.ld none (.t 56)),57⟩]⟩,zd 58 .geq 57 0,zm 59 58,zft 60 59 2 5,zlt 61 59 60,zft 62 59 1 3,zlt 63 59 62,znt 64 59 63,zbt 65 59 .lss 61 64,zp 66 59 65,zm 67 66,zft 68 67 1 3,zlt 69 67 68,zft 70 67 2 5,zlt 71 67 70,zit 72 67 3 69 71,zft 73 67 0 72,zlt 74 67 73,zdt 75 67 .eql 74 1,zp 76 67 75,zm 77 76,zkt 78 77 7 3,zmt 79 77 1,zft 80 77 6 5,zlt 81 77 80,zft 82 77 1 3,zlt 83 77 82,zft 84 77 2 5,zlt 85 77 84,zit 86 77 3 83 85,zft 87 77 1 86,zlt 88 77 87,sG 89 77 true (.call 179 [(.t 78),(.t 79),(.t 81),(.t 88)]),zp 90 77 89,zst 2 6 55,zm 7 90])
 .ret)
 (.seq (zr [zd 92 .eql 13 8,zm 91 92])
 (.cond (.t 91) (.seq (.reg 1 [0,1,3,4,2,5,6,7,8,9,10,11,12,13,14,15,16,17,18,19,20,21,22,23,24,25,26,27,28,29,30,31,32,33,34,35,37,38,39,40,41,42,43,36,44,45,46,47] (zcz [[],[0],[1],[],[3],[4],[2,5],[6],[7],[6],[9],[10],[11,8],[12],[13],[14],[15],[14],[17],[18,16],[19],[20],[21],[22],[23],[24],[24],[26],[24],[28,27,25],[29],[30],[31],[31],[31],[34],[35],[31],[37],[31],[39],[40,38],[41],[42],[43,36,33,32],[44],[44],[46,45]]) [zf 93 2 5,zl 94 93,zf 96 2 5,zl 97 96,⟨(some 95),none,(.call 209 [(.t 94)]),[⟨none,(.ld none (.t 96)),97⟩]⟩,zd 98 .geq 97 0,zm 99 98,zft 100 99 2 5,zlt 101 99 100,zft 102 99 1 3,zlt 103 99 102,znt 104 99 103,zbt 105 99 .lss 101 104,zp 106 99 105,zm 107 106,zft 108 107 1 3,zlt 109 107 108,zft 110 107 2 5,zlt 111 107 110,zit 112 107 3 109 111,zft 113 107 0 112,zlt 114 107 113,zdt 115 107 .eql 114 2,zp 116 107 115,zm 117 116,zmt 118 117 1,zft 119 117 3 5,zlt 120 117 119,⟨(some 121),(some (117,true)),(.call 177 []),[⟨(some (117,true)),(.ld none (.t 119)),120⟩]⟩,z3t 122 117 176 118 120 121,zp 123 117 122,zm 124 123,zkt 125 124 7 3,zmt 126 124 1,zft 127 124 4 5,zlt 128 124 127,zft 130 124 1 3,zlt 131 124 130,zft 132 124 2 5,zlt 133 124 132,zit 134 124 3 131 133,zft 135 124 1 134,zlt 136 124 135,sG 129 124 true (.mksl (some 0) 3 [(.int .i64 0)] 1 [(0,1,(.t 128))]),sG 137 124 true (.call 179 [(.t 125),(.t 126),(.t 129),(.t 136)]),zp 138 124 137,zst 2 6 95,zm 7 138])
 .ret)
 (.seq (zr [zd 140 .eql 13 17,zm 139 140])
 (.cond (.t 139) (.seq (.seq (zr [zf 141 2 5,zl 142 141,zd 143 .lss 142 0,zm 144 143,zff 145 144 2 5,zlf 146 144 145,zff 147 144 4 3,zlf 148 144 147,znf 149 144 148,zbf 150 144 .geq 146 149,zq 151 144 150])
 (.cond (.t 151) (.seq (zr [sD 152 (.call 177 []),zst 2 6 152,zy 7 false])
 .ret)
 .skip))
 (.seq (.reg 0 [0,1,2,3,4,5,6,7,8,9,10,11,12,13,14,15,16,17,18,19,20,21,22,23,24] (zcz [[],[0],[],[2],[],[4],[5,3],[6],[7],[8,1],[9],[],[],[],[13],[],[15],[],[17],[18,16],[19],[20],[21,14,12,11],[22,10],[23]]) [zf 153 0 3,zl 154 153,zf 155 4 3,zl 156 155,zf 157 2 5,zl 158 157,zi 159 4 156 158,zf 160 1 159,zl 161 160,zi 162 2 154 161,zk 163 2 162,zk 164 7 3,zm 165 1,zf 166 6 5,zl 167 166,zf 168 4 3,zl 169 168,zf 170 2 5,zl 171 170,zi 172 4 169 171,zf 173 0 172,zl 174 173,⟨(some 175),none,(.call 179 [(.t 164),(.t 165),(.t 167),(.t 174)]),[⟨none,(.ld none (.t 153)),154⟩,⟨none,(.ld none (.t 155)),156⟩,⟨none,(.ld none (.t 157)),158⟩,⟨none,(.ld none (.t 160)),161⟩,⟨none,(.ld (some 2) (.t 162)),163⟩]⟩,zst 2 6 163,zm 7 175])
 .ret))
 .skip))))))))))))
 (.seq (zr [sD 176 (.call 177 []),zst 2 6 176,zy 7 false])
 .ret)))
def ZK : AN:=⟨177,[(.cell 6 (some 2)),(.tmp 7)],an182.erase⟩
theorem ok182 : OKF 182 ZK = true:=by kernel_rfl
def sh182 (C : AK) (m0 l1 x2 : AV) (h : H) (R : AV -> H -> Prop) : Prop:=
 AL h (AV.cells m0) 28 fun m3 h=>
 AL h (AV.cells x2) 55 fun x5 h=>
 AL h [(.bool false),.nilsl] 46 fun a h=>
 zF 0 x5 h fun b h=>
 AA (binOp .eql .num b (.int .i64 2)) h fun c h=>
 AC c
 (AA (faA 2 x5) h fun c h=>
 zL c h fun d h=>
 C 209 [(.int .i64 0)] h fun e h=>
 AY (AA (ldA h none c) h (fun v _=>v = d)) <|
 AA (binOp .geq .num d (.int .i64 0)) h fun d h=>
 zT d (faA 2 x5) h fun c h=>
 zT d (ldA h none c) h fun f h=>
 zT d (faA 2 m3) h fun g h=>
 zT d (ldA h none g) h fun i h=>
 zT d (AF false i) h fun j h=>
 zT d (binOp .lss .num f j) h fun j h=>
 AA (AE d j (.bool false)) h fun j h=>
 AM (stA h 2 a e) .undef fun _ h=>
 AY (GI d true (AA (ldA h none c) h (fun v _=>v = f))) <|
 AY (GI d true (AA (ldA h none g) h (fun v _=>v = i))) <|
 AA (ldA h (some 2) a) h fun res _=>R (.tup [res,j]) h)
 (AA (binOp .eql .num b (.int .i64 13)) h fun j h=>
 AC j
 (AA (ldA h (some 7) m3) h fun j h=>
 zF 2 x5 h fun i h=>
 C 210 [j,l1,i,(.int .i64 3),(.int .i64 3)] h fun i h=>
 AA (A8 i 0) h fun j h=>
 AA (A8 i 1) h fun i h=>
 AA (ldA h (some 7) m3) h fun j h=>
 zF 3 x5 h fun g h=>
 C 210 [j,l1,g,(.int .i64 3),(.int .i64 3)] h fun g h=>
 AA (A8 g 0) h fun j h=>
 AA (A8 g 1) h fun g h=>
 C 209 [(.int .i64 0)] h fun j h=>
 zU i g h fun g h=>
 AA (AE i g (.bool false)) h fun g h=>
 AM (stA h 2 a j) .undef fun _ h=>
 AA (ldA h (some 2) a) h fun res_0 _=>R (.tup [res_0,g]) h)
 (AA (binOp .eql .num b (.int .i64 5)) h fun g h=>
 AC g
 (zF 2 x5 h fun g h=>
 AA (faA 2 x5) h fun j h=>
 zL j h fun i h=>
 C 209 [g] h fun g h=>
 AY (AA (ldA h none j) h (fun v _=>v = i)) <|
 AA (binOp .geq .num i (.int .i64 0)) h fun i h=>
 zG i 2 x5 h fun j h=>
 zG i 1 m3 h fun d h=>
 zT i (AF false d) h fun d h=>
 zT i (binOp .lss .num j d) h fun d h=>
 AA (AE i d (.bool false)) h fun d h=>
 zG d 1 m3 h fun i h=>
 zG d 2 x5 h fun j h=>
 zT d (iaA 3 i j) h fun j h=>
 zG d 0 j h fun j h=>
 zT d (binOp .eql .num j (.int .i64 1)) h fun j h=>
 AA (AE d j (.bool false)) h fun j h=>
 zT j (ldA h (some 7) m3) h fun d h=>
 zU j l1 h fun i h=>
 zG j 6 x5 h fun f h=>
 zG j 1 m3 h fun c h=>
 zG j 2 x5 h fun e h=>
 zT j (iaA 3 c e) h fun e h=>
 zG j 1 e h fun e h=>
 AH j true (fun K=>C 179 [d,i,f,e] h K) h fun e h=>
 AA (AE j e (.bool false)) h fun e h=>
 AM (stA h 2 a g) .undef fun _ h=>
 AA (ldA h (some 2) a) h fun res_1 _=>R (.tup [res_1,e]) h)
 (AA (binOp .eql .num b (.int .i64 8)) h fun e h=>
 AC e
 (zF 2 x5 h fun e h=>
 AA (faA 2 x5) h fun g h=>
 zL g h fun j h=>
 C 209 [e] h fun e h=>
 AY (AA (ldA h none g) h (fun v _=>v = j)) <|
 AA (binOp .geq .num j (.int .i64 0)) h fun j h=>
 zG j 2 x5 h fun g h=>
 zG j 1 m3 h fun f h=>
 zT j (AF false f) h fun f h=>
 zT j (binOp .lss .num g f) h fun f h=>
 AA (AE j f (.bool false)) h fun f h=>
 zG f 1 m3 h fun j h=>
 zG f 2 x5 h fun g h=>
 zT f (iaA 3 j g) h fun g h=>
 zG f 0 g h fun g h=>
 zT f (binOp .eql .num g (.int .i64 2)) h fun g h=>
 AA (AE f g (.bool false)) h fun g h=>
 zU g l1 h fun f h=>
 zT g (faA 3 x5) h fun j h=>
 zT g (ldA h none j) h fun i h=>
 AH g true (fun K=>C 177 [] h K) h fun d h=>
 AY (GI g true (AA (ldA h none j) h (fun v _=>v = i))) <|
 AH g true (fun K=>C 176 [f,i,d] h K) h fun d h=>
 AA (AE g d (.bool false)) h fun d h=>
 zT d (ldA h (some 7) m3) h fun g h=>
 zU d l1 h fun i h=>
 zG d 4 x5 h fun f h=>
 zG d 1 m3 h fun j h=>
 zG d 2 x5 h fun c h=>
 zT d (iaA 3 j c) h fun c h=>
 zG d 1 c h fun c h=>
 AH d true (fun K=>A5 h 3 1 (AG [(.int .i64 0)] [(0,1,f)]) K) h fun f h=>
 AH d true (fun K=>C 179 [g,i,f,c] h K) h fun c h=>
 AA (AE d c (.bool false)) h fun c h=>
 AM (stA h 2 a e) .undef fun _ h=>
 AA (ldA h (some 2) a) h fun res_2 _=>R (.tup [res_2,c]) h)
 (AA (binOp .eql .num b (.int .i64 17)) h fun b h=>
 AC b
 (zF 2 x5 h fun b h=>
 AA (binOp .lss .num b (.int .i64 0)) h fun b h=>
 zH b 2 x5 h fun c h=>
 zH b 4 m3 h fun e h=>
 zE b (AF false e) h fun e h=>
 zE b (binOp .geq .num c e) h fun e h=>
 AA (AE b (.bool true) e) h fun e h=>
 AC e
 (C 177 [] h fun e h=>
 AM (stA h 2 a e) .undef fun _ h=>
 AA (ldA h (some 2) a) h fun res_3 _=>R (.tup [res_3,(.bool false)]) h)
 (AA (faA 0 m3) h fun e h=>
 zL e h fun b h=>
 AA (faA 4 m3) h fun c h=>
 zL c h fun d h=>
 AA (faA 2 x5) h fun f h=>
 zL f h fun i h=>
 AA (iaA 4 d i) h fun g h=>
 AA (faA 1 g) h fun g h=>
 zL g h fun j h=>
 AA (iaA 2 b j) h fun k h=>
 AA (ldA h (some 2) k) h fun l h=>
 AA (ldA h (some 7) m3) h fun m h=>
 zF 6 x5 h fun n h=>
 zF 4 m3 h fun o h=>
 zF 2 x5 h fun p h=>
 AA (iaA 4 o p) h fun p h=>
 zF 0 p h fun p h=>
 C 179 [m,l1,n,p] h fun p h=>
 AY (AA (ldA h none e) h (fun v _=>v = b)) <|
 AY (AA (ldA h none c) h (fun v _=>v = d)) <|
 AY (AA (ldA h none f) h (fun v _=>v = i)) <|
 AY (AA (ldA h none g) h (fun v _=>v = j)) <|
 AY (AA (ldA h (some 2) k) h (fun v _=>v = l)) <|
 AM (stA h 2 a l) .undef fun _ h=>
 AA (ldA h (some 2) a) h fun res_4 _=>R (.tup [res_4,p]) h))
 (C 177 [] h fun p h=>
 AM (stA h 2 a p) .undef fun _ h=>
 AA (ldA h (some 2) a) h fun res_5 _=>R (.tup [res_5,(.bool false)]) h)))))
def an183 : ACode:=
 (.seq (zr [sD 4 (.mv (.c .nilsl)),zy 5 false])
 (.seq (.seq (zr [zm 8 1,zm 9 0,zn 10 9,z2 11 79 8 10,zo 12 11])
 (.cond (.t 12) (.seq (zr [sD 4 (.mv (.c .nilsl)),zy 5 false])
 .ret)
 .skip))
 (.seq (zr [sD 6 (.mv (.c .nilsl))])
 (.seq (.seq (zr [zm 13 0,zn 14 13,z0 15 0])
 (.block 0 (.loop [6,15] 49219 (.seq (zr [zb 16 .lss 15 14])
 (.seq (.cond (.t 16) .skip
 (.exit 0))
 (.seq (.block 1 (.seq (zr [zm 17 15,zm 7 17])
 (.seq (zr [zm 18 1,zm 19 7,z2 20 66 18 19])
 (.cond (.t 20) (.seq (.seq (zr [zm 21 0,zm 22 7,zi 23 3 21 22,zf 24 2 23,zl 25 24])
 (.cond (.t 25) (.seq (zr [sD 4 (.mv (.c .nilsl)),zy 5 false])
 .ret)
 .skip))
 (zr [zm 26 6,zm 27 0,zm 28 7,zi 29 3 27 28,zk 30 3 29,sD 31 (.mksl none 154 [(.bool false),.nilsl,(.bool false)] 1 [(0,3,(.t 30))]),sD 32 (.app 154 3 40 [(.bool false),.nilsl,(.bool false)] (.t 26) (.t 31)),zm 6 32]))
 (zr [zm 33 6,sD 34 (.build [(.bool false),.nilsl,(.bool false)] [(2,1,(.c (.bool true)))]),sD 35 (.mksl none 154 [(.bool false),.nilsl,(.bool false)] 1 [(0,3,(.t 34))]),sD 36 (.app 154 3 40 [(.bool false),.nilsl,(.bool false)] (.t 33) (.t 35)),zm 6 36])))))
 (zr [zd 37 .add 15 1,zm 15 37])))))))
 (.seq (zr [zm 38 6,zm 4 38,zy 5 true])
 .ret)))))
def ZJ : AN:=⟨39,[(.tmp 4),(.tmp 5)],an183.erase⟩
theorem ok183 : OKF 183 ZJ = true:=by kernel_rfl
def sh183 (C : AK) (l0 live1 : AV) (h : H) (R : AV -> H -> Prop) : Prop:=
 AA (AF false l0) h fun a h=>
 C 79 [live1,a] h fun a h=>
 AA (unOp .not a) h fun a h=>
 AC a
 (R (.tup [.nilsl,(.bool false)]) h)
 (AJ (fun (next6' : AV) (h : H)=>
 R (.tup [next6',(.bool true)]) h) fun J=>
 AA (AF false l0) h fun a h=>
 AP (fun N l h=>AX l 0 fun next6=>AX l 1 fun b=>
 AA (binOp .lss .num b a) h fun a h=>
 AC a
 (AJ (fun (next6'_2 : AV) (h : H)=>
 AA (binOp .add .num b (.int .i64 1)) h fun a h=>
 N [next6'_2,a] h) fun J_24=>
 C 66 [live1,b] h fun a h=>
 AC a
 (AA (iaA 3 l0 b) h fun a h=>
 zF 2 a h fun a h=>
 AC a
 (R (.tup [.nilsl,(.bool false)]) h)
 (AA (iaA 3 l0 b) h fun b h=>
 AA (ldA h (some 3) b) h fun b h=>
 A5 h 154 1 (AG [(.bool false),.nilsl,(.bool false)] [(0,3,b)]) fun b h=>
 A4 h 154 3 40 next6 b fun b h=>
 J_24 b h))
 (AA (AT (AG [(.bool false),.nilsl,(.bool false)] [(2,1,(.bool true))])) h fun b h=>
 A5 h 154 1 (AG [(.bool false),.nilsl,(.bool false)] [(0,3,b)]) fun b h=>
 A4 h 154 3 40 next6 b fun b h=>
 J_24 b h))
 (J next6 h)) [.nilsl,(.int .i64 0)] h)
def an184 : ACode:=
 (.seq (zr [zy 4 false])
 (.seq (zr [zm 5 0,zm 6 1,z2 7 213 5 6,zd 8 .geq 7 0,zm 4 8])
 .ret))
def ZI : AN:=⟨9,[(.tmp 4)],an184.erase⟩
theorem ok184 : OKF 184 ZI = true:=by kernel_rfl
def sh184 (C : AK) (s0 f1 : AV) (h : H) (R : AV -> H -> Prop) : Prop:=
 C 213 [s0,f1] h fun a h=>
 AA (binOp .geq .num a (.int .i64 0)) h fun a h=>
 R a h
def an185 : ACode:=
 (.seq (zr [zy 3 false])
 (.seq (zr [zm 4 0,zn 5 4,zl 6 1,zb 7 .gtr 5 6,zm 3 7])
 .ret))
def ZH : AN:=⟨8,[(.tmp 3)],an185.erase⟩
theorem ok185 : OKF 185 ZH = true:=by kernel_rfl
def sh185 (C : AK) (l0 a : AV) (h : H) (R : AV -> H -> Prop) : Prop:=
 AA (AF false l0) h fun b h=>
 zL a h fun a h=>
 AA (binOp .gtr .num b a) h fun a h=>
 R a h
def an186 : ACode:=
 (.seq (zr [zy 4 false])
 (.seq (zr [zm 5 0,zm 6 1,z2 7 214 5 6,zd 8 .geq 7 0,zm 4 8])
 .ret))
def ZG : AN:=⟨9,[(.tmp 4)],an186.erase⟩
theorem ok186 : OKF 186 ZG = true:=by kernel_rfl
def sh186 (C : AK) (s0 f1 : AV) (h : H) (R : AV -> H -> Prop) : Prop:=
 C 214 [s0,f1] h fun a h=>
 AA (binOp .geq .num a (.int .i64 0)) h fun a h=>
 R a h
def an187 : ACode:=
 (.seq (zr [zy 3 false])
 (.seq (zr [zm 4 0,zn 5 4,zl 6 1,zb 7 .gtr 5 6,zm 3 7])
 .ret))
def ZF : AN:=⟨8,[(.tmp 3)],an187.erase⟩
theorem ok187 : OKF 187 ZF = true:=by kernel_rfl
def sh187 (C : AK) (l0 a : AV) (h : H) (R : AV -> H -> Prop) : Prop:=
 AA (AF false l0) h fun b h=>
 zL a h fun a h=>
 AA (binOp .gtr .num b a) h fun a h=>
 R a h
def an188 : ACode:=
 (.seq (zr [zy 4 false])
 (.seq (zr [zm 5 0,zm 6 1,z2 7 215 5 6,zd 8 .geq 7 0,zm 4 8])
 .ret))
def ZE : AN:=⟨9,[(.tmp 4)],an188.erase⟩
theorem ok188 : OKF 188 ZE = true:=by kernel_rfl
def sh188 (C : AK) (s0 f1 : AV) (h : H) (R : AV -> H -> Prop) : Prop:=
 C 215 [s0,f1] h fun a h=>
 AA (binOp .geq .num a (.int .i64 0)) h fun a h=>
 R a h
def an189 : ACode:=
 (.seq (zr [zy 3 false])
 (.seq (zr [zm 4 0,zn 5 4,zl 6 1,zb 7 .gtr 5 6,zm 3 7])
 .ret))
def ZD : AN:=⟨8,[(.tmp 3)],an189.erase⟩
theorem ok189 : OKF 189 ZD = true:=by kernel_rfl
def sh189 (C : AK) (l0 a : AV) (h : H) (R : AV -> H -> Prop) : Prop:=
 AA (AF false l0) h fun b h=>
 zL a h fun a h=>
 AA (binOp .gtr .num b a) h fun a h=>
 R a h
def an190 : ACode:=
 (.seq (zr [zy 4 false])
 (.seq (zr [zm 5 0,zm 6 1,z2 7 216 5 6,zd 8 .geq 7 0,zm 4 8])
 .ret))
def ZC : AN:=⟨9,[(.tmp 4)],an190.erase⟩
theorem ok190 : OKF 190 ZC = true:=by kernel_rfl
def sh190 (C : AK) (s0 f1 : AV) (h : H) (R : AV -> H -> Prop) : Prop:=
 C 216 [s0,f1] h fun a h=>
 AA (binOp .geq .num a (.int .i64 0)) h fun a h=>
 R a h
def an191 : ACode:=
 (.seq (zr [zy 3 false])
 (.seq (zr [zm 4 0,zn 5 4,zl 6 1,zb 7 .gtr 5 6,zm 3 7])
 .ret))
def ZB : AN:=⟨8,[(.tmp 3)],an191.erase⟩
theorem ok191 : OKF 191 ZB = true:=by kernel_rfl
def sh191 (C : AK) (l0 a : AV) (h : H) (R : AV -> H -> Prop) : Prop:=
 AA (AF false l0) h fun b h=>
 zL a h fun a h=>
 AA (binOp .gtr .num b a) h fun a h=>
 R a h
def an192 : ACode:=
 (.seq (zr [zy 4 false])
 (.seq (zr [zm 5 0,zm 6 1,z2 7 217 5 6,zd 8 .geq 7 0,zm 4 8])
 .ret))
def ZA : AN:=⟨9,[(.tmp 4)],an192.erase⟩
theorem ok192 : OKF 192 ZA = true:=by kernel_rfl
def sh192 (C : AK) (s0 f1 : AV) (h : H) (R : AV -> H -> Prop) : Prop:=
 C 217 [s0,f1] h fun a h=>
 AA (binOp .geq .num a (.int .i64 0)) h fun a h=>
 R a h
def an193 : ACode:=
 (.seq (zr [zy 2 false])
 (.seq (zr [zm 3 0,sD 4 (.len true (.t 3)),zd 5 .gtr 4 16384,zm 2 5])
 .ret))
def Y9 : AN:=⟨6,[(.tmp 2)],an193.erase⟩
theorem ok193 : OKF 193 Y9 = true:=by kernel_rfl
def sh193 (C : AK) (s0 : AV) (h : H) (R : AV -> H -> Prop) : Prop:=
 AA (AF true s0) h fun a h=>
 AA (binOp .gtr .num a (.int .i64 16384)) h fun a h=>
 R a h
def an194 : ACode:=
 (.seq (zr [zy 4 false])
 (.seq (zr [zm 5 0,zm 6 1,z2 7 218 5 6,zd 8 .geq 7 0,zm 4 8])
 .ret))
def Y8 : AN:=⟨9,[(.tmp 4)],an194.erase⟩
theorem ok194 : OKF 194 Y8 = true:=by kernel_rfl
def sh194 (C : AK) (s0 f1 : AV) (h : H) (R : AV -> H -> Prop) : Prop:=
 C 218 [s0,f1] h fun a h=>
 AA (binOp .geq .num a (.int .i64 0)) h fun a h=>
 R a h
def an195 : ACode:=
 (.seq (zr [zy 3 false])
 (.seq (zr [zm 4 0,zn 5 4,zl 6 1,zb 7 .gtr 5 6,zm 3 7])
 .ret))
def Y7 : AN:=⟨8,[(.tmp 3)],an195.erase⟩
theorem ok195 : OKF 195 Y7 = true:=by kernel_rfl
def sh195 (C : AK) (l0 a : AV) (h : H) (R : AV -> H -> Prop) : Prop:=
 AA (AF false l0) h fun b h=>
 zL a h fun a h=>
 AA (binOp .gtr .num b a) h fun a h=>
 R a h
def an196 : ACode:=
 (.seq (zr [zy 4 false])
 (.seq (zr [zm 5 0,zm 6 1,z2 7 219 5 6,zd 8 .geq 7 0,zm 4 8])
 .ret))
def Y6 : AN:=⟨9,[(.tmp 4)],an196.erase⟩
theorem ok196 : OKF 196 Y6 = true:=by kernel_rfl
def sh196 (C : AK) (s0 f1 : AV) (h : H) (R : AV -> H -> Prop) : Prop:=
 C 219 [s0,f1] h fun a h=>
 AA (binOp .geq .num a (.int .i64 0)) h fun a h=>
 R a h
def an197 : ACode:=
 (.seq (zr [zy 3 false])
 (.seq (zr [zm 4 0,zn 5 4,zl 6 1,zb 7 .gtr 5 6,zm 3 7])
 .ret))
def Y5 : AN:=⟨8,[(.tmp 3)],an197.erase⟩
theorem ok197 : OKF 197 Y5 = true:=by kernel_rfl
def sh197 (C : AK) (l0 a : AV) (h : H) (R : AV -> H -> Prop) : Prop:=
 AA (AF false l0) h fun b h=>
 zL a h fun a h=>
 AA (binOp .gtr .num b a) h fun a h=>
 R a h
def an207 : ACode:=
 (.seq (zr [sD 4 (.al none 46 [(.bool false),.nilsl]),zy 5 false])
 (.seq (.seq (zr [zm 6 1,zd 7 .lss 6 0,zm 8 7,zmf 9 8 1,zmf 10 8 0,znf 11 8 10,zbf 12 8 .geq 9 11,zq 13 8 12,zm 14 13,zmf 15 14 0,zmf 16 14 1,zif 17 14 3 15 16,zff 18 14 2 17,zlf 19 14 18,zq 20 14 19])
 (.cond (.t 20) (.seq (zr [sD 21 (.build [(.bool false),.nilsl] []),zst 2 4 21,zy 5 false])
 .ret)
 .skip))
 (.seq (zr [zm 22 0,zm 23 1,zi 24 3 22 23,zf 25 0 24,zk 26 2 25,zst 2 4 26,zy 5 true])
 .ret)))
def Y4 : AN:=⟨27,[(.cell 4 (some 2)),(.tmp 5)],an207.erase⟩
theorem ok207 : OKF 207 Y4 = true:=by kernel_rfl
def sh207 (C : AK) (l0 i1 : AV) (h : H) (R : AV -> H -> Prop) : Prop:=
 AL h [(.bool false),.nilsl] 46 fun a h=>
 AA (binOp .lss .num i1 (.int .i64 0)) h fun b h=>
 zV b i1 h fun c h=>
 zV b l0 h fun d h=>
 zE b (AF false d) h fun d h=>
 zE b (binOp .geq .num c d) h fun d h=>
 AA (AE b (.bool true) d) h fun d h=>
 zV d l0 h fun b h=>
 zV d i1 h fun c h=>
 zE d (iaA 3 b c) h fun c h=>
 zH d 2 c h fun c h=>
 AA (AE d (.bool true) c) h fun c h=>
 AC c
 (AA (AT (AG [(.bool false),.nilsl] [])) h fun c h=>
 AM (stA h 2 a c) .undef fun _ h=>
 AA (ldA h (some 2) a) h fun res _=>R (.tup [res,(.bool false)]) h)
 (AA (iaA 3 l0 i1) h fun c h=>
 AA (faA 0 c) h fun c h=>
 AA (ldA h (some 2) c) h fun c h=>
 AM (stA h 2 a c) .undef fun _ h=>
 AA (ldA h (some 2) a) h fun res_0 _=>R (.tup [res_0,(.bool true)]) h)
def an208 : ACode:=
 (.seq (zr [zy 2 false])
 (.seq (zr [zm 3 0,z1 4 221 3,zm 5 0,zb 6 .eql 4 5,zm 2 6])
 .ret))
def Y3 : AN:=⟨7,[(.tmp 2)],an208.erase⟩
theorem ok208 : OKF 208 Y3 = true:=by kernel_rfl
def sh208 (C : AK) (n0 : AV) (h : H) (R : AV -> H -> Prop) : Prop:=
 C 221 [n0] h fun a h=>
 AA (binOp .eql .num a n0) h fun a h=>
 R a h
def an209 : ACode:=
 (.seq (zr [sD 2 (.al none 46 [(.bool false),.nilsl])])
 (.seq (zr [zm 3 0,sD 4 (.mksl none 3 [(.int .i64 0)] 1 [(0,1,(.t 3))]),sD 5 (.build [(.bool false),.nilsl] [(1,1,(.t 4))]),zst 2 2 5])
 .ret))
def Y2 : AN:=⟨6,[(.cell 2 (some 2))],an209.erase⟩
theorem ok209 : OKF 209 Y2 = true:=by kernel_rfl
def sh209 (C : AK) (s0 : AV) (h : H) (R : AV -> H -> Prop) : Prop:=
 AL h [(.bool false),.nilsl] 46 fun a h=>
 A5 h 3 1 (AG [(.int .i64 0)] [(0,1,s0)]) fun b h=>
 AA (AT (AG [(.bool false),.nilsl] [(1,1,b)])) h fun b h=>
 AM (stA h 2 a b) .undef fun _ h=>
 AA (ldA h (some 2) a) h fun res _=>R res h
def an210 : ACode:=
 (.seq (zr [sD 5 (.bx none 28 (.t 0)),sD 10 (.mv (.c .nilsl)),zy 11 false])
 (.seq (zr [zm 17 1,zm 18 2,z2 19 207 17 18,zm 16 19,zx 20 16 0,zx 21 16 1,sD 12 (.al none 46 [(.bool false),.nilsl]),zst 2 12 20,zm 13 21])
 (.seq (.seq (zr [zm 22 13,zo 23 22,zm 24 23,zff 25 24 0 12,zlf 26 24 25,zq 27 24 26,zm 28 27,zff 29 28 1 12,zlf 30 28 29,znf 31 28 30,zdf 32 28 .eql 31 0,zq 33 28 32])
 (.cond (.t 33) (.seq (zr [sD 10 (.mv (.c .nilsl)),zy 11 false])
 .ret)
 .skip))
 (.seq (.seq (zr [zf 34 1 12,zl 35 34,zn 36 35,z0 37 0])
 (.block 0 (.loop [37] 240518172728 (.seq (zr [zb 38 .lss 37 36])
 (.seq (.cond (.t 38) .skip
 (.exit 0))
 (.seq (.block 1 (.seq (zr [zi 39 1 35 37,zl 40 39,zm 15 40])
 (.seq (zr [zf 41 1 5,zl 42 41,zm 43 15,zi 44 3 42 43,zf 45 0 44,zl 46 45,zm 47 3,zb 48 .neq 46 47,zm 49 48,zft 50 49 1 5,zlt 51 49 50,zmt 52 49 15,zit 53 49 3 51 52,zft 54 49 0 53,zlt 55 49 54,zmt 56 49 4,zbt 57 49 .neq 55 56,zp 58 49 57])
 (.cond (.t 58) (.seq (zr [sD 10 (.mv (.c .nilsl)),zy 11 false])
 .ret)
 .skip))))
 (zr [zd 59 .add 37 1,zm 37 59])))))))
 (.seq (zr [zf 60 1 12,zl 61 60,zm 10 61,zy 11 true])
 .ret)))))
def Y1 : AN:=⟨62,[(.tmp 10),(.tmp 11)],an210.erase⟩
theorem ok210 : OKF 210 Y1 = true:=by kernel_rfl
def sh210 (C : AK) (m0 l1 i2 kind3 other4 : AV) (h : H) (R : AV -> H -> Prop) : Prop:=
 AL h (AV.cells m0) 28 fun m5 h=>
 C 207 [l1,i2] h fun a h=>
 AA (A8 a 0) h fun b h=>
 AA (A8 a 1) h fun a h=>
 AL h [(.bool false),.nilsl] 46 fun c h=>
 AM (stA h 2 c b) .undef fun _ h=>
 AA (unOp .not a) h fun a h=>
 zH a 0 c h fun b h=>
 AA (AE a (.bool true) b) h fun b h=>
 zH b 1 c h fun a h=>
 zE b (AF false a) h fun a h=>
 zE b (binOp .eql .num a (.int .i64 0)) h fun a h=>
 AA (AE b (.bool true) a) h fun a h=>
 AC a
 (R (.tup [.nilsl,(.bool false)]) h)
 (AJ (fun (h : H)=>
 zF 1 c h fun a h=>
 R (.tup [a,(.bool true)]) h) fun J=>
 zF 1 c h fun c h=>
 AA (AF false c) h fun a h=>
 AP (fun N l h=>AX l 0 fun b=>
 AA (binOp .lss .num b a) h fun a h=>
 AC a
 (AA (iaA 1 c b) h fun c h=>
 zL c h fun c h=>
 zF 1 m5 h fun a h=>
 AA (iaA 3 a c) h fun a h=>
 zF 0 a h fun a h=>
 AA (binOp .neq .num a kind3) h fun a h=>
 zG a 1 m5 h fun d h=>
 zU a c h fun c h=>
 zT a (iaA 3 d c) h fun c h=>
 zG a 0 c h fun c h=>
 zU a other4 h fun d h=>
 zT a (binOp .neq .num c d) h fun d h=>
 AA (AE a d (.bool false)) h fun d h=>
 AC d
 (R (.tup [.nilsl,(.bool false)]) h)
 (AA (binOp .add .num b (.int .i64 1)) h fun b h=>
 N [b] h))
 (J h)) [(.int .i64 0)] h)
def an211 : ACode:=
 (.seq (zr [sD 3 (.bx none 28 (.t 0)),sD 6 (.al none 46 [(.bool false),.nilsl]),zy 7 false])
 (.seq (zr [sD 11 (.build [(.bool false),.nilsl] []),sD 8 (.al none 46 [(.bool false),.nilsl]),zst 2 8 11])
 (.seq (.seq (zr [zm 12 1,zn 13 12,z0 14 0])
 (.block 0 (.loop [14] 29004 (.seq (zr [zb 15 .lss 14 13])
 (.seq (.cond (.t 15) .skip
 (.exit 0))
 (.seq (.block 1 (.seq (zr [zi 16 1 12 14,zl 17 16,zm 10 17])
 (.seq (.seq (zr [zm 18 2,zd 19 .lss 18 0,zm 20 19,zmf 21 20 2,zff 22 20 1 3,zlf 23 20 22,zmf 24 20 10,zif 25 20 3 23 24,zff 26 20 1 25,zlf 27 20 26,znf 28 20 27,zbf 29 20 .geq 21 28,zq 30 20 29])
 (.cond (.t 30) (.seq (zr [zk 31 2 8,zst 2 6 31,zy 7 false])
 .ret)
 .skip))
 (.reg 0 [0,1,2,3,4,5,6,7,8,9,10,11,12,13,14,15] (zcz [[],[],[1],[],[3],[],[5,4],[6],[7],[],[9,8],[10],[11,2],[12],[13,0],[14]]) [zk 32 2 8,zf 33 0 3,zl 34 33,zf 35 1 3,zl 36 35,zm 37 10,zi 38 3 36 37,zf 39 1 38,zl 40 39,zm 41 2,zi 42 1 40 41,zl 43 42,zi 44 2 34 43,zk 45 2 44,z2 46 22 32 45,zst 2 8 46]))))
 (zr [zd 47 .add 14 1,zm 14 47])))))))
 (.seq (zr [zk 48 2 8,zst 2 6 48,zy 7 true])
 .ret))))
def Y0 : AN:=⟨49,[(.cell 6 (some 2)),(.tmp 7)],an211.erase⟩
theorem ok211 : OKF 211 Y0 = true:=by kernel_rfl
def sh211 (C : AK) (m0 shapes1 k2 : AV) (h : H) (R : AV -> H -> Prop) : Prop:=
 AL h (AV.cells m0) 28 fun m3 h=>
 AL h [(.bool false),.nilsl] 46 fun a h=>
 AA (AT (AG [(.bool false),.nilsl] [])) h fun b h=>
 AL h [(.bool false),.nilsl] 46 fun c h=>
 AM (stA h 2 c b) .undef fun _ h=>
 AJ (fun (h : H)=>
 AA (ldA h (some 2) c) h fun b h=>
 AM (stA h 2 a b) .undef fun _ h=>
 AA (ldA h (some 2) a) h fun res _=>R (.tup [res,(.bool true)]) h) fun J=>
 AA (AF false shapes1) h fun b h=>
 AP (fun N l h=>AX l 0 fun d=>
 AA (binOp .lss .num d b) h fun b h=>
 AC b
 (AA (iaA 1 shapes1 d) h fun b h=>
 zL b h fun b h=>
 AA (binOp .lss .num k2 (.int .i64 0)) h fun e h=>
 zV e k2 h fun f h=>
 zH e 1 m3 h fun g h=>
 zV e b h fun i h=>
 zE e (iaA 3 g i) h fun i h=>
 zH e 1 i h fun i h=>
 zE e (AF false i) h fun i h=>
 zE e (binOp .geq .num f i) h fun i h=>
 AA (AE e (.bool true) i) h fun i h=>
 AC i
 (AA (ldA h (some 2) c) h fun i h=>
 AM (stA h 2 a i) .undef fun _ h=>
 AA (ldA h (some 2) a) h fun res_0 _=>R (.tup [res_0,(.bool false)]) h)
 (AA (ldA h (some 2) c) h fun a h=>
 zF 0 m3 h fun i h=>
 zF 1 m3 h fun e h=>
 AA (iaA 3 e b) h fun b h=>
 zF 1 b h fun b h=>
 AA (iaA 1 b k2) h fun b h=>
 zL b h fun b h=>
 AA (iaA 2 i b) h fun b h=>
 AA (ldA h (some 2) b) h fun b h=>
 C 22 [a,b] h fun b h=>
 AM (stA h 2 c b) .undef fun _ h=>
 AA (binOp .add .num d (.int .i64 1)) h fun d h=>
 N [d] h))
 (J h)) [(.int .i64 0)] h
def an212 : ACode:=
 (.seq (zr [sD 5 (.bx none 28 (.t 0)),zy 10 false])
 (.seq (.seq (zr [zm 13 3,zn 14 13,z0 15 0])
 (.block 0 (.loop [15] 57398 (.seq (zr [zb 16 .lss 15 14])
 (.seq (.cond (.t 16) .skip
 (.exit 0))
 (.seq (.block 1 (.seq (zr [zi 17 1 13 15,zl 18 17,zm 12 18])
 (.seq (.reg 0 [0,1,2,3,4,5,6,7,8,9,10,11,12,13,14,15,16,17,18,19,20,21,22,23,24,25,26,27,28,29,30,31] (zcz [[],[0],[1],[2],[2],[4],[2],[6,5],[7],[8],[9],[10,3],[11],[12],[13],[13],[13],[16],[13],[18],[13],[20,19],[21],[22],[13],[24,23],[25],[26,17],[27],[28,15,14],[29],[30]]) [zm 19 4,zd 20 .lss 19 0,zm 21 20,zmf 22 21 4,zff 23 21 1 5,zlf 24 21 23,zmf 25 21 12,zif 26 21 3 24 25,zff 27 21 1 26,zlf 28 21 27,znf 29 21 28,zbf 30 21 .geq 22 29,zq 31 21 30,zm 32 31,zmf 33 32 1,zmf 34 32 2,zff 35 32 0 5,zlf 36 32 35,zff 37 32 1 5,zlf 38 32 37,zmf 39 32 12,zif 40 32 3 38 39,zff 41 32 1 40,zlf 42 32 41,zmf 43 32 4,zif 44 32 1 42 43,zlf 45 32 44,zif 46 32 2 36 45,zkf 47 32 2 46,z3f 48 32 176 33 34 47,zof 49 32 48,zq 50 32 49])
 (.cond (.t 50) (.seq (zr [zy 10 false])
 .ret)
 .skip))))
 (zr [zd 51 .add 15 1,zm 15 51])))))))
 (.seq (zr [zy 10 true])
 .ret)))
def YZ : AN:=⟨52,[(.tmp 10)],an212.erase⟩
theorem ok212 : OKF 212 YZ = true:=by kernel_rfl
def sh212 (C : AK) (m0 l1 i2 shapes3 k4 : AV) (h : H) (R : AV -> H -> Prop) : Prop:=
 AL h (AV.cells m0) 28 fun m5 h=>
 AJ (fun (h : H)=>
 R (.bool true) h) fun J=>
 AA (AF false shapes3) h fun a h=>
 AP (fun N l h=>AX l 0 fun b=>
 AA (binOp .lss .num b a) h fun a h=>
 AC a
 (AA (iaA 1 shapes3 b) h fun a h=>
 zL a h fun a h=>
 AA (binOp .lss .num k4 (.int .i64 0)) h fun c h=>
 zV c k4 h fun d h=>
 zH c 1 m5 h fun e h=>
 zV c a h fun f h=>
 zE c (iaA 3 e f) h fun f h=>
 zH c 1 f h fun f h=>
 zE c (AF false f) h fun f h=>
 zE c (binOp .geq .num d f) h fun f h=>
 AA (AE c (.bool true) f) h fun f h=>
 zV f l1 h fun c h=>
 zV f i2 h fun d h=>
 zH f 0 m5 h fun e h=>
 zH f 1 m5 h fun g h=>
 zV f a h fun a h=>
 zE f (iaA 3 g a) h fun a h=>
 zH f 1 a h fun a h=>
 zV f k4 h fun g h=>
 zE f (iaA 1 a g) h fun g h=>
 zE f (ldA h none g) h fun g h=>
 zE f (iaA 2 e g) h fun g h=>
 zE f (ldA h (some 2) g) h fun g h=>
 AH f false (fun K=>C 176 [c,d,g] h K) h fun g h=>
 zE f (unOp .not g) h fun g h=>
 AA (AE f (.bool true) g) h fun g h=>
 AC g
 (R (.bool false) h)
 (AA (binOp .add .num b (.int .i64 1)) h fun b h=>
 N [b] h))
 (J h)) [(.int .i64 0)] h
def an213 : ACode:=
 (.seq (zr [z0 4 0])
 (.seq (.seq (zr [zm 6 0,zn 7 6,z0 8 0])
 (.block 0 (.loop [8] 387 (.seq (zr [zb 9 .lss 8 7])
 (.seq (.cond (.t 9) .skip
 (.exit 0))
 (.seq (.block 1 (.seq (zr [zm 10 8,zm 5 10])
 (.seq (zr [zm 11 1,zm 12 0,zm 13 5,zi 14 1 12 13,zl 15 14,sD 16 (.callv (.t 11) [(.t 15)])])
 (.cond (.t 16) (.seq (zr [zm 17 5,zm 4 17])
 .ret)
 .skip))))
 (zr [zd 18 .add 8 1,zm 8 18])))))))
 (.seq (zr [z0 4 (-1)])
 .ret)))
def YY : AN:=⟨19,[(.tmp 4)],an213.erase⟩
theorem ok213 : OKF 213 YY = true:=by kernel_rfl
def sh213 (C : AK) (s0 f1 : AV) (h : H) (R : AV -> H -> Prop) : Prop:=
 AJ (fun (h : H)=>
 R (.int .i64 (-1)) h) fun J=>
 AA (AF false s0) h fun a h=>
 AP (fun N l h=>AX l 0 fun b=>
 AA (binOp .lss .num b a) h fun a h=>
 AC a
 (AA (iaA 1 s0 b) h fun a h=>
 zL a h fun a h=>
 CQ C f1 [a] h fun a h=>
 AC a
 (R b h)
 (AA (binOp .add .num b (.int .i64 1)) h fun b h=>
 N [b] h))
 (J h)) [(.int .i64 0)] h
def an214 : ACode:=
 (.seq (zr [z0 4 0])
 (.seq (.seq (zr [zm 6 0,zn 7 6,z0 8 0])
 (.block 0 (.loop [8] 387 (.seq (zr [zb 9 .lss 8 7])
 (.seq (.cond (.t 9) .skip
 (.exit 0))
 (.seq (.block 1 (.seq (zr [zm 10 8,zm 5 10])
 (.seq (zr [zm 11 1,zm 12 0,zm 13 5,zi 14 1 12 13,zl 15 14,sD 16 (.callv (.t 11) [(.t 15)])])
 (.cond (.t 16) (.seq (zr [zm 17 5,zm 4 17])
 .ret)
 .skip))))
 (zr [zd 18 .add 8 1,zm 8 18])))))))
 (.seq (zr [z0 4 (-1)])
 .ret)))
def YX : AN:=⟨19,[(.tmp 4)],an214.erase⟩
theorem ok214 : OKF 214 YX = true:=by kernel_rfl
def sh214 (C : AK) (s0 f1 : AV) (h : H) (R : AV -> H -> Prop) : Prop:=
 AJ (fun (h : H)=>
 R (.int .i64 (-1)) h) fun J=>
 AA (AF false s0) h fun a h=>
 AP (fun N l h=>AX l 0 fun b=>
 AA (binOp .lss .num b a) h fun a h=>
 AC a
 (AA (iaA 1 s0 b) h fun a h=>
 zL a h fun a h=>
 CQ C f1 [a] h fun a h=>
 AC a
 (R b h)
 (AA (binOp .add .num b (.int .i64 1)) h fun b h=>
 N [b] h))
 (J h)) [(.int .i64 0)] h
def an215 : ACode:=
 (.seq (zr [z0 4 0])
 (.seq (.seq (zr [zm 6 0,zn 7 6,z0 8 0])
 (.block 0 (.loop [8] 387 (.seq (zr [zb 9 .lss 8 7])
 (.seq (.cond (.t 9) .skip
 (.exit 0))
 (.seq (.block 1 (.seq (zr [zm 10 8,zm 5 10])
 (.seq (zr [zm 11 1,zm 12 0,zm 13 5,zi 14 1 12 13,zl 15 14,sD 16 (.callv (.t 11) [(.t 15)])])
 (.cond (.t 16) (.seq (zr [zm 17 5,zm 4 17])
 .ret)
 .skip))))
 (zr [zd 18 .add 8 1,zm 8 18])))))))
 (.seq (zr [z0 4 (-1)])
 .ret)))
def YW : AN:=⟨19,[(.tmp 4)],an215.erase⟩
theorem ok215 : OKF 215 YW = true:=by kernel_rfl
def sh215 (C : AK) (s0 f1 : AV) (h : H) (R : AV -> H -> Prop) : Prop:=
 AJ (fun (h : H)=>
 R (.int .i64 (-1)) h) fun J=>
 AA (AF false s0) h fun a h=>
 AP (fun N l h=>AX l 0 fun b=>
 AA (binOp .lss .num b a) h fun a h=>
 AC a
 (AA (iaA 1 s0 b) h fun a h=>
 zL a h fun a h=>
 CQ C f1 [a] h fun a h=>
 AC a
 (R b h)
 (AA (binOp .add .num b (.int .i64 1)) h fun b h=>
 N [b] h))
 (J h)) [(.int .i64 0)] h
def an216 : ACode:=
 (.seq (zr [z0 4 0])
 (.seq (.seq (zr [zm 6 0,zn 7 6,z0 8 0])
 (.block 0 (.loop [8] 387 (.seq (zr [zb 9 .lss 8 7])
 (.seq (.cond (.t 9) .skip
 (.exit 0))
 (.seq (.block 1 (.seq (zr [zm 10 8,zm 5 10])
 (.seq (zr [zm 11 1,zm 12 0,zm 13 5,zi 14 1 12 13,zl 15 14,sD 16 (.callv (.t 11) [(.t 15)])])
 (.cond (.t 16) (.seq (zr [zm 17 5,zm 4 17])
 .ret)
 .skip))))
 (zr [zd 18 .add 8 1,zm 8 18])))))))
 (.seq (zr [z0 4 (-1)])
 .ret)))
def YV : AN:=⟨19,[(.tmp 4)],an216.erase⟩
theorem ok216 : OKF 216 YV = true:=by kernel_rfl
def sh216 (C : AK) (s0 f1 : AV) (h : H) (R : AV -> H -> Prop) : Prop:=
 AJ (fun (h : H)=>
 R (.int .i64 (-1)) h) fun J=>
 AA (AF false s0) h fun a h=>
 AP (fun N l h=>AX l 0 fun b=>
 AA (binOp .lss .num b a) h fun a h=>
 AC a
 (AA (iaA 1 s0 b) h fun a h=>
 zL a h fun a h=>
 CQ C f1 [a] h fun a h=>
 AC a
 (R b h)
 (AA (binOp .add .num b (.int .i64 1)) h fun b h=>
 N [b] h))
 (J h)) [(.int .i64 0)] h
def an217 : ACode:=
 (.seq (zr [z0 4 0])
 (.seq (.seq (zr [zm 6 0,zn 7 6,z0 8 0])
 (.block 0 (.loop [8] 387 (.seq (zr [zb 9 .lss 8 7])
 (.seq (.cond (.t 9) .skip
 (.exit 0))
 (.seq (.block 1 (.seq (zr [zm 10 8,zm 5 10])
 (.seq (zr [zm 11 1,zm 12 0,zm 13 5,zi 14 1 12 13,zl 15 14,sD 16 (.callv (.t 11) [(.t 15)])])
 (.cond (.t 16) (.seq (zr [zm 17 5,zm 4 17])
 .ret)
 .skip))))
 (zr [zd 18 .add 8 1,zm 8 18])))))))
 (.seq (zr [z0 4 (-1)])
 .ret)))
def YU : AN:=⟨19,[(.tmp 4)],an217.erase⟩
theorem ok217 : OKF 217 YU = true:=by kernel_rfl
def sh217 (C : AK) (s0 f1 : AV) (h : H) (R : AV -> H -> Prop) : Prop:=
 AJ (fun (h : H)=>
 R (.int .i64 (-1)) h) fun J=>
 AA (AF false s0) h fun a h=>
 AP (fun N l h=>AX l 0 fun b=>
 AA (binOp .lss .num b a) h fun a h=>
 AC a
 (AA (iaA 1 s0 b) h fun a h=>
 zL a h fun a h=>
 CQ C f1 [a] h fun a h=>
 AC a
 (R b h)
 (AA (binOp .add .num b (.int .i64 1)) h fun b h=>
 N [b] h))
 (J h)) [(.int .i64 0)] h
def an218 : ACode:=
 (.seq (zr [z0 4 0])
 (.seq (.seq (zr [zm 6 0,zn 7 6,z0 8 0])
 (.block 0 (.loop [8] 387 (.seq (zr [zb 9 .lss 8 7])
 (.seq (.cond (.t 9) .skip
 (.exit 0))
 (.seq (.block 1 (.seq (zr [zm 10 8,zm 5 10])
 (.seq (zr [zm 11 1,zm 12 0,zm 13 5,zi 14 1 12 13,zl 15 14,sD 16 (.callv (.t 11) [(.t 15)])])
 (.cond (.t 16) (.seq (zr [zm 17 5,zm 4 17])
 .ret)
 .skip))))
 (zr [zd 18 .add 8 1,zm 8 18])))))))
 (.seq (zr [z0 4 (-1)])
 .ret)))
def YT : AN:=⟨19,[(.tmp 4)],an218.erase⟩
theorem ok218 : OKF 218 YT = true:=by kernel_rfl
def sh218 (C : AK) (s0 f1 : AV) (h : H) (R : AV -> H -> Prop) : Prop:=
 AJ (fun (h : H)=>
 R (.int .i64 (-1)) h) fun J=>
 AA (AF false s0) h fun a h=>
 AP (fun N l h=>AX l 0 fun b=>
 AA (binOp .lss .num b a) h fun a h=>
 AC a
 (AA (iaA 1 s0 b) h fun a h=>
 zL a h fun a h=>
 CQ C f1 [a] h fun a h=>
 AC a
 (R b h)
 (AA (binOp .add .num b (.int .i64 1)) h fun b h=>
 N [b] h))
 (J h)) [(.int .i64 0)] h
def an219 : ACode:=
 (.seq (zr [z0 4 0])
 (.seq (.seq (zr [zm 6 0,zn 7 6,z0 8 0])
 (.block 0 (.loop [8] 387 (.seq (zr [zb 9 .lss 8 7])
 (.seq (.cond (.t 9) .skip
 (.exit 0))
 (.seq (.block 1 (.seq (zr [zm 10 8,zm 5 10])
 (.seq (zr [zm 11 1,zm 12 0,zm 13 5,zi 14 1 12 13,zl 15 14,sD 16 (.callv (.t 11) [(.t 15)])])
 (.cond (.t 16) (.seq (zr [zm 17 5,zm 4 17])
 .ret)
 .skip))))
 (zr [zd 18 .add 8 1,zm 8 18])))))))
 (.seq (zr [z0 4 (-1)])
 .ret)))
def YS : AN:=⟨19,[(.tmp 4)],an219.erase⟩
theorem ok219 : OKF 219 YS = true:=by kernel_rfl
def sh219 (C : AK) (s0 f1 : AV) (h : H) (R : AV -> H -> Prop) : Prop:=
 AJ (fun (h : H)=>
 R (.int .i64 (-1)) h) fun J=>
 AA (AF false s0) h fun a h=>
 AP (fun N l h=>AX l 0 fun b=>
 AA (binOp .lss .num b a) h fun a h=>
 AC a
 (AA (iaA 1 s0 b) h fun a h=>
 zL a h fun a h=>
 CQ C f1 [a] h fun a h=>
 AC a
 (R b h)
 (AA (binOp .add .num b (.int .i64 1)) h fun b h=>
 N [b] h))
 (J h)) [(.int .i64 0)] h
def an221 : ACode:=
 (.seq (zr [z0 2 0])
 (.seq (.block 0 (.loop [0] 1 (.seq (.seq (zr [zm 3 0,zd 4 .geq 3 4611686018427387904])
 (.cond (.t 4) .skip
 (.exit 0)))
 (.block 1 (zr [zm 5 0,zd 6 .sub 5 4611686018427387904,zd 7 .sub 6 4611686018427387904,zm 0 7])))))
 (.seq (.block 2 (.loop [0] 1 (.seq (.seq (zr [zm 8 0,zd 9 .lss 8 (-4611686018427387904)])
 (.cond (.t 9) .skip
 (.exit 2)))
 (.block 3 (zr [zm 10 0,zd 11 .add 10 4611686018427387904,zd 12 .add 11 4611686018427387904,zm 0 12])))))
 (.seq (zr [zm 13 0,zm 2 13])
 .ret))))
def YR : AN:=⟨14,[(.tmp 2)],an221.erase⟩
theorem ok221 : OKF 221 YR = true:=by kernel_rfl
def sh221 (C : AK) (n0 : AV) (h : H) (R : AV -> H -> Prop) : Prop:=
 AJ (fun (n0' : AV) (h : H)=>
 AJ (fun (n0'_0 : AV) (h : H)=>
 R n0'_0 h) fun J=>
 AP (fun N l h=>AX l 0 fun n0_1=>
 AA (binOp .lss .num n0_1 (.int .i64 (-4611686018427387904))) h fun a h=>
 AC a
 (AA (binOp .add .num n0_1 (.int .i64 4611686018427387904)) h fun a h=>
 AA (binOp .add .num a (.int .i64 4611686018427387904)) h fun a h=>
 N [a] h)
 (J n0_1 h)) [n0'] h) fun J_2=>
 AP (fun N_3 l h=>AX l 0 fun n0_4=>
 AA (binOp .geq .num n0_4 (.int .i64 4611686018427387904)) h fun a h=>
 AC a
 (AA (binOp .sub .num n0_4 (.int .i64 4611686018427387904)) h fun a h=>
 AA (binOp .sub .num a (.int .i64 4611686018427387904)) h fun a h=>
 N_3 [a] h)
 (J_2 n0_4 h)) [n0] h
end Go.Proofs.YtdljelicbnjfjaaGreat.X
set_option maxRecDepth 100000
namespace Go.Proofs.YtdljelicbnjfjaaGreat.X
open Go
def tabL : List (Nat × AN):=[(7,fn7),(8,fn8),(17,fn17),(19,fn19),(21,fn21),(22,fn22),(23,fn23),(24,fn24),(26,fn26),(27,fn27),(28,fn28),(29,fn29),(30,fn30),(31,fn31),(32,fn32),(33,fn33),(43,fn43),(59,fn59),(60,fn60),(61,fn61),(62,fn62),(63,fn63),(65,fn65),(66,fn66),(67,fn67),(68,fn68),(69,fn69),(70,fn70),(71,fn71),(72,fn72),(73,fn73),(74,fn74),(75,fn75),(76,fn76),(77,fn77),(78,fn78),(79,fn79),(80,fn80),(81,fn81),(87,fn87),(88,fn88),(89,fn89),(109,aW),(110,aV),(111,aU),(112,aT),(113,aS),(116,aR),(117,aQ),(118,aP),(120,aO),(121,aN),(122,aM),(123,aL),(124,aK),(125,aJ),(126,aI),(127,aH),(132,aG),(133,aF),(134,aE),(135,aD),(136,aC),(137,aB),(138,aA),(139,Z9),(157,Z8),(158,Z7),(159,Z6),(160,Z5),(162,Z4),(163,Z3),(164,Z2),(165,Z1),(166,Z0),(167,ZZ),(168,ZY),(169,ZX),(170,ZW),(171,ZV),(172,ZU),(173,ZT),(174,ZS),(175,ZR),(176,ZQ),(177,ZP),(178,ZO),(179,ZN),(180,ZM),(181,ZL),(182,ZK),(183,ZJ),(184,ZI),(185,ZH),(186,ZG),(187,ZF),(188,ZE),(189,ZD),(190,ZC),(191,ZB),(192,ZA),(193,Y9),(194,Y8),(195,Y7),(196,Y6),(197,Y5),(207,Y4),(208,Y3),(209,Y2),(210,Y1),(211,Y0),(212,YZ),(213,YY),(214,YX),(215,YW),(216,YV),(217,YU),(218,YT),(219,YS),(221,YR)]
def tab : Nat -> Option AN:=SC tabL
theorem okTab : okFs Tryz.prog tabL:=⟨ok7,ok8,ok17,ok19,ok21,ok22,ok23,ok24,ok26,ok27,ok28,ok29,ok30,ok31,ok32,ok33,ok43,ok59,ok60,ok61,ok62,ok63,ok65,ok66,ok67,ok68,ok69,ok70,ok71,ok72,ok73,ok74,ok75,ok76,ok77,ok78,ok79,ok80,ok81,ok87,ok88,ok89,ok109,ok110,ok111,ok112,ok113,ok116,ok117,ok118,ok120,ok121,ok122,ok123,ok124,ok125,ok126,ok127,ok132,ok133,ok134,ok135,ok136,ok137,ok138,ok139,ok157,ok158,ok159,ok160,ok162,ok163,ok164,ok165,ok166,ok167,ok168,ok169,ok170,ok171,ok172,ok173,ok174,ok175,ok176,ok177,ok178,ok179,ok180,ok181,ok182,ok183,ok184,ok185,ok186,ok187,ok188,ok189,ok190,ok191,ok192,ok193,ok194,ok195,ok196,ok197,ok207,ok208,ok209,ok210,ok211,ok212,ok213,ok214,ok215,ok216,ok217,ok218,ok219,ok221,trivial⟩
theorem htab : ∀ f i,tab f = some i -> NW Tryz.prog f i = true:=PN okTab
theorem hmix : Tryz.prog.follows .mixedOrders = true:=by kernel_rfl
abbrev DP (PK : H -> Prop) : AK:=callB S1 tab PK
abbrev C : AK:=DP AU
theorem TV {PK : H -> Prop} {f : Nat} {a : List AV} {h : H} {K : AV -> H -> Prop} (hc : C f a h K) : DP PK f a h K:=hc.quiet
section
variable {PK : H -> Prop} {h : H} {R : AV -> H -> Prop} {a0 a1 a2 a3 a4 : AV}
theorem mkB (c : ACode) (fn : AN) {f : Nat} {args : List AV} {Sh : Prop} (hpl : S1.plain f = true) (hf : tab f = some fn) (hc : fn.body = c.erase) (hok : okA fn.ntmps fn.results c = true) (hl : Nat.ble args.length fn.ntmps = true) (e : wpA (DP AU) c (UL args) h (X4 fn.results R) = Sh) (hp : Sh) : DP PK f args h R:=bN hpl hf hc hok (Nat.le_of_ble_eq_true hl) e hp
theorem mkP (c : ACode) (fn : AN) {f : Nat} {args : List AV} {Sh : Prop} (hpl : S1.plain f = true) (hf : tab f = some fn) (hc : fn.body = c.erase) (hok : okA fn.ntmps fn.results c = true) (hl : Nat.ble args.length fn.ntmps = true) (hq : E4 c = true) (e : wpA (DP PK) c (UL args) h (X4 fn.results R) = Sh) (hp : Sh) : DP PK f args h R:=bM hpl hf hc hok (Nat.le_of_ble_eq_true hl) hq e hp
theorem runB7 (hp : sh7 (DP AU) a0 h R) : DP PK 7 [a0] h R:=mkB an7 fn7 rfl (by kernel_rfl) rfl (by kernel_rfl) rfl (by kernel_rfl) hp
theorem runB8 (hp : sh8 (DP AU) a0 a1 a2 h R) : DP PK 8 [a0,a1,a2] h R:=mkB an8 fn8 rfl (by kernel_rfl) rfl (by kernel_rfl) rfl (by kernel_rfl) hp
theorem run17 (hp : sh17 C a0 h R) : C 17 [a0] h R:=mkB an17 fn17 rfl (by kernel_rfl) rfl (by kernel_rfl) rfl (by kernel_rfl) hp
theorem run19 (hp : sh19 C a0 h R) : C 19 [a0] h R:=mkB an19 fn19 rfl (by kernel_rfl) rfl (by kernel_rfl) rfl (by kernel_rfl) hp
theorem runB21 (hp : sh21 (DP AU) a0 a1 h R) : DP PK 21 [a0,a1] h R:=mkB an21 fn21 rfl (by kernel_rfl) rfl (by kernel_rfl) rfl (by kernel_rfl) hp
theorem runB22 (hp : sh22 (DP AU) a0 a1 h R) : DP PK 22 [a0,a1] h R:=mkB an22 fn22 rfl (by kernel_rfl) rfl (by kernel_rfl) rfl (by kernel_rfl) hp
theorem runB23 (hp : sh23 (DP AU) a0 a1 h R) : DP PK 23 [a0,a1] h R:=mkB an23 fn23 rfl (by kernel_rfl) rfl (by kernel_rfl) rfl (by kernel_rfl) hp
theorem runB24 (hp : sh24 (DP AU) a0 a1 h R) : DP PK 24 [a0,a1] h R:=mkB an24 fn24 rfl (by kernel_rfl) rfl (by kernel_rfl) rfl (by kernel_rfl) hp
theorem runB26 (hp : sh26 (DP AU) h R) : DP PK 26 [] h R:=mkB an26 fn26 rfl (by kernel_rfl) rfl (by kernel_rfl) rfl (by kernel_rfl) hp
theorem runB27 (hp : sh27 (DP AU) a0 h R) : DP PK 27 [a0] h R:=mkB an27 fn27 rfl (by kernel_rfl) rfl (by kernel_rfl) rfl (by kernel_rfl) hp
theorem runB28 (hp : sh28 (DP AU) a0 h R) : DP PK 28 [a0] h R:=mkB an28 fn28 rfl (by kernel_rfl) rfl (by kernel_rfl) rfl (by kernel_rfl) hp
theorem runB29 (hp : sh29 (DP AU) a0 h R) : DP PK 29 [a0] h R:=mkB an29 fn29 rfl (by kernel_rfl) rfl (by kernel_rfl) rfl (by kernel_rfl) hp
theorem runB30 (hp : sh30 (DP AU) a0 h R) : DP PK 30 [a0] h R:=mkB an30 fn30 rfl (by kernel_rfl) rfl (by kernel_rfl) rfl (by kernel_rfl) hp
theorem runB31 (hp : sh31 (DP AU) a0 h R) : DP PK 31 [a0] h R:=mkB an31 fn31 rfl (by kernel_rfl) rfl (by kernel_rfl) rfl (by kernel_rfl) hp
theorem runB32 (hp : sh32 (DP AU) a0 a1 a2 h R) : DP PK 32 [a0,a1,a2] h R:=mkB an32 fn32 rfl (by kernel_rfl) rfl (by kernel_rfl) rfl (by kernel_rfl) hp
theorem runB33 (hp : sh33 (DP AU) h R) : DP PK 33 [] h R:=mkB an33 fn33 rfl (by kernel_rfl) rfl (by kernel_rfl) rfl (by kernel_rfl) hp
theorem run43 (hp : sh43 C a0 h R) : C 43 [a0] h R:=mkB an43 fn43 rfl (by kernel_rfl) rfl (by kernel_rfl) rfl (by kernel_rfl) hp
theorem run59 (hp : sh59 C a0 h R) : C 59 [a0] h R:=mkB an59 fn59 rfl (by kernel_rfl) rfl (by kernel_rfl) rfl (by kernel_rfl) hp
theorem run60 (hp : sh60 C a0 h R) : C 60 [a0] h R:=mkB an60 fn60 rfl (by kernel_rfl) rfl (by kernel_rfl) rfl (by kernel_rfl) hp
theorem run61 (hp : sh61 C a0 h R) : C 61 [a0] h R:=mkB an61 fn61 rfl (by kernel_rfl) rfl (by kernel_rfl) rfl (by kernel_rfl) hp
theorem run62 (hp : sh62 C a0 h R) : C 62 [a0] h R:=mkB an62 fn62 rfl (by kernel_rfl) rfl (by kernel_rfl) rfl (by kernel_rfl) hp
theorem runB63 (hp : sh63 (DP AU) a0 h R) : DP PK 63 [a0] h R:=mkB an63 fn63 rfl (by kernel_rfl) rfl (by kernel_rfl) rfl (by kernel_rfl) hp
theorem XO (hp : sh65 (DP AU) a0 h R) : DP PK 65 [a0] h R:=mkB an65 fn65 rfl (by kernel_rfl) rfl (by kernel_rfl) rfl (by kernel_rfl) hp
theorem runB66 (hp : sh66 (DP AU) a0 a1 h R) : DP PK 66 [a0,a1] h R:=mkB an66 fn66 rfl (by kernel_rfl) rfl (by kernel_rfl) rfl (by kernel_rfl) hp
theorem runB67 (hp : sh67 (DP AU) a0 a1 h R) : DP PK 67 [a0,a1] h R:=mkB an67 fn67 rfl (by kernel_rfl) rfl (by kernel_rfl) rfl (by kernel_rfl) hp
theorem runB68 (hp : sh68 (DP AU) a0 a1 h R) : DP PK 68 [a0,a1] h R:=mkB an68 fn68 rfl (by kernel_rfl) rfl (by kernel_rfl) rfl (by kernel_rfl) hp
theorem runB69 (hp : sh69 (DP AU) a0 a1 h R) : DP PK 69 [a0,a1] h R:=mkB an69 fn69 rfl (by kernel_rfl) rfl (by kernel_rfl) rfl (by kernel_rfl) hp
theorem runB70 (hp : sh70 (DP AU) a0 a1 a2 h R) : DP PK 70 [a0,a1,a2] h R:=mkB an70 fn70 rfl (by kernel_rfl) rfl (by kernel_rfl) rfl (by kernel_rfl) hp
theorem runB71 (hp : sh71 (DP AU) a0 a1 a2 h R) : DP PK 71 [a0,a1,a2] h R:=mkB an71 fn71 rfl (by kernel_rfl) rfl (by kernel_rfl) rfl (by kernel_rfl) hp
theorem runB72 (hp : sh72 (DP AU) a0 a1 h R) : DP PK 72 [a0,a1] h R:=mkB an72 fn72 rfl (by kernel_rfl) rfl (by kernel_rfl) rfl (by kernel_rfl) hp
theorem runB73 (hp : sh73 (DP AU) a0 a1 h R) : DP PK 73 [a0,a1] h R:=mkB an73 fn73 rfl (by kernel_rfl) rfl (by kernel_rfl) rfl (by kernel_rfl) hp
theorem runB74 (hp : sh74 (DP AU) a0 a1 h R) : DP PK 74 [a0,a1] h R:=mkB an74 fn74 rfl (by kernel_rfl) rfl (by kernel_rfl) rfl (by kernel_rfl) hp
theorem runB75 (hp : sh75 (DP AU) a0 a1 h R) : DP PK 75 [a0,a1] h R:=mkB an75 fn75 rfl (by kernel_rfl) rfl (by kernel_rfl) rfl (by kernel_rfl) hp
theorem runB76 (hp : sh76 (DP AU) a0 a1 h R) : DP PK 76 [a0,a1] h R:=mkB an76 fn76 rfl (by kernel_rfl) rfl (by kernel_rfl) rfl (by kernel_rfl) hp
theorem runB77 (hp : sh77 (DP AU) a0 a1 h R) : DP PK 77 [a0,a1] h R:=mkB an77 fn77 rfl (by kernel_rfl) rfl (by kernel_rfl) rfl (by kernel_rfl) hp
theorem runB78 (hp : sh78 (DP AU) a0 a1 h R) : DP PK 78 [a0,a1] h R:=mkB an78 fn78 rfl (by kernel_rfl) rfl (by kernel_rfl) rfl (by kernel_rfl) hp
theorem runB79 (hp : sh79 (DP AU) a0 a1 h R) : DP PK 79 [a0,a1] h R:=mkB an79 fn79 rfl (by kernel_rfl) rfl (by kernel_rfl) rfl (by kernel_rfl) hp
theorem runB80 (hp : sh80 (DP AU) a0 a1 h R) : DP PK 80 [a0,a1] h R:=mkB an80 fn80 rfl (by kernel_rfl) rfl (by kernel_rfl) rfl (by kernel_rfl) hp
theorem runB81 (hp : sh81 (DP AU) a0 a1 h R) : DP PK 81 [a0,a1] h R:=mkB an81 fn81 rfl (by kernel_rfl) rfl (by kernel_rfl) rfl (by kernel_rfl) hp
theorem run87 (hp : sh87 C a0 h R) : C 87 [a0] h R:=mkB an87 fn87 rfl (by kernel_rfl) rfl (by kernel_rfl) rfl (by kernel_rfl) hp
theorem run88 (hp : sh88 C a0 a1 h R) : C 88 [a0,a1] h R:=mkB an88 fn88 rfl (by kernel_rfl) rfl (by kernel_rfl) rfl (by kernel_rfl) hp
theorem run89 (hp : sh89 C a0 h R) : C 89 [a0] h R:=mkB an89 fn89 rfl (by kernel_rfl) rfl (by kernel_rfl) rfl (by kernel_rfl) hp
theorem run109 (hp : PE C a0 a1 h R) : C 109 [a0,a1] h R:=mkB an109 aW rfl (by kernel_rfl) rfl (by kernel_rfl) rfl (by kernel_rfl) hp
theorem run110 (hp : UT C a0 a1 h R) : C 110 [a0,a1] h R:=mkB an110 aV rfl (by kernel_rfl) rfl (by kernel_rfl) rfl (by kernel_rfl) hp
theorem run111 (hp : sh111 C a0 h R) : C 111 [a0] h R:=mkB an111 aU rfl (by kernel_rfl) rfl (by kernel_rfl) rfl (by kernel_rfl) hp
theorem run112 (hp : sh112 C a0 a1 h R) : C 112 [a0,a1] h R:=mkB an112 aT rfl (by kernel_rfl) rfl (by kernel_rfl) rfl (by kernel_rfl) hp
theorem runB113 (hp : sh113 (DP AU) a0 a1 h R) : DP PK 113 [a0,a1] h R:=mkB an113 aS rfl (by kernel_rfl) rfl (by kernel_rfl) rfl (by kernel_rfl) hp
theorem runB116 (hp : sh116 (DP AU) a0 a1 h R) : DP PK 116 [a0,a1] h R:=mkB an116 aR rfl (by kernel_rfl) rfl (by kernel_rfl) rfl (by kernel_rfl) hp
theorem runB117 (hp : sh117 (DP AU) a0 a1 h R) : DP PK 117 [a0,a1] h R:=mkB an117 aQ rfl (by kernel_rfl) rfl (by kernel_rfl) rfl (by kernel_rfl) hp
theorem runB118 (hp : sh118 (DP AU) a0 a1 h R) : DP PK 118 [a0,a1] h R:=mkB an118 aP rfl (by kernel_rfl) rfl (by kernel_rfl) rfl (by kernel_rfl) hp
theorem runP120 (hp : sh120 (DP PK) a0 a1 a2 h R) : DP PK 120 [a0,a1,a2] h R:=mkP an120 aO rfl (by kernel_rfl) rfl (by kernel_rfl) rfl (by kernel_rfl) (by kernel_rfl) hp
theorem runP121 (hp : sh121 (DP PK) a0 a1 h R) : DP PK 121 [a0,a1] h R:=mkP an121 aN rfl (by kernel_rfl) rfl (by kernel_rfl) rfl (by kernel_rfl) (by kernel_rfl) hp
theorem runP122 (hp : sh122 (DP PK) a0 a1 h R) : DP PK 122 [a0,a1] h R:=mkP an122 aM rfl (by kernel_rfl) rfl (by kernel_rfl) rfl (by kernel_rfl) (by kernel_rfl) hp
theorem runB123 (hp : sh123 (DP AU) a0 h R) : DP PK 123 [a0] h R:=mkB an123 aL rfl (by kernel_rfl) rfl (by kernel_rfl) rfl (by kernel_rfl) hp
theorem runB124 (hp : sh124 (DP AU) a0 a1 a2 a3 h R) : DP PK 124 [a0,a1,a2,a3] h R:=mkB an124 aK rfl (by kernel_rfl) rfl (by kernel_rfl) rfl (by kernel_rfl) hp
theorem runB125 (hp : sh125 (DP AU) a0 a1 a2 a3 h R) : DP PK 125 [a0,a1,a2,a3] h R:=mkB an125 aJ rfl (by kernel_rfl) rfl (by kernel_rfl) rfl (by kernel_rfl) hp
theorem runB126 (hp : sh126 (DP AU) a0 a1 h R) : DP PK 126 [a0,a1] h R:=mkB an126 aI rfl (by kernel_rfl) rfl (by kernel_rfl) rfl (by kernel_rfl) hp
theorem runB127 (hp : sh127 (DP AU) a0 a1 h R) : DP PK 127 [a0,a1] h R:=mkB an127 aH rfl (by kernel_rfl) rfl (by kernel_rfl) rfl (by kernel_rfl) hp
theorem run132 (hp : sh132 C a0 a1 h R) : C 132 [a0,a1] h R:=mkB an132 aG rfl (by kernel_rfl) rfl (by kernel_rfl) rfl (by kernel_rfl) hp
theorem run133 (hp : sh133 C a0 a1 h R) : C 133 [a0,a1] h R:=mkB an133 aF rfl (by kernel_rfl) rfl (by kernel_rfl) rfl (by kernel_rfl) hp
theorem run134 (hp : sh134 C a0 a1 h R) : C 134 [a0,a1] h R:=mkB an134 aE rfl (by kernel_rfl) rfl (by kernel_rfl) rfl (by kernel_rfl) hp
theorem run135 (hp : sh135 C a0 a1 h R) : C 135 [a0,a1] h R:=mkB an135 aD rfl (by kernel_rfl) rfl (by kernel_rfl) rfl (by kernel_rfl) hp
theorem run136 (hp : sh136 C a0 h R) : C 136 [a0] h R:=mkB an136 aC rfl (by kernel_rfl) rfl (by kernel_rfl) rfl (by kernel_rfl) hp
theorem run137 (hp : sh137 C a0 a1 h R) : C 137 [a0,a1] h R:=mkB an137 aB rfl (by kernel_rfl) rfl (by kernel_rfl) rfl (by kernel_rfl) hp
theorem run138 (hp : sh138 C a0 a1 h R) : C 138 [a0,a1] h R:=mkB an138 aA rfl (by kernel_rfl) rfl (by kernel_rfl) rfl (by kernel_rfl) hp
theorem run139 (hp : sh139 C a0 a1 h R) : C 139 [a0,a1] h R:=mkB an139 Z9 rfl (by kernel_rfl) rfl (by kernel_rfl) rfl (by kernel_rfl) hp
theorem runP157 (hp : sh157 (DP PK) a0 a1 a2 a3 h R) : DP PK 157 [a0,a1,a2,a3] h R:=mkP an157 Z8 rfl (by kernel_rfl) rfl (by kernel_rfl) rfl (by kernel_rfl) (by kernel_rfl) hp
theorem runP158 (hp : sh158 (DP PK) a0 a1 h R) : DP PK 158 [a0,a1] h R:=mkP an158 Z7 rfl (by kernel_rfl) rfl (by kernel_rfl) rfl (by kernel_rfl) (by kernel_rfl) hp
theorem runP159 (hp : sh159 (DP PK) a0 a1 h R) : DP PK 159 [a0,a1] h R:=mkP an159 Z6 rfl (by kernel_rfl) rfl (by kernel_rfl) rfl (by kernel_rfl) (by kernel_rfl) hp
theorem runP160 (hp : sh160 (DP PK) a0 a1 h R) : DP PK 160 [a0,a1] h R:=mkP an160 Z5 rfl (by kernel_rfl) rfl (by kernel_rfl) rfl (by kernel_rfl) (by kernel_rfl) hp
theorem runP162 (hp : sh162 (DP PK) a0 a1 h R) : DP PK 162 [a0,a1] h R:=mkP an162 Z4 rfl (by kernel_rfl) rfl (by kernel_rfl) rfl (by kernel_rfl) (by kernel_rfl) hp
theorem runB163 (hp : sh163 (DP AU) a0 h R) : DP PK 163 [a0] h R:=mkB an163 Z3 rfl (by kernel_rfl) rfl (by kernel_rfl) rfl (by kernel_rfl) hp
theorem runP164 (hp : sh164 (DP PK) a0 a1 a2 h R) : DP PK 164 [a0,a1,a2] h R:=mkP an164 Z2 rfl (by kernel_rfl) rfl (by kernel_rfl) rfl (by kernel_rfl) (by kernel_rfl) hp
theorem runP165 (hp : sh165 (DP PK) a0 a1 h R) : DP PK 165 [a0,a1] h R:=mkP an165 Z1 rfl (by kernel_rfl) rfl (by kernel_rfl) rfl (by kernel_rfl) (by kernel_rfl) hp
theorem runB166 (hp : sh166 (DP AU) a0 h R) : DP PK 166 [a0] h R:=mkB an166 Z0 rfl (by kernel_rfl) rfl (by kernel_rfl) rfl (by kernel_rfl) hp
theorem runP167 (hp : sh167 (DP PK) a0 a1 h R) : DP PK 167 [a0,a1] h R:=mkP an167 ZZ rfl (by kernel_rfl) rfl (by kernel_rfl) rfl (by kernel_rfl) (by kernel_rfl) hp
theorem runP168 (hp : sh168 (DP PK) a0 a1 a2 h R) : DP PK 168 [a0,a1,a2] h R:=mkP an168 ZY rfl (by kernel_rfl) rfl (by kernel_rfl) rfl (by kernel_rfl) (by kernel_rfl) hp
theorem runP169 (hp : sh169 (DP PK) a0 a1 a2 h R) : DP PK 169 [a0,a1,a2] h R:=mkP an169 ZX rfl (by kernel_rfl) rfl (by kernel_rfl) rfl (by kernel_rfl) (by kernel_rfl) hp
theorem runB170 (hp : sh170 (DP AU) a0 h R) : DP PK 170 [a0] h R:=mkB an170 ZW rfl (by kernel_rfl) rfl (by kernel_rfl) rfl (by kernel_rfl) hp
theorem runP171 (hp : sh171 (DP PK) a0 a1 a2 h R) : DP PK 171 [a0,a1,a2] h R:=mkP an171 ZV rfl (by kernel_rfl) rfl (by kernel_rfl) rfl (by kernel_rfl) (by kernel_rfl) hp
theorem runP172 (hp : sh172 (DP PK) a0 a1 a2 h R) : DP PK 172 [a0,a1,a2] h R:=mkP an172 ZU rfl (by kernel_rfl) rfl (by kernel_rfl) rfl (by kernel_rfl) (by kernel_rfl) hp
theorem runP173 (hp : sh173 (DP PK) a0 a1 a2 h R) : DP PK 173 [a0,a1,a2] h R:=mkP an173 ZT rfl (by kernel_rfl) rfl (by kernel_rfl) rfl (by kernel_rfl) (by kernel_rfl) hp
theorem runP174 (hp : sh174 (DP PK) a0 a1 h R) : DP PK 174 [a0,a1] h R:=mkP an174 ZS rfl (by kernel_rfl) rfl (by kernel_rfl) rfl (by kernel_rfl) (by kernel_rfl) hp
theorem runB175 (hp : sh175 (DP AU) a0 a1 a2 a3 h R) : DP PK 175 [a0,a1,a2,a3] h R:=mkB an175 ZR rfl (by kernel_rfl) rfl (by kernel_rfl) rfl (by kernel_rfl) hp
theorem runB176 (hp : sh176 (DP AU) a0 a1 a2 h R) : DP PK 176 [a0,a1,a2] h R:=mkB an176 ZQ rfl (by kernel_rfl) rfl (by kernel_rfl) rfl (by kernel_rfl) hp
theorem runB177 (hp : sh177 (DP AU) h R) : DP PK 177 [] h R:=mkB an177 ZP rfl (by kernel_rfl) rfl (by kernel_rfl) rfl (by kernel_rfl) hp
theorem runB178 (hp : sh178 (DP AU) a0 a1 a2 a3 h R) : DP PK 178 [a0,a1,a2,a3] h R:=mkB an178 ZO rfl (by kernel_rfl) rfl (by kernel_rfl) rfl (by kernel_rfl) hp
theorem runB179 (hp : sh179 (DP AU) a0 a1 a2 a3 h R) : DP PK 179 [a0,a1,a2,a3] h R:=mkB an179 ZN rfl (by kernel_rfl) rfl (by kernel_rfl) rfl (by kernel_rfl) hp
theorem runB180 (hp : sh180 (DP AU) a0 a1 a2 h R) : DP PK 180 [a0,a1,a2] h R:=mkB an180 ZM rfl (by kernel_rfl) rfl (by kernel_rfl) rfl (by kernel_rfl) hp
theorem runB181 (hp : sh181 (DP AU) a0 a1 a2 h R) : DP PK 181 [a0,a1,a2] h R:=mkB an181 ZL rfl (by kernel_rfl) rfl (by kernel_rfl) rfl (by kernel_rfl) hp
theorem runB182 (hp : sh182 (DP AU) a0 a1 a2 h R) : DP PK 182 [a0,a1,a2] h R:=mkB an182 ZK rfl (by kernel_rfl) rfl (by kernel_rfl) rfl (by kernel_rfl) hp
theorem runB183 (hp : sh183 (DP AU) a0 a1 h R) : DP PK 183 [a0,a1] h R:=mkB an183 ZJ rfl (by kernel_rfl) rfl (by kernel_rfl) rfl (by kernel_rfl) hp
theorem run184 (hp : sh184 C a0 a1 h R) : C 184 [a0,a1] h R:=mkB an184 ZI rfl (by kernel_rfl) rfl (by kernel_rfl) rfl (by kernel_rfl) hp
theorem run185 (hp : sh185 C a0 a1 h R) : C 185 [a0,a1] h R:=mkB an185 ZH rfl (by kernel_rfl) rfl (by kernel_rfl) rfl (by kernel_rfl) hp
theorem run186 (hp : sh186 C a0 a1 h R) : C 186 [a0,a1] h R:=mkB an186 ZG rfl (by kernel_rfl) rfl (by kernel_rfl) rfl (by kernel_rfl) hp
theorem run187 (hp : sh187 C a0 a1 h R) : C 187 [a0,a1] h R:=mkB an187 ZF rfl (by kernel_rfl) rfl (by kernel_rfl) rfl (by kernel_rfl) hp
theorem run188 (hp : sh188 C a0 a1 h R) : C 188 [a0,a1] h R:=mkB an188 ZE rfl (by kernel_rfl) rfl (by kernel_rfl) rfl (by kernel_rfl) hp
theorem run189 (hp : sh189 C a0 a1 h R) : C 189 [a0,a1] h R:=mkB an189 ZD rfl (by kernel_rfl) rfl (by kernel_rfl) rfl (by kernel_rfl) hp
theorem run190 (hp : sh190 C a0 a1 h R) : C 190 [a0,a1] h R:=mkB an190 ZC rfl (by kernel_rfl) rfl (by kernel_rfl) rfl (by kernel_rfl) hp
theorem run191 (hp : sh191 C a0 a1 h R) : C 191 [a0,a1] h R:=mkB an191 ZB rfl (by kernel_rfl) rfl (by kernel_rfl) rfl (by kernel_rfl) hp
theorem run192 (hp : sh192 C a0 a1 h R) : C 192 [a0,a1] h R:=mkB an192 ZA rfl (by kernel_rfl) rfl (by kernel_rfl) rfl (by kernel_rfl) hp
theorem run193 (hp : sh193 C a0 h R) : C 193 [a0] h R:=mkB an193 Y9 rfl (by kernel_rfl) rfl (by kernel_rfl) rfl (by kernel_rfl) hp
theorem run194 (hp : sh194 C a0 a1 h R) : C 194 [a0,a1] h R:=mkB an194 Y8 rfl (by kernel_rfl) rfl (by kernel_rfl) rfl (by kernel_rfl) hp
theorem run195 (hp : sh195 C a0 a1 h R) : C 195 [a0,a1] h R:=mkB an195 Y7 rfl (by kernel_rfl) rfl (by kernel_rfl) rfl (by kernel_rfl) hp
theorem run196 (hp : sh196 C a0 a1 h R) : C 196 [a0,a1] h R:=mkB an196 Y6 rfl (by kernel_rfl) rfl (by kernel_rfl) rfl (by kernel_rfl) hp
theorem run197 (hp : sh197 C a0 a1 h R) : C 197 [a0,a1] h R:=mkB an197 Y5 rfl (by kernel_rfl) rfl (by kernel_rfl) rfl (by kernel_rfl) hp
theorem runB207 (hp : sh207 (DP AU) a0 a1 h R) : DP PK 207 [a0,a1] h R:=mkB an207 Y4 rfl (by kernel_rfl) rfl (by kernel_rfl) rfl (by kernel_rfl) hp
theorem runB208 (hp : sh208 (DP AU) a0 h R) : DP PK 208 [a0] h R:=mkB an208 Y3 rfl (by kernel_rfl) rfl (by kernel_rfl) rfl (by kernel_rfl) hp
theorem runB209 (hp : sh209 (DP AU) a0 h R) : DP PK 209 [a0] h R:=mkB an209 Y2 rfl (by kernel_rfl) rfl (by kernel_rfl) rfl (by kernel_rfl) hp
theorem runB210 (hp : sh210 (DP AU) a0 a1 a2 a3 a4 h R) : DP PK 210 [a0,a1,a2,a3,a4] h R:=mkB an210 Y1 rfl (by kernel_rfl) rfl (by kernel_rfl) rfl (by kernel_rfl) hp
theorem runB211 (hp : sh211 (DP AU) a0 a1 a2 h R) : DP PK 211 [a0,a1,a2] h R:=mkB an211 Y0 rfl (by kernel_rfl) rfl (by kernel_rfl) rfl (by kernel_rfl) hp
theorem runB212 (hp : sh212 (DP AU) a0 a1 a2 a3 a4 h R) : DP PK 212 [a0,a1,a2,a3,a4] h R:=mkB an212 YZ rfl (by kernel_rfl) rfl (by kernel_rfl) rfl (by kernel_rfl) hp
theorem run213 (hp : sh213 C a0 a1 h R) : C 213 [a0,a1] h R:=mkB an213 YY rfl (by kernel_rfl) rfl (by kernel_rfl) rfl (by kernel_rfl) hp
theorem run214 (hp : sh214 C a0 a1 h R) : C 214 [a0,a1] h R:=mkB an214 YX rfl (by kernel_rfl) rfl (by kernel_rfl) rfl (by kernel_rfl) hp
theorem run215 (hp : sh215 C a0 a1 h R) : C 215 [a0,a1] h R:=mkB an215 YW rfl (by kernel_rfl) rfl (by kernel_rfl) rfl (by kernel_rfl) hp
theorem run216 (hp : sh216 C a0 a1 h R) : C 216 [a0,a1] h R:=mkB an216 YV rfl (by kernel_rfl) rfl (by kernel_rfl) rfl (by kernel_rfl) hp
theorem run217 (hp : sh217 C a0 a1 h R) : C 217 [a0,a1] h R:=mkB an217 YU rfl (by kernel_rfl) rfl (by kernel_rfl) rfl (by kernel_rfl) hp
theorem run218 (hp : sh218 C a0 a1 h R) : C 218 [a0,a1] h R:=mkB an218 YT rfl (by kernel_rfl) rfl (by kernel_rfl) rfl (by kernel_rfl) hp
theorem run219 (hp : sh219 C a0 a1 h R) : C 219 [a0,a1] h R:=mkB an219 YS rfl (by kernel_rfl) rfl (by kernel_rfl) rfl (by kernel_rfl) hp
theorem runB221 (hp : sh221 (DP AU) a0 h R) : DP PK 221 [a0] h R:=mkB an221 YR rfl (by kernel_rfl) rfl (by kernel_rfl) rfl (by kernel_rfl) hp
end
end Go.Proofs.YtdljelicbnjfjaaGreat.X
attribute [go_sem] Int.toNat_natCast Nat.zero_add Nat.add_zero Nat.mul_one Nat.one_mul Bool.not_true Bool.not_false ne_eq not_true_eq_false not_false_eq_true Bool.false_eq_true
namespace Go.Proofs.YtdljelicbnjfjaaGreat.X
open Go
def Fr (S : List Nat) (h h' : H) : Prop:=∀ c o,c ∉ S -> h.get c = some o -> h'.get c = some o
theorem Fr.refl (S : List Nat) (h : H) : Fr S h h:=fun _ _ _ x=>x
theorem Fr.trans {S : List Nat} {a b c : H} (h : Fr S a b) (h' : Fr S b c) : Fr S a c:=fun k o hk x=>h' k o hk (h k o hk x)
theorem Fr.weaken {S S' : List Nat} {a b : H} (h : Fr S a b) (hs : ∀ k,k ∈ S -> k ∈ S') : Fr S' a b:=fun k o hk x=>h k o (fun q=>hk (hs k q)) x
theorem Fr.more {S : List Nat} {a b : H} (h : Fr [] a b) : Fr S a b:=h.weaken fun _ q=>by cases q
theorem Fr.new {S : List Nat} {h : H} {b : Nat} {o : Obj} (hb : h.get b = none) : Fr S h (h.set b o):=fun k o' _ x=>by
 rw [H.get_other _ _ (fun e=>by subst e; rw [hb] at x; cases x)]; exact x
theorem Fr.put {S : List Nat} {h : H} {b : Nat} {o : Obj} (hb : b ∈ S) : Fr S h (h.set b o):=fun k o' hk x=>by
 rw [H.get_other _ _ (fun e=>by subst e; exact hk hb)]; exact x
theorem Fr.free {h h' : H} (f : Fr [] h h') {b : Nat} (hb : h'.get b = none) : h.get b = none:=by
 cases hh : h.get b with
 | none=>rfl
 | some o=>rw [f b o (by simp) hh] at hb; cases hb
theorem Fr.set' {S : List Nat} {h0 h : H} {b : Nat} {o : Obj} (f : Fr S h0 h) (hb : h0.get b = none) : Fr S h0 (h.set b o):=fun k o' hk x=>by
 rw [H.get_other _ _ (fun e=>by subst e; rw [hb] at x; cases x)]; exact f k o' hk x
def Own (h0 h : H) (ty esz : Nat) (v : AV) (n : Nat) (cs : List AV) : Prop:=
 cs.length = n * esz /\ ((n = 0 /\ v = .nilsl) \/ ∃ b,v = .sl b 0 n (.more esz) /\ h0.get b = none /\ h.get b = some (.live cs ty true))
theorem Own.nil (h0 h : H) (ty esz : Nat) : Own h0 h ty esz .nilsl 0 []:=⟨by simp,.inl ⟨rfl,rfl⟩⟩
def Row (h : H) (v : AV) (n esz : Nat) (cs : List AV) : Prop:=
 cs.length = n * esz /\ ((n = 0 /\ v = .nilsl) \/ ∃ b off cap,v = .sl b off n cap /\ cap.fits esz = true /\ h.read b off (n * esz) = some cs)
theorem H.read_eq {h : H} {b off n : Nat} {cs known : List AV} {e : Nat} {own : Bool} (hb : h.get b = some (.live known e own)) (hl : off + n <= known.length) (hc : (known.drop off).take n = cs) : h.read b off n = some cs:=by
 unfold H.read; rw [hb]; simp only; rw [if_pos hl,hc]
theorem Own.row {h0 h : H} {ty esz : Nat} {v : AV} {n : Nat} {cs : List AV} (o : Own h0 h ty esz v n cs) : Row h v n esz cs:=by
 obtain ⟨hl,o⟩:=o
 refine ⟨hl,?_⟩
 rcases o with o | ⟨b,rfl,_,hb⟩
 ·exact .inl o
 ·exact .inr ⟨b,0,_,rfl,by simp [Cap.fits],H.read_eq hb (by omega) (by rw [List.drop_zero,List.take_of_length_le (by omega)])⟩
theorem Row.src {h : H} {v : AV} {n esz : Nat} {cs : List AV} (r : Row h v n esz cs) : KV h esz v = some (n,cs):=by
 obtain ⟨hl,r⟩:=r
 rcases r with ⟨rfl,rfl⟩ | ⟨b,off,cap,rfl,hfit,hr⟩
 ·simp at hl; subst hl; rfl
 ·simp only [KV,hr]
theorem EA (a b : List AV) : leaves (a ++ b) = (leaves a && leaves b):=by
 induction a with
 | nil=>simp [leaves]
 | cons x l ih=>simp [leaves,ih,Bool.and_assoc]
theorem KL {α : Type} (f : α -> AV) (hf : ∀ x,(f x).leaf = true) (l : List α) : leaves (l.map f) = true:=by
 induction l with
 | nil=>rfl
 | cons x l ih=>simp [leaves,ih,hf]
theorem M4 {h0 h : H} {ty esz bytes n k : Nat} {v y : AV} {cs ds : List AV} {K : AV -> H -> Prop} (hv : Own h0 h ty esz v n cs) (hs : KV h esz y = some (k,ds)) (hd : ds.length = k * esz) (hz : 0 < esz)
  (hlc : leaves cs = true) (hld : leaves ds = true) (hf : Fr [] h0 h) (hb : (n + k) * bytes <= AQ)
  (hK : ∀ v' h',Own h0 h' ty esz v' (n + k) (cs ++ ds) -> Fr [] h0 h' -> (∀ c o,h.get c = some o -> (∀ n' p,v ≠ .sl c 0 n' p) -> h'.get c = some o) -> (0 < k -> ∃ b',v' = .sl b' 0 (n + k) (.more esz) /\ h.get b' = none) -> K v' h') : A4 h ty esz bytes v y K:=by
 obtain ⟨hl,hv⟩:=hv
 unfold A4
 rw [hs]
 simp only
 rcases hv with ⟨rfl,rfl⟩ | ⟨b,rfl,hb0,hbl⟩
 ·simp only
  have hcs : cs = []:=List.eq_nil_of_length_eq_zero (by simpa using hl)
  subst hcs
  by_cases h0' : k = 0
  ·subst h0'
   rw [if_pos rfl]
   have : ds = []:=List.eq_nil_of_length_eq_zero (by simpa using hd)
   subst this
   exact hK _ _ ⟨by simp,.inl ⟨rfl,rfl⟩⟩ hf (fun c o x _=>x) (fun q=>absurd q (by omega))
  ·rw [if_neg h0']
   refine ⟨by simpa using hb,hld,fun b' hb'=>?_⟩
   refine hK _ _ ⟨by simpa using hd,.inr ⟨b',by simp,hf.free hb',by rw [H.get_same]; simp⟩⟩ (hf.set' (hf.free hb')) (fun c o x _=>Fr.new (S:=[]) hb' c o (by simp) x) fun _=>⟨b',by simp,hb'⟩
 ·simp only
  by_cases h0' : k = 0
  ·subst h0'
   rw [if_pos rfl]
   have : ds = []:=List.eq_nil_of_length_eq_zero (by simpa using hd)
   subst this
   exact hK _ _ ⟨by simpa using hl,.inr ⟨b,rfl,hb0,by simpa using hbl⟩⟩ hf (fun c o x _=>x) (fun q=>absurd q (by omega))
  ·rw [if_neg h0',hbl]
   simp only
   refine ⟨⟨trivial,trivial,hb,by omega⟩,?_⟩
   have hpos : 0 < k * esz:=Nat.mul_pos (Nat.pos_of_ne_zero h0') hz
   rw [if_neg (by rw [Nat.add_mul]; omega)]
   refine ⟨?_,fun b' hb'=>?_⟩
   ·rw [List.drop_zero,List.take_of_length_le (by omega),EA,hlc,hld]; rfl
   ·have hbb : b' ≠ b:=fun e=>by subst e; rw [H.get_same] at hb'; cases hb'
    have hb2 : h.get b' = none:=by rw [H.get_other _ _ hbb] at hb'; exact hb'
    refine hK _ _ ⟨by rw [List.length_append,hl,hd,Nat.add_mul],.inr ⟨b',rfl,hf.free hb2,?_⟩⟩ ((hf.set' hb0).set' (hf.free hb2)) (fun c o x hc=>?_) fun _=>⟨b',rfl,hb2⟩
    ·rw [H.get_same,List.drop_zero,List.take_of_length_le (by omega)]
    ·have hcb : c ≠ b:=fun e=>hc n (.more esz) (by rw [e])
     rw [H.get_other _ _ (fun e=>by subst e; rw [hb2] at x; cases x),H.get_other _ _ hcb]
     exact x
theorem OZ {h0 h : H} {ty esz bytes n k : Nat} {v y : AV} {cs ds : List AV} {K : AV -> H -> Prop} (hv : Own h0 h ty esz v n cs) (hs : KV h esz y = some (k,ds)) (hd : ds.length = k * esz) (hz : 0 < esz)
  (hlc : leaves cs = true) (hld : leaves ds = true) (hf : Fr [] h0 h) (hb : (n + k) * bytes <= AQ)
  (hK : ∀ v' h',Own h0 h' ty esz v' (n + k) (cs ++ ds) -> Fr [] h0 h' -> (∀ c o,h.get c = some o -> (∀ n' p,v ≠ .sl c 0 n' p) -> h'.get c = some o) -> K v' h') : A4 h ty esz bytes v y K:=
 M4 hv hs hd hz hlc hld hf hb fun v' h' a1 a2 a3 _=>hK v' h' a1 a2 a3
theorem TB {h0 h : H} {ty esz bytes n : Nat} {v : AV} {cs xs : List AV} {K : AV -> H -> Prop} (hv : Own h0 h ty esz v n cs) (hx : xs.length = esz) (hz : 0 < esz)
  (hlc : leaves cs = true) (hlx : leaves xs = true) (hf : Fr [] h0 h) (hb : (n + 1) * bytes <= AQ)
  (hK : ∀ v' h',Own h0 h' ty esz v' (n + 1) (cs ++ xs) -> Fr [] h0 h' -> (∀ c o,h.get c = some o -> (∀ n' p,v ≠ .sl c 0 n' p) -> h'.get c = some o) -> (∃ b',v' = .sl b' 0 (n + 1) (.more esz) /\ h.get b' = none) -> K v' h') : A5 h ty 1 (some xs) (fun t h=>A4 h ty esz bytes v t K):=by
 refine ⟨hlx,fun b1 hb1=>?_⟩
 have hs : KV (h.set b1 (.live xs ty true)) esz (.sl b1 0 1 (.exact 1)) = some (1,xs):=by
  simp only [KV]
  rw [H.read_eq (H.get_same ..) (by omega) (by rw [List.drop_zero,List.take_of_length_le (by omega)])]
 show A4 (h.set b1 (.live xs ty true)) ty esz bytes v (.sl b1 0 1 (.exact 1)) K
 refine M4 (ty:=ty) (h0:=h0) (n:=n) (cs:=cs) ⟨hv.1,?_⟩ hs (by omega) hz hlc hlx (hf.set' (hf.free hb1)) hb fun v' h' a1 a2 a3 a4=>hK v' h' a1 a2 (fun c o x hc=>a3 c o (Fr.new (S:=[]) hb1 c o (by simp) x) hc) ?_
 ·rcases hv.2 with q | ⟨b,q1,q2,q3⟩
  ·exact .inl q
  ·exact .inr ⟨b,q1,q2,Fr.new (S:=[]) hb1 b _ (by simp) q3⟩
 ·obtain ⟨b',e1,e2⟩:=a4 (by decide)
  refine ⟨b',e1,?_⟩
  by_cases q : b' = b1
  ·subst q; exact hb1
  ·rw [H.get_other _ _ q] at e2; exact e2
theorem O0 {h0 h : H} {ty esz bytes n : Nat} {v : AV} {cs xs : List AV} {K : AV -> H -> Prop} (hv : Own h0 h ty esz v n cs) (hx : xs.length = esz) (hz : 0 < esz)
  (hlc : leaves cs = true) (hlx : leaves xs = true) (hf : Fr [] h0 h) (hb : (n + 1) * bytes <= AQ)
  (hK : ∀ v' h',Own h0 h' ty esz v' (n + 1) (cs ++ xs) -> Fr [] h0 h' -> (∀ c o,h.get c = some o -> (∀ n' p,v ≠ .sl c 0 n' p) -> h'.get c = some o) -> K v' h') : A5 h ty 1 (some xs) (fun t h=>A4 h ty esz bytes v t K):=
 TB hv hx hz hlc hlx hf hb fun v' h' a1 a2 a3 _=>hK v' h' a1 a2 a3
theorem Row.get {h : H} {v : AV} {n : Nat} {cs : List AV} (r : Row h v n 1 cs) {k : IntKind} {i : Int} (h0 : 0 <= i) (h1 : i < n) {K : AV -> H -> Prop} {x : AV} (hx : cs[i.toNat]? = some x) (hK : K x h) :
  AA (iaA 1 v (.int k i)) h (fun t h=>AA (ldA h none t) h K):=by
 obtain ⟨hl,r⟩:=r
 rcases r with ⟨rfl,rfl⟩ | ⟨b,off,cap,rfl,hfit,hr⟩
 ·omega
 ·simp only [M0,h0,h1,and_self,if_true,AB,E3,Nat.mul_one]
  have : h.cell b (off + i.toNat) = some x:=by
   unfold H.read at hr
   unfold H.cell
   split at hr
   ·rename_i known e own hg
    split at hr
    ·injection hr with hr
     rw [<- hr,Nat.mul_one,List.getElem?_take] at hx
     rw [List.getElem?_drop] at hx
     rw [if_pos (by omega)] at hx
     exact hx
    ·cases hr
   ·cases hr
  rw [this]
  exact hK
theorem Row.at {h : H} {v : AV} {n : Nat} {cs : List AV} (r : Row h v n 1 cs) {i : Int} (h0 : 0 <= i) (h1 : i < n) {x : AV} (hx : cs[i.toNat]? = some x) :
  ∃ b o,(∀ k,iaA 1 v (.int k i) = some (.ptr b o)) /\ h.cell b o = some x:=by
 obtain ⟨hl,r⟩:=r
 rcases r with ⟨rfl,rfl⟩ | ⟨b,off,cap,rfl,hfit,hr⟩
 ·omega
 ·refine ⟨b,off + i.toNat * 1,fun k=>by simp only [M0,h0,h1,and_self,if_true],?_⟩
  unfold H.read at hr
  unfold H.cell
  rw [Nat.mul_one]
  split at hr
  ·rename_i known e own hg
   split at hr
   ·injection hr with hr
    rw [<- hr,Nat.mul_one,List.getElem?_take,List.getElem?_drop,if_pos (by omega)] at hx
    exact hx
   ·cases hr
  ·cases hr
theorem Row.len {h : H} {v : AV} {n esz : Nat} {cs : List AV} (r : Row h v n esz cs) : AF false v = some (.int .i64 n):=by
 rcases r.2 with ⟨rfl,rfl⟩ | ⟨b,off,cap,rfl,_,_⟩ <;> rfl
theorem Row.mono {h h' : H} {v : AV} {n esz : Nat} {cs : List AV} (r : Row h v n esz cs) (hk : ∀ b off cap o,v = .sl b off n cap -> h.get b = some o -> h'.get b = some o) : Row h' v n esz cs:=by
 refine ⟨r.1,?_⟩
 rcases r.2 with q | ⟨b,off,cap,rfl,hfit,hr⟩
 ·exact .inl q
 ·refine .inr ⟨b,off,cap,rfl,hfit,?_⟩
  unfold H.read at hr ⊢
  cases hg : h.get b with
  | none=>rw [hg] at hr; cases hr
  | some o=>rw [hk b off cap o rfl hg]; rw [hg] at hr; exact hr
theorem Row.fr {h h' : H} {v : AV} {n esz : Nat} {cs : List AV} (r : Row h v n esz cs) (f : Fr [] h h') : Row h' v n esz cs:=r.mono fun b _ _ o _ hg=>f b o (by simp) hg
theorem Row.slice {h : H} {v : AV} {n esz : Nat} {cs : List AV} (r : Row h v n esz cs) {k k' : IntKind} {i j : Int} (h0 : 0 <= i) (h1 : i <= j) (h2 : j <= n) (hn : 0 < n) :
  ∃ v',B7 (.row esz) v (some (.int k i)) (some (.int k' j)) none = some v' /\ Row h v' (j.toNat - i.toNat) esz ((cs.drop (i.toNat * esz)).take ((j.toNat - i.toNat) * esz)):=by
 obtain ⟨hl,r⟩:=r
 rcases r with ⟨rfl,rfl⟩ | ⟨b,off,cap,rfl,hfit,hr⟩
 ·omega
 ·have hj : 0 <= j:=by omega
  have hw : within n cap j.toNat = true:=by simp only [within,Bool.or_eq_true,decide_eq_true_eq]; left; omega
  refine ⟨.sl b (off + i.toNat * esz) (j.toNat - i.toNat) (cap.less i.toNat),?_,?_,.inr ⟨b,_,_,rfl,?_,?_⟩⟩
  ·have hij : i.toNat <= j.toNat:=by omega
   simp only [B7,hfit,if_true,DH,loB,hiB,DR,h0,hj,hw,hij,and_self]
  ·have : (j.toNat - i.toNat) * esz <= cs.length - i.toNat * esz:=by
    rw [hl,<- Nat.sub_mul]
    exact Nat.mul_le_mul_right _ (by omega)
   rw [List.length_take,List.length_drop,Nat.min_eq_left this]
  ·cases cap <;> simp_all [Cap.less,Cap.fits]
  ·unfold H.read at hr ⊢
   split at hr
   ·rename_i known e own hg
    split at hr
    ·rename_i hle
     injection hr with hr
     have h3 : i.toNat * esz + (j.toNat - i.toNat) * esz <= n * esz:=by
      rw [<- Nat.add_mul]; exact Nat.mul_le_mul_right _ (by omega)
     rw [if_pos (by omega),<- hr,<- List.drop_drop]
     congr 1
     rw [List.drop_take,List.take_take,Nat.min_eq_left (by omega)]
    ·cases hr
   ·cases hr
def bc (l : List Nat) : List AV:=l.map fun n : Nat=>AV.int .u8 (n : Int)
theorem MQ (l : List Nat) : (bc l).length = l.length:=by simp [bc]
theorem OS : ∀ l : List Nat,bytesOf (bc l) = some (l.map UInt8.ofNat)
 | []=>rfl
 | x :: l=>by
  have:=OS l
  simp only [bc] at this
  simp [bc,bytesOf,this]
theorem Row.b2s {h : H} {v : AV} {l : List Nat} (r : Row h v l.length 1 (bc l)) : bU h v = some (.str (l.map UInt8.ofNat)):=by
 rcases r.2 with ⟨q,rfl⟩ | ⟨b,off,cap,rfl,hfit,hr⟩
 ·have : l = []:=List.eq_nil_of_length_eq_zero q
  subst this; rfl
 ·simp only [bU]
  rw [Nat.mul_one] at hr
  rw [hr]
  simp only [OS,Option.map_some]
theorem AD {h : H} {b e : Nat} {cs : List AV} {o : Bool} (hb : h.get b = some (.live cs e o)) (off : Nat) : h.cell b off = cs[off]?:=by
 unfold H.cell; rw [hb]
theorem UD {h : H} {b c off : Nat} {o : Obj} (hc : c ≠ b) : (h.set b o).cell c off = h.cell c off:=by
 unfold H.cell; rw [H.get_other _ _ hc]
theorem EZ {h : H} {b off e : Nat} {cs : List AV} {o : Bool} : (h.set b (.live cs e o)).cell b off = cs[off]?:=AD (H.get_same ..) off
theorem HS {h : H} {b e off : Nat} {cs : List AV} {v : AV} (hb : h.get b = some (.live cs e true)) (ho : off < cs.length) (hv : v.leaf = true) : h.write b off [v] = some (h.set b (.live (cs.set off v) e true)):=by
 unfold H.write; rw [hb]; simp only [List.length_singleton,leaves,hv,Bool.and_true,and_true]
 rw [if_pos (by omega)]; rfl
theorem HT {h : H} {b e : Nat} {cs vs : List AV} (hl : vs.length = cs.length) (hv : leaves vs = true) : (h.set b (.live cs e true)).write b 0 vs = some (h.set b (.live vs e true)):=by
 unfold H.write; rw [H.get_same]; simp only [hv,and_true]
 rw [if_pos (by omega)]
 have : ∀ (vs cs pre : List AV),vs.length = cs.length -> overlay (pre ++ cs) pre.length vs = pre ++ vs:=by
  intro vs
  induction vs with
  | nil=>intro cs pre hl; have : cs = []:=List.eq_nil_of_length_eq_zero (by simpa using hl.symm); subst this; rfl
  | cons v vs ih=>
   intro cs pre hl
   cases cs with
   | nil=>simp at hl
   | cons c cs=>
    have:=ih cs (pre ++ [v]) (by simpa using hl)
    simp only [List.length_append,List.length_singleton,List.append_assoc,List.singleton_append] at this
    rw [overlay,List.set_append_right _ _ (Nat.le_refl _)]
    simpa using this
 have e:=this vs cs [] hl
 simp only [List.nil_append,List.length_nil] at e
 rw [e]
 congr 1
 apply H.ext'
 intro k
 simp only [H.get_set]
 split <;> rfl
theorem st_one {h : H} {b e off : Nat} {cs : List AV} {k : IntKind} {n : Int} (hb : h.get b = some (.live cs e true)) (ho : off < cs.length) : stA h 1 (.ptr b off) (.int k n) = some (h.set b (.live (cs.set off (.int k n)) e true)):=by
 simp only [stA,AV.cells,List.length_singleton,if_true]
 exact HS hb ho rfl
theorem Row.el {h : H} {v : AV} {n esz : Nat} {cs : List AV} (r : Row h v n esz cs) {i : Int} (h0 : 0 <= i) (h1 : i < n) :
  ∃ b o,(∀ k,iaA esz v (.int k i) = some (.ptr b o)) /\ (∀ j,j < esz -> h.cell b (o + j) = cs[i.toNat * esz + j]?) /\ h.read b o esz = some ((cs.drop (i.toNat * esz)).take esz):=by
 obtain ⟨hl,r⟩:=r
 rcases r with ⟨rfl,rfl⟩ | ⟨b,off,cap,rfl,hfit,hr⟩
 ·omega
 ·have hi : i.toNat * esz + esz <= n * esz:=by
   have : (i.toNat + 1) * esz <= n * esz:=Nat.mul_le_mul_right _ (by omega)
   rw [Nat.add_mul] at this; omega
  refine ⟨b,off + i.toNat * esz,fun k=>by simp only [M0,h0,h1,and_self,if_true],?_,?_⟩
  all_goals unfold H.read at hr
  ·intro j hj
   unfold H.cell
   split at hr
   ·rename_i known e own hg
    split at hr
    ·injection hr with hr
     rw [<- hr]
     rw [List.getElem?_take,if_pos (by omega),List.getElem?_drop]
     congr 1; omega
    ·cases hr
   ·cases hr
  ·unfold H.read
   split at hr
   ·rename_i known e own hg
    split at hr
    ·injection hr with hr
     rw [if_pos (by omega),<- hr,List.drop_take,List.take_take,Nat.min_eq_left (by omega),List.drop_drop]
    ·cases hr
   ·cases hr
def Alive (h : H) (B : List Nat) : Prop:=∀ c ∈ B,h.get c ≠ none
theorem Fr.alive {S B : List Nat} {h h' : H} (f : Fr S h h') (a : Alive h B) (hd : ∀ c ∈ B,c ∉ S) : Alive h' B:=fun c hc=>by
 obtain ⟨o,ho⟩:=Option.ne_none_iff_exists'.1 (a c hc)
 rw [f c o (hd c hc) ho]; simp
theorem F9 (k : IntKind) (n : Int) : ∀ m,AW [.int k n] m = List.replicate m (.int k n)
 | 0=>rfl
 | m + 1=>by rw [AW,F9 k n m]; rfl
theorem FE (k : IntKind) (n : Int) (m : Nat) : leaves (List.replicate m (AV.int k n)) = true:=by
 induction m with
 | zero=>rfl
 | succ m ih=>simp [List.replicate_succ,leaves,AV.leaf,ih]
end Go.Proofs.YtdljelicbnjfjaaGreat.X
namespace Go.Proofs.YtdljelicbnjfjaaGreat.X
open Go Go.RowKit
theorem NN (n : Int) : IntKind.u64.wrap n = n % 18446744073709551616:=by simp [IntKind.wrap,IntKind.bits,IntKind.signed]
theorem YP {a : Int} (h : (Lit.int .i64 a).wf = true) : -9223372036854775808 <= a /\ a <= 9223372036854775807:=by
 simpa [Lit.wf,IntKind.min,IntKind.max,IntKind.signed,IntKind.bits] using h
theorem u64_wf {a : Int} (h : (Lit.int .u64 a).wf = true) : 0 <= a /\ a <= 18446744073709551615:=by
 simpa [Lit.wf,IntKind.min,IntKind.max,IntKind.signed,IntKind.bits] using h
theorem or_comm (x y : Int) : bits .or .u64 x y = bits .or .u64 y x:=by
 show IntKind.u64.wrap ((BitVec.ofInt _ x ||| BitVec.ofInt _ y).toNat : Int) = IntKind.u64.wrap ((BitVec.ofInt _ y ||| BitVec.ofInt _ x).toNat : Int)
 rw [BitVec.or_comm]
end Go.Proofs.YtdljelicbnjfjaaGreat.X
namespace Go.Proofs.YtdljelicbnjfjaaGreat.X
def val : List Nat -> Nat
 | []=>0
 | d :: l=>d % 128 + 128 * val l
def cut : List Nat -> Nat -> Option (List Nat)
 | [],_=>none
 | _ :: _,0=>none
 | d :: l,k + 1=>if d < 128 then some [d] else (cut l k).map (d :: ·)
end Go.Proofs.YtdljelicbnjfjaaGreat.X
set_option maxRecDepth 20000
namespace Go.Proofs.YtdljelicbnjfjaaGreat.X
open Go Go.RowKit
theorem SP (n : Int) : IntKind.i64.wrap n = wrap64 n:=by simp only [IntKind.wrap,wrap64,IntKind.bits,IntKind.signed]; simp; omega
theorem A0 {n : Int} (h0 : -9223372036854775808 <= n) (h1 : n < 9223372036854775808) : IntKind.i64.wrap n = n:=by rw [SP]; unfold wrap64; omega
theorem u64_id {n : Int} (h0 : 0 <= n) (h1 : n < 18446744073709551616) : IntKind.u64.wrap n = n:=by rw [NN]; omega
end Go.Proofs.YtdljelicbnjfjaaGreat.X
set_option maxRecDepth 20000
namespace Go.Proofs.YtdljelicbnjfjaaGreat.X
open Go Go.RowKit
@[go_sem] theorem fillV_int {z : AV} {k : IntKind} {n : Int} : AG [z] [(0,1,.int k n)] = some [.int k n]:=by
 simp [AG,AV.cells,leaves,AV.leaf,overlay]
end Go.Proofs.YtdljelicbnjfjaaGreat.X
set_option maxRecDepth 20000
namespace Go.Proofs.YtdljelicbnjfjaaGreat.X
open Go Go.RowKit
end Go.Proofs.YtdljelicbnjfjaaGreat.X
set_option maxRecDepth 20000
namespace Go.Proofs.YtdljelicbnjfjaaGreat.X
open Go Go.RowKit
theorem WE {h : H} {ls : List (List AV)} (hl : TF h [] ls) : ls = []:=by cases ls <;> first | rfl | exact hl.elim
theorem KJ {h : H} {s : Sh} {ss : List Sh} {ls : List (List AV)} (hl : TF h (s :: ss) ls) : ∃ l ls',ls = l :: ls' /\ DO h s l /\ TF h ss ls':=by
 cases ls with
 | nil=>exact hl.elim
 | cons l ls=>exact ⟨l,ls,rfl,hl.1,hl.2⟩
theorem YB {h : H} {l : List AV} (hl : DO h (.int .i64) l) : ∃ n,l = [.int .i64 n] /\ -9223372036854775808 <= n /\ n < 9223372036854775808:=by
 simp only [DO] at hl
 obtain ⟨n,rfl,hw⟩:=hl
 have:=YP hw
 exact ⟨n,rfl,by omega,by omega⟩
theorem X9 {h : H} {l : List AV} (hl : DO h (.int .u64) l) : ∃ n,l = [.int .u64 n] /\ 0 <= n /\ n < 18446744073709551616:=by
 simp only [DO] at hl
 obtain ⟨n,rfl,hw⟩:=hl
 have:=u64_wf hw
 exact ⟨n,rfl,by omega,by omega⟩
theorem WD {h : H} {l : List AV} (hl : DO h .bool l) : ∃ b,l = [.bool b]:=by
 simpa only [DO] using hl
end Go.Proofs.YtdljelicbnjfjaaGreat.X
set_option maxRecDepth 20000
namespace Go.Proofs.YtdljelicbnjfjaaGreat.X
open Go Go.RowKit
end Go.Proofs.YtdljelicbnjfjaaGreat.X
set_option maxRecDepth 20000
namespace Go.Proofs.YtdljelicbnjfjaaGreat.X
open Go Go.RowKit
def ic (L : List Int) : List AV:=L.map fun n=>AV.int .i64 n
section
variable {h : H}
theorem WC {l : List AV} (hl : DO h (.sl (.int .i64)) l) : ∃ v L,l = [v] /\ Row h v L.length 1 (ic L) /\ (∀ n ∈ L,-9223372036854775808 <= n /\ n <= 9223372036854775807) /\ L.length <= reachBytes:=by
 simp only [DO] at hl
 rcases hl with rfl | ⟨b,ei,css,rfl,hb,hm,hcs⟩
 ·exact ⟨.nilsl,[],rfl,⟨rfl,.inl ⟨rfl,rfl⟩⟩,by simp,by simp⟩
 ·obtain ⟨L,hL,hfl,hlen⟩ : ∃ L : List Int,(∀ n ∈ L,-9223372036854775808 <= n /\ n <= 9223372036854775807) /\ css.flatten = ic L /\ L.length = css.length:=by
   clear hb hm
   induction css with
   | nil=>exact ⟨[],by simp,rfl,rfl⟩
   | cons c css ih=>
    obtain ⟨L,i1,i2,i3⟩:=ih fun c hc=>hcs c (by simp [hc])
    obtain ⟨n,rfl,hw⟩:=hcs c (by simp)
    have hn:=YP hw
    refine ⟨n :: L,?_,?_,by simp [i3]⟩
    ·intro d hd
     rcases List.mem_cons.1 hd with rfl | hd
     ·omega
     ·exact i1 d hd
    ·simp [ic,i2]
  refine ⟨_,L,rfl,⟨by simp [ic],.inr ⟨b,0,.any,by rw [hlen],rfl,?_⟩⟩,hL,by omega⟩
  refine H.read_eq hb (by rw [hfl]; simp [ic]) ?_
  rw [hfl,List.drop_zero,List.take_of_length_le (by simp [ic])]
theorem Own.fr {h0 h h' : H} {ty esz : Nat} {v : AV} {n : Nat} {cs : List AV} (o : Own h0 h ty esz v n cs) (f : Fr [] h h') : Own h0 h' ty esz v n cs:=by
 refine ⟨o.1,?_⟩
 rcases o.2 with q | ⟨b,q1,q2,q3⟩
 ·exact .inl q
 ·exact .inr ⟨b,q1,q2,f b _ (by simp) q3⟩
end
end Go.Proofs.YtdljelicbnjfjaaGreat.X
set_option maxRecDepth 20000
namespace Go.Proofs.YtdljelicbnjfjaaGreat.X
open Go Go.RowKit
section
variable {h : H}
theorem Row.one {v : AV} {n esz : Nat} {cs : List AV} (r : Row h v n esz cs) : v.leaf = true /\ v.cells = [v]:=by
 rcases r.2 with ⟨_,rfl⟩ | ⟨_,_,_,rfl,_⟩ <;> exact ⟨rfl,rfl⟩
end
end Go.Proofs.YtdljelicbnjfjaaGreat.X
set_option maxRecDepth 20000
namespace Go.Proofs.YtdljelicbnjfjaaGreat.X
open Go Go.RowKit
end Go.Proofs.YtdljelicbnjfjaaGreat.X
set_option maxRecDepth 20000
namespace Go.Proofs.YtdljelicbnjfjaaGreat.X
open Go Go.RowKit
theorem VU {h h' : H} (f : Fr [] h h') {b o : Nat} {x : AV} (hx : h.cell b o = some x) : h'.cell b o = some x:=by
 unfold H.cell at hx ⊢
 cases hg : h.get b with
 | none=>rw [hg] at hx; cases hx
 | some ob=>rw [f b ob (by simp) hg]; rw [hg] at hx; exact hx
end Go.Proofs.YtdljelicbnjfjaaGreat.X
namespace Go.Proofs.YtdljelicbnjfjaaGreat.X
open Go Go.RowKit
theorem I1 {h : H} {b e off : Nat} {cs : List AV} {v : AV} (hb : h.get b = some (.live cs e true)) (ho : off < cs.length) (hv : v.leaf = true) (hc : v.cells = [v]) : stA h 1 (.ptr b off) v = some (h.set b (.live (cs.set off v) e true)):=by
 simp only [stA,hc,List.length_singleton,if_true]
 exact HS hb ho hv
theorem Own.ne {h1 h' : H} {ty esz : Nat} {v : AV} {n : Nat} {cs : List AV} (o : Own h1 h' ty esz v n cs) {d ty' : Nat} {cs' : List AV} {w : Bool} (hd : h'.get d = some (.live cs' ty' w)) (ht : ty ≠ ty') : ∀ n' p,v ≠ .sl d 0 n' p:=by
 rintro n' p rfl
 rcases o.2 with ⟨_,q⟩ | ⟨b,q,_,q3⟩
 ·cases q
 ·injection q with q _
  rw [<- q,hd] at q3
  injection q3 with q3; injection q3 with _ q3 _
  exact ht q3.symm
theorem Own.keep {h1 h' h'' : H} {ty esz : Nat} {v : AV} {n : Nat} {cs : List AV} (o : Own h1 h' ty esz v n cs) (k : ∀ c n' p,v = .sl c 0 n' p -> ∀ ob,h'.get c = some ob -> h''.get c = some ob) : Own h1 h'' ty esz v n cs:=by
 refine ⟨o.1,?_⟩
 rcases o.2 with q | ⟨b,q1,q2,q3⟩
 ·exact .inl q
 ·exact .inr ⟨b,q1,q2,k b _ _ q1 _ q3⟩
theorem Fr.cons {S : List Nat} {h0 h1 h2 : H} {P : List Nat} (f : Fr S h0 h1) (hP : ∀ c ∈ P,h0.get c = none) (f2 : Fr P h1 h2) : Fr S h0 h2:=fun c o hc hg=>by
 refine f2 c o (fun q=>?_) (f c o hc hg)
 rw [hP c q] at hg; cases hg
theorem BH {h : H} {cs : List AV} {e : Nat} {K : AV -> H -> Prop} (hl : leaves cs = true) (hK : ∀ b,h.get b = none -> K (.ptr b 0) (h.set b (.live cs e true))) : AL h cs e K:=⟨hl,hK⟩
theorem CK {h : H} {b off n : Nat} {cs : List AV} (hr : h.read b off n = some cs) : ldA h (some n) (.ptr b off) = some (.agg cs):=by rw [MZ,hr]
structure Ty where
 imm : Bool
 sh : List Int
structure Shp where
 kind : Int
 fs : List Int
 name : List UInt8
structure Ins where
 op : Int
 d : Int
 a : Int
 b : Int
 c : Int
 n : Int
 l : List Int
 m : List Int
 live : List Int
structure Blk where
 inn : List Int
 code : List Ins
structure Fn where
 params : List Int
 result : Int
 slots : Int
 blocks : List Blk
structure Img where
 types : List Ty
 shapes : List Shp
 strs : List (List UInt8)
 names : List (List UInt8)
 fns : List Fn
 main : Int
 exn : Int
def rg (n : Int) : Prop:=-9223372036854775808 <= n /\ n <= 9223372036854775807
def rgs (l : List Int) : Prop:=l.length <= reachBytes /\ ∀ n ∈ l,rg n
def Ty.ok (t : Ty) : Prop:=rgs t.sh
def Shp.ok (s : Shp) : Prop:=rg s.kind /\ rgs s.fs /\ s.name.length <= reachBytes
def Ins.ok (x : Ins) : Prop:=(rg x.op /\ rg x.d /\ rg x.a /\ rg x.b /\ rg x.c /\ rg x.n) /\ rgs x.l /\ rgs x.m /\ rgs x.live
def Blk.ok (b : Blk) : Prop:=rgs b.inn /\ b.code.length <= reachBytes /\ ∀ x ∈ b.code,x.ok
def Fn.ok (f : Fn) : Prop:=rgs f.params /\ rg f.result /\ rg f.slots /\ f.blocks.length <= reachBytes /\ ∀ b ∈ f.blocks,b.ok
def Img.ok (m : Img) : Prop:=(m.types.length <= reachBytes /\ ∀ t ∈ m.types,t.ok) /\ (m.shapes.length <= reachBytes /\ ∀ s ∈ m.shapes,s.ok) /\ (m.strs.length <= reachBytes /\ ∀ s ∈ m.strs,s.length <= reachBytes) /\
 (m.names.length <= reachBytes /\ ∀ s ∈ m.names,s.length <= reachBytes) /\ (m.fns.length <= reachBytes /\ ∀ f ∈ m.fns,f.ok) /\ rg m.main /\ rg m.exn
def RowOf {α : Type} (h : H) (esz : Nat) (Rel : α -> List AV -> Prop) (v : AV) (l : List α) : Prop:=
 ∃ css : List (List AV),css.length = l.length /\ (∀ (i : Nat) (x : α) (c : List AV),l[i]? = some x -> css[i]? = some c -> Rel x c) /\ (∀ c ∈ css,c.length = esz) /\ Row h v l.length esz css.flatten
def tyR (h : H) (t : Ty) (c : List AV) : Prop:=∃ v,c = [.bool t.imm,v] /\ Row h v t.sh.length 1 (ic t.sh)
def shR (h : H) (s : Shp) (c : List AV) : Prop:=∃ v,c = [.int .i64 s.kind,v,.str s.name] /\ Row h v s.fs.length 1 (ic s.fs)
def stR (s : List UInt8) (c : List AV) : Prop:=c = [.str s]
def IM (x : Ins) (vl vm vv : AV) : List AV:=[.int .i64 x.op,.int .i64 x.d,.int .i64 x.a,.int .i64 x.b,.int .i64 x.c,.int .i64 x.n,vl,vm,vv]
def insR (h : H) (x : Ins) (c : List AV) : Prop:=∃ vl vm vv,c = IM x vl vm vv /\ Row h vl x.l.length 1 (ic x.l) /\ Row h vm x.m.length 1 (ic x.m) /\ Row h vv x.live.length 1 (ic x.live)
def blkR (h : H) (b : Blk) (c : List AV) : Prop:=∃ vi vc,c = [vi,vc] /\ Row h vi b.inn.length 1 (ic b.inn) /\ RowOf h 9 (insR h) vc b.code
def fnR (h : H) (f : Fn) (c : List AV) : Prop:=∃ vp vb,c = [vp,.int .i64 f.result,.int .i64 f.slots,vb] /\ Row h vp f.params.length 1 (ic f.params) /\ RowOf h 2 (blkR h) vb f.blocks
def imgR (h : H) (m : Img) (c : List AV) : Prop:=∃ vt vs vx vn vf,c = [vt,vs,vx,vn,vf,.int .i64 m.main,.int .i64 m.exn] /\
 RowOf h 2 (tyR h) vt m.types /\ RowOf h 3 (shR h) vs m.shapes /\ RowOf h 1 stR vx m.strs /\ RowOf h 1 stR vn m.names /\ RowOf h 4 (fnR h) vf m.fns
theorem Row.nil (h : H) (esz : Nat) : Row h .nilsl 0 esz []:=⟨by simp,.inl ⟨rfl,rfl⟩⟩
theorem RowOf.nil {α : Type} (h : H) (esz : Nat) (Rel : α -> List AV -> Prop) : RowOf h esz Rel .nilsl []:=⟨[],rfl,by simp,by simp,Row.nil h esz⟩
section
variable {α : Type} {h : H} {esz : Nat} {Rel : α -> List AV -> Prop} {v : AV} {l : List α}
theorem RowOf.one (r : RowOf h esz Rel v l) : v.leaf = true /\ v.cells = [v]:=by obtain ⟨_,_,_,_,r⟩:=r; exact r.one
theorem RowOf.len (r : RowOf h esz Rel v l) : AF false v = some (.int .i64 l.length):=by obtain ⟨_,_,_,_,r⟩:=r; exact r.len
theorem EB {css : List (List AV)} {e : Nat} (he : ∀ c ∈ css,c.length = e) : css.flatten.length = css.length * e:=by
 induction css with
 | nil=>simp
 | cons c css ih=>
  rw [List.flatten_cons,List.length_append,he c (by simp),ih fun d hd=>he d (by simp [hd]),List.length_cons,Nat.add_mul]; omega
theorem VN : ∀ {css : List (List AV)} {e : Nat},(∀ c ∈ css,c.length = e) -> ∀ (i : Nat) (c : List AV),css[i]? = some c -> (css.flatten.drop (i * e)).take e = c
 | [],e,_,i,c,h=>by simp at h
 | y :: css,e,he,0,c,h=>by
  simp at h; subst h
  have:=he y (by simp)
  rw [Nat.zero_mul,List.drop_zero,List.flatten_cons,List.take_append,List.take_of_length_le (by omega),this,Nat.sub_self,List.take_zero,List.append_nil]
 | y :: css,e,he,i + 1,c,h=>by
  have hy:=he y (by simp)
  rw [List.flatten_cons,List.drop_append,List.drop_eq_nil_of_le (by rw [hy,Nat.add_mul]; omega),List.nil_append,hy,show (i + 1) * e - e = i * e by rw [Nat.add_mul]; omega]
  exact VN (fun d hd=>he d (by simp [hd])) i c (by simpa using h)
theorem RowOf.el (r : RowOf h esz Rel v l) {i : Nat} {x : α} (hx : l[i]? = some x) : ∃ b o c,(∀ k,iaA esz v (.int k i) = some (.ptr b o)) /\ Rel x c /\ c.length = esz /\ h.read b o esz = some c /\ ∀ j,j < esz -> h.cell b (o + j) = c[j]?:=by
 obtain ⟨css,h1,h2,h3,r⟩:=r
 have hi : i < l.length:=(List.getElem?_eq_some_iff.1 hx).1
 obtain ⟨b,o,q1,q2,q3⟩:=r.el (i:=i) (by omega) (by omega)
 have hc : i < css.length:=by omega
 have hat:=VN h3 i css[i] (by simp [hc])
 rw [Int.toNat_natCast] at q2 q3
 rw [hat] at q3
 have hl:=h3 css[i] (List.getElem_mem hc)
 refine ⟨b,o,css[i],q1,h2 i x _ hx (by simp [hc]),hl,q3,fun j hj=>?_⟩
 rw [q2 j hj]
 conv=>rhs; rw [<- hat]
 rw [List.getElem?_take,if_pos hj,List.getElem?_drop]
theorem RowOf.mono (r : RowOf h esz Rel v l) {h' : H} {Rel' : α -> List AV -> Prop} (f : Fr [] h h') (hr : ∀ x ∈ l,∀ c,Rel x c -> Rel' x c) : RowOf h' esz Rel' v l:=by
 obtain ⟨css,h1,h2,h3,r⟩:=r
 exact ⟨css,h1,fun i x c hx hc=>hr x (List.mem_of_getElem? hx) c (h2 i x c hx hc),h3,r.fr f⟩
end
section
variable {h h' : H}
theorem tyR.fr (f : Fr [] h h') {t : Ty} {c : List AV} (r : tyR h t c) : tyR h' t c:=by obtain ⟨v,h1,h2⟩:=r; exact ⟨v,h1,h2.fr f⟩
theorem shR.fr (f : Fr [] h h') {t : Shp} {c : List AV} (r : shR h t c) : shR h' t c:=by obtain ⟨v,h1,h2⟩:=r; exact ⟨v,h1,h2.fr f⟩
theorem insR.fr (f : Fr [] h h') {t : Ins} {c : List AV} (r : insR h t c) : insR h' t c:=by obtain ⟨x,y,z,h1,h2,h3,h4⟩:=r; exact ⟨x,y,z,h1,h2.fr f,h3.fr f,h4.fr f⟩
theorem blkR.fr (f : Fr [] h h') {t : Blk} {c : List AV} (r : blkR h t c) : blkR h' t c:=by obtain ⟨x,y,h1,h2,h3⟩:=r; exact ⟨x,y,h1,h2.fr f,h3.mono f fun _ _ _=>insR.fr f⟩
theorem fnR.fr (f : Fr [] h h') {t : Fn} {c : List AV} (r : fnR h t c) : fnR h' t c:=by obtain ⟨x,y,h1,h2,h3⟩:=r; exact ⟨x,y,h1,h2.fr f,h3.mono f fun _ _ _=>blkR.fr f⟩
theorem imgR.fr (f : Fr [] h h') {t : Img} {c : List AV} (r : imgR h t c) : imgR h' t c:=by
 obtain ⟨a1,a2,a3,a4,a5,h1,h2,h3,h4,h5,h6⟩:=r
 exact ⟨a1,a2,a3,a4,a5,h1,h2.mono f fun _ _ _=>tyR.fr f,h3.mono f fun _ _ _=>shR.fr f,h4.mono f fun _ _ _ x=>x,h5.mono f fun _ _ _ x=>x,h6.mono f fun _ _ _=>fnR.fr f⟩
theorem tyR.leaves {t : Ty} {c : List AV} (r : tyR h t c) : leaves c = true:=by obtain ⟨v,rfl,h2⟩:=r; simp only [X.leaves,h2.one.1]; rfl
theorem shR.leaves {t : Shp} {c : List AV} (r : shR h t c) : leaves c = true:=by obtain ⟨v,rfl,h2⟩:=r; simp only [X.leaves,h2.one.1]; rfl
theorem insR.leaves {t : Ins} {c : List AV} (r : insR h t c) : leaves c = true:=by obtain ⟨x,y,z,rfl,h2,h3,h4⟩:=r; simp only [IM,X.leaves,h2.one.1,h3.one.1,h4.one.1]; rfl
theorem blkR.leaves {t : Blk} {c : List AV} (r : blkR h t c) : leaves c = true:=by obtain ⟨x,y,rfl,h2,h3⟩:=r; simp only [X.leaves,h2.one.1,h3.one.1]; rfl
theorem fnR.leaves {t : Fn} {c : List AV} (r : fnR h t c) : leaves c = true:=by obtain ⟨x,y,rfl,h2,h3⟩:=r; simp only [X.leaves,h2.one.1,h3.one.1]; rfl
theorem imgR.leaves {t : Img} {c : List AV} (r : imgR h t c) : leaves c = true:=by
 obtain ⟨a1,a2,a3,a4,a5,rfl,h2,h3,h4,h5,h6⟩:=r
 simp only [X.leaves,h2.one.1,h3.one.1,h4.one.1,h5.one.1,h6.one.1]; rfl
theorem HG {b e n : Nat} {zs cs : List AV} (hl : cs.length = n) (hz : zs.length = n) (hv : leaves cs = true) : stA (h.set b (.live zs e true)) n (.ptr b 0) (.agg cs) = some (h.set b (.live cs e true)):=by
 have ec : (AV.agg cs).cells = cs:=rfl
 simp only [HY,ec,hl,if_true]
 exact HT (by omega) hv
end
def usesL : List (List UInt8):=[[],[68,78],[68,65,108],[68,65],[68,65,66,78],[68,65,76,108],[68,65,66],[65,66,67],[68,65,66,67,108],[68,65,66],[65,66,67],[68,65],[68,65,66],[68,65,66,108],[68,65,66],[68],[65],[68,65,66,67,76,108],[65],[65,66,67],[65,76,77,66],[65,76],[65],[65]]
def G3 (op : Int) : List UInt8:=if op < 0 then [] else usesL.getD op.toNat []
theorem NU (op : Int) : (op = 0 \/ op = 1 \/ op = 2 \/ op = 3 \/ op = 4 \/ op = 5 \/ op = 6 \/ op = 7 \/ op = 8 \/ op = 9 \/ op = 10 \/ op = 11 \/ op = 12 \/ op = 13 \/ op = 14 \/ op = 15 \/ op = 16 \/ op = 17 \/ op = 18 \/ op = 19 \/ op = 20 \/ op = 21 \/ op = 22 \/ op = 23) \/ (op < 0 \/ 24 <= op):=by omega
theorem HV {op : Int} (h : op < 0 \/ 24 <= op) : G3 op = []:=by
 unfold G3
 split
 ·rfl
 ·rw [List.getD_eq_getElem?_getD,List.getElem?_eq_none (by show 24 <= op.toNat; omega)]; rfl
def EW (s : List UInt8) (c : Int) : Bool:=s.any fun x=>decide ((x.toNat : Int) = c)
section
variable {h : H}
theorem uses_c (op : Int) (K : AV -> H -> Prop) : C 59 [.int .i64 op] h K = K (.str (G3 op)) h:=by
 refine BR (run59 ?_) K
 rcases NU op with q | q
 ·rcases q with rfl | rfl | rfl | rfl | rfl | rfl | rfl | rfl | rfl | rfl | rfl | rfl | rfl | rfl | rfl | rfl | rfl | rfl | rfl | rfl | rfl | rfl | rfl | rfl <;>
   (simp only [sh59,AJ,go_sem,reduceIte]; rfl)
 ·rw [HV q]
  have e1 : ¬ op = 1:=by omega
  have e2 : ¬ op = 2:=by omega
  have e3 : ¬ op = 3:=by omega
  have e4 : ¬ op = 4:=by omega
  have e5 : ¬ op = 5:=by omega
  have e6 : ¬ op = 6:=by omega
  have e7 : ¬ op = 7:=by omega
  have e8 : ¬ op = 8:=by omega
  have e9 : ¬ op = 9:=by omega
  have e10 : ¬ op = 10:=by omega
  have e11 : ¬ op = 11:=by omega
  have e12 : ¬ op = 12:=by omega
  have e13 : ¬ op = 13:=by omega
  have e14 : ¬ op = 14:=by omega
  have e15 : ¬ op = 15:=by omega
  have e16 : ¬ op = 16:=by omega
  have e17 : ¬ op = 17:=by omega
  have e18 : ¬ op = 18:=by omega
  have e19 : ¬ op = 19:=by omega
  have e20 : ¬ op = 20:=by omega
  have e21 : ¬ op = 21:=by omega
  have e22 : ¬ op = 22:=by omega
  have e23 : ¬ op = 23:=by omega
  simp only [sh59,AJ,go_sem,reduceIte,e1,e2,e3,e4,e5,e6,e7,e8,e9,e10,e11,e12,e13,e14,e15,e16,e17,e18,e19,e20,e21,e22,e23]
theorem ruses_c (op : Int) {K : AV -> H -> Prop} (hK : ∀ h',Fr [] h h' -> K (.str (G3 op)) h') : C 111 [.int .i64 op] h K:=by
 refine run111 ?_
 unfold sh111 zL zE zV
 change A5 h 9 24 (some (usesL.map AV.str)) _
 refine ⟨rfl,fun m hm=>?_⟩
 have hlen : (usesL.map AV.str).length = 24:=rfl
 have f : ∀ o,Fr [] h (h.set m o):=fun o=>(Fr.refl _ _).set' hm
 by_cases c1 : op < 0
 ·simp only [go_sem,reduceIte,c1]
  rw [HV (.inl c1)] at hK
  exact hK _ (f _)
 by_cases c2 : 24 <= op
 ·have c2' : ((24 : Nat) : Int) <= op:=by omega
  simp only [go_sem,reduceIte,c1,c2']
  rw [HV (.inr c2)] at hK
  exact hK _ (f _)
 ·have c2' : ¬ ((24 : Nat) : Int) <= op:=by omega
  have c3 : 0 <= op:=by omega
  have c4 : op < ((24 : Nat) : Int):=by omega
  obtain ⟨k,rfl⟩:=Int.eq_ofNat_of_zero_le c3
  have hk : k < 24:=by omega
  have e : G3 k = usesL.getD k []:=by unfold G3; rw [if_neg c1,Int.toNat_natCast]
  have hc : ∀ o,(h.set m (.live (usesL.map AV.str) 9 o)).cell m k = some (.str (G3 k)):=fun o=>by
   rw [EZ,e,List.getElem?_map,List.getD_eq_getElem?_getD,List.getElem?_eq_getElem (by exact hk)]; rfl
  have hc':=hc true
  simp only [go_sem,reduceIte,c1,c2',c3,c4,hc']
  exact hK _ (f _)
theorem LC (s : List UInt8) (hs : s.length <= reachBytes) (c : Int) (K : AV -> H -> Prop) : C 112 [.str s,.int .u8 c] h K = K (.bool (EW s c)) h:=by
 refine BR (run112 ?_) K
 unfold sh112
 refine AI (fun (J : H -> Prop)=>EW s c = false -> J h) (fun e=>by rw [e]; exact ⟨rfl,rfl⟩) fun J hJ=>?_
 refine AS (s.length + 1) (fun k ls h'=>∃ i : Nat,ls = [.int .i64 i] /\ i <= s.length /\ EW s c = EW (s.drop i) c /\ h' = h /\ k = s.length + 1 - i) ⟨0,rfl,by omega,rfl,rfl,rfl⟩ ?_
 rintro k ls h' ⟨i,rfl,hi,he,e,rfl⟩
 rw [e]
 by_cases q : (i : Int) < s.length
 ·have hi' : i < s.length:=by omega
  obtain ⟨x,hx⟩ : ∃ x,s[i]? = some x:=⟨s[i],by simp [hi']⟩
  have hd : s.drop i = x :: s.drop (i + 1):=by
   rw [List.drop_eq_getElem_cons hi']; congr 1
   rw [List.getElem?_eq_getElem hi'] at hx; injection hx
  have hix : MC (.str s) (.int .i64 i) = some (.int .u8 x.toNat):=by
   have : (0 : Int) <= i:=by omega
   simp only [MC,this,if_true,Int.toNat_natCast,hx]
  have e2 : IntKind.i64.wrap ((i : Int) + 1) = ((i + 1 : Nat) : Int):=by
   have : reachBytes <= 4611686018427387903:=by decide
   rw [A0 (by omega) (by omega)]; rfl
  rw [hd] at he
  by_cases z : (x.toNat : Int) = c
  ·have : EW s c = true:=by rw [he]; simp [EW,z]
   simp only [go_sem,reduceIte,q,hix,z,this]
  ·have : EW s c = EW (s.drop (i + 1)) c:=by rw [he]; simp [EW,z]
   simp only [go_sem,reduceIte,q,hix,z,e2]
   exact ⟨s.length + 1 - (i + 1),by omega,i + 1,rfl,by omega,this,rfl⟩
 ·have : s.drop i = []:=List.drop_eq_nil_of_le (by omega)
  rw [this] at he
  simp only [go_sem,reduceIte,q]
  exact hJ he
end
theorem PC (op : Int) : (G3 op).length <= reachBytes:=by
 have r : 8 <= reachBytes:=by decide
 rcases NU op with q | q
 ·rcases q with rfl | rfl | rfl | rfl | rfl | rfl | rfl | rfl | rfl | rfl | rfl | rfl | rfl | rfl | rfl | rfl | rfl | rfl | rfl | rfl | rfl | rfl | rfl | rfl <;> exact Nat.le_trans (by decide) r
 ·rw [HV q]; simp
def LX (x : Ins) : Bool:=
 let u:=G3 x.op
 !(((((decide (u = []) || (!EW u 68 && decide (x.d ≠ 0))) || (!EW u 65 && decide (x.a ≠ 0))) || (!EW u 66 && decide (x.b ≠ 0))) || (!EW u 67 && decide (x.c ≠ 0))) || (!EW u 78 && decide (x.n ≠ 0))) &&
  (((EW u 76 || decide ((x.l.length : Int) = 0)) && (EW u 77 || decide ((x.m.length : Int) = 0))) && (EW u 108 || decide ((x.live.length : Int) = 0)))
section
variable {h : H}
theorem OP {p : Bool} {u : List UInt8} (hu : u.length <= reachBytes) {c : Int} {b off : Nat} {v : Int} (hc : h.cell b off = some (.int .i64 v)) {K : AV -> H -> Prop} :
  (AH (.bool p) false (fun K=>K (.str u) h) h fun t10 h=>
   AH (.bool p) false (fun K=>C 112 [t10,(.int .u8 c)] h K) h fun t11 h=>
   AH (.bool p) false (fun K=>AA (unOp .not t11) h K) h fun t12 h=>
   AH (.bool p) false (fun K=>K t12 h) h fun t13 h=>
   AH t13 true (fun K=>K (.ptr b off) h) h fun t14 h=>
   AH t13 true (fun K=>AA (ldA h none t14) h K) h fun t15 h=>
   AH t13 true (fun K=>AA (binOp .neq .num t15 (.int .i64 0)) h K) h fun t16 h=>
   AH (.bool p) false (fun K=>AA (AE t13 t16 (.bool false)) h K) h fun t17 h=>
   AA (AE (.bool p) (.bool true) t17) h fun t18 h=>K t18 h) = K (.bool (p || (!EW u c && decide (v ≠ 0)))) h:=by
 cases p with
 | true=>simp only [go_sem,reduceIte,Bool.true_or]
 | false=>
  cases hh : EW u c with
  | true=>simp only [go_sem,reduceIte,LC u hu,hh,Bool.false_or,Bool.false_and,whenA_u]
  | false=>
   by_cases hv : v = 0
   ·simp only [go_sem,reduceIte,LC u hu,hh,hc,hv,Bool.false_or,Bool.true_and]
   ·simp only [go_sem,reduceIte,LC u hu,hh,hc,hv,Bool.false_or,Bool.true_and]
theorem bK {p : Bool} {u : List UInt8} (hu : u.length <= reachBytes) {c : Int} {b off n : Nat} {v : AV} (hc : h.cell b off = some v) (hl : AF false v = some (.int .i64 n)) {K : AV -> H -> Prop} :
  (AH (.bool p) true (fun K=>K (.str u) h) h fun t68 h=>
   AH (.bool p) true (fun K=>C 112 [t68,(.int .u8 c)] h K) h fun t69 h=>
   AH (.bool p) true (fun K=>K t69 h) h fun t70 h=>
   AH t70 false (fun K=>K (.ptr b off) h) h fun t71 h=>
   AH t70 false (fun K=>AA (ldA h none t71) h K) h fun t72 h=>
   AH t70 false (fun K=>AA (AF false t72) h K) h fun t73 h=>
   AH t70 false (fun K=>AA (binOp .eql .num t73 (.int .i64 0)) h K) h fun t74 h=>
   AH (.bool p) true (fun K=>AA (AE t70 (.bool true) t74) h K) h fun t75 h=>
   AA (AE (.bool p) t75 (.bool false)) h fun t76 h=>K t76 h) = K (.bool (p && (EW u c || decide ((n : Int) = 0)))) h:=by
 cases p with
 | false=>simp only [go_sem,reduceIte,Bool.false_and]
 | true=>
  cases hh : EW u c with
  | true=>simp only [go_sem,reduceIte,LC u hu,hh,Bool.true_or,Bool.true_and]
  | false=>
   by_cases hv : (n : Int) = 0
   ·simp only [go_sem,reduceIte,LC u hu,hh,hc,hl,hv,Bool.false_or,Bool.true_and]
   ·simp only [go_sem,reduceIte,LC u hu,hh,hc,hl,hv,Bool.false_or,Bool.true_and]
theorem XQ {x : Ins} {c : List AV} (r : insR h x c) {K : AV -> H -> Prop} (hK : ∀ h',Fr [] h h' -> K (.bool (LX x)) h') : C 62 [.agg c] h K:=by
 refine run62 ?_
 have ec : (AV.agg c).cells = c:=rfl
 have hl:=r.leaves
 unfold sh62 zT zE zU zV zF zG zH
 rw [ec]
 refine ⟨hl,fun b hb=>?_⟩
 have f : Fr [] h (h.set b (.live c 55 true)):=(Fr.refl _ _).set' hb
 have cb : ∀ off,(h.set b (.live c 55 true)).cell b off = c[off]?:=fun off=>EZ
 have r2:=r.fr f
 generalize h.set b (.live c 55 true) = h1 at *
 obtain ⟨vl,vm,vv,rfl,r3,r4,r5⟩:=r2
 simp only [go_sem,reduceIte,cb,IM]
 refine ruses_c x.op fun h2 f2=>?_
 have cb2 : ∀ off v,(IM x vl vm vv)[off]? = some v -> h2.cell b off = some v:=fun off v hv=>by exact VU f2 (by rw [cb]; exact hv)
 have hu:=PC x.op
 have hK2:=hK h2 (f.trans f2)
 unfold LX at hK2
 simp only at hK2
 generalize G3 x.op = u at *
 simp only [b_seql,AB]
 rw [OP hu (cb2 1 _ rfl),OP hu (cb2 2 _ rfl),OP hu (cb2 3 _ rfl),OP hu (cb2 4 _ rfl),OP hu (cb2 5 _ rfl)]
 cases hbad : (((((decide (u = []) || (!EW u 68 && decide (x.d ≠ 0))) || (!EW u 65 && decide (x.a ≠ 0))) || (!EW u 66 && decide (x.b ≠ 0))) || (!EW u 67 && decide (x.c ≠ 0))) || (!EW u 78 && decide (x.n ≠ 0))) with
 | true=>
  rw [hbad] at hK2
  simp only [AZ]
  exact hK2
 | false=>
  rw [hbad] at hK2
  simp only [AO]
  have e0 : ∀ (K : AV -> H -> Prop),C 112 [.str u,.int .u8 76] h2 (fun t60 h=>AH t60 false (fun K=>K (.ptr b 6) h) h fun t62 h=>AH t60 false (fun K=>AA (ldA h none t62) h K) h fun t63 h=>AH t60 false (fun K=>AA (AF false t63) h K) h fun t64 h=>
    AH t60 false (fun K=>AA (binOp .eql .num t64 (.int .i64 0)) h K) h fun t65 h=>AA (AE t60 (.bool true) t65) h fun t66 h=>K t66 h) = K (.bool (EW u 76 || decide ((x.l.length : Int) = 0))) h2:=fun K=>by
   have c6:=cb2 6 _ rfl
   have hll:=(r3.fr f2).len
   cases hh : EW u 76 with
   | true=>simp only [go_sem,reduceIte,LC u hu,hh,Bool.true_or]
   | false=>
    by_cases hv : (x.l.length : Int) = 0
    ·rw [hv] at hll
     simp only [go_sem,reduceIte,LC u hu,hh,c6,hll,hv,Bool.false_or]
    ·simp only [go_sem,reduceIte,LC u hu,hh,c6,hll,hv,Bool.false_or]
  rw [e0,bK hu (cb2 7 _ rfl) (r4.fr f2).len,bK hu (cb2 8 _ rfl) (r5.fr f2).len]
  exact hK2
end
def Ins.clr (x : Ins) (c : UInt8) : Ins:=if c = 78 then { x with n:=0 } else if c = 68 then { x with d:=0 } else if c = 65 then { x with a:=0 } else if c = 66 then { x with b:=0 } else if c = 67 then { x with c:=0 } else
 if c = 76 then { x with l:=[] } else if c = 77 then { x with m:=[] } else { x with live:=[] }
def TO (x : Ins) : Bool:=
 let y:=(G3 x.op).foldl Ins.clr x
 (((((((decide (G3 x.op ≠ []) && decide (y.d = 0)) && decide (y.a = 0)) && decide (y.b = 0)) && decide (y.c = 0)) && decide (y.n = 0)) && decide ((y.l.length : Int) = 0)) && decide ((y.m.length : Int) = 0)) && decide ((y.live.length : Int) = 0)
theorem V7 (x : Ins) : TO x = LX x:=by
 obtain ⟨op,d,a,b,c,n,l,m,live⟩:=x
 unfold TO LX
 rcases NU op with q | q
 ·rcases q with rfl | rfl | rfl | rfl | rfl | rfl | rfl | rfl | rfl | rfl | rfl | rfl | rfl | rfl | rfl | rfl | rfl | rfl | rfl | rfl | rfl | rfl | rfl | rfl <;>
   simp [G3,usesL,EW,Ins.clr,Bool.and_assoc]
 ·simp only [HV q]; simp
section
variable {h : H}
theorem OQ {p : Bool} {b off : Nat} {v : Int} (hc : h.cell b off = some (.int .i64 v)) {K : AV -> H -> Prop} :
  (AH (.bool p) true (fun K=>AA (faA off (.ptr b 0)) h K) h fun t35 h=>
   AH (.bool p) true (fun K=>AA (ldA h none t35) h K) h fun t36 h=>
   AH (.bool p) true (fun K=>AA (binOp .eql .num t36 (.int .i64 0)) h K) h fun t37 h=>
   AA (AE (.bool p) t37 (.bool false)) h fun t38 h=>K t38 h) = K (.bool (p && decide (v = 0))) h:=by
 cases p with
 | false=>simp only [go_sem,reduceIte,Int.reduceEq,Bool.false_and]
 | true=>by_cases hv : v = 0 <;> simp only [go_sem,reduceIte,Int.reduceEq,hc,hv,Bool.true_and]
theorem UC {p : Bool} {b off n : Nat} {v : AV} (hc : h.cell b off = some v) (hl : AF false v = some (.int .i64 n)) {K : AV -> H -> Prop} :
  (AH (.bool p) true (fun K=>AA (faA off (.ptr b 0)) h K) h fun t60 h=>
   AH (.bool p) true (fun K=>AA (ldA h none t60) h K) h fun t61 h=>
   AH (.bool p) true (fun K=>AA (AF false t61) h K) h fun t62 h=>
   AH (.bool p) true (fun K=>AA (binOp .eql .num t62 (.int .i64 0)) h K) h fun t63 h=>
   AA (AE (.bool p) t63 (.bool false)) h fun t64 h=>K t64 h) = K (.bool (p && decide ((n : Int) = 0))) h:=by
 cases p with
 | false=>simp only [go_sem,reduceIte,Int.reduceEq,Bool.false_and]
 | true=>by_cases hv : (n : Int) = 0 <;> simp only [go_sem,reduceIte,Int.reduceEq,hc,hl,hv,Bool.true_and]
def J0 (c : Int) : Option Nat:=if c = 68 then some 1 else if c = 65 then some 2 else if c = 66 then some 3 else if c = 67 then some 4 else none
def MA (c : Int) : Nat:=if c = 76 then 6 else if c = 77 then 7 else 8
theorem GP (b : Nat) (c : Int) (K : AV -> H -> Prop) : C 109 [.ptr b 0,.int .u8 c] h K = K (match J0 c with | some k=>.ptr b k | none=>.nilp) h:=by
 refine BR (run109 ?_) K
 unfold J0
 by_cases c1 : c = 68
 ·simp only [PE,go_sem,reduceIte,Int.reduceEq,c1]
 by_cases c2 : c = 65
 ·simp only [PE,go_sem,reduceIte,Int.reduceEq,c1,c2]
 by_cases c3 : c = 66
 ·simp only [PE,go_sem,reduceIte,Int.reduceEq,c1,c2,c3]
 by_cases c4 : c = 67
 ·simp only [PE,go_sem,reduceIte,Int.reduceEq,c1,c2,c3,c4]
 simp only [PE,go_sem,reduceIte,Int.reduceEq,c1,c2,c3,c4]
theorem TU (b : Nat) (c : Int) (K : AV -> H -> Prop) : C 110 [.ptr b 0,.int .u8 c] h K = K (.ptr b (MA c)) h:=by
 refine BR (run110 ?_) K
 unfold MA
 by_cases c1 : c = 76
 ·simp only [UT,go_sem,reduceIte,Int.reduceEq,c1]
 by_cases c2 : c = 77
 ·simp only [UT,go_sem,reduceIte,Int.reduceEq,c1,c2]
 simp only [UT,go_sem,reduceIte,Int.reduceEq,c1,c2]
theorem plain_c {x : Ins} {c : List AV} (r : insR h x c) {K : AV -> H -> Prop} (hK : ∀ h',Fr [] h h' -> K (.bool (LX x)) h') : C 60 [.agg c] h K:=by
 rw [<- V7] at hK
 refine run60 ?_
 have ec : (AV.agg c).cells = c:=rfl
 have hl:=r.leaves
 obtain ⟨vl,vm,vv,hcs,_⟩:=id r
 have hcl : c.length = 9:=by rw [hcs]; rfl
 unfold sh60 zL zT zF zG
 rw [ec]
 refine BH hl fun b hb=>?_
 have f : Fr [] h (h.set b (.live c 55 true)):=(Fr.refl _ _).set' hb
 have gb : (h.set b (.live c 55 true)).get b = some (.live c 55 true):=H.get_same ..
 have rd : (h.set b (.live c 55 true)).read b 0 9 = some c:=H.read_eq gb (by omega) (by rw [List.drop_zero,List.take_of_length_le (by omega)])
 have r1:=r.fr f
 generalize h.set b (.live c 55 true) = h1 at *
 rw [CK rd,AB]
 refine BH rfl fun y hy=>?_
 have st:=HG (h:=h1) (b:=y) (e:=55) (n:=9) (zs:=[.int .i64 0,.int .i64 0,.int .i64 0,.int .i64 0,.int .i64 0,.int .i64 0,.nilsl,.nilsl,.nilsl]) (cs:=c) hcl rfl hl
 have f2 : Fr [] h1 (h1.set y (.live c 55 true)):=(Fr.refl _ _).set' hy
 have gb2:=f2 b _ (by simp) gb
 have gy : (h1.set y (.live c 55 true)).get y = some (.live c 55 true):=H.get_same ..
 have cop : (h1.set y (.live c 55 true)).cell b 0 = some (.int .i64 x.op):=by rw [AD gb2,hcs]; rfl
 rw [st,A3]
 generalize h1.set y (.live c 55 true) = h2 at *
 rw [show faA 0 (AV.ptr b 0) = some (.ptr b 0) from rfl,AB,E3,cop,AB,uses_c]
 have hu:=PC x.op
 unfold TO at hK
 simp only at hK
 generalize G3 x.op = u at *
 refine AI (fun (J : H -> Prop)=>∀ h3 cs,h3.get y = some (.live cs 55 true) -> insR h1 (u.foldl Ins.clr x) cs -> Fr [] h1 h3 -> J h3) ?_ fun J hJ=>?_
 ·intro h3 cs gy3 r3 f3
  obtain ⟨wl,wm,wv,rfl,q1,q2,q3⟩:=r3
  have cy : ∀ off v,(IM (u.foldl Ins.clr x) wl wm wv)[off]? = some v -> h3.cell y off = some v:=fun off v hv=>by rw [AD gy3]; exact hv
  rw [b_sneq,AB]
  rw [OQ (cy 1 _ rfl),OQ (cy 2 _ rfl),OQ (cy 3 _ rfl),OQ (cy 4 _ rfl),OQ (cy 5 _ rfl),UC (cy 6 _ rfl) (q1.fr f3).len,UC (cy 7 _ rfl) (q2.fr f3).len,UC (cy 8 _ rfl) (q3.fr f3).len]
  exact hK h3 (f.trans f3)
 ·refine ⟨KL _ (fun _=>rfl) _,fun m hm=>?_⟩
  have f3 : Fr [] h2 (h2.set m (.live (u.map fun c=>AV.int .u8 c.toNat) 5 true)):=(Fr.refl _ _).set' hm
  have rm : Row (h2.set m (.live (u.map fun c=>AV.int .u8 c.toNat) 5 true)) (.sl m 0 u.length (.more 1)) u.length 1 (u.map fun c=>AV.int .u8 c.toNat):=
   ⟨by simp,.inr ⟨m,0,_,rfl,rfl,H.read_eq (H.get_same ..) (by simp) (by rw [List.drop_zero,List.take_of_length_le (by simp)])⟩⟩
  have gy3:=f3 y _ (by simp) gy
  have hmy : m ≠ y:=fun e=>by rw [e,gy] at hm; cases hm
  have fA:=f2.trans f3
  have gm : (h2.set m (.live (u.map fun c=>AV.int .u8 c.toNat) 5 true)).get m = some (.live (u.map fun c=>AV.int .u8 c.toNat) 5 true):=H.get_same ..
  generalize h2.set m (.live (u.map fun c=>AV.int .u8 c.toNat) 5 true) = h3 at *
  simp only [go_sem,reduceIte,Int.reduceEq,rm.len]
  refine AS (u.length + 1) (fun k ls h4=>∃ (i : Nat) (cs : List AV),ls = [.int .i64 i] /\ i <= u.length /\ h4.get y = some (.live cs 55 true) /\ insR h1 ((u.take i).foldl Ins.clr x) cs /\ Fr [] h1 h4 /\ h4.get m = some (.live (u.map fun c=>AV.int .u8 c.toNat) 5 true) /\ k = u.length + 1 - i)
   ⟨0,c,rfl,by omega,gy3,r1,fA,gm,rfl⟩ ?_
  rintro k ls h4 ⟨i,cs,rfl,hi,gy4,r4,f4,gm4,rfl⟩
  have hr : reachBytes <= 4611686018427387903:=by decide
  by_cases q : (i : Int) < u.length
  ·have hi' : i < u.length:=by omega
   obtain ⟨w,hw⟩ : ∃ w,u[i]? = some w:=⟨u[i],by simp [hi']⟩
   have rm4 : Row h4 (.sl m 0 u.length (.more 1)) u.length 1 (u.map fun c=>AV.int .u8 c.toNat):=
    ⟨by simp,.inr ⟨m,0,_,rfl,rfl,H.read_eq gm4 (by simp) (by rw [List.drop_zero,List.take_of_length_le (by simp)])⟩⟩
   obtain ⟨bo,oo,m1,m2⟩:=rm4.at (i:=i) (x:=.int .u8 w.toNat) (by omega) q (by rw [Int.toNat_natCast,List.getElem?_map,hw]; rfl)
   have en : IntKind.i64.wrap ((i : Int) + 1) = ((i + 1 : Nat) : Int):=by rw [A0 (by omega) (by omega)]; rfl
   have ht : (u.take (i + 1)).foldl Ins.clr x = Ins.clr ((u.take i).foldl Ins.clr x) w:=by rw [List.take_add_one,hw]; simp
   obtain ⟨wl,wm,wv,rfl,q1,q2,q3⟩:=r4
   have done : ∀ (k : Nat) (v : AV),k < 9 -> v.leaf = true -> v.cells = [v] -> insR h1 (Ins.clr ((u.take i).foldl Ins.clr x) w) ((IM ((u.take i).foldl Ins.clr x) wl wm wv).set k v) ->
     stA h4 1 (.ptr y k) v = some (h4.set y (.live ((IM ((u.take i).foldl Ins.clr x) wl wm wv).set k v) 55 true)) /\
     ∃ n',n' < u.length + 1 - i /\ ∃ (i' : Nat) (cs : List AV),[AV.int .i64 ((i + 1 : Nat) : Int)] = [.int .i64 i'] /\ i' <= u.length /\ (h4.set y (.live ((IM ((u.take i).foldl Ins.clr x) wl wm wv).set k v) 55 true)).get y = some (.live cs 55 true) /\
      insR h1 ((u.take i').foldl Ins.clr x) cs /\ Fr [] h1 (h4.set y (.live ((IM ((u.take i).foldl Ins.clr x) wl wm wv).set k v) 55 true)) /\ (h4.set y (.live ((IM ((u.take i).foldl Ins.clr x) wl wm wv).set k v) 55 true)).get m = some (.live (u.map fun c=>AV.int .u8 c.toNat) 5 true) /\ n' = u.length + 1 - i':=fun k v hk hv1 hv2 hr=>
    ⟨I1 gy4 (by exact hk) hv1 hv2,u.length + 1 - (i + 1),by omega,i + 1,_,rfl,by omega,H.get_same ..,by rw [ht]; exact hr,f4.set' hy,by rw [H.get_other _ _ hmy]; exact gm4,rfl⟩
   generalize (u.take i).foldl Ins.clr x = z at *
   have hn : Row h1 .nilsl ([] : List Int).length 1 (ic []):=Row.nil h1 1
   have tn : ∀ k : UInt8,w = k -> ((w.toNat : Nat) : Int) = (k.toNat : Nat):=fun k e=>by rw [e]
   have fn : ∀ k : UInt8,¬ w = k -> ¬ ((w.toNat : Nat) : Int) = (k.toNat : Nat):=fun k e q=>e (UInt8.toNat_inj.1 (by omega))
   by_cases c0 : w = 78
   ·subst c0
    obtain ⟨d1,d2⟩:=done 5 (.int .i64 0) (by decide) rfl rfl ⟨wl,wm,wv,rfl,q1,q2,q3⟩
    have t : ((UInt8.toNat 78 : Nat) : Int) = 78:=rfl
    simp only [AJ,go_sem,reduceIte,Int.reduceEq,q,m1,m2,t,d1,en]
    exact d2
   have n0 : ¬ ((w.toNat : Nat) : Int) = 78:=fn 78 c0
   by_cases c1 : w = 68
   ·subst c1
    obtain ⟨d1,d2⟩:=done 1 (.int .i64 0) (by decide) rfl rfl ⟨wl,wm,wv,rfl,q1,q2,q3⟩
    have t : ((UInt8.toNat 68 : Nat) : Int) = 68:=rfl
    have tn : J0 68 = some 1:=rfl
    simp only [AJ,go_sem,reduceIte,Int.reduceEq,q,m1,m2,t,GP,tn,d1,en]
    exact d2
   have n1 : ¬ ((w.toNat : Nat) : Int) = 68:=fn 68 c1
   by_cases c2 : w = 65
   ·subst c2
    obtain ⟨d1,d2⟩:=done 2 (.int .i64 0) (by decide) rfl rfl ⟨wl,wm,wv,rfl,q1,q2,q3⟩
    have t : ((UInt8.toNat 65 : Nat) : Int) = 65:=rfl
    have tn : J0 65 = some 2:=rfl
    simp only [AJ,go_sem,reduceIte,Int.reduceEq,q,m1,m2,t,GP,tn,d1,en]
    exact d2
   have n2 : ¬ ((w.toNat : Nat) : Int) = 65:=fn 65 c2
   by_cases c3 : w = 66
   ·subst c3
    obtain ⟨d1,d2⟩:=done 3 (.int .i64 0) (by decide) rfl rfl ⟨wl,wm,wv,rfl,q1,q2,q3⟩
    have t : ((UInt8.toNat 66 : Nat) : Int) = 66:=rfl
    have tn : J0 66 = some 3:=rfl
    simp only [AJ,go_sem,reduceIte,Int.reduceEq,q,m1,m2,t,GP,tn,d1,en]
    exact d2
   have n3 : ¬ ((w.toNat : Nat) : Int) = 66:=fn 66 c3
   by_cases c4 : w = 67
   ·subst c4
    obtain ⟨d1,d2⟩:=done 4 (.int .i64 0) (by decide) rfl rfl ⟨wl,wm,wv,rfl,q1,q2,q3⟩
    have t : ((UInt8.toNat 67 : Nat) : Int) = 67:=rfl
    have tn : J0 67 = some 4:=rfl
    simp only [AJ,go_sem,reduceIte,Int.reduceEq,q,m1,m2,t,GP,tn,d1,en]
    exact d2
   have n4 : ¬ ((w.toNat : Nat) : Int) = 67:=fn 67 c4
   by_cases c5 : w = 76
   ·subst c5
    obtain ⟨d1,d2⟩:=done 6 .nilsl (by decide) rfl rfl ⟨.nilsl,wm,wv,rfl,hn,q2,q3⟩
    have t : ((UInt8.toNat 76 : Nat) : Int) = 76:=rfl
    have tn : J0 76 = none:=rfl
    have tl : MA 76 = 6:=rfl
    simp only [AJ,go_sem,reduceIte,Int.reduceEq,q,m1,m2,t,GP,tn,TU,tl,d1,en]
    exact d2
   have n5 : ¬ ((w.toNat : Nat) : Int) = 76:=fn 76 c5
   by_cases c6 : w = 77
   ·subst c6
    obtain ⟨d1,d2⟩:=done 7 .nilsl (by decide) rfl rfl ⟨wl,.nilsl,wv,rfl,q1,hn,q3⟩
    have t : ((UInt8.toNat 77 : Nat) : Int) = 77:=rfl
    have tn : J0 77 = none:=rfl
    have tl : MA 77 = 7:=rfl
    simp only [AJ,go_sem,reduceIte,Int.reduceEq,q,m1,m2,t,GP,tn,TU,tl,d1,en]
    exact d2
   have n6 : ¬ ((w.toNat : Nat) : Int) = 77:=fn 77 c6
   have tn : J0 ((w.toNat : Nat) : Int) = none:=by unfold J0; rw [if_neg n1,if_neg n2,if_neg n3,if_neg n4]
   have tl : MA ((w.toNat : Nat) : Int) = 8:=by unfold MA; rw [if_neg n5,if_neg n6]
   have hc : Ins.clr z w = { z with live:=[] }:=by unfold Ins.clr; rw [if_neg c0,if_neg c1,if_neg c2,if_neg c3,if_neg c4,if_neg c5,if_neg c6]
   obtain ⟨d1,d2⟩:=done 8 .nilsl (by decide) rfl rfl (by rw [hc]; exact ⟨wl,wm,.nilsl,rfl,q1,q2,hn⟩)
   simp only [AJ,go_sem,reduceIte,Int.reduceEq,q,m1,m2,n0,GP,tn,TU,tl,d1,en]
   exact d2
  ·have : u.take i = u:=List.take_of_length_le (by omega)
   rw [this] at r4
   simp only [go_sem,reduceIte,Int.reduceEq,q]
   exact hJ h4 cs gy4 r4 f4
end
def WS (h0 h : H) (v : AV) (L : List Nat) : Prop:=Own h0 h 5 1 v L.length (bc L) \/ ∃ m,v = .sl m 0 L.length (.exact L.length) /\ h0.get m = none /\ h.get m = some (.live (bc L) 5 true)
section
variable {h0 h h' : H} {v : AV} {L : List Nat}
theorem WS.one (s : WS h0 h v L) : v.leaf = true /\ v.cells = [v]:=by
 rcases s with s | ⟨m,rfl,_,_⟩
 ·exact s.row.one
 ·exact ⟨rfl,rfl⟩
theorem WS.fr (s : WS h0 h v L) (f : Fr [] h h') : WS h0 h' v L:=by
 rcases s with s | ⟨m,q1,q2,q3⟩
 ·exact .inl (s.keep fun c n' p _ ob hg=>f c ob (by simp) hg)
 ·exact .inr ⟨m,q1,q2,f m _ (by simp) q3⟩
theorem WS.row (s : WS h0 h v L) : Row h v L.length 1 (bc L):=by
 rcases s with s | ⟨m,rfl,_,hg⟩
 ·exact s.row
 ·exact ⟨by rw [MQ,Nat.mul_one],.inr ⟨m,0,_,rfl,rfl,H.read_eq hg (by rw [MQ]; omega) (by rw [List.drop_zero,List.take_of_length_le (by rw [MQ]; omega)])⟩⟩
theorem WS.set (s : WS h0 h v L) {d e : Nat} {cs cs' : List AV} {w w' : Bool} (hd : h.get d = some (.live cs e w)) (he : e ≠ 5) : WS h0 (h.set d (.live cs' e w')) v L:=by
 rcases s with s | ⟨m,q1,q2,q3⟩
 ·refine .inl (s.keep fun c n' p q ob hg=>?_)
  rw [H.get_other _ _ (fun z=>?_)]
  ·exact hg
  ·subst z
   rcases s.2 with ⟨_,z⟩ | ⟨b,z1,_,z3⟩
   ·rw [q] at z; cases z
   ·rw [q] at z1; injection z1 with z1 _; subst z1
    rw [hd] at z3; injection z3 with z3; injection z3 with _ z3 _; exact he z3
 ·refine .inr ⟨m,q1,q2,?_⟩
  rw [H.get_other _ _ (fun z=>?_)]
  ·exact q3
  ·subst z; rw [hd] at q3; injection q3 with q3; injection q3 with _ q3 _; exact he q3
end
structure W (h0 h : H) (wb : Nat) (L : List Nat) : Prop where
 fr : Fr [] h0 h
 new : h0.get wb = none
 st : ∃ v,h.get wb = some (.live [v] 121 true) /\ WS h0 h v L
def WX (wb : Nat) (h : H) (c : Nat) : Prop:=∃ n p,h.get wb = some (.live [.sl c 0 n p] 121 true)
structure FrW (wb : Nat) (h h' : H) : Prop where
 keep : ∀ c o,h.get c = some o -> c ≠ wb -> ¬ WX wb h c -> h'.get c = some o
 fresh : ∀ c,WX wb h' c -> WX wb h c \/ h.get c = none
 st : h'.get wb ≠ none
theorem FrW.trans {wb : Nat} {a b c : H} (f : FrW wb a b) (g : FrW wb b c) : FrW wb a c:=by
 refine ⟨fun k o x y z=>g.keep k o (f.keep k o x y z) y fun q=>?_,fun k q=>?_,g.st⟩
 ·rcases f.fresh k q with q | q
  ·exact z q
  ·rw [q] at x; cases x
 ·rcases g.fresh k q with q1 | q1
  ·exact f.fresh k q1
  ·by_cases z : WX wb a k
   ·exact .inl z
   ·cases x : a.get k with
    | none=>exact .inr rfl
    | some o=>
     by_cases y : k = wb
     ·rw [y] at q1; exact absurd q1 f.st
     ·rw [f.keep k o x y z] at q1; cases q1
def Off (wb : Nat) (h : H) (d : Nat) (o : Obj) : Prop:=d ≠ wb /\ h.get d = some o /\ ¬ WX wb h d
theorem FrW.off {wb : Nat} {h h' : H} (f : FrW wb h h') {d : Nat} {o : Obj} (x : Off wb h d o) : Off wb h' d o:=by
 obtain ⟨x1,x2,x3⟩:=x
 refine ⟨x1,f.keep d o x2 x1 x3,fun q=>?_⟩
 rcases f.fresh d q with q | q
 ·exact x3 q
 ·rw [x2] at q; cases q
section
variable {h0 h h' : H} {wb : Nat} {L : List Nat}
theorem W.sl (w : W h0 h wb L) {c : Nat} (q : WX wb h c) : h.get c ≠ none:=by
 obtain ⟨v,q1,q2⟩:=w.st
 obtain ⟨n,p,q⟩:=q
 rw [q1] at q; injection q with q; injection q with q; injection q with q; subst q
 rcases q2 with s | ⟨m,e,_,g⟩
 ·rcases s.2 with ⟨_,z⟩ | ⟨b,z1,_,z3⟩
  ·cases z
  ·injection z1 with z1 _; rw [z1,z3]; simp
 ·injection e with e _; rw [e,g]; simp
theorem W.off (w : W h0 h wb L) {d : Nat} (hd : h.get d = none) (o : Obj) : Off wb (h.set d o) d o:=by
 obtain ⟨v,q1,_⟩:=w.st
 have hne : d ≠ wb:=fun e=>by rw [e,q1] at hd; cases hd
 refine ⟨hne,H.get_same ..,fun ⟨n,p,q⟩=>?_⟩
 rw [H.get_other _ _ hne.symm] at q
 exact w.sl ⟨n,p,q⟩ hd
theorem W.keep (w : W h0 h wb L) (f : Fr [] h h') : W h0 h' wb L:=by
 obtain ⟨v,q1,q2⟩:=w.st
 exact ⟨w.fr.trans f,w.new,v,f wb _ (by simp) q1,q2.fr f⟩
end
def KK (vks : List (AV × Nat)) : Prop:=∀ q ∈ vks,q.1.leaf = true /\ AF false q.1 = some (.int .i64 q.2)
def K4 (AQ : Int) (vks : List (AV × Nat)) : Bool:=vks.any fun q=>decide (AQ < (q.2 : Int))
section
variable {h : H}
theorem YO {lv : AV} {α : Type} {l : List α} {val : α -> AV} (r : Row h lv l.length 1 (l.map val)) (hl : l.length <= reachBytes) {E : Nat} {caps : List AV} {P : α -> Bool} (hE : ∀ x ∈ l,∀ K : AV -> H -> Prop,C E ([val x] ++ caps) h K = K (.bool (P x)) h) {K : AV -> H -> Prop}
  (hK : ∀ n : Int,(0 <= n ↔ l.any P = true) -> K (.int .i64 n) h) : C 213 [lv,.fn E [] caps] h K:=by
 refine run213 ?_
 have hr : reachBytes <= 4611686018427387903:=by decide
 simp only [sh213,zL,go_sem,reduceIte,r.len]
 refine AI (fun (J : H -> Prop)=>l.any P = false -> J h) (fun e=>hK _ (by rw [e]; simp)) fun J hJ=>?_
 refine AS (l.length + 1) (fun k ls h2=>∃ i : Nat,ls = [.int .i64 i] /\ i <= l.length /\ l.any P = (l.drop i).any P /\ h2 = h /\ k = l.length + 1 - i) ⟨0,rfl,by omega,rfl,rfl,rfl⟩ ?_
 rintro k ls h2 ⟨i,rfl,hi,ha,he,rfl⟩
 rw [he]
 by_cases q : (i : Int) < l.length
 ·have hi' : i < l.length:=by omega
  obtain ⟨x,hx⟩ : ∃ x,l[i]? = some x:=⟨l[i],by simp [hi']⟩
  have hd : l.drop i = x :: l.drop (i + 1):=by
   rw [List.drop_eq_getElem_cons hi']; congr 1
   rw [List.getElem?_eq_getElem hi'] at hx; injection hx
  rw [hd,List.any_cons] at ha
  obtain ⟨b,o,m1,m2⟩:=r.at (i:=i) (x:=val x) (by omega) q (by rw [Int.toNat_natCast,List.getElem?_map,hx]; rfl)
  have en : IntKind.i64.wrap ((i : Int) + 1) = ((i + 1 : Nat) : Int):=by rw [A0 (by omega) (by omega)]; rfl
  have hc:=hE x (List.mem_of_getElem? hx)
  simp only [List.cons_append,List.nil_append] at hc
  cases hp : P x with
  | true=>
   rw [hp,Bool.true_or] at ha
   simp only [go_sem,reduceIte,q,m1,m2,List.cons_append,List.nil_append,hc,hp]
   exact hK i (by rw [ha]; simp)
  | false=>
   rw [hp,Bool.false_or] at ha
   simp only [go_sem,reduceIte,q,m1,m2,List.cons_append,List.nil_append,hc,hp,en]
   exact ⟨l.length + 1 - (i + 1),by omega,i + 1,rfl,by omega,ha,rfl⟩
 ·have : l.drop i = []:=List.drop_eq_nil_of_le (by omega)
  rw [this] at ha
  simp only [go_sem,reduceIte,q]
  exact hJ ha
theorem Q6 {lv : AV} {α : Type} {l : List α} {val : α -> AV} (r : Row h lv l.length 1 (l.map val)) (hl : l.length <= reachBytes) {E : Nat} {caps : List AV} {P : α -> Bool} (hE : ∀ x ∈ l,∀ K : AV -> H -> Prop,C E ([val x] ++ caps) h K = K (.bool (P x)) h) {K : AV -> H -> Prop}
  (hK : K (.bool (l.any P)) h) : C 184 [lv,.fn E [] caps] h K:=by
 refine run184 ?_
 unfold sh184
 refine YO r hl hE fun n hn=>?_
 cases ha : l.any P with
 | true=>
  rw [ha] at hK
  have : 0 <= n:=hn.2 ha
  simp only [go_sem,reduceIte,this]; exact hK
 | false=>
  rw [ha] at hK
  have : ¬ 0 <= n:=fun q=>by rw [hn.1 q] at ha; cases ha
  simp only [go_sem,reduceIte,this]; exact hK
theorem X3 {lv : AV} {vks : List (AV × Nat)} (r : Row h lv vks.length 1 (vks.map Prod.fst)) (ok : KK vks) (hl : vks.length <= reachBytes) (AQ : Int) {K : AV -> H -> Prop} (hK : ∀ h',Fr [] h h' -> K (.bool (K4 AQ vks)) h') : C 132 [.int .i64 AQ,lv] h K:=by
 refine run132 ?_
 unfold sh132
 refine BH rfl fun b hb=>?_
 have f : Fr [] h (h.set b (.live (AV.int .i64 AQ).cells 3 true)):=(Fr.refl _ _).set' hb
 have cb : (h.set b (.live (AV.int .i64 AQ).cells 3 true)).cell b 0 = some (.int .i64 AQ):=EZ
 generalize h.set b (.live (AV.int .i64 AQ).cells 3 true) = h1 at *
 refine Q6 (r.fr f) hl (P:=fun q=>decide (AQ < (q.2 : Int))) (fun q hq K=>?_) (hK h1 f)
 refine BR (run185 ?_) K
 simp only [sh185,zL,go_sem,reduceIte,(ok q hq).2,cb]
theorem YN {lv : AV} {α : Type} {l : List α} {val : α -> AV} (r : Row h lv l.length 1 (l.map val)) (hl : l.length <= reachBytes) {E : Nat} {caps : List AV} {P : α -> Bool} (hE : ∀ x ∈ l,∀ K : AV -> H -> Prop,C E ([val x] ++ caps) h K = K (.bool (P x)) h) {K : AV -> H -> Prop}
  (hK : ∀ n : Int,(0 <= n ↔ l.any P = true) -> K (.int .i64 n) h) : C 214 [lv,.fn E [] caps] h K:=by
 refine run214 ?_
 have hr : reachBytes <= 4611686018427387903:=by decide
 simp only [sh214,zL,go_sem,reduceIte,r.len]
 refine AI (fun (J : H -> Prop)=>l.any P = false -> J h) (fun e=>hK _ (by rw [e]; simp)) fun J hJ=>?_
 refine AS (l.length + 1) (fun k ls h2=>∃ i : Nat,ls = [.int .i64 i] /\ i <= l.length /\ l.any P = (l.drop i).any P /\ h2 = h /\ k = l.length + 1 - i) ⟨0,rfl,by omega,rfl,rfl,rfl⟩ ?_
 rintro k ls h2 ⟨i,rfl,hi,ha,he,rfl⟩
 rw [he]
 by_cases q : (i : Int) < l.length
 ·have hi' : i < l.length:=by omega
  obtain ⟨x,hx⟩ : ∃ x,l[i]? = some x:=⟨l[i],by simp [hi']⟩
  have hd : l.drop i = x :: l.drop (i + 1):=by
   rw [List.drop_eq_getElem_cons hi']; congr 1
   rw [List.getElem?_eq_getElem hi'] at hx; injection hx
  rw [hd,List.any_cons] at ha
  obtain ⟨b,o,m1,m2⟩:=r.at (i:=i) (x:=val x) (by omega) q (by rw [Int.toNat_natCast,List.getElem?_map,hx]; rfl)
  have en : IntKind.i64.wrap ((i : Int) + 1) = ((i + 1 : Nat) : Int):=by rw [A0 (by omega) (by omega)]; rfl
  have hc:=hE x (List.mem_of_getElem? hx)
  simp only [List.cons_append,List.nil_append] at hc
  cases hp : P x with
  | true=>
   rw [hp,Bool.true_or] at ha
   simp only [go_sem,reduceIte,q,m1,m2,List.cons_append,List.nil_append,hc,hp]
   exact hK i (by rw [ha]; simp)
  | false=>
   rw [hp,Bool.false_or] at ha
   simp only [go_sem,reduceIte,q,m1,m2,List.cons_append,List.nil_append,hc,hp,en]
   exact ⟨l.length + 1 - (i + 1),by omega,i + 1,rfl,by omega,ha,rfl⟩
 ·have : l.drop i = []:=List.drop_eq_nil_of_le (by omega)
  rw [this] at ha
  simp only [go_sem,reduceIte,q]
  exact hJ ha
theorem Q5 {lv : AV} {α : Type} {l : List α} {val : α -> AV} (r : Row h lv l.length 1 (l.map val)) (hl : l.length <= reachBytes) {E : Nat} {caps : List AV} {P : α -> Bool} (hE : ∀ x ∈ l,∀ K : AV -> H -> Prop,C E ([val x] ++ caps) h K = K (.bool (P x)) h) {K : AV -> H -> Prop}
  (hK : K (.bool (l.any P)) h) : C 186 [lv,.fn E [] caps] h K:=by
 refine run186 ?_
 unfold sh186
 refine YN r hl hE fun n hn=>?_
 cases ha : l.any P with
 | true=>
  rw [ha] at hK
  have : 0 <= n:=hn.2 ha
  simp only [go_sem,reduceIte,this]; exact hK
 | false=>
  rw [ha] at hK
  have : ¬ 0 <= n:=fun q=>by rw [hn.1 q] at ha; cases ha
  simp only [go_sem,reduceIte,this]; exact hK
theorem X2 {lv : AV} {vks : List (AV × Nat)} (r : Row h lv vks.length 1 (vks.map Prod.fst)) (ok : KK vks) (hl : vks.length <= reachBytes) (AQ : Int) {K : AV -> H -> Prop} (hK : ∀ h',Fr [] h h' -> K (.bool (K4 AQ vks)) h') : C 133 [.int .i64 AQ,lv] h K:=by
 refine run133 ?_
 unfold sh133
 refine BH rfl fun b hb=>?_
 have f : Fr [] h (h.set b (.live (AV.int .i64 AQ).cells 3 true)):=(Fr.refl _ _).set' hb
 have cb : (h.set b (.live (AV.int .i64 AQ).cells 3 true)).cell b 0 = some (.int .i64 AQ):=EZ
 generalize h.set b (.live (AV.int .i64 AQ).cells 3 true) = h1 at *
 refine Q5 (r.fr f) hl (P:=fun q=>decide (AQ < (q.2 : Int))) (fun q hq K=>?_) (hK h1 f)
 refine BR (run187 ?_) K
 simp only [sh187,zL,go_sem,reduceIte,(ok q hq).2,cb]
theorem YM {lv : AV} {α : Type} {l : List α} {val : α -> AV} (r : Row h lv l.length 1 (l.map val)) (hl : l.length <= reachBytes) {E : Nat} {caps : List AV} {P : α -> Bool} (hE : ∀ x ∈ l,∀ K : AV -> H -> Prop,C E ([val x] ++ caps) h K = K (.bool (P x)) h) {K : AV -> H -> Prop}
  (hK : ∀ n : Int,(0 <= n ↔ l.any P = true) -> K (.int .i64 n) h) : C 215 [lv,.fn E [] caps] h K:=by
 refine run215 ?_
 have hr : reachBytes <= 4611686018427387903:=by decide
 simp only [sh215,zL,go_sem,reduceIte,r.len]
 refine AI (fun (J : H -> Prop)=>l.any P = false -> J h) (fun e=>hK _ (by rw [e]; simp)) fun J hJ=>?_
 refine AS (l.length + 1) (fun k ls h2=>∃ i : Nat,ls = [.int .i64 i] /\ i <= l.length /\ l.any P = (l.drop i).any P /\ h2 = h /\ k = l.length + 1 - i) ⟨0,rfl,by omega,rfl,rfl,rfl⟩ ?_
 rintro k ls h2 ⟨i,rfl,hi,ha,he,rfl⟩
 rw [he]
 by_cases q : (i : Int) < l.length
 ·have hi' : i < l.length:=by omega
  obtain ⟨x,hx⟩ : ∃ x,l[i]? = some x:=⟨l[i],by simp [hi']⟩
  have hd : l.drop i = x :: l.drop (i + 1):=by
   rw [List.drop_eq_getElem_cons hi']; congr 1
   rw [List.getElem?_eq_getElem hi'] at hx; injection hx
  rw [hd,List.any_cons] at ha
  obtain ⟨b,o,m1,m2⟩:=r.at (i:=i) (x:=val x) (by omega) q (by rw [Int.toNat_natCast,List.getElem?_map,hx]; rfl)
  have en : IntKind.i64.wrap ((i : Int) + 1) = ((i + 1 : Nat) : Int):=by rw [A0 (by omega) (by omega)]; rfl
  have hc:=hE x (List.mem_of_getElem? hx)
  simp only [List.cons_append,List.nil_append] at hc
  cases hp : P x with
  | true=>
   rw [hp,Bool.true_or] at ha
   simp only [go_sem,reduceIte,q,m1,m2,List.cons_append,List.nil_append,hc,hp]
   exact hK i (by rw [ha]; simp)
  | false=>
   rw [hp,Bool.false_or] at ha
   simp only [go_sem,reduceIte,q,m1,m2,List.cons_append,List.nil_append,hc,hp,en]
   exact ⟨l.length + 1 - (i + 1),by omega,i + 1,rfl,by omega,ha,rfl⟩
 ·have : l.drop i = []:=List.drop_eq_nil_of_le (by omega)
  rw [this] at ha
  simp only [go_sem,reduceIte,q]
  exact hJ ha
theorem Q4 {lv : AV} {α : Type} {l : List α} {val : α -> AV} (r : Row h lv l.length 1 (l.map val)) (hl : l.length <= reachBytes) {E : Nat} {caps : List AV} {P : α -> Bool} (hE : ∀ x ∈ l,∀ K : AV -> H -> Prop,C E ([val x] ++ caps) h K = K (.bool (P x)) h) {K : AV -> H -> Prop}
  (hK : K (.bool (l.any P)) h) : C 188 [lv,.fn E [] caps] h K:=by
 refine run188 ?_
 unfold sh188
 refine YM r hl hE fun n hn=>?_
 cases ha : l.any P with
 | true=>
  rw [ha] at hK
  have : 0 <= n:=hn.2 ha
  simp only [go_sem,reduceIte,this]; exact hK
 | false=>
  rw [ha] at hK
  have : ¬ 0 <= n:=fun q=>by rw [hn.1 q] at ha; cases ha
  simp only [go_sem,reduceIte,this]; exact hK
theorem X1 {lv : AV} {vks : List (AV × Nat)} (r : Row h lv vks.length 1 (vks.map Prod.fst)) (ok : KK vks) (hl : vks.length <= reachBytes) (AQ : Int) {K : AV -> H -> Prop} (hK : ∀ h',Fr [] h h' -> K (.bool (K4 AQ vks)) h') : C 134 [.int .i64 AQ,lv] h K:=by
 refine run134 ?_
 unfold sh134
 refine BH rfl fun b hb=>?_
 have f : Fr [] h (h.set b (.live (AV.int .i64 AQ).cells 3 true)):=(Fr.refl _ _).set' hb
 have cb : (h.set b (.live (AV.int .i64 AQ).cells 3 true)).cell b 0 = some (.int .i64 AQ):=EZ
 generalize h.set b (.live (AV.int .i64 AQ).cells 3 true) = h1 at *
 refine Q4 (r.fr f) hl (P:=fun q=>decide (AQ < (q.2 : Int))) (fun q hq K=>?_) (hK h1 f)
 refine BR (run189 ?_) K
 simp only [sh189,zL,go_sem,reduceIte,(ok q hq).2,cb]
theorem YL {lv : AV} {α : Type} {l : List α} {val : α -> AV} (r : Row h lv l.length 1 (l.map val)) (hl : l.length <= reachBytes) {E : Nat} {caps : List AV} {P : α -> Bool} (hE : ∀ x ∈ l,∀ K : AV -> H -> Prop,C E ([val x] ++ caps) h K = K (.bool (P x)) h) {K : AV -> H -> Prop}
  (hK : ∀ n : Int,(0 <= n ↔ l.any P = true) -> K (.int .i64 n) h) : C 216 [lv,.fn E [] caps] h K:=by
 refine run216 ?_
 have hr : reachBytes <= 4611686018427387903:=by decide
 simp only [sh216,zL,go_sem,reduceIte,r.len]
 refine AI (fun (J : H -> Prop)=>l.any P = false -> J h) (fun e=>hK _ (by rw [e]; simp)) fun J hJ=>?_
 refine AS (l.length + 1) (fun k ls h2=>∃ i : Nat,ls = [.int .i64 i] /\ i <= l.length /\ l.any P = (l.drop i).any P /\ h2 = h /\ k = l.length + 1 - i) ⟨0,rfl,by omega,rfl,rfl,rfl⟩ ?_
 rintro k ls h2 ⟨i,rfl,hi,ha,he,rfl⟩
 rw [he]
 by_cases q : (i : Int) < l.length
 ·have hi' : i < l.length:=by omega
  obtain ⟨x,hx⟩ : ∃ x,l[i]? = some x:=⟨l[i],by simp [hi']⟩
  have hd : l.drop i = x :: l.drop (i + 1):=by
   rw [List.drop_eq_getElem_cons hi']; congr 1
   rw [List.getElem?_eq_getElem hi'] at hx; injection hx
  rw [hd,List.any_cons] at ha
  obtain ⟨b,o,m1,m2⟩:=r.at (i:=i) (x:=val x) (by omega) q (by rw [Int.toNat_natCast,List.getElem?_map,hx]; rfl)
  have en : IntKind.i64.wrap ((i : Int) + 1) = ((i + 1 : Nat) : Int):=by rw [A0 (by omega) (by omega)]; rfl
  have hc:=hE x (List.mem_of_getElem? hx)
  simp only [List.cons_append,List.nil_append] at hc
  cases hp : P x with
  | true=>
   rw [hp,Bool.true_or] at ha
   simp only [go_sem,reduceIte,q,m1,m2,List.cons_append,List.nil_append,hc,hp]
   exact hK i (by rw [ha]; simp)
  | false=>
   rw [hp,Bool.false_or] at ha
   simp only [go_sem,reduceIte,q,m1,m2,List.cons_append,List.nil_append,hc,hp,en]
   exact ⟨l.length + 1 - (i + 1),by omega,i + 1,rfl,by omega,ha,rfl⟩
 ·have : l.drop i = []:=List.drop_eq_nil_of_le (by omega)
  rw [this] at ha
  simp only [go_sem,reduceIte,q]
  exact hJ ha
theorem Q3 {lv : AV} {α : Type} {l : List α} {val : α -> AV} (r : Row h lv l.length 1 (l.map val)) (hl : l.length <= reachBytes) {E : Nat} {caps : List AV} {P : α -> Bool} (hE : ∀ x ∈ l,∀ K : AV -> H -> Prop,C E ([val x] ++ caps) h K = K (.bool (P x)) h) {K : AV -> H -> Prop}
  (hK : K (.bool (l.any P)) h) : C 190 [lv,.fn E [] caps] h K:=by
 refine run190 ?_
 unfold sh190
 refine YL r hl hE fun n hn=>?_
 cases ha : l.any P with
 | true=>
  rw [ha] at hK
  have : 0 <= n:=hn.2 ha
  simp only [go_sem,reduceIte,this]; exact hK
 | false=>
  rw [ha] at hK
  have : ¬ 0 <= n:=fun q=>by rw [hn.1 q] at ha; cases ha
  simp only [go_sem,reduceIte,this]; exact hK
theorem X0 {lv : AV} {vks : List (AV × Nat)} (r : Row h lv vks.length 1 (vks.map Prod.fst)) (ok : KK vks) (hl : vks.length <= reachBytes) (AQ : Int) {K : AV -> H -> Prop} (hK : ∀ h',Fr [] h h' -> K (.bool (K4 AQ vks)) h') : C 135 [.int .i64 AQ,lv] h K:=by
 refine run135 ?_
 unfold sh135
 refine BH rfl fun b hb=>?_
 have f : Fr [] h (h.set b (.live (AV.int .i64 AQ).cells 3 true)):=(Fr.refl _ _).set' hb
 have cb : (h.set b (.live (AV.int .i64 AQ).cells 3 true)).cell b 0 = some (.int .i64 AQ):=EZ
 generalize h.set b (.live (AV.int .i64 AQ).cells 3 true) = h1 at *
 refine Q3 (r.fr f) hl (P:=fun q=>decide (AQ < (q.2 : Int))) (fun q hq K=>?_) (hK h1 f)
 refine BR (run191 ?_) K
 simp only [sh191,zL,go_sem,reduceIte,(ok q hq).2,cb]
theorem YJ {lv : AV} {α : Type} {l : List α} {val : α -> AV} (r : Row h lv l.length 1 (l.map val)) (hl : l.length <= reachBytes) {E : Nat} {caps : List AV} {P : α -> Bool} (hE : ∀ x ∈ l,∀ K : AV -> H -> Prop,C E ([val x] ++ caps) h K = K (.bool (P x)) h) {K : AV -> H -> Prop}
  (hK : ∀ n : Int,(0 <= n ↔ l.any P = true) -> K (.int .i64 n) h) : C 218 [lv,.fn E [] caps] h K:=by
 refine run218 ?_
 have hr : reachBytes <= 4611686018427387903:=by decide
 simp only [sh218,zL,go_sem,reduceIte,r.len]
 refine AI (fun (J : H -> Prop)=>l.any P = false -> J h) (fun e=>hK _ (by rw [e]; simp)) fun J hJ=>?_
 refine AS (l.length + 1) (fun k ls h2=>∃ i : Nat,ls = [.int .i64 i] /\ i <= l.length /\ l.any P = (l.drop i).any P /\ h2 = h /\ k = l.length + 1 - i) ⟨0,rfl,by omega,rfl,rfl,rfl⟩ ?_
 rintro k ls h2 ⟨i,rfl,hi,ha,he,rfl⟩
 rw [he]
 by_cases q : (i : Int) < l.length
 ·have hi' : i < l.length:=by omega
  obtain ⟨x,hx⟩ : ∃ x,l[i]? = some x:=⟨l[i],by simp [hi']⟩
  have hd : l.drop i = x :: l.drop (i + 1):=by
   rw [List.drop_eq_getElem_cons hi']; congr 1
   rw [List.getElem?_eq_getElem hi'] at hx; injection hx
  rw [hd,List.any_cons] at ha
  obtain ⟨b,o,m1,m2⟩:=r.at (i:=i) (x:=val x) (by omega) q (by rw [Int.toNat_natCast,List.getElem?_map,hx]; rfl)
  have en : IntKind.i64.wrap ((i : Int) + 1) = ((i + 1 : Nat) : Int):=by rw [A0 (by omega) (by omega)]; rfl
  have hc:=hE x (List.mem_of_getElem? hx)
  simp only [List.cons_append,List.nil_append] at hc
  cases hp : P x with
  | true=>
   rw [hp,Bool.true_or] at ha
   simp only [go_sem,reduceIte,q,m1,m2,List.cons_append,List.nil_append,hc,hp]
   exact hK i (by rw [ha]; simp)
  | false=>
   rw [hp,Bool.false_or] at ha
   simp only [go_sem,reduceIte,q,m1,m2,List.cons_append,List.nil_append,hc,hp,en]
   exact ⟨l.length + 1 - (i + 1),by omega,i + 1,rfl,by omega,ha,rfl⟩
 ·have : l.drop i = []:=List.drop_eq_nil_of_le (by omega)
  rw [this] at ha
  simp only [go_sem,reduceIte,q]
  exact hJ ha
theorem Q1 {lv : AV} {α : Type} {l : List α} {val : α -> AV} (r : Row h lv l.length 1 (l.map val)) (hl : l.length <= reachBytes) {E : Nat} {caps : List AV} {P : α -> Bool} (hE : ∀ x ∈ l,∀ K : AV -> H -> Prop,C E ([val x] ++ caps) h K = K (.bool (P x)) h) {K : AV -> H -> Prop}
  (hK : K (.bool (l.any P)) h) : C 194 [lv,.fn E [] caps] h K:=by
 refine run194 ?_
 unfold sh194
 refine YJ r hl hE fun n hn=>?_
 cases ha : l.any P with
 | true=>
  rw [ha] at hK
  have : 0 <= n:=hn.2 ha
  simp only [go_sem,reduceIte,this]; exact hK
 | false=>
  rw [ha] at hK
  have : ¬ 0 <= n:=fun q=>by rw [hn.1 q] at ha; cases ha
  simp only [go_sem,reduceIte,this]; exact hK
theorem H2 {lv : AV} {vks : List (AV × Nat)} (r : Row h lv vks.length 1 (vks.map Prod.fst)) (ok : KK vks) (hl : vks.length <= reachBytes) (AQ : Int) {K : AV -> H -> Prop} (hK : ∀ h',Fr [] h h' -> K (.bool (K4 AQ vks)) h') : C 137 [.int .i64 AQ,lv] h K:=by
 refine run137 ?_
 unfold sh137
 refine BH rfl fun b hb=>?_
 have f : Fr [] h (h.set b (.live (AV.int .i64 AQ).cells 3 true)):=(Fr.refl _ _).set' hb
 have cb : (h.set b (.live (AV.int .i64 AQ).cells 3 true)).cell b 0 = some (.int .i64 AQ):=EZ
 generalize h.set b (.live (AV.int .i64 AQ).cells 3 true) = h1 at *
 refine Q1 (r.fr f) hl (P:=fun q=>decide (AQ < (q.2 : Int))) (fun q hq K=>?_) (hK h1 f)
 refine BR (run195 ?_) K
 simp only [sh195,zL,go_sem,reduceIte,(ok q hq).2,cb]
theorem YI {lv : AV} {α : Type} {l : List α} {val : α -> AV} (r : Row h lv l.length 1 (l.map val)) (hl : l.length <= reachBytes) {E : Nat} {caps : List AV} {P : α -> Bool} (hE : ∀ x ∈ l,∀ K : AV -> H -> Prop,C E ([val x] ++ caps) h K = K (.bool (P x)) h) {K : AV -> H -> Prop}
  (hK : ∀ n : Int,(0 <= n ↔ l.any P = true) -> K (.int .i64 n) h) : C 219 [lv,.fn E [] caps] h K:=by
 refine run219 ?_
 have hr : reachBytes <= 4611686018427387903:=by decide
 simp only [sh219,zL,go_sem,reduceIte,r.len]
 refine AI (fun (J : H -> Prop)=>l.any P = false -> J h) (fun e=>hK _ (by rw [e]; simp)) fun J hJ=>?_
 refine AS (l.length + 1) (fun k ls h2=>∃ i : Nat,ls = [.int .i64 i] /\ i <= l.length /\ l.any P = (l.drop i).any P /\ h2 = h /\ k = l.length + 1 - i) ⟨0,rfl,by omega,rfl,rfl,rfl⟩ ?_
 rintro k ls h2 ⟨i,rfl,hi,ha,he,rfl⟩
 rw [he]
 by_cases q : (i : Int) < l.length
 ·have hi' : i < l.length:=by omega
  obtain ⟨x,hx⟩ : ∃ x,l[i]? = some x:=⟨l[i],by simp [hi']⟩
  have hd : l.drop i = x :: l.drop (i + 1):=by
   rw [List.drop_eq_getElem_cons hi']; congr 1
   rw [List.getElem?_eq_getElem hi'] at hx; injection hx
  rw [hd,List.any_cons] at ha
  obtain ⟨b,o,m1,m2⟩:=r.at (i:=i) (x:=val x) (by omega) q (by rw [Int.toNat_natCast,List.getElem?_map,hx]; rfl)
  have en : IntKind.i64.wrap ((i : Int) + 1) = ((i + 1 : Nat) : Int):=by rw [A0 (by omega) (by omega)]; rfl
  have hc:=hE x (List.mem_of_getElem? hx)
  simp only [List.cons_append,List.nil_append] at hc
  cases hp : P x with
  | true=>
   rw [hp,Bool.true_or] at ha
   simp only [go_sem,reduceIte,q,m1,m2,List.cons_append,List.nil_append,hc,hp]
   exact hK i (by rw [ha]; simp)
  | false=>
   rw [hp,Bool.false_or] at ha
   simp only [go_sem,reduceIte,q,m1,m2,List.cons_append,List.nil_append,hc,hp,en]
   exact ⟨l.length + 1 - (i + 1),by omega,i + 1,rfl,by omega,ha,rfl⟩
 ·have : l.drop i = []:=List.drop_eq_nil_of_le (by omega)
  rw [this] at ha
  simp only [go_sem,reduceIte,q]
  exact hJ ha
theorem Q0 {lv : AV} {α : Type} {l : List α} {val : α -> AV} (r : Row h lv l.length 1 (l.map val)) (hl : l.length <= reachBytes) {E : Nat} {caps : List AV} {P : α -> Bool} (hE : ∀ x ∈ l,∀ K : AV -> H -> Prop,C E ([val x] ++ caps) h K = K (.bool (P x)) h) {K : AV -> H -> Prop}
  (hK : K (.bool (l.any P)) h) : C 196 [lv,.fn E [] caps] h K:=by
 refine run196 ?_
 unfold sh196
 refine YI r hl hE fun n hn=>?_
 cases ha : l.any P with
 | true=>
  rw [ha] at hK
  have : 0 <= n:=hn.2 ha
  simp only [go_sem,reduceIte,this]; exact hK
 | false=>
  rw [ha] at hK
  have : ¬ 0 <= n:=fun q=>by rw [hn.1 q] at ha; cases ha
  simp only [go_sem,reduceIte,this]; exact hK
theorem XZ {lv : AV} {vks : List (AV × Nat)} (r : Row h lv vks.length 1 (vks.map Prod.fst)) (ok : KK vks) (hl : vks.length <= reachBytes) (AQ : Int) {K : AV -> H -> Prop} (hK : ∀ h',Fr [] h h' -> K (.bool (K4 AQ vks)) h') : C 138 [.int .i64 AQ,lv] h K:=by
 refine run138 ?_
 unfold sh138
 refine BH rfl fun b hb=>?_
 have f : Fr [] h (h.set b (.live (AV.int .i64 AQ).cells 3 true)):=(Fr.refl _ _).set' hb
 have cb : (h.set b (.live (AV.int .i64 AQ).cells 3 true)).cell b 0 = some (.int .i64 AQ):=EZ
 generalize h.set b (.live (AV.int .i64 AQ).cells 3 true) = h1 at *
 refine Q0 (r.fr f) hl (P:=fun q=>decide (AQ < (q.2 : Int))) (fun q hq K=>?_) (hK h1 f)
 refine BR (run197 ?_) K
 simp only [sh197,zL,go_sem,reduceIte,(ok q hq).2,cb]
theorem YK {lv : AV} {α : Type} {l : List α} {val : α -> AV} (r : Row h lv l.length 1 (l.map val)) (hl : l.length <= reachBytes) {E : Nat} {caps : List AV} {P : α -> Bool} (hE : ∀ x ∈ l,∀ K : AV -> H -> Prop,C E ([val x] ++ caps) h K = K (.bool (P x)) h) {K : AV -> H -> Prop}
  (hK : ∀ n : Int,(0 <= n ↔ l.any P = true) -> K (.int .i64 n) h) : C 217 [lv,.fn E [] caps] h K:=by
 refine run217 ?_
 have hr : reachBytes <= 4611686018427387903:=by decide
 simp only [sh217,zL,go_sem,reduceIte,r.len]
 refine AI (fun (J : H -> Prop)=>l.any P = false -> J h) (fun e=>hK _ (by rw [e]; simp)) fun J hJ=>?_
 refine AS (l.length + 1) (fun k ls h2=>∃ i : Nat,ls = [.int .i64 i] /\ i <= l.length /\ l.any P = (l.drop i).any P /\ h2 = h /\ k = l.length + 1 - i) ⟨0,rfl,by omega,rfl,rfl,rfl⟩ ?_
 rintro k ls h2 ⟨i,rfl,hi,ha,he,rfl⟩
 rw [he]
 by_cases q : (i : Int) < l.length
 ·have hi' : i < l.length:=by omega
  obtain ⟨x,hx⟩ : ∃ x,l[i]? = some x:=⟨l[i],by simp [hi']⟩
  have hd : l.drop i = x :: l.drop (i + 1):=by
   rw [List.drop_eq_getElem_cons hi']; congr 1
   rw [List.getElem?_eq_getElem hi'] at hx; injection hx
  rw [hd,List.any_cons] at ha
  obtain ⟨b,o,m1,m2⟩:=r.at (i:=i) (x:=val x) (by omega) q (by rw [Int.toNat_natCast,List.getElem?_map,hx]; rfl)
  have en : IntKind.i64.wrap ((i : Int) + 1) = ((i + 1 : Nat) : Int):=by rw [A0 (by omega) (by omega)]; rfl
  have hc:=hE x (List.mem_of_getElem? hx)
  simp only [List.cons_append,List.nil_append] at hc
  cases hp : P x with
  | true=>
   rw [hp,Bool.true_or] at ha
   simp only [go_sem,reduceIte,q,m1,m2,List.cons_append,List.nil_append,hc,hp]
   exact hK i (by rw [ha]; simp)
  | false=>
   rw [hp,Bool.false_or] at ha
   simp only [go_sem,reduceIte,q,m1,m2,List.cons_append,List.nil_append,hc,hp,en]
   exact ⟨l.length + 1 - (i + 1),by omega,i + 1,rfl,by omega,ha,rfl⟩
 ·have : l.drop i = []:=List.drop_eq_nil_of_le (by omega)
  rw [this] at ha
  simp only [go_sem,reduceIte,q]
  exact hJ ha
theorem Q2 {lv : AV} {α : Type} {l : List α} {val : α -> AV} (r : Row h lv l.length 1 (l.map val)) (hl : l.length <= reachBytes) {E : Nat} {caps : List AV} {P : α -> Bool} (hE : ∀ x ∈ l,∀ K : AV -> H -> Prop,C E ([val x] ++ caps) h K = K (.bool (P x)) h) {K : AV -> H -> Prop}
  (hK : K (.bool (l.any P)) h) : C 192 [lv,.fn E [] caps] h K:=by
 refine run192 ?_
 unfold sh192
 refine YK r hl hE fun n hn=>?_
 cases ha : l.any P with
 | true=>
  rw [ha] at hK
  have : 0 <= n:=hn.2 ha
  simp only [go_sem,reduceIte,this]; exact hK
 | false=>
  rw [ha] at hK
  have : ¬ 0 <= n:=fun q=>by rw [hn.1 q] at ha; cases ha
  simp only [go_sem,reduceIte,this]; exact hK
theorem W0 {lv : AV} {l : List (List UInt8)} (r : Row h lv l.length 1 (l.map AV.str)) (hl : l.length <= reachBytes) {K : AV -> H -> Prop} (hK : K (.bool (l.any fun s=>decide (16384 < (s.length : Int)))) h) : C 136 [lv] h K:=by
 refine run136 ?_
 unfold sh136
 refine Q2 r hl (P:=fun s=>decide (16384 < (s.length : Int))) (fun s hs K=>?_) hK
 refine BR (run193 ?_) K
 simp only [sh193,go_sem,reduceIte]
end
section
variable {h : H} {K : AV -> H -> Prop}
theorem BC {b off : Nat} {v : AV} (hc : h.cell b off = some v) (hK : K v h) : AA (faA off (.ptr b 0)) h fun t h=>AA (ldA h none t) h K:=by
 rw [H8,AB,E3,Nat.zero_add,hc]; exact hK
theorem fill1 {z v : AV} (h1 : v.leaf = true) (h2 : v.cells = [v]) : AG [z] [(0,1,v)] = some [v]:=by
 simp [AG,h2,leaves,h1,overlay]
theorem VO {z z' v w : AV} (h1 : v.leaf = true) (h2 : v.cells = [v]) (h3 : w.leaf = true) (h4 : w.cells = [w]) : AG [z,z'] [(0,1,v),(1,1,w)] = some [v,w]:=by
 simp [AG,h2,h4,leaves,h1,h3,overlay]
theorem VD {e n : Nat} {cs : List AV} (hl : leaves cs = true) (hn : cs.length = n) (hK : ∀ m h',Fr [] h h' -> Row h' (.sl m 0 n (.exact n)) n 1 cs -> K (.sl m 0 n (.exact n)) h') : A5 h e n (some cs) K:=by
 refine ⟨hl,fun m hm=>?_⟩
 refine hK m _ ((Fr.refl _ _).set' hm) ⟨by omega,.inr ⟨m,0,_,rfl,rfl,H.read_eq (H.get_same ..) (by omega) (by rw [List.drop_zero,List.take_of_length_le (by omega)])⟩⟩
theorem GO {α : Type} {esz ty : Nat} {zs : List AV} {lv : AV} {l : List α} {Rel : H -> α -> List AV -> Prop} (hmono : ∀ {h h' : H} {x c},Fr [] h h' -> Rel h x c -> Rel h' x c) (hleaf : ∀ {h : H} {x c},Rel h x c -> leaves c = true) (hz : zs.length = esz) (lz : leaves zs = true)
  (r : RowOf h esz (Rel h) lv l) (hl : l.length <= reachBytes) {P : α -> Bool} {X J : H -> Prop} {BODY : (List AV -> H -> Prop) -> AV -> AV -> H -> Prop}
  (hX : ∀ h2,Fr [] h h2 -> l.any P = true -> X h2) (hJ : ∀ h2,Fr [] h h2 -> l.any P = false -> J h2)
  (hB : ∀ (N : List AV -> H -> Prop) (i : Nat) x,x ∈ l -> IntKind.i64.wrap ((i : Int) + 1) = ((i + 1 : Nat) : Int) -> ∀ h1 d c,Fr [] h h1 -> h1.get d = some (.live c ty true) -> Rel h1 x c -> c.length = esz ->
   (∀ h2,Fr [] h1 h2 -> P x = false -> N [.int .i64 ((i + 1 : Nat) : Int)] h2) -> (∀ h2,Fr [] h1 h2 -> P x = true -> X h2) -> BODY N (.int .i64 i) (.ptr d 0) h1) :
  AP (fun N l' h=>AX l' 0 fun t51=>AA (binOp .lss .num t51 (.int .i64 l.length)) h fun t52 h=>AC t52
   (AA (iaA esz lv t51) h fun t53 h=>AA (ldA h (some esz) t53) h fun t54 h=>AL h zs ty fun d h=>AM (stA h esz d t54) .undef fun _ h=>BODY N t51 d h) (J h)) [.int .i64 0] h:=by
 have hr : reachBytes <= 4611686018427387903:=by decide
 refine AS (l.length + 1) (fun k ls h2=>∃ i : Nat,ls = [.int .i64 i] /\ i <= l.length /\ l.any P = (l.drop i).any P /\ Fr [] h h2 /\ k = l.length + 1 - i) ⟨0,rfl,by omega,rfl,Fr.refl _ _,rfl⟩ ?_
 rintro k ls h2 ⟨i,rfl,hi,ha,f,rfl⟩
 by_cases q : (i : Int) < l.length
 ·have hi' : i < l.length:=by omega
  obtain ⟨x,hx⟩ : ∃ x,l[i]? = some x:=⟨l[i],by simp [hi']⟩
  have hd : l.drop i = x :: l.drop (i + 1):=by
   rw [List.drop_eq_getElem_cons hi']; congr 1
   rw [List.getElem?_eq_getElem hi'] at hx; injection hx
  rw [hd,List.any_cons] at ha
  obtain ⟨b,o,c,e1,e2,e3,e4,e5⟩:=(r.mono f fun _ _ _ z=>hmono f z).el hx
  have en : IntKind.i64.wrap ((i : Int) + 1) = ((i + 1 : Nat) : Int):=by rw [A0 (by omega) (by omega)]; rfl
  simp only [BE,BO,AB,q,decide_true,AZ,e1,CK e4]
  refine BH lz fun d hdd=>?_
  rw [HG e3 hz (hleaf e2),A3]
  have fd : Fr [] h2 (h2.set d (.live c ty true)):=(Fr.refl _ _).set' hdd
  refine hB _ i x (List.mem_of_getElem? hx) en _ d c (f.trans fd) (H.get_same ..) (hmono fd e2) e3 (fun h3 f3 hp=>?_) fun h3 f3 hp=>?_
  ·rw [hp,Bool.false_or] at ha
   exact ⟨l.length + 1 - (i + 1),by omega,i + 1,rfl,by omega,ha,(f.trans fd).trans f3,rfl⟩
  ·rw [hp,Bool.true_or] at ha
   exact hX h3 ((f.trans fd).trans f3) ha
 ·have : l.drop i = []:=List.drop_eq_nil_of_le (by omega)
  rw [this] at ha
  simp only [BE,BO,AB,q,decide_false,AO]
  exact hJ h2 f ha
theorem U0 {α : Type} {lv : AV} {l : List α} {val : α -> AV} (r : Row h lv l.length 1 (l.map val)) (hl : l.length <= reachBytes) {P : α -> Bool} {X J : H -> Prop} {BODY : (List AV -> H -> Prop) -> AV -> AV -> H -> Prop}
  (hX : ∀ h2,Fr [] h h2 -> l.any P = true -> X h2) (hJ : ∀ h2,Fr [] h h2 -> l.any P = false -> J h2)
  (hB : ∀ (N : List AV -> H -> Prop) (i : Nat) x,x ∈ l -> IntKind.i64.wrap ((i : Int) + 1) = ((i + 1 : Nat) : Int) -> ∀ h1,Fr [] h h1 ->
   (∀ h2,Fr [] h1 h2 -> P x = false -> N [.int .i64 ((i + 1 : Nat) : Int)] h2) -> (∀ h2,Fr [] h1 h2 -> P x = true -> X h2) -> BODY N (.int .i64 i) (val x) h1) :
  AP (fun N l' h=>AX l' 0 fun t51=>AA (binOp .lss .num t51 (.int .i64 l.length)) h fun t52 h=>AC t52
   (AA (iaA 1 lv t51) h fun t53 h=>AA (ldA h none t53) h fun t54 h=>BODY N t51 t54 h) (J h)) [.int .i64 0] h:=by
 have hr : reachBytes <= 4611686018427387903:=by decide
 refine AS (l.length + 1) (fun k ls h2=>∃ i : Nat,ls = [.int .i64 i] /\ i <= l.length /\ l.any P = (l.drop i).any P /\ Fr [] h h2 /\ k = l.length + 1 - i) ⟨0,rfl,by omega,rfl,Fr.refl _ _,rfl⟩ ?_
 rintro k ls h2 ⟨i,rfl,hi,ha,f,rfl⟩
 by_cases q : (i : Int) < l.length
 ·have hi' : i < l.length:=by omega
  obtain ⟨x,hx⟩ : ∃ x,l[i]? = some x:=⟨l[i],by simp [hi']⟩
  have hd : l.drop i = x :: l.drop (i + 1):=by
   rw [List.drop_eq_getElem_cons hi']; congr 1
   rw [List.getElem?_eq_getElem hi'] at hx; injection hx
  rw [hd,List.any_cons] at ha
  obtain ⟨b,o,e1,e2⟩:=(r.fr f).at (i:=i) (x:=val x) (by omega) q (by rw [Int.toNat_natCast,List.getElem?_map,hx]; rfl)
  have en : IntKind.i64.wrap ((i : Int) + 1) = ((i + 1 : Nat) : Int):=by rw [A0 (by omega) (by omega)]; rfl
  simp only [BE,BO,AB,q,decide_true,AZ,e1,E3,e2]
  refine hB _ i x (List.mem_of_getElem? hx) en _ f (fun h3 f3 hp=>?_) fun h3 f3 hp=>?_
  ·rw [hp,Bool.false_or] at ha
   exact ⟨l.length + 1 - (i + 1),by omega,i + 1,rfl,by omega,ha,f.trans f3,rfl⟩
  ·rw [hp,Bool.true_or] at ha
   exact hX h3 (f.trans f3) ha
 ·have : l.drop i = []:=List.drop_eq_nil_of_le (by omega)
  rw [this] at ha
  simp only [BE,BO,AB,q,decide_false,AO]
  exact hJ h2 f ha
theorem HW {v : AV} {l : List (List UInt8)} (r : RowOf h 1 stR v l) : Row h v l.length 1 (l.map AV.str):=by
 obtain ⟨css,h1,h2,h3,r⟩:=r
 have : css.flatten = l.map AV.str:=by
  have e : css = l.map fun s=>[AV.str s]:=by
   apply List.ext_getElem?
   intro i
   by_cases hi : i < css.length
   ·have hil : i < l.length:=by omega
    have:=h2 i l[i] css[i] (by simp [hil]) (by simp [hi])
    rw [List.getElem?_eq_getElem hi,List.getElem?_map,List.getElem?_eq_getElem hil,this]; rfl
   ·rw [List.getElem?_eq_none (by omega),List.getElem?_eq_none (by simp; omega)]
  rw [e]
  clear e h1 h2 h3 r
  induction l with
  | nil=>rfl
  | cons x l ih=>simp [ih]
 rw [<- this]; exact r
def V1 (F : Nat) : Prop:=∀ {h : H} {lv : AV} {vks : List (AV × Nat)},Row h lv vks.length 1 (vks.map Prod.fst) -> KK vks -> vks.length <= reachBytes -> ∀ (AQ : Int) {K : AV -> H -> Prop},(∀ h',Fr [] h h' -> K (.bool (K4 AQ vks)) h') -> C F [.int .i64 AQ,lv] h K
theorem ND {F : Nat} (hF : V1 F) {ty : Nat} {z v : AV} {n : Nat} (ho : v.leaf = true /\ v.cells = [v]) (hl : AF false v = some (.int .i64 n)) {AQ : Int} (hK : ∀ h',Fr [] h h' -> K (.bool (decide (AQ < (n : Int)))) h') :
  A5 h ty 1 (AG [z] [(0,1,v)]) fun t h=>C F [.int .i64 AQ,t] h K:=by
 rw [fill1 ho.1 ho.2]
 refine VD (by simp [leaves,ho.1]) rfl fun m h1 f1 r1=>?_
 refine hF (vks:=[(v,n)]) r1 (fun q hq=>?_) (show 1 <= reachBytes by decide) AQ fun h2 f2=>?_
 ·simp at hq; subst hq; exact ⟨ho.1,hl⟩
 ·have:=hK h2 (f1.trans f2)
  simpa [K4] using this
theorem U6 {F : Nat} (hF : V1 F) {ty : Nat} {z z' v w : AV} {n k : Nat} (ho : v.leaf = true /\ v.cells = [v]) (ho' : w.leaf = true /\ w.cells = [w]) (hl : AF false v = some (.int .i64 n)) (hl' : AF false w = some (.int .i64 k)) {AQ : Int} (hK : ∀ h',Fr [] h h' -> K (.bool (decide (AQ < (n : Int)) || decide (AQ < (k : Int)))) h') :
  A5 h ty 2 (AG [z,z'] [(0,1,v),(1,1,w)]) fun t h=>C F [.int .i64 AQ,t] h K:=by
 rw [VO ho.1 ho.2 ho'.1 ho'.2]
 refine VD (by simp [leaves,ho.1,ho'.1]) rfl fun m h1 f1 r1=>?_
 refine hF (vks:=[(v,n),(w,k)]) r1 (fun q hq=>?_) (show 2 <= reachBytes by decide) AQ fun h2 f2=>?_
 ·simp at hq; rcases hq with rfl | rfl
  ·exact ⟨ho.1,hl⟩
  ·exact ⟨ho'.1,hl'⟩
 ·have:=hK h2 (f1.trans f2)
  simpa [K4] using this
theorem ML {F : Nat} (hF : V1 F) {p : Bool} {b off ty n : Nat} {z v : AV} (hc : h.cell b off = some v) (ho : v.leaf = true /\ v.cells = [v]) (hl : AF false v = some (.int .i64 n)) {AQ : Int} (hK : ∀ h',Fr [] h h' -> K (.bool (p || decide (AQ < (n : Int)))) h') :
  AH (.bool p) false (fun K=>AA (faA off (.ptr b 0)) h K) h fun t19 h=>
  AH (.bool p) false (fun K=>AA (ldA h none t19) h K) h fun t20 h=>
  AH (.bool p) false (fun K=>A5 h ty 1 (AG [z] [(0,1,t20)]) K) h fun t21 h=>
  AH (.bool p) false (fun K=>C F [.int .i64 AQ,t21] h K) h fun t22 h=>
  AA (AE (.bool p) (.bool true) t22) h fun t23 h=>K t23 h:=by
 cases p with
 | true=>
  simp only [GJ,CT,if_true,AB]
  exact hK h (Fr.refl _ _)
 | false=>
  simp only [GK,CT,Bool.false_eq_true,if_false,AB,H8,E3,Nat.zero_add,hc]
  exact ND hF ho hl fun h' f=>hK h' f
theorem chunkO2 {F : Nat} (hF : V1 F) {p : Bool} {b off off' ty n k : Nat} {z z' v w : AV} (hc : h.cell b off = some v) (hc' : h.cell b off' = some w) (ho : v.leaf = true /\ v.cells = [v]) (ho' : w.leaf = true /\ w.cells = [w]) (hl : AF false v = some (.int .i64 n)) (hl' : AF false w = some (.int .i64 k)) {AQ : Int}
  (hK : ∀ h',Fr [] h h' -> K (.bool (p || (decide (AQ < (n : Int)) || decide (AQ < (k : Int))))) h') :
  AH (.bool p) false (fun K=>AA (faA off (.ptr b 0)) h K) h fun t25 h=>
  AH (.bool p) false (fun K=>AA (ldA h none t25) h K) h fun t26 h=>
  AH (.bool p) false (fun K=>AA (faA off' (.ptr b 0)) h K) h fun t27 h=>
  AH (.bool p) false (fun K=>AA (ldA h none t27) h K) h fun t28 h=>
  AH (.bool p) false (fun K=>A5 h ty 2 (AG [z,z'] [(0,1,t26),(1,1,t28)]) K) h fun t29 h=>
  AH (.bool p) false (fun K=>C F [.int .i64 AQ,t29] h K) h fun t30 h=>
  AA (AE (.bool p) (.bool true) t30) h fun t31 h=>K t31 h:=by
 cases p with
 | true=>
  simp only [GJ,CT,if_true,AB]
  exact hK h (Fr.refl _ _)
 | false=>
  simp only [GK,CT,Bool.false_eq_true,if_false,AB,H8,E3,Nat.zero_add,hc,hc']
  exact U6 hF ho ho' hl hl' fun h' f=>hK h' f
theorem bJ {p : Bool} {b off : Nat} {v : AV} {l : List (List UInt8)} (hc : h.cell b off = some v) (r : Row h v l.length 1 (l.map AV.str)) (hl : l.length <= reachBytes) (hK : K (.bool (p || l.any fun s=>decide (16384 < (s.length : Int)))) h) :
  AH (.bool p) false (fun K=>AA (faA off (.ptr b 0)) h K) h fun t39 h=>
  AH (.bool p) false (fun K=>AA (ldA h none t39) h K) h fun t40 h=>
  AH (.bool p) false (fun K=>C 136 [t40] h K) h fun t41 h=>
  AA (AE (.bool p) (.bool true) t41) h fun t42 h=>K t42 h:=by
 cases p with
 | true=>
  simp only [GJ,CT,if_true,AB]
  exact hK
 | false=>
  simp only [GK,CT,Bool.false_eq_true,if_false,AB,H8,E3,Nat.zero_add,hc]
  exact W0 r hl hK
theorem chunkW1 {p : Bool} {b off ty : Nat} {z : AV} {s : List UInt8} (hc : h.cell b off = some (.str s)) (hK : ∀ h',Fr [] h h' -> K (.bool (p || decide (16384 < (s.length : Int)))) h') :
  AH (.bool p) false (fun K=>AA (faA off (.ptr b 0)) h K) h fun t72 h=>
  AH (.bool p) false (fun K=>AA (ldA h none t72) h K) h fun t73 h=>
  AH (.bool p) false (fun K=>A5 h ty 1 (AG [z] [(0,1,t73)]) K) h fun t74 h=>
  AH (.bool p) false (fun K=>C 136 [t74] h K) h fun t75 h=>
  AA (AE (.bool p) (.bool true) t75) h fun t76 h=>K t76 h:=by
 cases p with
 | true=>
  simp only [GJ,CT,if_true,AB]
  exact hK h (Fr.refl _ _)
 | false=>
  simp only [GK,CT,Bool.false_eq_true,if_false,AB,H8,E3,Nat.zero_add,hc]
  rw [fill1 (v:=.str s) rfl rfl]
  refine VD rfl rfl fun m h1 f1 r1=>?_
  refine W0 (l:=[s]) r1 (show 1 <= reachBytes by decide) ?_
  have:=hK h1 f1
  simpa using this
theorem HQ {p : Bool} {b off n : Nat} {v : AV} {sb : Bool} {AQ : Int} (hc : h.cell b off = some v) (hl : AF sb v = some (.int .i64 n)) (hK : K (.bool (p || decide (AQ < (n : Int)))) h) :
  AH (.bool p) false (fun K=>AA (faA off (.ptr b 0)) h K) h fun t23 h=>
  AH (.bool p) false (fun K=>AA (ldA h none t23) h K) h fun t24 h=>
  AH (.bool p) false (fun K=>AA (AF sb t24) h K) h fun t25 h=>
  AH (.bool p) false (fun K=>AA (binOp .gtr .num t25 (.int .i64 AQ)) h K) h fun t26 h=>
  AA (AE (.bool p) (.bool true) t26) h fun t27 h=>K t27 h:=by
 cases p with
 | true=>
  simp only [GJ,CT,if_true,AB]
  exact hK
 | false=>
  simp only [GK,CT,Bool.false_eq_true,if_false,AB,H8,E3,Nat.zero_add,hc,hl,J9]
  exact hK
end
section
variable {h : H} {PK : H -> Prop}
theorem NG {v : AV} {L : List Int} (r : Row h v L.length 1 (ic L)) (hl : L.length <= reachBytes) {p : Int -> Bool} {X : Nat -> Prop} {J : H -> Prop} {BODY : (List AV -> H -> Prop) -> AV -> AV -> H -> Prop}
  (hX : ∀ i : Nat,i < L.length -> L.any p = true -> X i) (hJ : L.any p = false -> J h)
  (hB : ∀ (N : List AV -> H -> Prop) (i : Nat) x,L[i]? = some x -> IntKind.i64.wrap ((i : Int) + 1) = ((i + 1 : Nat) : Int) -> (p x = false -> N [.int .i64 ((i + 1 : Nat) : Int)] h) -> (p x = true -> X i) -> BODY N (.int .i64 i) (.int .i64 x) h) :
  AP (fun N l' h=>AX l' 0 fun t=>AA (binOp .lss .num t (.int .i64 L.length)) h fun c h=>AC c
   (AA (iaA 1 v t) h fun a h=>AA (ldA h none a) h fun x h=>BODY N t x h) (J h)) [.int .i64 0] h:=by
 have hr : reachBytes <= 4611686018427387903:=by decide
 refine AS (L.length + 1) (fun k ls h2=>∃ i : Nat,ls = [.int .i64 i] /\ i <= L.length /\ L.any p = (L.drop i).any p /\ h2 = h /\ k = L.length + 1 - i) ⟨0,rfl,by omega,rfl,rfl,rfl⟩ ?_
 rintro k ls h2 ⟨i,rfl,hi,ha,rfl,rfl⟩
 by_cases q : (i : Int) < L.length
 ·have hi' : i < L.length:=by omega
  obtain ⟨x,hx⟩ : ∃ x,L[i]? = some x:=⟨L[i],by simp [hi']⟩
  have hd : L.drop i = x :: L.drop (i + 1):=by
   rw [List.drop_eq_getElem_cons hi']; congr 1
   rw [List.getElem?_eq_getElem hi'] at hx; injection hx
  rw [hd,List.any_cons] at ha
  have en : IntKind.i64.wrap ((i : Int) + 1) = ((i + 1 : Nat) : Int):=by rw [A0 (by omega) (by omega)]; rfl
  simp only [BE,BO,AB,q,decide_true,AZ]
  refine r.get (x:=.int .i64 x) (by omega) (by omega) (by rw [Int.toNat_natCast]; simp [ic,hx]) ?_
  refine hB _ i x hx en (fun hp=>⟨L.length + 1 - (i + 1),by omega,i + 1,rfl,by omega,by rw [ha,hp]; rfl,rfl,rfl⟩) fun hp=>hX i hi' (by rw [ha,hp]; rfl)
 ·have : i = L.length:=by omega
  subst this
  rw [List.drop_length] at ha
  simp only [BE,BO,AB,q,decide_false,AO]
  exact hJ ha
theorem RC (L : List Int) (x : Int) : L.any (fun y=>decide (x = y)) = decide (x ∈ L):=by
 induction L with
 | nil=>rfl
 | cons y L ih=>rw [List.any_cons,ih]; by_cases h : x = y <;> simp [h]
theorem index_c {v : AV} {L : List Int} (r : Row h v L.length 1 (ic L)) (hl : L.length <= reachBytes) (x : Int) {K : AV -> H -> Prop} (h1 : x ∈ L -> ∀ i : Nat,i < L.length -> K (.int .i64 i) h) (h2 : x ∉ L -> K (.int .i64 (-1)) h) : DP PK 117 [v,.int .i64 x] h K:=by
 refine runB117 ?_
 unfold sh117 zL
 refine AI (fun (J : H -> Prop)=>x ∉ L -> J h) h2 fun J hJ=>?_
 rw [r.len,AB]
 refine NG r hl (p:=fun y=>decide (x = y)) (X:=fun i=>K (.int .i64 i) h) (fun i hi ha=>h1 (by rw [RC] at ha; exact of_decide_eq_true ha) i hi) (fun ha=>hJ (by rw [RC] at ha; exact of_decide_eq_false ha)) ?_
 intro N i y hy en hN hX
 rw [S9,AB]
 by_cases q : x = y
 ·have hX:=hX (by simpa using q)
  simp only [q,decide_true,AZ]; exact hX
 ·have hN:=hN (by simpa using q)
  simp only [q,decide_false,AO,BS,AB,en]; exact hN
theorem ON {v : AV} {L : List Int} (r : Row h v L.length 1 (ic L)) (hl : L.length <= reachBytes) (x : Int) (K : AV -> H -> Prop) : DP PK 69 [v,.int .i64 x] h K = K (.bool (decide (x ∈ L))) h:=by
 refine BR (runB69 ?_) K
 unfold sh69
 refine index_c r hl x (fun hx i hi=>?_) fun hx=>?_
 ·have : (0 : Int) <= i:=by omega
  simp only [go_sem,reduceIte,Int.reduceLE,this,hx,decide_true,ge_iff_le,and_self]
 ·simp only [go_sem,reduceIte,Int.reduceLE,hx,decide_false,ge_iff_le,and_self]
theorem VK {v : AV} {L : List Int} (r : Row h v L.length 1 (ic L)) (hl : L.length <= reachBytes) (x : Int) (K : AV -> H -> Prop) : DP PK 66 [v,.int .i64 x] h K = K (.bool (decide (x ∈ L))) h:=by
 refine BR (runB66 ?_) K
 unfold sh66 zL
 refine AI (fun (J : H -> Prop)=>x ∉ L -> J h) (fun e=>by rw [decide_eq_false e]; exact ⟨rfl,rfl⟩) fun J hJ=>?_
 rw [r.len,AB]
 refine NG r hl (p:=fun y=>decide (x = y)) (X:=fun _=>x ∈ L) (fun i hi ha=>by rw [RC] at ha; exact of_decide_eq_true ha) (fun ha=>hJ (by rw [RC] at ha; exact of_decide_eq_false ha)) ?_
 intro N i y hy en hN hX
 rw [S9,AB]
 by_cases q : x = y
 ·have hX:=hX (by simpa using q)
  simp only [decide_eq_true q,AZ,decide_eq_true hX,and_self]
 ·have hN:=hN (by simpa using q)
  simp only [q,decide_false,AO,BS,AB,en]; exact hN
theorem NJ {v : AV} {L : List Int} (r : Row h v L.length 1 (ic L)) (hl : L.length <= reachBytes) {g : Nat} {fi ca : List AV} {p : Int -> Bool} (hp : ∀ x ∈ L,∀ K,DP AU g (fi ++ [.int .i64 x] ++ ca) h K = K (.bool (p x)) h) (K : AV -> H -> Prop) :
  DP PK 67 [v,.fn g fi ca] h K = K (.bool (L.any p)) h:=by
 refine BR (runB67 ?_) K
 unfold sh67
 refine runB116 ?_
 unfold sh116 zL
 refine AI (fun (J : H -> Prop)=>L.any p = false -> J h) (fun e=>?_) fun J hJ=>?_
 ·simp only [go_sem,reduceIte,Int.reduceLE,e,ge_iff_le,and_self]
 rw [r.len,AB]
 refine NG r hl (p:=p) (X:=fun _=>L.any p = true) (fun i hi ha=>ha) hJ ?_
 intro N i y hy en hN hX
 show DP AU g (fi ++ [.int .i64 y] ++ ca) h _
 rw [hp y (List.mem_of_getElem? hy)]
 cases q : p y with
 | true=>
  have hX:=hX q
  have : (0 : Int) <= i:=by omega
  simp only [go_sem,reduceIte,Int.reduceLE,this,hX,decide_true,ge_iff_le,and_self]
 | false=>
  have hN:=hN q
  simp only [AO,BS,AB,en]; exact hN
def G0 (a b : Ty) : Bool:=(b.imm || !a.imm) && a.sh.all fun x=>decide (x ∈ b.sh)
theorem FR {t : Ty} {c : List AV} (r : tyR h t c) {K : AV -> H -> Prop} (hK : ∀ b h',Fr [] h h' -> h.get b = none -> h'.get b = some (.live c 46 true) -> tyR h' t c -> K (.ptr b 0) h') : AL h (AV.cells (.agg c)) 46 K:=by
 refine BH (cs:=c) r.leaves fun b hb=>?_
 have f : Fr [] h (h.set b (.live c 46 true)):=(Fr.refl _ _).set' hb
 exact hK b _ f hb (H.get_same ..) (r.fr f)
theorem VZ (L M : List Int) : (L.any fun x=>!decide (x ∈ M)) = !(L.all fun x=>decide (x ∈ M)):=by
 induction L with
 | nil=>rfl
 | cons y L ih=>rw [List.any_cons,List.all_cons,ih]; cases decide (y ∈ M) <;> rfl
theorem KR {a b : Ty} {ca cb : List AV} (ra : tyR h a ca) (rb : tyR h b cb) (oa : a.sh.length <= reachBytes) (ob : b.sh.length <= reachBytes) {K : AV -> H -> Prop} (hK : ∀ h',Fr [] h h' -> K (.bool (G0 a b)) h') : DP PK 23 [.agg ca,.agg cb] h K:=by
 refine runB23 ?_
 unfold sh23 zT zE zU zF zG zH
 refine FR ra fun p h1 f1 hp gp ra=>?_
 refine FR (rb.fr f1) fun q h2 f2 hq gq rb=>?_
 obtain ⟨va,rfl,qa⟩:=ra.fr f2
 obtain ⟨vb,rfl,qb⟩:=rb
 have gp:=f2 p _ (by simp) gp
 have e:=fun h' (f : Fr [] h2 h')=>hK h' (f1.trans (f2.trans f))
 have cp0 : h2.cell p 0 = some (.bool a.imm):=by rw [AD gp]; rfl
 have cp1 : h2.cell p 1 = some va:=by rw [AD gp]; rfl
 have cq0 : h2.cell q 0 = some (.bool b.imm):=by rw [AD gq]; rfl
 have cq1 : h2.cell q 1 = some vb:=by rw [AD gq]; rfl
 have hf : ∀ x ∈ a.sh,∀ K,DP AU 68 ([] ++ [.int .i64 x] ++ [.ptr q 0]) h2 K = K (.bool (!decide (x ∈ b.sh))) h2:=fun x _ K=>by
  refine BR (runB68 ?_) K
  unfold sh68 zF
  simp only [go_sem,reduceIte,Int.reduceLE,cq1,ON qb ob,and_self]
 have hc:=fun K=>NJ (PK:=AU) qa oa hf K
 unfold G0 at e
 have hn:=VZ a.sh b.sh
 cases hbi : b.imm <;> cases hai : a.imm <;> simp only [hai,hbi] at cp0 cq0 e <;> simp only [go_sem,reduceIte,Int.reduceLE,cp0,cp1,cq0,cq1,hc,hn,Bool.not_not] <;> exact e _ (Fr.refl _ _)
theorem XP {a b : Ty} {ca cb : List AV} (ra : tyR h a ca) (rb : tyR h b cb) (oa : a.sh.length <= reachBytes) (ob : b.sh.length <= reachBytes) {K : AV -> H -> Prop} (hK : ∀ h',Fr [] h h' -> K (.bool (G0 a b)) h') : DP PK 24 [.agg ca,.agg cb] h K:=by
 refine runB24 ?_
 unfold sh24 zL zT zF zG
 refine FR ra fun p h1 f1 hp gp ra=>?_
 refine FR (rb.fr f1) fun q h2 f2 hq gq rb=>?_
 obtain ⟨va,rfl,qa⟩:=ra.fr f2
 obtain ⟨vb,rfl,qb⟩:=rb
 have gp:=f2 p _ (by simp) gp
 have e:=fun h' (f : Fr [] h2 h')=>hK h' (f1.trans (f2.trans f))
 have cp0 : h2.cell p 0 = some (.bool a.imm):=by rw [AD gp]; rfl
 have cp1 : h2.cell p 1 = some va:=by rw [AD gp]; rfl
 have cq0 : h2.cell q 0 = some (.bool b.imm):=by rw [AD gq]; rfl
 have cq1 : h2.cell q 1 = some vb:=by rw [AD gq]; rfl
 have hn:=VZ a.sh b.sh
 have main : (b.imm || !a.imm) = true -> AJ (fun (h : H)=>K (.bool true) h) fun J=>
   AA (faA 1 (.ptr p 0)) h2 fun t14 h=>AA (ldA h none t14) h fun t15 h=>AA (AF false t15) h fun t16 h=>
   AP (fun N l h=>AX l 0 fun t17=>AA (binOp .lss .num t17 t16) h fun t18 h=>AC t18
    (AA (iaA 1 t15 t17) h fun t19 h=>AA (ldA h none t19) h fun t20 h=>AA (faA 1 (.ptr q 0)) h fun t21 h=>AA (ldA h none t21) h fun t22 h=>
     DP AU 66 [t22,t20] h fun t24 h=>AA (unOp .not t24) h fun t25 h=>AC t25 (K (.bool false) h) (AA (binOp .add .num t17 (.int .i64 1)) h fun t26 h=>N [t26] h))
    (J h)) [.int .i64 0] h2:=fun hm=>by
  unfold G0 at e
  rw [hm,Bool.true_and] at e
  refine AI (fun (J : H -> Prop)=>(a.sh.any fun x=>!decide (x ∈ b.sh)) = false -> J h2) (fun ha=>?_) fun J hJ=>?_
  ·rw [hn,Bool.not_eq_false'] at ha
   rw [ha] at e; exact e _ (Fr.refl _ _)
  refine BC cp1 ?_
  rw [qa.len,AB]
  refine NG qa oa (p:=fun x=>!decide (x ∈ b.sh)) (X:=fun _=>(a.sh.any fun x=>!decide (x ∈ b.sh)) = true) (fun i hi ha=>ha) hJ ?_
  intro N i y hy en hN hX
  refine BC cq1 ?_
  rw [VK qb ob,RK,AB]
  by_cases q : y ∈ b.sh
  ·have hN:=hN (by simp [q])
   simp only [q,decide_true,Bool.not_true,AO,BS,AB,en]; exact hN
  ·have hX:=hX (by simp [q])
   simp only [q,decide_false,Bool.not_false,AZ]
   rw [hn,Bool.not_eq_true'] at hX
   rw [hX] at e; exact e _ (Fr.refl _ _)
 cases hbi : b.imm <;> cases hai : a.imm <;> simp only [hai,hbi] at cp0 cq0 main <;> simp only [go_sem,reduceIte,Int.reduceLE,cp0,cq0]
 ·exact main rfl
 ·have:=e _ (Fr.refl _ _)
  unfold G0 at this
  rw [hai,hbi] at this; exact this
 ·exact main rfl
 ·exact main rfl
end
end Go.Proofs.YtdljelicbnjfjaaGreat.X
namespace Go.Proofs.YtdljelicbnjfjaaGreat.X
open Go
def DM (s : Int) (p : List Int × Bool) (x : Int) : List Int × Bool:=if !p.2 && decide (s < x) then (p.1 ++ [s] ++ [x],true) else (p.1 ++ [x],p.2)
def DD (s : Int) (l : List Int) : List Int × Bool:=l.foldl (DM s) ([],false)
def JD (l : List Int) (s : Int) : List Int:=if s ∈ l then l else if (DD s l).2 then (DD s l).1 else (DD s l).1 ++ [s]
def EU (L : List Int) : List Int:=L.foldl JD []
def HH (acc : List Int) (x : Int) : List Int:=if acc.getLast? = some x then acc else acc ++ [x]
def cmp (L : List Int) : List Int:=L.foldl HH []
theorem FP {α : Type} {P : List α -> Prop} (h0 : P []) (h1 : ∀ M x,P M -> P (M ++ [x])) (L : List α) : P L:=by
 have : ∀ L : List α,P L.reverse:=by
  intro L
  induction L with
  | nil=>exact h0
  | cons x L ih=>rw [List.reverse_cons]; exact h1 _ _ ih
 have:=this L.reverse
 rwa [List.reverse_reverse] at this
abbrev IB (l : List Int) : Prop:=l.Pairwise (· < ·)
theorem rise_snoc {l : List Int} {x : Int} : IB (l ++ [x]) ↔ IB l /\ ∀ y ∈ l,y < x:=by simp [IB,List.pairwise_append]
theorem JU (s : Int) (M : List Int) (x : Int) : DD s (M ++ [x]) = DM s (DD s M) x:=by simp [DD,List.foldl_append]
theorem insF_ok (s : Int) (l : List Int) : IB l -> s ∉ l -> ((DD s l).2 = false -> (DD s l).1 = l /\ ∀ y ∈ l,y < s) /\ ((DD s l).2 = true -> IB (DD s l).1 /\ (∀ y,y ∈ (DD s l).1 ↔ y = s \/ y ∈ l) /\ ∃ z ∈ l,s < z):=by
 refine FP (P:=fun l=>IB l -> s ∉ l -> ((DD s l).2 = false -> (DD s l).1 = l /\ ∀ y ∈ l,y < s) /\ ((DD s l).2 = true -> IB (DD s l).1 /\ (∀ y,y ∈ (DD s l).1 ↔ y = s \/ y ∈ l) /\ ∃ z ∈ l,s < z)) ?_ (fun M x ih=>?_) l
 ·intro _ _
  exact ⟨fun _=>⟨rfl,fun y hy=>by cases hy⟩,fun h=>by cases h⟩
 ·intro hr hs
  obtain ⟨hr,hx⟩:=rise_snoc.1 hr
  simp only [List.mem_append,List.mem_singleton,not_or] at hs
  obtain ⟨i1,i2⟩:=ih hr hs.1
  rw [JU]
  cases hp : (DD s M).2 with
  | false=>
   obtain ⟨e,hy⟩:=i1 hp
   by_cases q : s < x
   ·have es : DM s (DD s M) x = (M ++ [s] ++ [x],true):=by unfold DM; rw [hp,e]; simp [q]
    rw [es]
    refine ⟨fun h=>(by cases h),fun _=>⟨?_,fun y=>?_,x,by simp,q⟩⟩
    ·refine rise_snoc.2 ⟨rise_snoc.2 ⟨hr,hy⟩,fun y hm=>?_⟩
     rcases List.mem_append.1 hm with h | h
     ·exact hx y h
     ·simp at h; omega
    ·simp only [List.mem_append,List.mem_singleton]
     constructor
     ·intro h
      rcases h with (h | h) | h
      ·exact .inr (.inl h)
      ·exact .inl h
      ·exact .inr (.inr h)
     ·intro h
      rcases h with h | h | h
      ·exact .inl (.inr h)
      ·exact .inl (.inl h)
      ·exact .inr h
   ·have hxs : x < s:=by omega
    have es : DM s (DD s M) x = (M ++ [x],false):=by unfold DM; rw [hp,e]; simp [q]
    rw [es]
    refine ⟨fun _=>⟨rfl,fun y hm=>?_⟩,fun h=>(by cases h)⟩
    rcases List.mem_append.1 hm with h | h
    ·exact hy y h
    ·simp at h; omega
  | true=>
   obtain ⟨hr2,hm2,z,hz,hsz⟩:=i2 hp
   have es : DM s (DD s M) x = ((DD s M).1 ++ [x],true):=by unfold DM; rw [hp]; simp
   rw [es]
   refine ⟨fun h=>(by cases h),fun _=>⟨rise_snoc.2 ⟨hr2,fun y hy=>?_⟩,fun y=>?_,z,by simp [hz],hsz⟩⟩
   ·rcases (hm2 y).1 hy with h | h
    ·have:=hx z hz; omega
    ·exact hx y h
   ·simp only [List.mem_append,List.mem_singleton,hm2 y,or_assoc]
theorem insU_ok {l : List Int} (hr : IB l) (s : Int) : IB (JD l s) /\ ∀ y,y ∈ JD l s ↔ y = s \/ y ∈ l:=by
 unfold JD
 split
 ·rename_i h
  exact ⟨hr,fun y=>⟨.inr,fun x=>by rcases x with rfl | x <;> assumption⟩⟩
 ·rename_i h
  obtain ⟨i1,i2⟩:=insF_ok s l hr h
  split
  ·rename_i hp
   obtain ⟨a,b,_⟩:=i2 hp
   exact ⟨a,b⟩
  ·rename_i hp
   obtain ⟨e,hy⟩:=i1 (by simpa using hp)
   rw [e]
   refine ⟨rise_snoc.2 ⟨hr,hy⟩,fun y=>?_⟩
   simp only [List.mem_append,List.mem_singleton]
   exact _root_.or_comm
theorem KI (M : List Int) (x : Int) : EU (M ++ [x]) = JD (EU M) x:=by simp [EU,List.foldl_append]
theorem N3 (L : List Int) : IB (EU L) /\ ∀ y,y ∈ EU L ↔ y ∈ L:=by
 refine FP (P:=fun L=>IB (EU L) /\ ∀ y,y ∈ EU L ↔ y ∈ L) ⟨List.Pairwise.nil,fun y=>Iff.rfl⟩ (fun M x ih=>?_) L
 obtain ⟨a,b⟩:=insU_ok ih.1 x
 rw [KI]
 refine ⟨a,fun y=>?_⟩
 rw [b,ih.2]
 simp only [List.mem_append,List.mem_singleton]
 exact _root_.or_comm
theorem JK (M : List Int) (x : Int) : cmp (M ++ [x]) = HH (cmp M) x:=by simp [cmp,List.foldl_append]
theorem OO (L : List Int) : (cmp L).getLast? = L.getLast?:=by
 refine FP (P:=fun L=>(cmp L).getLast? = L.getLast?) rfl (fun M x ih=>?_) L
 rw [JK,HH]
 split
 ·rename_i h; rw [h]; simp
 ·simp
theorem cmp_ok (L : List Int) : L.Pairwise (· <= ·) -> IB (cmp L) /\ ∀ y,y ∈ cmp L ↔ y ∈ L:=by
 refine FP (P:=fun L=>L.Pairwise (· <= ·) -> IB (cmp L) /\ ∀ y,y ∈ cmp L ↔ y ∈ L) (fun _=>⟨List.Pairwise.nil,fun y=>Iff.rfl⟩) (fun M x ih=>?_) L
 intro hp
 have hp' : M.Pairwise (· <= ·) /\ ∀ y ∈ M,y <= x:=by simpa [List.pairwise_append] using hp
 obtain ⟨a,b⟩:=ih hp'.1
 rw [JK,HH]
 have hl:=OO M
 split
 ·rename_i h
  refine ⟨a,fun y=>?_⟩
  have hx : x ∈ M:=(b x).1 (List.mem_of_getLast? h)
  rw [b]
  simp only [List.mem_append,List.mem_singleton]
  exact ⟨.inl,fun z=>by rcases z with z | rfl <;> assumption⟩
 ·rename_i h
  refine ⟨rise_snoc.2 ⟨a,fun y hy=>?_⟩,fun y=>by simp only [List.mem_append,List.mem_singleton,b]⟩
  have hy':=(b y).1 hy
  have h1:=hp'.2 y hy'
  rcases Int.lt_or_eq_of_le h1 with h1 | h1
  ·exact h1
  ·
   exfalso
   subst h1
   obtain ⟨z,hz⟩ : ∃ z,M.getLast? = some z:=by
    cases hM : M.getLast? with
    | none=>rw [List.getLast?_eq_none_iff] at hM; subst hM; cases hy'
    | some z=>exact ⟨z,rfl⟩
   rw [hl,hz] at h
   obtain ⟨M',rfl⟩:=List.getLast?_eq_some_iff.1 hz
   have q : M'.Pairwise (· <= ·) /\ ∀ y ∈ M',y <= z:=by simpa [List.pairwise_append] using hp'.1
   have q2:=hp'.2 z (by simp)
   rcases List.mem_append.1 hy' with h3 | h3
   ·have:=q.2 y h3
    exact h (by rw [show z = y by omega])
   ·simp at h3; exact h (by rw [h3])
theorem U3 : ∀ {a b : List Int},IB a -> IB b -> (∀ y,y ∈ a ↔ y ∈ b) -> a = b
 | [],[],_,_,_=>rfl
 | [],y :: b,_,_,h=>by have:=(h y).2 (by simp); cases this
 | x :: a,[],_,_,h=>by have:=(h x).1 (by simp); cases this
 | x :: a,y :: b,ha,hb,h=>by
  obtain ⟨h1,ha'⟩:=List.pairwise_cons.1 ha
  obtain ⟨h2,hb'⟩:=List.pairwise_cons.1 hb
  have e : x = y:=by
   rcases List.mem_cons.1 ((h x).1 (by simp)) with e | e
   ·exact e
   ·rcases List.mem_cons.1 ((h y).2 (by simp)) with f | f
    ·exact f.symm
    ·have:=h1 y f; have:=h2 x e; omega
  subst e
  congr 1
  refine U3 ha' hb' fun z=>?_
  have:=h z
  simp only [List.mem_cons] at this
  constructor
  ·intro hz
   have hl:=h1 z hz
   rcases this.1 (.inr hz) with e | e
   ·omega
   ·exact e
  ·intro hz
   have hl:=h2 z hz
   rcases this.2 (.inr hz) with e | e
   ·omega
   ·exact e
theorem V4 (L : List Int) : (CG L).Pairwise (· <= ·) /\ ∀ y,y ∈ CG L ↔ y ∈ L:=by
 unfold CG
 refine ⟨?_,fun y=>List.mem_mergeSort⟩
 have:=List.pairwise_mergeSort (le:=fun x y : Int=>decide (x <= y)) (fun a b c h1 h2=>by simp at *; omega) (fun a b=>by simp; omega) L
 exact this.imp fun h=>of_decide_eq_true h
theorem WH (L : List Int) : cmp (CG L) = EU L:=by
 obtain ⟨a,b⟩:=V4 L
 obtain ⟨c,d⟩:=cmp_ok _ a
 obtain ⟨e,f⟩:=N3 L
 exact U3 c e fun y=>by rw [d,b,f]
theorem GM (L : List Int) : (CG L).length = L.length:=by unfold CG; simp
end Go.Proofs.YtdljelicbnjfjaaGreat.X
namespace Go.Proofs.YtdljelicbnjfjaaGreat.X
open Go Go.RowKit
theorem S3 {M : List Int} {x : Int} (h : M.getLast? = some x) : cmp (M ++ [x]) = cmp M:=by rw [JK,HH,if_pos (by rw [OO]; exact h)]
theorem P0 {M : List Int} {x : Int} (h : M.getLast? ≠ some x) : cmp (M ++ [x]) = cmp M ++ [x]:=by rw [JK,HH,if_neg (by rw [OO]; exact h)]
theorem VQ (L : List Int) : (cmp L).length <= L.length:=by
 refine FP (P:=fun L=>(cmp L).length <= L.length) (Nat.le_refl _) (fun M x ih=>?_) L
 rw [JK,HH]
 split <;> simp <;> omega
theorem CO {L : List Int} {i : Nat} {x : Int} (h : L[i]? = some x) : L.take (i + 1) = L.take i ++ [x]:=by
 rw [List.take_add_one,h]; rfl
theorem PD {L : List Int} {i : Nat} {y : Int} (h : L[i]? = some y) : (L.take (i + 1)).getLast? = some y:=by rw [CO h]; simp
theorem MV : ∀ (vs cs pre : List AV),vs.length <= cs.length -> overlay (pre ++ cs) pre.length vs = pre ++ vs ++ cs.drop vs.length:=by
 intro vs
 induction vs with
 | nil=>intro cs pre _; simp [overlay]
 | cons v vs ih=>
  intro cs pre hl
  cases cs with
  | nil=>simp at hl
  | cons c cs=>
   have:=ih cs (pre ++ [v]) (by simpa using hl)
   simp only [List.length_append,List.length_singleton,List.append_assoc,List.singleton_append] at this
   rw [overlay,List.set_append_right _ _ (Nat.le_refl _)]
   simpa using this
theorem LU {h : H} {b : Nat} {x y : Obj} : (h.set b x).set b y = h.set b y:=by
 apply H.ext'; intro k; simp only [H.get_set]; split <;> rfl
theorem JP {h : H} {b e : Nat} {pre cs vs : List AV} (hb : h.get b = some (.live (pre ++ cs) e true)) (hl : vs.length <= cs.length) (hv : leaves vs = true) : h.write b pre.length vs = some (h.set b (.live (pre ++ vs ++ cs.drop vs.length) e true)):=by
 unfold H.write
 rw [hb]
 simp only [hv,and_true]
 rw [if_pos (by rw [List.length_append]; omega),MV _ _ _ hl]
theorem EV (L : List Int) : (ic L).length = L.length:=by simp [ic]
theorem GG (L : List Int) : leaves (ic L) = true:=KL _ (fun _=>rfl) L
theorem QS (A B : List Int) : ic (A ++ B) = ic A ++ ic B:=by simp [ic]
theorem OA {L : List Int} {i : Nat} {x : Int} (h : L[i]? = some x) : (ic L)[i]? = some (.int .i64 x):=by simp [ic,h]
theorem ic_take (L : List Int) (i : Nat) : (ic L).take i = ic (L.take i):=by simp [ic]
def zc (n : Nat) : List AV:=List.replicate n (.int .i64 0)
section
variable {h : H} {PK : H -> Prop}
theorem grow_c {n : Nat} (hn : n <= 4294967296) {K : AV -> H -> Prop} (h0 : n = 0 -> K .nilsl h) (h1 : 0 < n -> ∀ b,h.get b = none -> K (.sl b 0 0 (.more 1)) (h.set b (.live (zc n) 3 true))) : DP PK 113 [.nilsl,.int .i64 n] h K:=by
 refine runB113 ?_
 unfold sh113
 have w0 : IntKind.i64.wrap 0 = 0:=by decide
 have wn : IntKind.i64.wrap (n : Int) = n:=A0 (by omega) (by omega)
 have c0 : bL .nilsl = some (.int .i64 0):=rfl
 have e1 : B7 (.row 1) .nilsl none (some (.int .i64 0)) none = some .nilsl:=rfl
 have q : ¬ ((n : Int) < 0):=by omega
 refine AI (fun (J : H -> Prop)=>J h) ?_ fun J hJ=>?_
 ·refine AI (fun (J : AV -> H -> Prop)=>∀ v h',K v h' -> J v h') (fun v h' x=>x) fun J hJ=>?_
  by_cases hz : n = 0
  ·have q : ¬ ((0 : Int) < (n : Int)):=by omega
   simp only [go_sem,reduceIte,Int.reduceLT,c0,w0,Int.sub_zero,wn,q]
   exact hJ _ _ (h0 hz)
  ·have q : (0 : Int) < (n : Int):=by omega
   simp only [go_sem,reduceIte,Int.reduceLT,c0,w0,Int.sub_zero,wn,q,e1]
   obtain ⟨k,rfl⟩ : ∃ k,n = k + 1:=⟨n - 1,by omega⟩
   have hk : DR (.int .i64 ((k + 1 : Nat) : Int)) = some (k + 1):=by
    have : (0 : Int) <= ((k + 1 : Nat) : Int):=by omega
    simp only [DR,this,if_true,Int.toNat_natCast]
   unfold SR
   rw [hk]
   refine ⟨by unfold AQ; omega,?_,fun b hb=>?_⟩
   ·rw [F9]; exact FE _ _ _
   ·have e2 : B7 (.row 1) (.sl b 0 (k + 1) (.more 1)) none (some (.int .i64 0)) none = some (.sl b 0 0 (.more 1)):=by
     simp [B7,Cap.fits,DH,loB,hiB,DR,within,Cap.less]
    simp only [e2,AB,F9]
    exact hJ _ _ (h1 (by omega) b hb)
 ·simp only [go_sem,reduceIte,Int.reduceLT,q]
  exact hJ
def RowsI (h : H) (vl : List AV) (Ls : List (List Int)) : Prop:=vl.length = Ls.length /\ ∀ (i : Nat) (v : AV) (L : List Int),vl[i]? = some v -> Ls[i]? = some L -> Row h v L.length 1 (ic L)
theorem PW {Ls : List (List Int)} {i : Nat} {L : List Int} (h : Ls[i]? = some L) : (Ls.take (i + 1)).flatten = (Ls.take i).flatten ++ L:=by
 rw [List.take_add_one,h,List.flatten_append]; simp
theorem VM (Ls : List (List Int)) (i : Nat) : (Ls.take i).flatten.length <= Ls.flatten.length:=by
 have:=congrArg (fun l=>l.flatten.length) (List.take_append_drop i Ls)
 simp only [List.flatten_append,List.length_append] at this
 omega
def Cat (h0 h : H) (N : Nat) (D : List Int) (v : AV) : Prop:=(N = 0 /\ v = .nilsl /\ h = h0) \/ ∃ b,0 < N /\ v = .sl b 0 D.length (.more 1) /\ h0.get b = none /\ Fr [] h0 h /\ h.get b = some (.live (ic D ++ zc (N - D.length)) 3 true)
theorem Cat.fr {h0 h : H} {N : Nat} {D : List Int} {v : AV} (c : Cat h0 h N D v) : Fr [] h0 h:=by
 rcases c with ⟨_,_,rfl⟩ | ⟨b,_,_,_,f,_⟩
 ·exact Fr.refl _ _
 ·exact f
theorem UF {h0 : H} {N : Nat} {D M : List Int} {v y : AV} (hc : Cat h0 h N D v) (hy : KV h 1 y = some (M.length,ic M)) (hle : D.length + M.length <= N) (hN : N <= 4294967296) {K : AV -> H -> Prop} (hK : ∀ v' h',Cat h0 h' N (D ++ M) v' -> K v' h') : A4 h 3 1 8 v y K:=by
 unfold A4
 rw [hy]
 simp only
 rcases hc with ⟨e0,rfl,rfl⟩ | ⟨b,e0,rfl,hb,f,hg⟩
 ·rw [if_pos (by omega)]
  exact hK _ _ (.inl ⟨e0,rfl,rfl⟩)
 ·simp only
  by_cases q : M.length = 0
  ·rw [if_pos q]
   have : M = []:=List.eq_nil_of_length_eq_zero q
   subst this
   exact hK _ _ (.inr ⟨b,e0,by simp,hb,f,by simpa using hg⟩)
  ·rw [if_neg q,hg]
   simp only
   have hlen : (ic D ++ zc (N - D.length)).length = N:=by rw [List.length_append,EV,zc,List.length_replicate]; omega
   refine ⟨⟨trivial,trivial,by unfold AQ; omega,by rw [hlen]; omega⟩,?_⟩
   rw [if_pos (by rw [hlen]; omega)]
   have hw:=JP (vs:=ic M) hg (by rw [EV,zc,List.length_replicate]; omega) (GG M)
   rw [EV] at hw
   rw [Nat.zero_add,Nat.mul_one,hw,A3]
   refine hK _ _ (.inr ⟨b,e0,by rw [List.length_append],hb,f.set' hb,?_⟩)
   rw [H.get_same,QS,List.length_append,EV,zc,zc,List.drop_replicate,Nat.sub_sub]
theorem bI {vs : AV} {vl : List AV} {Ls : List (List Int)} (rs : Row h vs vl.length 1 vl) (rr : RowsI h vl Ls) (hl : vl.length <= 4294967296) (hN : Ls.flatten.length <= 4294967296) {K : AV -> H -> Prop}
  (hK : ∀ v h',Fr [] h h' -> Own h h' 3 1 v Ls.flatten.length (ic Ls.flatten) -> K v h') : DP PK 63 [vs] h K:=by
 refine runB63 ?_
 unfold sh63 zL
 have hlen:=rr.1
 refine AI (fun (J : AV -> H -> Prop)=>J (.int .i64 Ls.flatten.length) h) ?_ fun J hJ=>?_
 ·
  have go : ∀ (v : AV) (h1 : H),Cat h h1 Ls.flatten.length [] v -> AJ (fun (newslice6' : AV) (h : H)=>K newslice6' h) fun J=>
    AA (AF false vs) h1 fun t26 h=>AP (fun N l h=>AX l 0 fun newslice6=>AX l 1 fun t27=>AA (binOp .lss .num t27 t26) h fun t28 h=>AC t28
     (AA (iaA 1 vs t27) h fun t29 h=>AA (ldA h none t29) h fun t30 h=>A4 h 3 1 8 newslice6 t30 fun t33 h=>AA (binOp .add .num t27 (.int .i64 1)) h fun t34 h=>N [t33,t34] h)
     (J newslice6 h)) [v,.int .i64 0] h:=by
   intro v h1 hc
   refine AI (fun (J : AV -> H -> Prop)=>∀ v h',Cat h h' Ls.flatten.length Ls.flatten v -> J v h') (fun v h' c=>?_) fun J hJ=>?_
   ·refine hK v h' c.fr ⟨by rw [EV]; omega,?_⟩
    rcases c with ⟨h0,rfl,rfl⟩ | ⟨b,h0,rfl,hb,f,hg⟩
    ·exact .inl ⟨h0,rfl⟩
    ·exact .inr ⟨b,rfl,hb,by rw [hg,Nat.sub_self]; simp [zc]⟩
   have rs1:=rs.fr hc.fr
   rw [rs1.len,AB]
   refine AS (vl.length + 1) (fun k ls h2=>∃ (i : Nat) (v : AV),ls = [v,.int .i64 i] /\ i <= vl.length /\ Cat h h2 Ls.flatten.length (Ls.take i).flatten v /\ k = vl.length + 1 - i) ⟨0,v,rfl,by omega,by simpa using hc,rfl⟩ ?_
   rintro k ls h2 ⟨i,v,rfl,hi,hc,rfl⟩
   by_cases q : (i : Int) < vl.length
   ·have hi' : i < vl.length:=by omega
    obtain ⟨x,hx⟩ : ∃ x,vl[i]? = some x:=⟨vl[i],by simp [hi']⟩
    obtain ⟨L,hL⟩ : ∃ L,Ls[i]? = some L:=⟨Ls[i]'(by omega),by simp [show i < Ls.length by omega]⟩
    have rx:=(rr.2 i x L hx hL).fr hc.fr
    have en : IntKind.i64.wrap ((i : Int) + 1) = ((i + 1 : Nat) : Int):=by rw [A0 (by omega) (by omega)]; rfl
    simp only [BE,CJ,BO,AB,q,decide_true,AZ]
    refine (rs.fr hc.fr).get (x:=x) (by omega) (by omega) (by rw [Int.toNat_natCast]; exact hx) ?_
    have fs:=PW hL
    have fl:=VM Ls (i + 1)
    rw [fs,List.length_append] at fl
    refine UF hc rx.src fl hN fun v' h3 hc3=>?_
    rw [BS,en,AB]
    exact ⟨vl.length + 1 - (i + 1),by omega,i + 1,v',rfl,by omega,by rw [fs]; exact hc3,rfl⟩
   ·have : i = vl.length:=by omega
    subst this
    simp only [BE,CJ,BO,AB,q,decide_false,AO]
    rw [hlen,List.take_length] at hc
    exact hJ _ _ hc
  refine grow_c hN (fun h0=>go _ _ (.inl ⟨h0,rfl,rfl⟩)) fun h0 b hb=>go _ _ (.inr ⟨b,h0,rfl,hb,(Fr.refl _ _).set' hb,by rw [H.get_same]; simp [ic]⟩)
 ·
  rw [rs.len,AB]
  refine AS (vl.length + 1) (fun k ls h2=>∃ i : Nat,ls = [.int .i64 (Ls.take i).flatten.length,.int .i64 i] /\ i <= vl.length /\ h2 = h /\ k = vl.length + 1 - i) ⟨0,by simp,by omega,rfl,rfl⟩ ?_
  rintro k ls h2 ⟨i,rfl,hi,rfl,rfl⟩
  by_cases q : (i : Int) < vl.length
  ·have hi' : i < vl.length:=by omega
   obtain ⟨x,hx⟩ : ∃ x,vl[i]? = some x:=⟨vl[i],by simp [hi']⟩
   obtain ⟨L,hL⟩ : ∃ L,Ls[i]? = some L:=⟨Ls[i]'(by omega),by simp [show i < Ls.length by omega]⟩
   have rx:=rr.2 i x L hx hL
   have en : IntKind.i64.wrap ((i : Int) + 1) = ((i + 1 : Nat) : Int):=by rw [A0 (by omega) (by omega)]; rfl
   have fs:=PW hL
   have fl:=VM Ls (i + 1)
   rw [fs,List.length_append] at fl
   have ea : IntKind.i64.wrap (((Ls.take i).flatten.length : Int) + L.length) = ((Ls.take (i + 1)).flatten.length : Nat):=by
    rw [fs,List.length_append,A0 (by omega) (by omega)]; omega
   have q2 : ¬ (((Ls.take (i + 1)).flatten.length : Int) < 0):=by omega
   simp only [BE,CJ,BO,AB,q,decide_true,AZ]
   refine AI (fun (J : AV -> H -> Prop)=>∀ n,n = AV.int .i64 ((Ls.take (i + 1)).flatten.length : Nat) -> J n h2) (fun n hn=>?_) fun J hJ=>?_
   ·rw [BS,en,AB,hn]
    exact ⟨vl.length + 1 - (i + 1),by omega,i + 1,rfl,by omega,rfl,rfl⟩
   ·refine rs.get (x:=x) (by omega) (by omega) (by rw [Int.toNat_natCast]; exact hx) ?_
    rw [rx.len,AB,BS,ea,AB,BO,AB]
    simp only [q2,decide_false,AO]
    exact hJ _ rfl
  ·have : i = vl.length:=by omega
   subst this
   simp only [BE,CJ,BO,AB,q,decide_false,AO]
   rw [hlen,List.take_length]
   exact hJ
theorem OX {b n k : Nat} {cs : List AV} {e : Nat} {c : Cap} (hg : h.get b = some (.live cs e true)) {i : Int} (h0 : 0 <= i) (h1 : i < n) {x : AV} (hx : cs[k + i.toNat]? = some x) {K : AV -> H -> Prop} (hK : K x h) : AA (iaA 1 (.sl b k n c) (.int .i64 i)) h fun a h=>AA (ldA h none a) h K:=by
 have : iaA 1 (.sl b k n c) (.int .i64 i) = some (.ptr b (k + i.toNat * 1)):=by simp only [M0,h0,h1,and_self,if_true]
 rw [this,AB,E3,Nat.mul_one,AD hg,hx]
 exact hK
theorem S0 (K : AV -> H -> Prop) : DP PK 65 [.nilsl] h K = K .nilsl h:=by
 refine BR (XO ?_) K
 unfold sh65 zL
 simp only [go_sem,reduceIte,Int.reduceLT,and_self]
theorem WP {b : Nat} {L : List Int} (hg : h.get b = some (.live (ic L) 3 true)) (hn : L.length <= 4294967296) {K : AV -> H -> Prop} (hK : ∀ cs,cs.length = L.length - (cmp L).length -> leaves cs = true -> K (.sl b 0 (cmp L).length (.more 1)) (h.set b (.live (ic (cmp L) ++ cs) 3 true))) : DP PK 65 [.sl b 0 L.length (.more 1)] h K:=by
 refine XO ?_
 unfold sh65 zL
 rw [YD,AB,BO,AB]
 have hself : ∀ cs,ic L = cs -> h.set b (.live cs 3 true) = h:=fun cs e=>by
  apply H.ext'; intro k; rw [H.get_set]; split
  ·rename_i hk; rw [hk,hg,e]
  ·rfl
 have done : cmp L = L -> K (.sl b 0 L.length (.more 1)) h:=fun e=>by
  have:=hK [] (by rw [e]; simp) rfl
  rw [e,List.append_nil,hself _ rfl] at this
  exact this
 by_cases q : (L.length : Int) < 2
 ·simp only [q,decide_true,AZ]
  refine done ?_
  match L,q with
  | [],_=>rfl
  | [x],_=>rfl
  | x :: y :: l,q=>simp at q; omega
 ·simp only [q,decide_false,AO]
  refine AI (fun (J : H -> Prop)=>cmp L = L -> J h) done fun J hJ=>?_
  refine AS L.length (fun k ls h2=>∃ i : Nat,ls = [.int .i64 i] /\ 1 <= i /\ i <= L.length /\ cmp (L.take i) = L.take i /\ h2 = h /\ k = L.length + 1 - i) ⟨1,rfl,by omega,by omega,?_,rfl,by omega⟩ ?_
  ·match L,q with
   | [],q=>simp at q
   | x :: l,_=>simp [cmp,HH]
  rintro k ls h2 ⟨i,rfl,h1,hi,hc,rfl,rfl⟩
  rw [BE,AB,BO,AB]
  by_cases q : (i : Int) < L.length
  ·have hi' : i < L.length:=by omega
   obtain ⟨x,hx⟩ : ∃ x,L[i]? = some x:=⟨L[i],by simp [hi']⟩
   obtain ⟨y,hy⟩ : ∃ y,L[i - 1]? = some y:=⟨L[i - 1]'(by omega),by simp [show i - 1 < L.length by omega]⟩
   have hl : (L.take i).getLast? = some y:=by have:=PD hy; rwa [Nat.sub_add_cancel h1] at this
   have en : IntKind.i64.wrap ((i : Int) + 1) = ((i + 1 : Nat) : Int):=by rw [A0 (by omega) (by omega)]; rfl
   have ep : IntKind.i64.wrap ((i : Int) - 1) = ((i - 1 : Nat) : Int):=by rw [A0 (by omega) (by omega)]; omega
   simp only [q,decide_true,AZ]
   refine AI (fun (J : AV -> H -> Prop)=>cmp (L.take (i + 1)) = L.take (i + 1) -> J (.int .i64 i) h2) (fun hc=>?_) fun J2 hJ2=>?_
   ·rw [BS,en,AB]
    exact ⟨L.length + 1 - (i + 1),by omega,i + 1,rfl,by omega,by omega,hc,rfl,rfl⟩
   refine OX hg (by omega) (by omega) (x:=.int .i64 x) (by rw [Int.toNat_natCast,Nat.zero_add]; exact OA hx) ?_
   rw [JN,ep,AB]
   refine OX hg (by omega) (by omega) (x:=.int .i64 y) (by rw [Int.toNat_natCast,Nat.zero_add]; exact OA hy) ?_
   rw [S9,AB]
   by_cases z : x = y
   ·subst z
    simp only [decide_true,AZ]
    have s1 : B7 (.row 1) (.sl b 0 L.length (.more 1)) (some (.int .i64 i)) none none = some (.sl b i (L.length - i) (.more 1)):=by
     have a1 : (0 : Int) <= i:=by omega
     have a2 : i <= L.length:=hi
     simp [B7,Cap.fits,DH,loB,hiB,DR,within,Cap.less,a1,a2]
    rw [s1,AB]
    have e0 : cmp (L.take (i + 1)) = L.take i:=by rw [CO hx,S3 hl,hc]
    refine AI (fun (J : AV -> H -> Prop)=>∀ cs,cs.length = L.length - (cmp L).length -> J (.int .i64 (cmp L).length) (h2.set b (.live (ic (cmp L) ++ cs) 3 true))) (fun cs hcs=>?_) fun J3 hJ3=>?_
    ·have hle:=VQ L
     have a1 : (0 : Int) <= (cmp L).length:=by omega
     have s2 : B7 (.row 1) (.sl b 0 L.length (.more 1)) (some (.int .i64 (cmp L).length)) none none = some (.sl b (cmp L).length (L.length - (cmp L).length) (.more 1)):=by
      simp [B7,Cap.fits,DH,loB,hiB,DR,within,Cap.less,a1,hle]
     have s3 : B7 (.row 1) (.sl b 0 L.length (.more 1)) none (some (.int .i64 (cmp L).length)) none = some (.sl b 0 (cmp L).length (.more 1)):=by
      simp [B7,Cap.fits,DH,loB,hiB,DR,within,Cap.less,a1,hle]
     rw [s2,AB]
     unfold KP
     simp only
     split
     ·rename_i h0
      rw [s3,AB]
      have : cs = []:=List.eq_nil_of_length_eq_zero (by omega)
      exact hK cs hcs (by rw [this]; rfl)
     ·have hw:=JP (h:=h2.set b (.live (ic (cmp L) ++ cs) 3 true)) (b:=b) (e:=3) (pre:=ic (cmp L)) (cs:=cs) (vs:=zc (L.length - (cmp L).length)) (H.get_same ..) (by rw [zc,List.length_replicate]; omega) (FE _ _ _)
      rw [EV] at hw
      rw [F9]
      show AM ((h2.set b (.live (ic (cmp L) ++ cs) 3 true)).write b (cmp L).length (zc (L.length - (cmp L).length))) .undef _
      rw [hw,A3,s3,AB,LU,List.drop_eq_nil_of_le (by rw [zc,List.length_replicate]; omega),List.append_nil]
      exact hK _ (by rw [zc,List.length_replicate]) (FE _ _ _)
    refine AS L.length (fun k ls h3=>∃ j : Nat,ls = [.int .i64 (cmp (L.take (i + j))).length,.int .i64 j] /\ 1 <= j /\ i + j <= L.length /\ (cmp (L.take (i + j))).length + 1 <= i + j /\
     (∃ cs,h3 = h2.set b (.live cs 3 true) /\ cs.length = L.length /\ cs.take (cmp (L.take (i + j))).length = ic (cmp (L.take (i + j))) /\ ∀ k x,i + j - 1 <= k -> L[k]? = some x -> cs[k]? = some (.int .i64 x)) /\ k = L.length + 1 - j)
     ⟨1,?_,by omega,by omega,?_,⟨ic L,(hself _ rfl).symm,EV L,?_,fun k x _ hx=>OA hx⟩,rfl⟩ ?_
    ·rw [e0,List.length_take,Nat.min_eq_left hi]; rfl
    ·rw [e0,List.length_take,Nat.min_eq_left hi]; omega
    ·rw [e0,List.length_take,Nat.min_eq_left hi,ic_take]
    rintro k ls h3 ⟨j,rfl,j1,hj,jl,⟨cs,rfl,cl,ct,cr⟩,rfl⟩
    rw [BE,CJ,YD,AB,BO,AB]
    have gb : (h2.set b (.live cs 3 true)).get b = some (.live cs 3 true):=H.get_same ..
    by_cases q : (j : Int) < ((L.length - i : Nat) : Int)
    ·have hj' : i + j < L.length:=by omega
     obtain ⟨u,hu⟩ : ∃ u,L[i + j]? = some u:=⟨L[i + j],by simp [hj']⟩
     obtain ⟨w,hw⟩ : ∃ w,L[i + j - 1]? = some w:=⟨L[i + j - 1]'(by omega),by simp [show i + j - 1 < L.length by omega]⟩
     have ll : (L.take (i + j)).getLast? = some w:=by have:=PD hw; rwa [Nat.sub_add_cancel (by omega)] at this
     have en : IntKind.i64.wrap ((j : Int) + 1) = ((j + 1 : Nat) : Int):=by rw [A0 (by omega) (by omega)]; rfl
     have ep : IntKind.i64.wrap ((j : Int) - 1) = ((j - 1 : Nat) : Int):=by rw [A0 (by omega) (by omega)]; omega
     have ek : IntKind.i64.wrap (((cmp (L.take (i + j))).length : Int) + 1) = (((cmp (L.take (i + j))).length + 1 : Nat) : Int):=by rw [A0 (by omega) (by omega)]; rfl
     simp only [q,decide_true,AZ]
     refine AI (fun (J : AV -> H -> Prop)=>∀ h4,(cmp (L.take (i + j + 1))).length + 1 <= i + j + 1 -> (∃ cs,h4 = h2.set b (.live cs 3 true) /\ cs.length = L.length /\ cs.take (cmp (L.take (i + j + 1))).length = ic (cmp (L.take (i + j + 1))) /\ ∀ k x,i + j <= k -> L[k]? = some x -> cs[k]? = some (.int .i64 x)) -> J (.int .i64 (cmp (L.take (i + j + 1))).length) h4) (fun h4 l4 c4=>?_) fun J4 hJ4=>?_
     ·rw [BS,en,AB]
      exact ⟨L.length + 1 - (j + 1),by omega,j + 1,rfl,by omega,by omega,l4,c4,rfl⟩
     refine OX gb (by omega) (by omega) (x:=.int .i64 u) (by rw [Int.toNat_natCast]; exact cr _ _ (by omega) hu) ?_
     rw [JN,ep,AB]
     refine OX gb (by omega) (by omega) (x:=.int .i64 w) (by rw [Int.toNat_natCast,show i + (j - 1) = i + j - 1 by omega]; exact cr _ _ (by omega) hw) ?_
     rw [b_neq,AB]
     by_cases z : u = w
     ·subst z
      have e1 : cmp (L.take (i + j + 1)) = cmp (L.take (i + j)):=by rw [CO hu,S3 ll]
      simp only [ne_eq,not_true_eq_false,decide_false,AO]
      have:=hJ4 _ (by rw [e1]; omega) ⟨cs,rfl,cl,by rw [e1]; exact ct,fun k x hk=>cr k x (by omega)⟩
      rw [e1] at this; exact this
     ·have e1 : cmp (L.take (i + j + 1)) = cmp (L.take (i + j)) ++ [u]:=by
       rw [CO hu,P0 (by rw [ll]; intro h; injection h with h; exact z h.symm)]
      have e2 : (cmp (L.take (i + j + 1))).length = (cmp (L.take (i + j))).length + 1:=by rw [e1]; simp
      have hcl : (cmp (L.take (i + j))).length < L.length:=by omega
      simp only [ne_eq,z,not_false_eq_true,decide_true,AZ]
      refine OX gb (by omega) (by omega) (x:=.int .i64 u) (by rw [Int.toNat_natCast]; exact cr _ _ (by omega) hu) ?_
      have ia : iaA 1 (.sl b 0 L.length (.more 1)) (.int .i64 ((cmp (L.take (i + j))).length : Nat)) = some (.ptr b (cmp (L.take (i + j))).length):=by
       have a1 : (0 : Int) <= ((cmp (L.take (i + j))).length : Nat):=by omega
       have a2 : (((cmp (L.take (i + j))).length : Nat) : Int) < L.length:=by omega
       simp only [M0,a1,a2,and_self,if_true,Int.toNat_natCast,Nat.zero_add,Nat.mul_one]
      rw [ia,AB,st_one gb (by omega),A3,BS,ek,AB,<- e2]
      refine hJ4 _ (by omega) ⟨_,LU,by rw [List.length_set]; exact cl,?_,fun k x hk hx=>?_⟩
      ·rw [e2,List.take_add_one,List.take_set_of_le (Nat.le_refl _),ct,List.getElem?_set_self (by omega),e1,QS]
       rfl
      ·rw [List.getElem?_set_ne (by omega)]
       exact cr k x (by omega) hx
    ·have hjn : i + j = L.length:=by omega
     simp only [q,decide_false,AO]
     rw [hjn,List.take_length] at ct
     have hle:=VQ L
     rw [hjn,List.take_length]
     have:=hJ3 (cs.drop (cmp L).length) (by rw [List.length_drop]; omega)
     rw [<- ct,List.take_append_drop] at this
     exact this
   ·simp only [z,decide_false,AO]
    refine hJ2 ?_
    rw [CO hx,P0 (by rw [hl]; intro h; injection h with h; exact z h.symm),hc]
  ·have : i = L.length:=by omega
   subst this
   rw [List.take_length] at hc
   simp only [q,decide_false,AO]
   exact hJ hc
end
section
variable {h : H} {PK : H -> Prop}
theorem Own.base {h0 h1 : H} {ty esz : Nat} {v : AV} {n : Nat} {cs : List AV} (o : Own h1 h ty esz v n cs) (f : Fr [] h0 h1) : Own h0 h ty esz v n cs:=by
 refine ⟨o.1,?_⟩
 rcases o.2 with q | ⟨b,q1,q2,q3⟩
 ·exact .inl q
 ·exact .inr ⟨b,q1,f.free q2,q3⟩
theorem DG {b e n : Nat} {zs cs : List AV} (hb : h.get b = some (.live zs e true)) (hz : zs.length = n) (hl : cs.length = n) (hv : leaves cs = true) : stA h n (.ptr b 0) (.agg cs) = some (h.set b (.live cs e true)):=by
 have ec : (AV.agg cs).cells = cs:=rfl
 simp only [HY,ec,hl,if_true]
 have:=JP (pre:=[]) hb (by omega) hv
 rw [List.nil_append,List.drop_eq_nil_of_le (by omega),List.append_nil] at this
 exact this
theorem EH {b e n : Nat} {cs : List AV} {o : Bool} (hb : h.get b = some (.live cs e o)) (hl : cs.length = n) : ldA h (some n) (.ptr b 0) = some (.agg cs):=by
 refine CK (H.read_eq hb (by omega) ?_)
 rw [List.drop_zero,List.take_of_length_le (by omega)]
theorem sort_c {h0 : H} {v : AV} {L : List Int} (o : Own h0 h 3 1 v L.length (ic L)) (hn : L.length <= 4294967296) {K : AV -> H -> Prop} (h1 : v = .nilsl -> L = [] -> K (.tup []) h)
  (h2 : ∀ b,v = .sl b 0 L.length (.more 1) -> h0.get b = none -> K (.tup []) (h.set b (.live (ic (CG L)) 3 true))) : DP PK 64 [v] h K:=by
 have p1 : (64 : Nat) ≠ S1.must:=by decide
 have p2 : (64 : Nat) ≠ S1.hold:=by decide
 have p3 : S1.isLive 64 = false:=by rfl
 have p4 : S1.isSort 64 = true:=by rfl
 rcases o.2 with ⟨e,rfl⟩ | ⟨b,rfl,hb,hg⟩
 ·rw [show DP PK 64 [.nilsl] h K = K (.tup []) h from S6 p1 p2 p3 p4 K]
  exact h1 rfl (List.eq_nil_of_length_eq_zero e)
 ·by_cases hz : L.length = 0
  ·have : L = []:=List.eq_nil_of_length_eq_zero hz
   subst this
   refine JM p1 p2 (by rfl) fun m r=>?_
   unfold FL
   rw [p3]
   have e : h.set b (.live (ic (CG [])) 3 true) = h:=by
    apply H.ext'; intro k; rw [H.get_set]; split
    ·rename_i hk; rw [hk,hg,show CG [] = [] from List.eq_nil_of_length_eq_zero (GM [])]
    ·rfl
   have:=h2 b rfl hb
   rw [e] at this
   exact ⟨_,m,h,rfl,r,Keep.refl _ _,this⟩
  ·have hr : h.read b 0 L.length = some (ic L):=H.read_eq hg (by rw [EV]; omega) (by rw [List.drop_zero,List.take_of_length_le (by rw [EV]; omega)])
   have hi : ∀ L,JC (ic L) = some L:=by
    intro L
    induction L with
    | nil=>rfl
    | cons x L ih=>simp only [ic,List.map_cons,JC]; rw [show List.map (fun n=>AV.int .i64 n) L = ic L from rfl,ih]
   have hw : h.write b 0 ((CG L).map fun n=>.int .i64 n) = some (h.set b (.live (ic (CG L)) 3 true)):=by
    have:=JP (pre:=[]) (vs:=ic (CG L)) hg (by simp [ic,GM]) (GG _)
    rw [List.nil_append,List.drop_eq_nil_of_le (by simp [ic,GM]),List.append_nil] at this
    exact this
   rw [show DP PK 64 [.sl b 0 L.length (.more 1)] h K = K (.tup []) _ from UG p1 p2 p3 p4 hz (by omega) hr (hi L) hw K]
   exact h2 b rfl hb
def C4 (a b : Ty) : Ty:=⟨a.imm || b.imm,EU (a.sh ++ b.sh)⟩
theorem join_c {a b : Ty} {ca cb : List AV} (ra : tyR h a ca) (rb : tyR h b cb) (hl : a.sh.length + b.sh.length <= 4294967296) {K : AV -> H -> Prop} (hK : ∀ c h',Fr [] h h' -> tyR h' (C4 a b) c -> K (.agg c) h') : DP PK 21 [.agg ca,.agg cb] h K:=by
 refine runB21 ?_
 unfold sh21 zE zF
 refine FR ra fun p h1 f1 hp gp ra1=>?_
 refine FR (rb.fr f1) fun q h2 f2 hq gq rb1=>?_
 refine BH rfl fun t ht=>?_
 have f3 : Fr [] h2 (h2.set t (.live [.bool false,.nilsl] 46 true)):=(Fr.refl _ _).set' ht
 have gt : (h2.set t (.live [.bool false,.nilsl] 46 true)).get t = some (.live [.bool false,.nilsl] 46 true):=H.get_same ..
 generalize h2.set t (.live [.bool false,.nilsl] 46 true) = h3 at f3 gt
 obtain ⟨va,rfl,qa⟩:=(ra1.fr f2).fr f3
 obtain ⟨vb,rfl,qb⟩:=rb1.fr f3
 have gp:=f3 p _ (by simp) (f2 p _ (by simp) gp)
 have gq:=f3 q _ (by simp) gq
 have f : Fr [] h h3:=f1.trans (f2.trans f3)
 have cell : ∀ {h'},Fr [] h3 h' -> h'.cell p 0 = some (.bool a.imm) /\ h'.cell q 0 = some (.bool b.imm):=fun f'=>⟨by rw [AD (f' p _ (by simp) gp)]; rfl,by rw [AD (f' q _ (by simp) gq)]; rfl⟩
 refine BC (v:=va) (by rw [AD gp]; rfl) ?_
 refine BC (v:=vb) (by rw [AD gq]; rfl) ?_
 rw [VO qa.one.1 qa.one.2 qb.one.1 qb.one.2]
 refine VD (by simp [leaves,qa.one.1,qb.one.1]) rfl fun m h4 f4 rm=>?_
 have rr : RowsI h4 [va,vb] [a.sh,b.sh]:=⟨rfl,fun i v L h1 h2=>by
  match i with
  | 0=>simp at h1 h2; subst h1 h2; exact qa.fr f4
  | 1=>simp at h1 h2; subst h1 h2; exact qb.fr f4
  | i + 2=>simp at h1⟩
 have hN : [a.sh,b.sh].flatten.length <= 4294967296:=by simp; omega
 have hfl : [a.sh,b.sh].flatten = a.sh ++ b.sh:=by simp
 refine bI (vl:=[va,vb]) rm rr (by simp) hN fun v h5 f5 o5=>?_
 rw [hfl] at o5 hN
 have f4' : Fr [] h3 h5:=f4.trans f5
 have fin : ∀ (w : AV) (h6 : H),Fr [] h3 h6 -> Row h6 w (C4 a b).sh.length 1 (ic (C4 a b).sh) -> (∀ b off n c,w = .sl b off n c -> h3.get b = none) -> (AA (AT (AG [.bool false,.nilsl] [(0,1,.bool (a.imm || b.imm)),(1,1,w)])) h6 fun t22 h=>AM (stA h 2 (.ptr t 0) t22) .undef fun _ h=>AA (ldA h (some 2) (.ptr t 0)) h fun res x=>K res h):=by
  intro w h6 f6 rw6 hnw
  rw [VO rfl rfl rw6.one.1 rw6.one.2,S7,AB]
  have g6:=f6 t _ (by simp) gt
  have lv : leaves [.bool (a.imm || b.imm),w] = true:=by simp [leaves,rw6.one.1]; rfl
  rw [DG (n:=2) (cs:=[.bool (a.imm || b.imm),w]) g6 rfl rfl lv,A3,EH (n:=2) (cs:=[.bool (a.imm || b.imm),w]) (H.get_same ..) rfl,AB]
  have f7 : Fr [] h (h6.set t (.live [.bool (a.imm || b.imm),w] 46 true)):=by
   have ht0 : h.get t = none:=(f1.trans f2).free ht
   exact (f.trans f6).set' ht0
  refine hK _ _ f7 ⟨w,rfl,rw6.mono fun b' off cap ob e hg=>?_⟩
  have hbt : b' ≠ t:=fun e2=>by
   have:=hnw _ _ _ _ e
   rw [e2,gt] at this; cases this
  rw [H.get_other _ _ hbt]; exact hg
 have mid : ∀ (v : AV) (h6 : H),Fr [] h3 h6 -> (∀ K' : AV -> H -> Prop,(∀ w h7,Fr [] h3 h7 -> Row h7 w (C4 a b).sh.length 1 (ic (C4 a b).sh) -> (∀ b off n c,w = .sl b off n c -> h3.get b = none) -> K' w h7) -> DP AU 65 [v] h6 K') ->
   (AA (faA 0 (.ptr p 0)) h6 fun t14 h=>AA (ldA h none t14) h fun t15 h=>AH t15 false (fun K=>AA (faA 0 (.ptr q 0)) h K) h fun t17 h=>AH t15 false (fun K=>AA (ldA h none t17) h K) h fun t18 h=>
    AA (AE t15 (.bool true) t18) h fun t19 h=>DP AU 65 [v] h fun t21 h=>AY (GI t15 false (AA (ldA h none t17) h (fun v _=>v = t18))) <|
    AA (AT (AG [.bool false,.nilsl] [(0,1,t19),(1,1,t21)])) h fun t22 h=>AM (stA h 2 (.ptr t 0) t22) .undef fun _ h=>AA (ldA h (some 2) (.ptr t 0)) h fun res x=>K res h):=by
  intro v h6 f6 hc
  obtain ⟨c1,c2⟩:=cell f6
  refine BC c1 ?_
  cases hai : a.imm with
  | true=>
   rw [hai] at fin
   simp only [GJ,CT,if_true,AB,W1,LM]
   exact hc _ fun w h7 f7 r7 n7=>fin w h7 f7 r7 n7
  | false=>
   rw [hai] at fin
   simp only [GK,H8,AB,E3,Nat.zero_add,c2,CT,Bool.false_eq_true,if_false]
   refine hc _ fun w h7 f7 r7 n7=>?_
   obtain ⟨d1,d2⟩:=cell f7
   simp only [W2,d2,AB,LM]
   exact fin w h7 f7 r7 n7
 refine sort_c o5 hN (fun e eL=>?_) fun b5 e hb5=>?_
 ·subst e
  refine mid _ _ f4' fun K' hK'=>?_
  rw [S0]
  refine hK' _ _ f4' ?_ fun _ _ _ _ e=>by cases e
  have : (C4 a b).sh = []:=by show EU (a.sh ++ b.sh) = []; rw [eL]; rfl
  rw [this]; exact Row.nil _ _
 ·subst e
  have hb3 : h3.get b5 = none:=f4.free hb5
  refine mid _ _ (f4'.set' hb3) fun K' hK'=>?_
  have e1 : (AV.sl b5 0 (a.sh ++ b.sh).length (.more 1)) = .sl b5 0 (CG (a.sh ++ b.sh)).length (.more 1):=by rw [GM]
  rw [e1]
  refine WP (H.get_same ..) (by rw [GM]; exact hN) fun cs hcs lcs=>?_
  rw [LU]
  have e2 : cmp (CG (a.sh ++ b.sh)) = (C4 a b).sh:=WH _
  rw [e2]
  refine hK' _ _ (f4'.set' hb3) ⟨by rw [EV]; omega,.inr ⟨b5,0,_,rfl,rfl,H.read_eq (H.get_same ..) (by rw [List.length_append,EV]; omega) ?_⟩⟩ fun _ _ _ _ e=>by injection e with e; rw [<- e]; exact hb3
  rw [List.drop_zero,Nat.mul_one,<- EV,List.take_left]
end
section
variable {h : H} {PK : H -> Prop}
theorem OE (z x : Int) : AG [.int .i64 z] [(0,1,.int .i64 x)] = some [.int .i64 x]:=rfl
theorem O1 {h0 : H} {v : AV} {l : List Int} (o : Own h0 h 3 1 v l.length (ic l)) (f : Fr [] h0 h) (hl : l.length <= 4294967296) (x : Int) {K : AV -> H -> Prop} (hK : ∀ v' h',Own h0 h' 3 1 v' (l ++ [x]).length (ic (l ++ [x])) -> Fr [] h0 h' -> K v' h') :
  A5 h 3 1 (AG [.int .i64 0] [(0,1,.int .i64 x)]) fun t h=>A4 h 3 1 8 v t K:=by
 rw [OE]
 refine O0 o rfl (by omega) (GG l) rfl f (by unfold AQ; omega) fun v' h' o' f' _=>hK v' h' ?_ f'
 rw [List.length_append,QS]; exact o'
theorem WB (L : List Int) : (EU L).length <= L.length:=by
 have step : ∀ (s : Int) (l : List Int),(DD s l).1.length = l.length + (if (DD s l).2 then 1 else 0):=fun s l=>by
  refine FP (P:=fun l=>(DD s l).1.length = l.length + (if (DD s l).2 then 1 else 0)) rfl (fun M x ih=>?_) l
  rw [JU]
  unfold DM
  cases hp : (DD s M).2 <;> rw [hp] at ih
  ·by_cases q : s < x <;> simp [q] at ih ⊢ <;> omega
  ·simp at ih ⊢; omega
 refine FP (P:=fun L=>(EU L).length <= L.length) (Nat.le_refl _) (fun M x ih=>?_) L
 rw [KI]
 unfold JD
 have:=step x (EU M)
 split
 ·simp; omega
 ·split
  ·rename_i hp; rw [hp] at this; simp at this ⊢; omega
  ·rename_i hp; rw [if_neg hp] at this; simp at this ⊢; omega
theorem SM (s : Int) (l : List Int) : (DD s l).1.length <= l.length + 1:=by
 refine (FP (P:=fun l=>(DD s l).1.length = l.length + (if (DD s l).2 then 1 else 0)) rfl (fun M x ih=>?_) l) ▸ (by split <;> omega)
 rw [JU]
 unfold DM
 cases hp : (DD s M).2 <;> rw [hp] at ih
 ·by_cases q : s < x <;> simp [q] at ih ⊢ <;> omega
 ·simp at ih ⊢; omega
theorem TG {L : List Int} {i : Nat} {x : Int} (h : L[i]? = some x) : EU (L.take (i + 1)) = JD (EU (L.take i)) x:=by rw [CO h,KI]
theorem app_two {va vb : AV} {A B : List Int} (ra : Row h va A.length 1 (ic A)) (rb : Row h vb B.length 1 (ic B)) (hl : A.length + B.length <= 4294967296) {X : H -> H -> AV -> Prop} (hX : ∀ h1,Fr [] h h1 -> X h1 h1 vb) {K : AV -> H -> Prop}
  (hK : ∀ v h',Fr [] h h' -> Row h' v (A ++ B).length 1 (ic (A ++ B)) -> K v h') :
  A5 h 3 0 (AG [] []) fun t12 h=>A4 h 3 1 8 t12 va fun t15 h=>AY (X h h vb) <| A4 h 3 1 8 t15 vb K:=by
 rw [fillV_0]
 refine ⟨rfl,fun m hm=>?_⟩
 have f1 : Fr [] h (h.set m (.live [] 3 true)):=(Fr.refl _ _).set' hm
 have gm : (h.set m (.live [] 3 true)).get m = some (.live [] 3 true):=H.get_same ..
 generalize h.set m (.live [] 3 true) = h1 at f1 gm
 have e1:=(ra.fr f1).src
 have rm : ∀ {h'},Fr [] h1 h' -> Row h' (.sl m 0 0 (.exact 0)) 0 1 []:=fun f=>⟨by simp,.inr ⟨m,0,_,rfl,rfl,H.read_eq (f m _ (by simp) gm) (by simp) (by simp)⟩⟩
 have lit : ∀ {h2 : H} {y : AV} {M : List Int} (K : AV -> H -> Prop),Fr [] h h2 -> Fr [] h1 h2 -> KV h2 1 y = some (M.length,ic M) -> M.length <= 4294967296 -> (M = [] -> K (.sl m 0 0 (.exact 0)) h2) -> (∀ v h',Fr [] h2 h' -> Own h h' 3 1 v M.length (ic M) -> K v h') -> A4 h2 3 1 8 (.sl m 0 0 (.exact 0)) y K:=by
  intro h2 y M K f f' hy hM k0 k1
  unfold A4
  rw [hy]
  simp only
  by_cases q : M.length = 0
  ·rw [if_pos q]; exact k0 (List.eq_nil_of_length_eq_zero q)
  ·rw [if_neg q,if_neg (by omega)]
   refine ⟨by unfold AQ; omega,?_⟩
   have : h2.read m 0 (0 * 1) = some []:=H.read_eq (f' m _ (by simp) gm) (by simp) (by simp)
   rw [this]
   refine ⟨by simpa using GG M,fun b hb=>?_⟩
   refine k1 _ _ ((Fr.refl _ _).set' hb) ⟨by rw [EV]; omega,.inr ⟨b,by simp,f.free hb,by rw [H.get_same]; simp⟩⟩
 refine lit _ f1 (Fr.refl _ _) e1 (by omega) (fun eA=>?_) fun v h2 f2 o2=>?_
 ·refine ⟨hX _ f1,?_⟩
  subst eA
  refine lit _ f1 (Fr.refl _ _) (rb.fr f1).src (by omega) (fun eB=>?_) fun v h3 f3 o3=>?_
  ·subst eB; exact hK _ _ f1 (rm (Fr.refl _ _))
  ·exact hK _ _ (f1.trans f3) o3.row
 ·have f:=f1.trans f2
  refine ⟨hX _ f,?_⟩
  refine OZ o2 (rb.fr f).src (by rw [EV]; omega) (by omega) (GG A) (GG B) f (by unfold AQ; omega) fun v' h3 o3 f3 _=>?_
  rw [<- QS,<- List.length_append] at o3
  exact hK _ _ f3 o3.row
theorem rjoin_c {a b : Ty} {ca cb : List AV} (ra : tyR h a ca) (rb : tyR h b cb) (hl : a.sh.length + b.sh.length <= 2147483648) {K : AV -> H -> Prop} (hK : ∀ c h',Fr [] h h' -> tyR h' (C4 a b) c -> K (.agg c) h') : DP PK 22 [.agg ca,.agg cb] h K:=by
 refine runB22 ?_
 unfold sh22 zL zT zU zF zH
 refine FR ra fun p h1 f1 hp gp ra1=>?_
 refine FR (rb.fr f1) fun q h2 f2 hq gq rb1=>?_
 refine BH rfl fun t ht=>?_
 have f3 : Fr [] h2 (h2.set t (.live [.bool false,.nilsl] 46 true)):=(Fr.refl _ _).set' ht
 have gt : (h2.set t (.live [.bool false,.nilsl] 46 true)).get t = some (.live [.bool false,.nilsl] 46 true):=H.get_same ..
 generalize h2.set t (.live [.bool false,.nilsl] 46 true) = h3 at f3 gt
 obtain ⟨va,rfl,qa⟩:=(ra1.fr f2).fr f3
 obtain ⟨vb,rfl,qb⟩:=rb1.fr f3
 have gp:=f3 p _ (by simp) (f2 p _ (by simp) gp)
 have gq:=f3 q _ (by simp) gq
 have f : Fr [] h h3:=f1.trans (f2.trans f3)
 have ht0 : h.get t = none:=(f1.trans f2).free ht
 have cell : ∀ {h'},Fr [] h3 h' -> h'.cell p 0 = some (.bool a.imm) /\ h'.cell q 0 = some (.bool b.imm):=fun f'=>⟨by rw [AD (f' p _ (by simp) gp)]; rfl,by rw [AD (f' q _ (by simp) gq)]; rfl⟩
 refine AI (fun (J : AV -> H -> Prop)=>∀ w h6,Fr [] h3 h6 -> Own h3 h6 3 1 w (C4 a b).sh.length (ic (C4 a b).sh) -> J w h6) (fun w h6 f6 o6=>?_) fun J hJ=>?_
 ·obtain ⟨c1,c2⟩:=cell f6
  refine BC c1 ?_
  have g6:=f6 t _ (by simp) gt
  have lv : leaves [.bool (a.imm || b.imm),w] = true:=by simp [leaves,o6.row.one.1]; rfl
  have fin : AA (AT (AG [.bool false,.nilsl] [(0,1,.bool (a.imm || b.imm)),(1,1,w)])) h6 fun t22 h=>AM (stA h 2 (.ptr t 0) t22) .undef fun _ h=>AA (ldA h (some 2) (.ptr t 0)) h fun res x=>K res h:=by
   rw [VO rfl rfl o6.row.one.1 o6.row.one.2,S7,AB]
   rw [DG (n:=2) (cs:=[.bool (a.imm || b.imm),w]) g6 rfl rfl lv,A3,EH (n:=2) (cs:=[.bool (a.imm || b.imm),w]) (H.get_same ..) rfl,AB]
   refine hK _ _ ((f.trans f6).set' ht0) ⟨w,rfl,o6.row.mono fun b' off cap ob e hg=>?_⟩
   have hbt : b' ≠ t:=fun e2=>by
    rcases o6.2 with ⟨_,e3⟩ | ⟨b2,e3,hb2,_⟩
    ·rw [e3] at e; cases e
    ·rw [e3] at e; injection e with e; rw [e,e2,gt] at hb2; cases hb2
   rw [H.get_other _ _ hbt]; exact hg
  cases hai : a.imm with
  | true=>
   rw [hai] at fin
   simp only [GJ,CT,if_true,AB]
   exact fin
  | false=>
   rw [hai] at fin
   simp only [GK,H8,AB,E3,Nat.zero_add,c2,CT,Bool.false_eq_true,if_false]
   exact fin
 refine BC (v:=va) (by rw [AD gp]; rfl) ?_
 rw [H8,AB,E3,Nat.zero_add]
 have cq1 : ∀ {h'},Fr [] h3 h' -> h'.cell q 1 = some vb:=fun f'=>by rw [AD (f' q _ (by simp) gq)]; rfl
 rw [cq1 (Fr.refl _ _),AB]
 refine app_two qa qb (by omega) (X:=fun h h' v=>AA (ldA h none (.ptr q (1))) h' (fun u _=>u = v)) (fun h4 f4=>by rw [E3,cq1 f4,AB]) fun v h4 f4 rv=>?_
 rw [rv.len,AB]
 have hr : reachBytes <= 4611686018427387903:=by decide
 have hrb : 2147483648 <= reachBytes:=by decide
 have hN : (a.sh ++ b.sh).length <= 2147483648:=by rw [List.length_append]; exact hl
 refine AS ((a.sh ++ b.sh).length + 1) (fun k ls h5=>∃ (i : Nat) (w : AV),ls = [w,.int .i64 i] /\ i <= (a.sh ++ b.sh).length /\ Fr [] h4 h5 /\ Own h3 h5 3 1 w (EU ((a.sh ++ b.sh).take i)).length (ic (EU ((a.sh ++ b.sh).take i))) /\ k = (a.sh ++ b.sh).length + 1 - i)
  ⟨0,.nilsl,rfl,by omega,Fr.refl _ _,Own.nil _ _ _ _,rfl⟩ ?_
 rintro k ls h5 ⟨i,w,rfl,hi,f5,ow,rfl⟩
 by_cases qi : (i : Int) < (a.sh ++ b.sh).length
 ·have hi' : i < (a.sh ++ b.sh).length:=by omega
  obtain ⟨x,hx⟩ : ∃ x,(a.sh ++ b.sh)[i]? = some x:=⟨(a.sh ++ b.sh)[i],by simp [hi']⟩
  have en : IntKind.i64.wrap ((i : Int) + 1) = ((i + 1 : Nat) : Int):=by rw [A0 (by omega) (by omega)]; rfl
  simp only [BE,CJ,BO,AB,qi,decide_true,AZ]
  have el:=TG hx
  generalize hM : EU ((a.sh ++ b.sh).take i) = M at ow el
  have hMl : M.length <= 2147483648:=by rw [<- hM]; have:=WB ((a.sh ++ b.sh).take i); rw [List.length_take] at this; omega
  refine AI (fun (J : AV -> H -> Prop)=>∀ w h6,Fr [] h4 h6 -> Own h3 h6 3 1 w (JD M x).length (ic (JD M x)) -> J w h6) (fun w h6 f6 o6=>?_) fun J2 hJ2=>?_
  ·rw [BS,en,AB]
   refine ⟨(a.sh ++ b.sh).length + 1 - (i + 1),by omega,i + 1,w,rfl,by omega,f6,?_,rfl⟩
   rw [el]; exact o6
  refine (rv.fr f5).get (x:=.int .i64 x) (by omega) (by omega) (by rw [Int.toNat_natCast]; exact OA hx) ?_
  rw [VK ow.row (by omega)]
  by_cases hm : x ∈ M
  ·have eu : JD M x = M:=by unfold JD; rw [if_pos hm]
   simp only [decide_eq_true hm,AZ]
   exact hJ2 _ _ f5 (by rw [eu]; exact ow)
  ·simp only [decide_eq_false hm,AO]
   refine AI (fun (J : AV -> AV -> H -> Prop)=>∀ nv h6,Own h5 h6 3 1 nv (DD x M).1.length (ic (DD x M).1) -> Fr [] h5 h6 -> J nv (.bool (DD x M).2) h6) (fun nv h6 o6 f6=>?_) fun J3 hJ3=>?_
   ·refine AI (fun (J : AV -> H -> Prop)=>∀ w h7,Fr [] h4 h7 -> Own h3 h7 3 1 w (JD M x).length (ic (JD M x)) -> J w h7) (fun w h7=>hJ2 w h7) fun J4 hJ4=>?_
    rw [RK,AB]
    have hil:=SM x M
    cases hp : (DD x M).2 with
    | true=>
     have eu : JD M x = (DD x M).1:=by unfold JD; rw [if_neg hm,hp]; rfl
     simp only [Bool.not_true,AO]
     exact hJ4 _ _ (f5.trans f6) (by rw [eu]; exact o6.base ((f4.trans f5)))
    | false=>
     have eu : JD M x = (DD x M).1 ++ [x]:=by unfold JD; rw [if_neg hm,hp]; rfl
     simp only [Bool.not_false,AZ]
     refine O1 o6 f6 (by omega) x fun v' h7 o7 f7=>?_
     exact hJ4 _ _ (f5.trans f7) (by rw [eu]; exact o7.base (f4.trans f5))
   rw [ow.row.len,AB]
   refine AS (M.length + 1) (fun k ls h6=>∃ (j : Nat) (nv : AV),ls = [nv,.bool (DD x (M.take j)).2,.int .i64 j] /\ j <= M.length /\ Fr [] h5 h6 /\ Own h5 h6 3 1 nv (DD x (M.take j)).1.length (ic (DD x (M.take j)).1) /\ k = M.length + 1 - j)
    ⟨0,.nilsl,rfl,by omega,Fr.refl _ _,Own.nil _ _ _ _,rfl⟩ ?_
   rintro k ls h6 ⟨j,nv,rfl,hj,f6,o6,rfl⟩
   by_cases qj : (j : Int) < M.length
   ·have hj' : j < M.length:=by omega
    obtain ⟨y,hy⟩ : ∃ y,M[j]? = some y:=⟨M[j],by simp [hj']⟩
    have ej : IntKind.i64.wrap ((j : Int) + 1) = ((j + 1 : Nat) : Int):=by rw [A0 (by omega) (by omega)]; rfl
    have es : DD x (M.take (j + 1)) = DM x (DD x (M.take j)) y:=by rw [CO hy,JU]
    have hil:=SM x (M.take j)
    rw [List.length_take] at hil
    generalize hP : DD x (M.take j) = P at o6 es hil
    obtain ⟨N,d⟩:=P
    simp only at o6 hil
    simp only [BE,CJ,bW,BO,AB,qj,decide_true,AZ]
    refine (ow.row.fr f6).get (x:=.int .i64 y) (by omega) (by omega) (by rw [Int.toNat_natCast]; exact OA hy) ?_
    refine AI (fun (J : AV -> AV -> H -> Prop)=>∀ nv h7 N2 d2,DM x (N,d) y = (N2 ++ [y],d2) -> N2.length <= M.length + 1 -> Own h5 h7 3 1 nv N2.length (ic N2) -> Fr [] h5 h7 -> J nv (.bool d2) h7) (fun nv h7 N2 d2 e2 l2 o7 f7=>?_) fun J4 hJ4=>?_
    ·refine O1 o7 f7 (by omega) y fun v' h8 o8 f8=>?_
     rw [BS,ej,AB]
     refine ⟨M.length + 1 - (j + 1),by omega,j + 1,v',?_,by omega,f8,?_,rfl⟩
     ·rw [es,e2]
     ·rw [es,e2]; exact o8
    rw [RK,AB]
    cases d with
    | true=>
     simp only [Bool.not_true,RH,CT,Bool.false_eq_true,if_false,AB,AO]
     exact hJ4 _ _ N true (by simp [DM]) (by omega) o6 f6
    | false=>
     simp only [Bool.not_false,RG,BO,AB,CT,if_true]
     by_cases z : x < y
     ·simp only [z,decide_true,AZ]
      refine O1 o6 f6 (by omega) x fun v' h8 o8 f8=>?_
      exact hJ4 _ _ (N ++ [x]) true (by simp [DM,z]) (by simp; omega) o8 f8
     ·simp only [z,decide_false,AO]
      exact hJ4 _ _ N false (by simp [DM,z]) (by omega) o6 f6
   ·have : j = M.length:=by omega
    subst this
    simp only [BE,CJ,bW,BO,AB,qj,decide_false,AO]
    rw [List.take_length] at o6 ⊢
    exact hJ3 _ _ o6 f6
 ·have : i = (a.sh ++ b.sh).length:=by omega
  subst this
  simp only [BE,CJ,BO,AB,qi,decide_false,AO]
  rw [List.take_length] at ow
  exact hJ _ _ (f4.trans f5) ow
end
def G1 (s : List UInt8) : Bool:=decide (16384 < (s.length : Int))
def IX (t : Ty) : Bool:=decide (512 < (t.sh.length : Int))
def FY (s : Shp) : Bool:=decide (200 < (s.fs.length : Int)) || decide (16384 < (s.name.length : Int))
def IV (x : Ins) : Bool:=(decide (1024 < (x.l.length : Int)) || decide (1024 < (x.m.length : Int))) || decide (200 < (x.live.length : Int))
def D4 : Int -> List Blk -> Bool × Int
 | n,[]=>(false,n)
 | n,b :: l=>if (decide (20000 < n + b.code.length) || decide (200 < (b.inn.length : Int))) || b.code.any IV then (true,n) else D4 (n + b.code.length) l
def DV : Int -> List Fn -> Bool
 | _,[]=>false
 | n,f :: l=>if (decide (200 < f.slots) || decide (200 < (f.params.length : Int))) || decide (2000 < (f.blocks.length : Int)) then true else (D4 n f.blocks).1 || DV (D4 n f.blocks).2 l
def HR (m : Img) : Bool:=(((decide (1024 < (m.types.length : Int)) || decide (512 < (m.shapes.length : Int))) || decide (256 < (m.strs.length : Int))) || decide (256 < (m.names.length : Int))) || decide (1024 < (m.fns.length : Int))
def MP (m : Img) : Bool:=HR m || (m.strs.any G1 || (m.names.any G1 || (m.types.any IX || (m.shapes.any FY || DV 0 m.fns))))
section
variable {h : H}
theorem bS {x : Ins} {c : List AV} {d : Nat} (hd : h.get d = some (.live c 55 true)) (r : insR h x c) {K : AV -> H -> Prop} (hK : ∀ h',Fr [] h h' -> K (.bool (IV x)) h') :
  AA (faA 6 (.ptr d 0)) h fun t127 h=>AA (ldA h none t127) h fun t128 h=>AA (faA 7 (.ptr d 0)) h fun t129 h=>AA (ldA h none t129) h fun t130 h=>
  A5 h 36 2 (AG [.nilsl,.nilsl] [(0,1,t128),(1,1,t130)]) fun t131 h=>C 137 [(.int .i64 1024),t131] h fun t132 h=>
  AH t132 false (fun K=>AA (faA 8 (.ptr d 0)) h K) h fun t134 h=>AH t132 false (fun K=>AA (ldA h none t134) h K) h fun t135 h=>
  AH t132 false (fun K=>A5 h 36 1 (AG [.nilsl] [(0,1,t135)]) K) h fun t136 h=>AH t132 false (fun K=>C 137 [(.int .i64 200),t136] h K) h fun t137 h=>
  AA (AE t132 (.bool true) t137) h fun t138 h=>K t138 h:=by
 obtain ⟨vl,vm,vv,rfl,q1,q2,q3⟩:=r
 have cd : ∀ o v,(IM x vl vm vv)[o]? = some v -> h.cell d o = some v:=fun o v e=>by rw [AD hd]; exact e
 refine BC (cd 6 _ rfl) (BC (cd 7 _ rfl) ?_)
 refine U6 H2 q1.one q2.one q1.len q2.len fun h1 f1=>?_
 have cd1:=VU f1 (cd 8 _ rfl)
 refine ML H2 cd1 q3.one (q3.fr f1).len fun h2 f2=>?_
 exact hK h2 (f1.trans f2)
set_option maxHeartbeats 1000000 in
theorem big_c {m : Img} {c : List AV} (r : imgR h m c) (ok : m.ok) {K : AV -> H -> Prop} (hK : ∀ h',Fr [] h h' -> K (.bool (MP m)) h') : C 87 [.agg c] h K:=by
 refine run87 ?_
 have hl:=r.leaves
 have ec : (AV.agg c).cells = c:=rfl
 obtain ⟨⟨k1,k1'⟩,⟨k2,k2'⟩,⟨k3,k3'⟩,⟨k4,k4'⟩,⟨k5,k5'⟩,_⟩:=ok
 unfold sh87 zF zH
 rw [ec]
 refine BH hl fun b hb=>?_
 have f : Fr [] h (h.set b (.live c 28 true)):=(Fr.refl _ _).set' hb
 have gb : (h.set b (.live c 28 true)).get b = some (.live c 28 true):=H.get_same ..
 have r1:=r.fr f
 generalize h.set b (.live c 28 true) = h1 at *
 obtain ⟨vt,vs,vx,vn,vf,rfl,r1,r2,r3,r4,r5⟩:=r1
 have cb : ∀ {h2},Fr [] h1 h2 -> ∀ o v,([vt,vs,vx,vn,vf,AV.int .i64 m.main,.int .i64 m.exn] : List AV)[o]? = some v -> h2.cell b o = some v:=fun f2 o v e=>by rw [AD (f2 b _ (by simp) gb)]; exact e
 refine BC (cb (Fr.refl _ _) 0 _ rfl) ?_
 refine ND X3 r1.one r1.len fun h2 f2=>?_
 refine ML X2 (cb f2 1 _ rfl) r2.one r2.len fun h3 f3=>?_
 have f13:=f2.trans f3
 refine chunkO2 X1 (cb f13 2 _ rfl) (cb f13 3 _ rfl) r3.one r4.one r3.len r4.len fun h4 f4=>?_
 have f14:=f13.trans f4
 refine ML X0 (cb f14 4 _ rfl) r5.one r5.len fun h5 f5=>?_
 have f15:=f14.trans f5
 refine bJ (cb f15 2 _ rfl) ((HW r3).fr f15) k3 ?_
 refine bJ (cb f15 3 _ rfl) ((HW r4).fr f15) k4 ?_
 have eT : (((((decide (1024 < (m.types.length : Int)) || decide (512 < (m.shapes.length : Int))) || (decide (256 < (m.strs.length : Int)) || decide (256 < (m.names.length : Int)))) || decide (1024 < (m.fns.length : Int))) || m.strs.any fun s=>decide (16384 < (s.length : Int))) || m.names.any fun s=>decide (16384 < (s.length : Int))) =
   (HR m || (m.strs.any G1 || m.names.any G1)):=by
  unfold HR
  show ((_ || m.strs.any G1) || m.names.any G1) = _
  simp only [Bool.or_assoc]
 rw [eT]
 have eN : MP m = ((HR m || (m.strs.any G1 || m.names.any G1)) || (m.types.any IX || (m.shapes.any FY || DV 0 m.fns))):=by unfold MP; simp only [Bool.or_assoc]
 rw [eN] at hK
 cases hT : (HR m || (m.strs.any G1 || m.names.any G1)) with
 | true=>
  rw [hT,Bool.true_or] at hK
  rw [AZ]
  exact hK h5 (f.trans f15)
 | false=>
  rw [hT,Bool.false_or] at hK
  rw [AO]
  clear hT eT eN
  refine AI (fun (J : H -> Prop)=>∀ h',Fr [] h1 h' -> m.types.any IX = false -> J h') ?_ fun J hJ=>?_
  ·intro h6 f16 hty
   rw [hty,Bool.false_or] at hK
   refine AI (fun (J : H -> Prop)=>∀ h',Fr [] h1 h' -> m.shapes.any FY = false -> J h') ?_ fun J hJ=>?_
   ·intro h7 f17 hsh
    rw [hsh,Bool.false_or] at hK
    refine AI (fun (J : H -> Prop)=>∀ h',Fr [] h1 h' -> DV 0 m.fns = false -> J h') (fun h' f' e=>by have:=hK h' (f.trans f'); rw [e] at this; exact this) fun J hJ=>?_
    refine BC (cb f17 4 _ rfl) ?_
    rw [r5.len,AB]
    refine AS (m.fns.length + 1) (fun k ls h2=>∃ (i : Nat) (n : Int),ls = [.int .i64 (20000 - n),.int .i64 i] /\ i <= m.fns.length /\ 0 <= n /\ n <= 20000 /\ Fr [] h1 h2 /\ DV 0 m.fns = DV n (m.fns.drop i) /\ k = m.fns.length + 1 - i) ⟨0,0,rfl,by omega,by omega,by omega,f17,rfl,rfl⟩ ?_
    rintro k ls h8 ⟨i,n,rfl,hi,n0,n1,f18,hbf,rfl⟩
    have hr : reachBytes <= 4611686018427387903:=by decide
    by_cases q : (i : Int) < m.fns.length
    ·have hi' : i < m.fns.length:=by omega
     obtain ⟨x,hx⟩ : ∃ x,m.fns[i]? = some x:=⟨m.fns[i],by simp [hi']⟩
     have hd : m.fns.drop i = x :: m.fns.drop (i + 1):=by
      rw [List.drop_eq_getElem_cons hi']; congr 1
      rw [List.getElem?_eq_getElem hi'] at hx; injection hx
     rw [hd,DV] at hbf
     obtain ⟨o1,o2,o3,o4,o5⟩:=k5' x (List.mem_of_getElem? hx)
     obtain ⟨bo,o,c,e1,e2,e3,e4,e5⟩:=(r5.mono f18 fun _ _ _ z=>z.fr f18).el hx
     have en : IntKind.i64.wrap ((i : Int) + 1) = ((i + 1 : Nat) : Int):=by rw [A0 (by omega) (by omega)]; rfl
     simp only [BE,CJ,BO,AB,q,decide_true,AZ,AJ,e1,CK e4]
     refine BH rfl fun d hdd=>?_
     rw [HG e3 rfl e2.leaves,A3]
     have fd : Fr [] h8 (h8.set d (.live c 39 true)):=(Fr.refl _ _).set' hdd
     have gd : (h8.set d (.live c 39 true)).get d = some (.live c 39 true):=H.get_same ..
     have f19:=f18.trans fd
     have e2':=e2.fr fd
     generalize h8.set d (.live c 39 true) = h9 at *
     obtain ⟨vp,vb,rfl,q1,q2⟩:=e2'
     have cd : ∀ {h3},Fr [] h9 h3 -> ∀ o w,([vp,AV.int .i64 x.result,.int .i64 x.slots,vb] : List AV)[o]? = some w -> h3.cell d o = some w:=fun f3 o w e=>by rw [AD (f3 d _ (by simp) gd)]; exact e
     refine BC (cd (Fr.refl _ _) 2 _ rfl) ?_
     rw [J9,AB]
     refine ML H2 (cd (Fr.refl _ _) 0 _ rfl) q1.one q1.len fun h10 f10=>?_
     refine ML XZ (cd f10 3 _ rfl) q2.one q2.len fun h11 f11=>?_
     have f911:=f10.trans f11
     cases hp : ((decide (200 < x.slots) || decide (200 < (x.params.length : Int))) || decide (2000 < (x.blocks.length : Int))) with
     | true=>
      rw [hp,if_pos rfl] at hbf
      rw [hbf] at hK
      rw [AZ]
      exact hK h11 (f.trans (f19.trans f911))
     | false=>
      rw [hp,if_neg (by decide)] at hbf
      rw [AO]
      refine BC (cd f911 3 _ rfl) ?_
      rw [q2.len,AB]
      refine AS (x.blocks.length + 1) (fun k ls h2=>∃ (j : Nat) (n' : Int),ls = [.int .i64 (20000 - n'),.int .i64 j] /\ j <= x.blocks.length /\ 0 <= n' /\ n' <= 20000 /\ Fr [] h9 h2 /\ D4 n x.blocks = D4 n' (x.blocks.drop j) /\ k = x.blocks.length + 1 - j) ⟨0,n,rfl,by omega,n0,n1,f911,rfl,rfl⟩ ?_
      rintro k ls h12 ⟨j,n',rfl,hj,n0',n1',f912,hbb,rfl⟩
      by_cases q' : (j : Int) < x.blocks.length
      ·have hj' : j < x.blocks.length:=by omega
       obtain ⟨y,hy⟩ : ∃ y,x.blocks[j]? = some y:=⟨x.blocks[j],by simp [hj']⟩
       have hd2 : x.blocks.drop j = y :: x.blocks.drop (j + 1):=by
        rw [List.drop_eq_getElem_cons hj']; congr 1
        rw [List.getElem?_eq_getElem hj'] at hy; injection hy
       rw [hd2,D4] at hbb
       obtain ⟨p1,p2,p3⟩:=o5 y (List.mem_of_getElem? hy)
       obtain ⟨bo2,oo2,c2,e1',e2',e3',e4',e5'⟩:=(q2.mono f912 fun _ _ _ z=>z.fr f912).el hy
       have en2 : IntKind.i64.wrap ((j : Int) + 1) = ((j + 1 : Nat) : Int):=by rw [A0 (by omega) (by omega)]; rfl
       simp only [BE,CJ,BO,AB,q',decide_true,AZ,e1',CK e4']
       refine BH rfl fun d2 hdd2=>?_
       rw [HG e3' rfl e2'.leaves,A3]
       have fd2 : Fr [] h12 (h12.set d2 (.live c2 42 true)):=(Fr.refl _ _).set' hdd2
       have gd2 : (h12.set d2 (.live c2 42 true)).get d2 = some (.live c2 42 true):=H.get_same ..
       have f913:=f912.trans fd2
       have e2'':=e2'.fr fd2
       generalize h12.set d2 (.live c2 42 true) = h13 at *
       obtain ⟨vi,vc,rfl,q3,q4⟩:=e2''
       have cd2 : ∀ {h3},Fr [] h13 h3 -> ∀ o w,([vi,vc] : List AV)[o]? = some w -> h3.cell d2 o = some w:=fun f3 o w e=>by rw [AD (f3 d2 _ (by simp) gd2)]; exact e
       have es : IntKind.i64.wrap (20000 - n' - (y.code.length : Int)) = 20000 - (n' + y.code.length):=by rw [A0 (by omega) (by omega)]; omega
       have el : decide ((20000 : Int) - (n' + y.code.length) < 0) = decide (20000 < n' + (y.code.length : Int)):=by
        rw [decide_eq_decide]; omega
       refine BC (cd2 (Fr.refl _ _) 1 _ rfl) ?_
       rw [q4.len,AB,JN,AB,es,BO,AB,el]
       refine ML H2 (cd2 (Fr.refl _ _) 0 _ rfl) q3.one q3.len fun h14 f14'=>?_
       cases hp2 : (decide (20000 < n' + (y.code.length : Int)) || decide (200 < (y.inn.length : Int))) with
       | true=>
        rw [hp2,Bool.true_or,if_pos rfl] at hbb
        rw [hbb,Bool.true_or] at hbf
        rw [hbf] at hK
        rw [AZ]
        exact hK h14 (f.trans (f19.trans (f913.trans f14')))
       | false=>
        rw [hp2,Bool.false_or] at hbb
        simp only [Bool.or_eq_false_iff,decide_eq_false_iff_not] at hp2
        rw [AO]
        refine BC (cd2 f14' 1 _ rfl) ?_
        rw [q4.len,AB]
        refine GO (esz:=9) (ty:=55) (zs:=[.int .i64 0,.int .i64 0,.int .i64 0,.int .i64 0,.int .i64 0,.int .i64 0,.nilsl,.nilsl,.nilsl]) (lv:=vc) (Rel:=insR) (P:=IV) (X:=K (.bool true)) (fun f r=>r.fr f) (fun r=>r.leaves) rfl rfl (q4.mono f14' fun _ _ _ z=>z.fr f14') p2
         (fun h2 f2 e=>?_) (fun h2 f2 e=>?_) fun N i' z hz en3 h2 d3 c3 f2 gd3 rr hcl hN hX=>?_
        ·rw [e,if_pos rfl] at hbb
         rw [hbb,Bool.true_or] at hbf
         rw [hbf] at hK
         exact hK h2 (f.trans (f19.trans ((f913.trans f14').trans f2)))
        ·rw [e,if_neg (by decide)] at hbb
         rw [BS,AB,en2]
         exact ⟨x.blocks.length + 1 - (j + 1),by omega,j + 1,n' + y.code.length,rfl,by omega,by omega,by omega,(f913.trans f14').trans f2,hbb,rfl⟩
        ·refine bS gd3 rr fun h3 f3=>?_
         cases hp3 : IV z with
         | true=>rw [AZ]; exact hX h3 f3 hp3
         | false=>rw [AO,BS,AB,en3]; exact hN h3 f3 hp3
      ·have : x.blocks.drop j = []:=List.drop_eq_nil_of_le (by omega)
       rw [this,D4] at hbb
       rw [hbb,Bool.false_or] at hbf
       simp only [BE,CJ,BO,AB,q',decide_false,AO,BS,en]
       exact ⟨m.fns.length + 1 - (i + 1),by omega,i + 1,n',rfl,by omega,n0',n1',f19.trans f912,hbf,rfl⟩
    ·have : m.fns.drop i = []:=List.drop_eq_nil_of_le (by omega)
     rw [this,DV] at hbf
     simp only [BE,CJ,BO,AB,q,decide_false,AO]
     exact hJ h8 f18 hbf
   ·refine BC (cb f16 1 _ rfl) ?_
    rw [r2.len,AB]
    refine GO (esz:=3) (ty:=61) (zs:=[.int .i64 0,.nilsl,.str []]) (lv:=vs) (Rel:=shR) (P:=FY) (X:=K (.bool true)) (fun f r=>r.fr f) (fun r=>r.leaves) rfl rfl (r2.mono f16 fun _ _ _ z=>z.fr f16) k2 (fun h2 f2 e=>by rw [e,Bool.true_or] at hK; exact hK h2 (f.trans (f16.trans f2))) (fun h2 f2 e=>hJ h2 (f16.trans f2) e) fun N i x hx en h2 d c f2 gd rr hcl hN hX=>?_
    obtain ⟨v,rfl,q1⟩:=rr
    have cd : ∀ {h3},Fr [] h2 h3 -> ∀ o w,([AV.int .i64 x.kind,v,.str x.name] : List AV)[o]? = some w -> h3.cell d o = some w:=fun f3 o w e=>by rw [AD (f3 d _ (by simp) gd)]; exact e
    refine BC (cd (Fr.refl _ _) 1 _ rfl) ?_
    refine ND H2 q1.one q1.len fun h3 f3=>?_
    refine chunkW1 (cd f3 2 _ rfl) fun h4 f4=>?_
    show AC (.bool (FY x)) _ _
    cases hp : FY x with
    | true=>rw [AZ]; exact hX h4 (f3.trans f4) hp
    | false=>rw [AO,BS,AB,en]; exact hN h4 (f3.trans f4) hp
  ·refine BC (cb f15 0 _ rfl) ?_
   rw [r1.len,AB]
   refine GO (esz:=2) (ty:=46) (zs:=[.bool false,.nilsl]) (lv:=vt) (Rel:=tyR) (P:=IX) (X:=K (.bool true)) (fun f r=>r.fr f) (fun r=>r.leaves) rfl rfl (r1.mono f15 fun _ _ _ z=>z.fr f15) k1 (fun h2 f2 e=>by rw [e,Bool.true_or] at hK; exact hK h2 (f.trans (f15.trans f2))) (fun h2 f2 e=>hJ h2 (f15.trans f2) e) fun N i x hx en h2 d c f2 gd rr hcl hN hX=>?_
   obtain ⟨v,rfl,q1⟩:=rr
   have cd : ∀ o w,([AV.bool x.imm,v] : List AV)[o]? = some w -> h2.cell d o = some w:=fun o w e=>by rw [AD gd]; exact e
   refine BC (cd 1 _ rfl) ?_
   refine ND H2 q1.one q1.len fun h3 f3=>?_
   show AC (.bool (IX x)) _ _
   cases hp : IX x with
   | true=>rw [AZ]; exact hX h3 f3 hp
   | false=>rw [AO,BS,AB,en]; exact hN h3 f3 hp
end
end Go.Proofs.YtdljelicbnjfjaaGreat.X
