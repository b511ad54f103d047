/- What the law needs (3): the plain machine, functions' contracts, plain facts; put together out of texts of one's own. -/
import Derived.Test.YtdljelicbnjfjaaGreatS8B
set_option linter.unusedVariables false
set_option linter.unusedSimpArgs false
set_option maxRecDepth 100000
namespace Go.Proofs.YtdljelicbnjfjaaGreat.X
open Go
noncomputable def OKF (n : Nat) (f : AN) : Bool:=NW Tryz.prog n f
def zm (d : Nat) (x : Nat) : Step:=sD d (.mv (.t x))
def zmt (d g : Nat) (x : Nat) : Step:=sG d g true (.mv (.t x))
def zmf (d g : Nat) (x : Nat) : Step:=sG d g false (.mv (.t x))
def zl (d : Nat) (x : Nat) : Step:=sD d (.ld none (.t x))
def zlt (d g : Nat) (x : Nat) : Step:=sG d g true (.ld none (.t x))
def zlf (d g : Nat) (x : Nat) : Step:=sG d g false (.ld none (.t x))
def zf (d : Nat) (k x : Nat) : Step:=sD d (.fa k (.t x))
def zft (d g : Nat) (k x : Nat) : Step:=sG d g true (.fa k (.t x))
def zff (d g : Nat) (k x : Nat) : Step:=sG d g false (.fa k (.t x))
def zn (d : Nat) (x : Nat) : Step:=sD d (.len false (.t x))
def znt (d g : Nat) (x : Nat) : Step:=sG d g true (.len false (.t x))
def znf (d g : Nat) (x : Nat) : Step:=sG d g false (.len false (.t x))
def zi (d : Nat) (k x y : Nat) : Step:=sD d (.ia none k (.t x) (.t y))
def zit (d g : Nat) (k x y : Nat) : Step:=sG d g true (.ia none k (.t x) (.t y))
def zif (d g : Nat) (k x y : Nat) : Step:=sG d g false (.ia none k (.t x) (.t y))
def zk (d : Nat) (k x : Nat) : Step:=sD d (.ld (some k) (.t x))
def zkt (d g : Nat) (k x : Nat) : Step:=sG d g true (.ld (some k) (.t x))
def zkf (d g : Nat) (k x : Nat) : Step:=sG d g false (.ld (some k) (.t x))
def zp (d : Nat) (x y : Nat) : Step:=sD d (.pick (.t x) (.t y) (.c (.bool false)))
def zpf (d g : Nat) (x y : Nat) : Step:=sG d g false (.pick (.t x) (.t y) (.c (.bool false)))
def zq (d : Nat) (x y : Nat) : Step:=sD d (.pick (.t x) (.c (.bool true)) (.t y))
def zqt (d g : Nat) (x y : Nat) : Step:=sG d g true (.pick (.t x) (.c (.bool true)) (.t y))
def zb (d : Nat) (o : BinOp) (x y : Nat) : Step:=sD d (.bin o .num (.t x) (.t y))
def zbt (d g : Nat) (o : BinOp) (x y : Nat) : Step:=sG d g true (.bin o .num (.t x) (.t y))
def zbf (d g : Nat) (o : BinOp) (x y : Nat) : Step:=sG d g false (.bin o .num (.t x) (.t y))
def zd (d : Nat) (o : BinOp) (x : Nat) (n : Int) : Step:=sD d (.bin o .num (.t x) (.c (.int .i64 n)))
def zdt (d g : Nat) (o : BinOp) (x : Nat) (n : Int) : Step:=sG d g true (.bin o .num (.t x) (.c (.int .i64 n)))
def zdf (d g : Nat) (o : BinOp) (x : Nat) (n : Int) : Step:=sG d g false (.bin o .num (.t x) (.c (.int .i64 n)))
def zo (d : Nat) (x : Nat) : Step:=sD d (.un .not (.t x))
def zot (d g : Nat) (x : Nat) : Step:=sG d g true (.un .not (.t x))
def zof (d g : Nat) (x : Nat) : Step:=sG d g false (.un .not (.t x))
def zx (d : Nat) (x k : Nat) : Step:=sD d (.ext (.t x) k)
def z1 (d : Nat) (f x : Nat) : Step:=sD d (.call f [(.t x)])
def z1t (d g : Nat) (f x : Nat) : Step:=sG d g true (.call f [(.t x)])
def z1f (d g : Nat) (f x : Nat) : Step:=sG d g false (.call f [(.t x)])
def z2 (d : Nat) (f x y : Nat) : Step:=sD d (.call f [(.t x),(.t y)])
def z2t (d g : Nat) (f x y : Nat) : Step:=sG d g true (.call f [(.t x),(.t y)])
def z2f (d g : Nat) (f x y : Nat) : Step:=sG d g false (.call f [(.t x),(.t y)])
def z3 (d : Nat) (f x y z : Nat) : Step:=sD d (.call f [(.t x),(.t y),(.t z)])
def z3t (d g : Nat) (f x y z : Nat) : Step:=sG d g true (.call f [(.t x),(.t y),(.t z)])
def z3f (d g : Nat) (f x y z : Nat) : Step:=sG d g false (.call f [(.t x),(.t y),(.t z)])
def zy (d : Nat) (b : Bool) : Step:=sD d (.mv (.c (.bool b)))
def z0 (d : Nat) (n : Int) : Step:=sD d (.mv (.c (.int .i64 n)))
def zr (l : List Step) : ACode:=.reg 0 [] [] l
def zdd : List Nat -> List Nat
 | []=>[]
 | x :: l=>cond (l.contains x) (zdd l) (x :: zdd l)
def zcl (acc : List (List Nat)) : List (List Nat) -> List (List Nat)
 | []=>acc
 | d :: l=>zcl (acc ++ [zdd (d ++ d.flatMap fun j=>acc.getD j [])]) l
def zcz (l : List (List Nat)) : List (List Nat):=zcl [] l
def zst (k x y : Nat) : Step:=sN (.st k (.t x) (.t y))
def zL (x : AV) (h : H) (K : AV -> H -> Prop) : Prop:=AA (ldA h none x) h K
def zT (c : AV) (o : Option AV) (h : H) (K : AV -> H -> Prop) : Prop:=AH c true (fun K=>AA o h K) h K
def zE (c : AV) (o : Option AV) (h : H) (K : AV -> H -> Prop) : Prop:=AH c false (fun K=>AA o h K) h K
def zU (c x : AV) (h : H) (K : AV -> H -> Prop) : Prop:=AH c true (fun K=>K x h) h K
def zV (c x : AV) (h : H) (K : AV -> H -> Prop) : Prop:=AH c false (fun K=>K x h) h K
def zF (k : Nat) (x : AV) (h : H) (K : AV -> H -> Prop) : Prop:=AA (faA k x) h fun t h=>AA (ldA h none t) h K
def zG (c : AV) (k : Nat) (x : AV) (h : H) (K : AV -> H -> Prop) : Prop:=AH c true (fun K=>AA (faA k x) h K) h fun t h=>AH c true (fun K=>AA (ldA h none t) h K) h K
def zH (c : AV) (k : Nat) (x : AV) (h : H) (K : AV -> H -> Prop) : Prop:=AH c false (fun K=>AA (faA k x) h K) h fun t h=>AH c false (fun K=>AA (ldA h none t) h K) h K
def an7 : ACode:=
 (.seq (zr [sD 1 (.bx none 28 (.t 0)),zy 2 false])
 (.seq (.seq (zr [zk 12 7 1,z1 13 17 12,zo 14 13])
 (.cond (.t 14) (.seq (zr [sD 15 (.call 26 []),zm 2 15])
 .ret)
 .skip))
 (.seq (zr [zk 17 7 1,z1 18 27 17,zm 16 18,zx 19 16 0,zx 20 16 1,zx 21 16 2,zx 22 16 3,zm 3 19,zm 4 20,zm 5 21,zm 6 22])
 (.seq (zr [zk 24 7 1,z1 25 28 24,zm 23 25,zx 26 23 0,zx 27 23 1,zx 28 23 2,zx 29 23 3,zm 7 26,zm 8 27,zm 9 28,zm 10 29])
 (.seq (zr [zk 30 7 1,z1 31 29 30,zm 11 31])
 (.seq (.reg 0 [0,2,1,3,4,5,6,7,8,9,10,11,12,13,14,15,16,17,18,19,20,21,22,23,24,25,26,27,28,29,30,31,32,33,34,35,36,37,38,39,40,41] (zcz [[],[0],[],[1,2],[3],[4],[5],[5],[7,6],[8],[9],[10],[10],[12,11],[13],[14],[15],[15],[17,16],[18],[19],[20],[20],[22,21],[23],[24],[25],[26],[25],[28,27],[29],[30],[31],[32],[33],[34],[35],[36],[37],[38],[39],[40]]) [zk 32 7 1,zk 34 7 1,⟨(some 33),none,(.call 30 [(.t 32)]),[⟨none,(.ld (some 7) (.t 1)),34⟩]⟩,z1 35 31 34,sD 36 (.bin .eql .bool (.t 33) (.t 35)),zm 37 36,zmt 38 37 3,zmt 39 37 7,zbt 40 37 .eql 38 39,zp 41 37 40,zm 42 41,zmt 43 42 4,zmt 44 42 8,zbt 45 42 .eql 43 44,zp 46 42 45,zm 47 46,zmt 48 47 5,zmt 49 47 9,zbt 50 47 .eql 48 49,zp 51 47 50,zm 52 51,zmt 53 52 6,zmt 54 52 10,sG 55 52 true (.bin .eql .bool (.t 53) (.t 54)),zp 56 52 55,zm 57 56,zmt 58 57 11,zdt 59 57 .eql 58 0,zmt 60 57 10,sG 61 57 true (.bin .eql .bool (.t 59) (.t 60)),zp 62 57 61,zm 63 62,zmt 64 63 10,zmt 65 63 64,zmf 66 65 11,zdf 67 65 .eql 66 21,zqt 68 63 65 67,zp 69 63 68,zm 70 69,sG 71 70 true (.call 26 []),zp 72 70 71,zm 2 72])
 .ret))))))
def fn7 : AN:=⟨73,[(.tmp 2)],an7.erase⟩
theorem ok7 : OKF 7 fn7 = true:=by kernel_rfl
def sh7 (C : AK) (m0 : AV) (h : H) (R : AV -> H -> Prop) : Prop:=
 AL h (AV.cells m0) 28 fun m1 h=>
 AA (ldA h (some 7) m1) h fun a h=>
 C 17 [a] h fun a h=>
 AA (unOp .not a) h fun a h=>
 AC a
 (C 26 [] h fun a h=>
 R a h)
 (AA (ldA h (some 7) m1) h fun a h=>
 C 27 [a] h fun a h=>
 AA (A8 a 0) h fun b h=>
 AA (A8 a 1) h fun c h=>
 AA (A8 a 2) h fun d h=>
 AA (A8 a 3) h fun a h=>
 AA (ldA h (some 7) m1) h fun e h=>
 C 28 [e] h fun e h=>
 AA (A8 e 0) h fun f h=>
 AA (A8 e 1) h fun g h=>
 AA (A8 e 2) h fun i h=>
 AA (A8 e 3) h fun e h=>
 AA (ldA h (some 7) m1) h fun j h=>
 C 29 [j] h fun j h=>
 AA (ldA h (some 7) m1) h fun k h=>
 AA (ldA h (some 7) m1) h fun l h=>
 C 30 [k] h fun k h=>
 AY (AA (ldA h (some 7) m1) h (fun v _=>v = l)) <|
 C 31 [l] h fun l h=>
 AA (binOp .eql .bool k l) h fun l h=>
 zU l b h fun b h=>
 zU l f h fun f h=>
 zT l (binOp .eql .num b f) h fun f h=>
 AA (AE l f (.bool false)) h fun f h=>
 zU f c h fun c h=>
 zU f g h fun g h=>
 zT f (binOp .eql .num c g) h fun g h=>
 AA (AE f g (.bool false)) h fun g h=>
 zU g d h fun d h=>
 zU g i h fun i h=>
 zT g (binOp .eql .num d i) h fun i h=>
 AA (AE g i (.bool false)) h fun i h=>
 zU i a h fun a h=>
 zU i e h fun g h=>
 zT i (binOp .eql .bool a g) h fun g h=>
 AA (AE i g (.bool false)) h fun g h=>
 zU g j h fun i h=>
 zT g (binOp .eql .num i (.int .i64 0)) h fun i h=>
 zU g e h fun a h=>
 zT g (binOp .eql .bool i a) h fun a h=>
 AA (AE g a (.bool false)) h fun a h=>
 zU a e h fun e h=>
 zU a e h fun e h=>
 zV e j h fun j h=>
 zE e (binOp .eql .num j (.int .i64 21)) h fun j h=>
 zT a (AE e (.bool true) j) h fun j h=>
 AA (AE a j (.bool false)) h fun j h=>
 AH j true (fun K=>C 26 [] h K) h fun a h=>
 AA (AE j a (.bool false)) h fun a h=>
 R a h)
def an8 : ACode:=
 (.seq (zr [sD 3 (.bx none 28 (.t 0)),sD 4 (.bx none 55 (.t 1)),zy 6 false])
 (.seq (zr [zk 7 7 3,zk 8 9 4,zm 9 2,z3 10 32 7 8 9,zst 7 3 10])
 (.seq (zr [zk 11 7 3,z1 12 7 11,zm 6 12])
 .ret)))
def fn8 : AN:=⟨13,[(.tmp 6)],an8.erase⟩
theorem ok8 : OKF 8 fn8 = true:=by kernel_rfl
def sh8 (C : AK) (m0 x1 at2 : AV) (h : H) (R : AV -> H -> Prop) : Prop:=
 AL h (AV.cells m0) 28 fun m3 h=>
 AL h (AV.cells x1) 55 fun x4 h=>
 AA (ldA h (some 7) m3) h fun a h=>
 AA (ldA h (some 9) x4) h fun b h=>
 C 32 [a,b,at2] h fun b h=>
 AM (stA h 7 m3 b) .undef fun _ h=>
 AA (ldA h (some 7) m3) h fun b h=>
 C 7 [b] h fun b h=>
 R b h
def an17 : ACode:=
 (.seq (zr [sD 1 (.bx none 28 (.t 0)),zy 2 false])
 (.seq (zr [zf 16 0 1,zl 17 16,zn 18 17,sD 19 (.bin .sub .num (.c (.int .i64 40000)) (.t 18)),zf 20 1 1,zl 21 20,zn 22 21,zb 23 .sub 19 22,zf 24 2 1,zl 25 24,zn 26 25,zb 27 .sub 23 26,zf 28 3 1,zl 29 28,zn 30 29,zb 31 .sub 27 30,zf 32 4 1,zl 33 32,zn 34 33,zb 35 .sub 31 34,zm 3 35])
 (.seq (.seq (zr [zf 36 0 1,zl 37 36,zn 38 37,z0 39 0])
 (.block 0 (.loop [3,39] 962072674314 (.seq (zr [zb 40 .lss 39 38])
 (.seq (.cond (.t 40) .skip
 (.exit 0))
 (.seq (.block 1 (.seq (zr [zi 41 2 37 39,zk 42 2 41,sD 5 (.al none 46 [(.bool false),.nilsl]),zst 2 5 42])
 (.seq (zr [zm 43 3,zf 44 1 5,zl 45 44,zn 46 45,zb 47 .sub 43 46,zm 3 47])
 (.seq (zr [zm 48 3,zd 49 .lss 48 0])
 (.cond (.t 49) (.seq (zr [zy 2 false])
 .ret)
 .skip)))))
 (zr [zd 50 .add 39 1,zm 39 50])))))))
 (.seq (.seq (zr [zf 51 1 1,zl 52 51,zn 53 52,z0 54 0])
 (.block 2 (.loop [3,54] 31525197391593482 (.seq (zr [zb 55 .lss 54 53])
 (.seq (.cond (.t 55) .skip
 (.exit 2))
 (.seq (.block 3 (.seq (zr [zi 56 3 52 54,zk 57 3 56,sD 7 (.al none 61 [(.int .i64 0),.nilsl,(.str [])]),zst 3 7 57])
 (.seq (zr [zm 58 3,zf 59 1 7,zl 60 59,zn 61 60,zf 62 2 7,zl 63 62,sD 64 (.len true (.t 63)),zb 65 .add 61 64,zb 66 .sub 58 65,zm 3 66])
 (.seq (zr [zm 67 3,zd 68 .lss 67 0])
 (.cond (.t 68) (.seq (zr [zy 2 false])
 .ret)
 .skip)))))
 (zr [zd 69 .add 54 1,zm 54 69])))))))
 (.seq (.seq (.reg 1 [1,2,4,5,0,3,6,7,8] (zcz [[],[],[1],[2,0],[],[4],[5,3],[6],[]]) [zf 71 2 1,zl 72 71,zf 74 3 1,zl 75 74,sD 70 (.mksl (some 0) 9 [] 0 []),⟨(some 73),none,(.app 9 1 16 [(.str [])] (.t 70) (.t 72)),[⟨none,(.ld none (.t 74)),75⟩]⟩,sD 76 (.app 9 1 16 [(.str [])] (.t 73) (.t 75)),zn 77 76,z0 78 0])
 (.block 4 (.loop [3,78] 528905046081400263933962 (.seq (zr [zb 79 .lss 78 77])
 (.seq (.cond (.t 79) .skip
 (.exit 4))
 (.seq (.block 5 (.seq (zr [zi 80 1 76 78,zl 81 80,zm 9 81])
 (.seq (zr [zm 82 3,zm 83 9,sD 84 (.len true (.t 83)),zb 85 .sub 82 84,zm 3 85])
 (.seq (zr [zm 86 3,zd 87 .lss 86 0])
 (.cond (.t 87) (.seq (zr [zy 2 false])
 .ret)
 .skip)))))
 (zr [zd 88 .add 78 1,zm 78 88])))))))
 (.seq (.seq (zr [zf 89 4 1,zl 90 89,zn 91 90,z0 92 0])
 (.block 6 (.loop [3,92] 8665580274997661924293869576 (.seq (zr [zb 93 .lss 92 91])
 (.seq (.cond (.t 93) .skip
 (.exit 6))
 (.seq (.block 7 (.seq (zr [zi 94 4 90 92,zk 95 4 94,sD 11 (.al none 39 [.nilsl,(.int .i64 0),(.int .i64 0),.nilsl]),zst 4 11 95])
 (.seq (.seq (zr [zm 96 3,zf 97 0 11,zl 98 97,zn 99 98,zf 100 3 11,zl 101 100,zn 102 101,zb 103 .add 99 102,zb 104 .sub 96 103,zm 3 104])
 (.seq (zr [zm 105 3,zd 106 .lss 105 0])
 (.cond (.t 106) (.seq (zr [zy 2 false])
 .ret)
 .skip)))
 (.seq (zr [zf 107 3 11,zl 108 107,zn 109 108,z0 110 0])
 (.block 8 (.loop [3,110] 2271638541189262085144016437903368 (.seq (zr [zb 111 .lss 110 109])
 (.seq (.cond (.t 111) .skip
 (.exit 8))
 (.seq (.block 9 (.seq (zr [zi 112 2 108 110,zk 113 2 112,sD 13 (.al none 42 [.nilsl,.nilsl]),zst 2 13 113])
 (.seq (.seq (zr [zm 114 3,zf 115 0 13,zl 116 115,zn 117 116,zf 118 1 13,zl 119 118,zn 120 119,zb 121 .add 117 120,zb 122 .sub 114 121,zm 3 122])
 (.seq (zr [zm 123 3,zd 124 .lss 123 0])
 (.cond (.t 124) (.seq (zr [zy 2 false])
 .ret)
 .skip)))
 (.seq (zr [zf 125 1 13,zl 126 125,zn 127 126,z0 128 0])
 (.block 10 (.loop [3,128] 595496413750183500322990707022032273416 (.seq (zr [zb 129 .lss 128 127])
 (.seq (.cond (.t 129) .skip
 (.exit 10))
 (.seq (.block 11 (.seq (zr [zi 130 9 126 128,zk 131 9 130,sD 15 (.al none 55 [(.int .i64 0),(.int .i64 0),(.int .i64 0),(.int .i64 0),(.int .i64 0),(.int .i64 0),.nilsl,.nilsl,.nilsl]),zst 9 15 131])
 (.seq (zr [zm 132 3,zf 133 6 15,zl 134 133,zn 135 134,zf 136 7 15,zl 137 136,zn 138 137,zb 139 .add 135 138,zf 140 8 15,zl 141 140,zn 142 141,zb 143 .add 139 142,zb 144 .sub 132 143,zm 3 144])
 (.seq (zr [zm 145 3,zd 146 .lss 145 0])
 (.cond (.t 146) (.seq (zr [zy 2 false])
 .ret)
 .skip)))))
 (zr [zd 147 .add 128 1,zm 128 147]))))))))))
 (zr [zd 148 .add 110 1,zm 110 148]))))))))))
 (zr [zd 149 .add 92 1,zm 92 149])))))))
 (.seq (zr [zm 150 3,zd 151 .geq 150 0,zm 2 151])
 .ret)))))))
def fn17 : AN:=⟨152,[(.tmp 2)],an17.erase⟩
theorem ok17 : OKF 17 fn17 = true:=by kernel_rfl
def sh17 (C : AK) (m0 : AV) (h : H) (R : AV -> H -> Prop) : Prop:=
 AL h (AV.cells m0) 28 fun m1 h=>
 zF 0 m1 h fun a h=>
 AA (AF false a) h fun a h=>
 AA (binOp .sub .num (.int .i64 40000) a) h fun a h=>
 zF 1 m1 h fun b h=>
 AA (AF false b) h fun b h=>
 AA (binOp .sub .num a b) h fun b h=>
 zF 2 m1 h fun a h=>
 AA (AF false a) h fun a h=>
 AA (binOp .sub .num b a) h fun a h=>
 zF 3 m1 h fun b h=>
 AA (AF false b) h fun b h=>
 AA (binOp .sub .num a b) h fun b h=>
 zF 4 m1 h fun a h=>
 AA (AF false a) h fun a h=>
 AA (binOp .sub .num b a) h fun a h=>
 AJ (fun (n3' : AV) (h : H)=>
 AJ (fun (n3'_1 : AV) (h : H)=>
 AJ (fun (n3'_3 : AV) (h : H)=>
 AJ (fun (n3'_5 : AV) (h : H)=>
 AA (binOp .geq .num n3'_5 (.int .i64 0)) h fun b h=>
 R b h) fun J=>
 zF 4 m1 h fun b h=>
 AA (AF false b) h fun c h=>
 AP (fun N l h=>AX l 0 fun n3=>AX l 1 fun d=>
 AA (binOp .lss .num d c) h fun c h=>
 AC c
 (AJ (fun (n3'_7 : AV) (h : H)=>
 AA (binOp .add .num d (.int .i64 1)) h fun c h=>
 N [n3'_7,c] h) fun J_66=>
 AA (iaA 4 b d) h fun d h=>
 AA (ldA h (some 4) d) h fun d h=>
 AL h [.nilsl,(.int .i64 0),(.int .i64 0),.nilsl] 39 fun f11 h=>
 AM (stA h 4 f11 d) .undef fun _ h=>
 zF 0 f11 h fun d h=>
 AA (AF false d) h fun d h=>
 zF 3 f11 h fun b h=>
 AA (AF false b) h fun b h=>
 AA (binOp .add .num d b) h fun b h=>
 AA (binOp .sub .num n3 b) h fun b h=>
 AA (binOp .lss .num b (.int .i64 0)) h fun d h=>
 AC d
 (R (.bool false) h)
 (zF 3 f11 h fun d h=>
 AA (AF false d) h fun c h=>
 AP (fun N_67 l h=>AX l 0 fun n3_68=>AX l 1 fun e=>
 AA (binOp .lss .num e c) h fun c h=>
 AC c
 (AJ (fun (n3'_70 : AV) (h : H)=>
 AA (binOp .add .num e (.int .i64 1)) h fun c h=>
 N_67 [n3'_70,c] h) fun J_109=>
 AA (iaA 2 d e) h fun e h=>
 AA (ldA h (some 2) e) h fun e h=>
 AL h [.nilsl,.nilsl] 42 fun b13 h=>
 AM (stA h 2 b13 e) .undef fun _ h=>
 zF 0 b13 h fun e h=>
 AA (AF false e) h fun e h=>
 zF 1 b13 h fun d h=>
 AA (AF false d) h fun d h=>
 AA (binOp .add .num e d) h fun d h=>
 AA (binOp .sub .num n3_68 d) h fun d h=>
 AA (binOp .lss .num d (.int .i64 0)) h fun e h=>
 AC e
 (R (.bool false) h)
 (zF 1 b13 h fun e h=>
 AA (AF false e) h fun c h=>
 AP (fun N_110 l h=>AX l 0 fun n3_111=>AX l 1 fun f=>
 AA (binOp .lss .num f c) h fun c h=>
 AC c
 (AA (iaA 9 e f) h fun e h=>
 AA (ldA h (some 9) e) h fun e h=>
 AL h [(.int .i64 0),(.int .i64 0),(.int .i64 0),(.int .i64 0),(.int .i64 0),(.int .i64 0),.nilsl,.nilsl,.nilsl] 55 fun x15 h=>
 AM (stA h 9 x15 e) .undef fun _ h=>
 zF 6 x15 h fun e h=>
 AA (AF false e) h fun e h=>
 zF 7 x15 h fun c h=>
 AA (AF false c) h fun c h=>
 AA (binOp .add .num e c) h fun c h=>
 zF 8 x15 h fun e h=>
 AA (AF false e) h fun e h=>
 AA (binOp .add .num c e) h fun e h=>
 AA (binOp .sub .num n3_111 e) h fun e h=>
 AA (binOp .lss .num e (.int .i64 0)) h fun c h=>
 AC c
 (R (.bool false) h)
 (AA (binOp .add .num f (.int .i64 1)) h fun f h=>
 N_110 [e,f] h))
 (J_109 n3_111 h)) [d,(.int .i64 0)] h))
 (J_66 n3_68 h)) [b,(.int .i64 0)] h))
 (J n3 h)) [n3'_3,(.int .i64 0)] h) fun J_112=>
 zF 2 m1 h fun b h=>
 AA (faA 3 m1) h fun d h=>
 zL d h fun f h=>
 A5 h 9 0 (AG [] []) fun e h=>
 A4 h 9 1 16 e b fun b h=>
 AY (AA (ldA h none d) h (fun v _=>v = f)) <|
 A4 h 9 1 16 b f fun f h=>
 AA (AF false f) h fun b h=>
 AP (fun N_113 l h=>AX l 0 fun n3_114=>AX l 1 fun d=>
 AA (binOp .lss .num d b) h fun b h=>
 AC b
 (AA (iaA 1 f d) h fun f h=>
 zL f h fun f h=>
 AA (AF true f) h fun f h=>
 AA (binOp .sub .num n3_114 f) h fun f h=>
 AA (binOp .lss .num f (.int .i64 0)) h fun b h=>
 AC b
 (R (.bool false) h)
 (AA (binOp .add .num d (.int .i64 1)) h fun d h=>
 N_113 [f,d] h))
 (J_112 n3_114 h)) [n3'_1,(.int .i64 0)] h) fun J_115=>
 zF 1 m1 h fun d h=>
 AA (AF false d) h fun f h=>
 AP (fun N_116 l h=>AX l 0 fun n3_117=>AX l 1 fun b=>
 AA (binOp .lss .num b f) h fun f h=>
 AC f
 (AA (iaA 3 d b) h fun d h=>
 AA (ldA h (some 3) d) h fun d h=>
 AL h [(.int .i64 0),.nilsl,(.str [])] 61 fun s7 h=>
 AM (stA h 3 s7 d) .undef fun _ h=>
 zF 1 s7 h fun d h=>
 AA (AF false d) h fun d h=>
 zF 2 s7 h fun f h=>
 AA (AF true f) h fun f h=>
 AA (binOp .add .num d f) h fun f h=>
 AA (binOp .sub .num n3_117 f) h fun f h=>
 AA (binOp .lss .num f (.int .i64 0)) h fun d h=>
 AC d
 (R (.bool false) h)
 (AA (binOp .add .num b (.int .i64 1)) h fun b h=>
 N_116 [f,b] h))
 (J_115 n3_117 h)) [n3',(.int .i64 0)] h) fun J_118=>
 zF 0 m1 h fun b h=>
 AA (AF false b) h fun f h=>
 AP (fun N_119 l h=>AX l 0 fun n3_120=>AX l 1 fun d=>
 AA (binOp .lss .num d f) h fun f h=>
 AC f
 (AA (iaA 2 b d) h fun b h=>
 AA (ldA h (some 2) b) h fun b h=>
 AL h [(.bool false),.nilsl] 46 fun f h=>
 AM (stA h 2 f b) .undef fun _ h=>
 zF 1 f h fun f h=>
 AA (AF false f) h fun f h=>
 AA (binOp .sub .num n3_120 f) h fun f h=>
 AA (binOp .lss .num f (.int .i64 0)) h fun b h=>
 AC b
 (R (.bool false) h)
 (AA (binOp .add .num d (.int .i64 1)) h fun d h=>
 N_119 [f,d] h))
 (J_118 n3_120 h)) [a,(.int .i64 0)] h
def an19 : ACode:=
 (.seq (zr [sD 1 (.bx none 28 (.t 0)),z0 2 0])
 (.seq (.seq (zr [zk 9 7 1,z1 10 61 9])
 (.cond (.t 10) (.seq (zr [z0 2 2])
 .ret)
 .skip))
 (.seq (.seq (zr [zf 11 4 1,zl 12 11,zn 13 12,z0 14 0])
 (.block 0 (.loop [14] 28672 (.seq (zr [zb 15 .lss 14 13])
 (.seq (.cond (.t 15) .skip
 (.exit 0))
 (.seq (.block 1 (.seq (zr [zi 16 4 12 14,zk 17 4 16,sD 4 (.al none 39 [.nilsl,(.int .i64 0),(.int .i64 0),.nilsl]),zst 4 4 17])
 (.seq (zr [zf 18 3 4,zl 19 18,zn 20 19,z0 21 0])
 (.block 2 (.loop [21] 3698688 (.seq (zr [zb 22 .lss 21 20])
 (.seq (.cond (.t 22) .skip
 (.exit 2))
 (.seq (.block 3 (.seq (zr [zi 23 2 19 21,zk 24 2 23,sD 6 (.al none 42 [.nilsl,.nilsl]),zst 2 6 24])
 (.seq (zr [zf 25 1 6,zl 26 25,zn 27 26,z0 28 0])
 (.block 4 (.loop [28] 473460736 (.seq (zr [zb 29 .lss 28 27])
 (.seq (.cond (.t 29) .skip
 (.exit 4))
 (.seq (.block 5 (.seq (zr [zi 30 9 26 28,zk 31 9 30,sD 8 (.al none 55 [(.int .i64 0),(.int .i64 0),(.int .i64 0),(.int .i64 0),(.int .i64 0),(.int .i64 0),.nilsl,.nilsl,.nilsl]),zst 9 8 31])
 (.seq (zr [zk 32 9 8,z1 33 62 32,zo 34 33])
 (.cond (.t 34) (.seq (zr [z0 2 1])
 .ret)
 .skip))))
 (zr [zd 35 .add 28 1,zm 28 35])))))))))
 (zr [zd 36 .add 21 1,zm 21 36])))))))))
 (zr [zd 37 .add 14 1,zm 14 37])))))))
 (.seq (zr [z0 2 0])
 .ret))))
def fn19 : AN:=⟨38,[(.tmp 2)],an19.erase⟩
theorem ok19 : OKF 19 fn19 = true:=by kernel_rfl
def sh19 (C : AK) (m0 : AV) (h : H) (R : AV -> H -> Prop) : Prop:=
 AL h (AV.cells m0) 28 fun m1 h=>
 AA (ldA h (some 7) m1) h fun a h=>
 C 61 [a] h fun a h=>
 AC a
 (R (.int .i64 2) h)
 (AJ (fun (h : H)=>
 R (.int .i64 0) h) fun J=>
 zF 4 m1 h fun a h=>
 AA (AF false a) h fun b h=>
 AP (fun N l h=>AX l 0 fun c=>
 AA (binOp .lss .num c b) h fun b h=>
 AC b
 (AJ (fun (h : H)=>
 AA (binOp .add .num c (.int .i64 1)) h fun b h=>
 N [b] h) fun J_25=>
 AA (iaA 4 a c) h fun c h=>
 AA (ldA h (some 4) c) h fun c h=>
 AL h [.nilsl,(.int .i64 0),(.int .i64 0),.nilsl] 39 fun f4 h=>
 AM (stA h 4 f4 c) .undef fun _ h=>
 zF 3 f4 h fun c h=>
 AA (AF false c) h fun a h=>
 AP (fun N_26 l h=>AX l 0 fun b=>
 AA (binOp .lss .num b a) h fun a h=>
 AC a
 (AJ (fun (h : H)=>
 AA (binOp .add .num b (.int .i64 1)) h fun a h=>
 N_26 [a] h) fun J_43=>
 AA (iaA 2 c b) h fun b h=>
 AA (ldA h (some 2) b) h fun b h=>
 AL h [.nilsl,.nilsl] 42 fun b6 h=>
 AM (stA h 2 b6 b) .undef fun _ h=>
 zF 1 b6 h fun b h=>
 AA (AF false b) h fun c h=>
 AP (fun N_44 l h=>AX l 0 fun a=>
 AA (binOp .lss .num a c) h fun c h=>
 AC c
 (AA (iaA 9 b a) h fun b h=>
 AA (ldA h (some 9) b) h fun b h=>
 AL h [(.int .i64 0),(.int .i64 0),(.int .i64 0),(.int .i64 0),(.int .i64 0),(.int .i64 0),.nilsl,.nilsl,.nilsl] 55 fun x8 h=>
 AM (stA h 9 x8 b) .undef fun _ h=>
 AA (ldA h (some 9) x8) h fun b h=>
 C 62 [b] h fun b h=>
 AA (unOp .not b) h fun b h=>
 AC b
 (R (.int .i64 1) h)
 (AA (binOp .add .num a (.int .i64 1)) h fun a h=>
 N_44 [a] h))
 (J_43 h)) [(.int .i64 0)] h)
 (J_25 h)) [(.int .i64 0)] h)
 (J h)) [(.int .i64 0)] h)
def an21 : ACode:=
 (.seq (zr [sD 2 (.bx none 46 (.t 0)),sD 3 (.bx none 46 (.t 1)),sD 4 (.al none 46 [(.bool false),.nilsl])])
 (.seq (zr [zf 6 1 2,zl 7 6,zf 8 1 3,zl 9 8,sD 10 (.mksl none 36 [.nilsl,.nilsl] 2 [(0,1,(.t 7)),(1,1,(.t 9))]),z1 11 63 10,zm 5 11])
 (.seq (zr [zm 12 5,z1 13 64 12])
 (.seq (.reg 0 [0,1,2,3,4,5,6,7,8,9] (zcz [[],[0],[1],[2],[3],[4],[],[2,6],[7,5],[8]]) [zf 14 0 2,zl 15 14,zm 16 15,zff 17 16 0 3,zlf 18 16 17,zq 19 16 18,zm 20 5,⟨(some 21),none,(.call 65 [(.t 20)]),[⟨(some (16,false)),(.ld none (.t 17)),18⟩]⟩,sD 22 (.build [(.bool false),.nilsl] [(0,1,(.t 19)),(1,1,(.t 21))]),zst 2 4 22])
 .ret))))
def fn21 : AN:=⟨23,[(.cell 4 (some 2))],an21.erase⟩
theorem ok21 : OKF 21 fn21 = true:=by kernel_rfl
def sh21 (C : AK) (a0 b1 : AV) (h : H) (R : AV -> H -> Prop) : Prop:=
 AL h (AV.cells a0) 46 fun a2 h=>
 AL h (AV.cells b1) 46 fun b3 h=>
 AL h [(.bool false),.nilsl] 46 fun a h=>
 zF 1 a2 h fun b h=>
 zF 1 b3 h fun c h=>
 A5 h 36 2 (AG [.nilsl,.nilsl] [(0,1,b),(1,1,c)]) fun c h=>
 C 63 [c] h fun c h=>
 C 64 [c] h fun b h=>
 zF 0 a2 h fun b h=>
 zE b (faA 0 b3) h fun d h=>
 zE b (ldA h none d) h fun e h=>
 AA (AE b (.bool true) e) h fun f h=>
 C 65 [c] h fun c h=>
 AY (GI b false (AA (ldA h none d) h (fun v _=>v = e))) <|
 AA (AT (AG [(.bool false),.nilsl] [(0,1,f),(1,1,c)])) h fun c h=>
 AM (stA h 2 a c) .undef fun _ h=>
 AA (ldA h (some 2) a) h fun res _=>R res h
def an22 : ACode:=
 (.seq (zr [sD 2 (.bx none 46 (.t 0)),sD 3 (.bx none 46 (.t 1)),sD 4 (.al none 46 [(.bool false),.nilsl])])
 (.seq (zr [sD 5 (.mv (.c .nilsl))])
 (.seq (.seq (.reg 1 [1,2,4,5,0,3,6,7,8] (zcz [[],[],[1],[2,0],[],[4],[5,3],[6],[]]) [zf 13 1 2,zl 14 13,zf 16 1 3,zl 17 16,sD 12 (.mksl (some 0) 3 [] 0 []),⟨(some 15),none,(.app 3 1 8 [(.int .i64 0)] (.t 12) (.t 14)),[⟨none,(.ld none (.t 16)),17⟩]⟩,sD 18 (.app 3 1 8 [(.int .i64 0)] (.t 15) (.t 17)),zn 19 18,z0 20 0])
 (.block 0 (.loop [5,20] 1835068 (.seq (zr [zb 21 .lss 20 19])
 (.seq (.cond (.t 21) .skip
 (.exit 0))
 (.seq (.block 1 (.seq (zr [zi 22 1 18 20,zl 23 22,zm 7 23])
 (.seq (.seq (zr [zm 24 5,zm 25 7,z2 26 66 24 25])
 (.cond (.t 26) (.exit 1)
 .skip))
 (.seq (zr [sD 8 (.mv (.c .nilsl))])
 (.seq (zr [zy 9 false])
 (.seq (.seq (zr [zm 27 5,zn 28 27,z0 29 0])
 (.block 2 (.loop [8,9,29] 941360028 (.seq (zr [zb 30 .lss 29 28])
 (.seq (.cond (.t 30) .skip
 (.exit 2))
 (.seq (.block 3 (.seq (zr [zi 31 1 27 29,zl 32 31,zm 11 32])
 (.seq (.seq (zr [zm 33 9,zo 34 33,zm 35 34,zmt 36 35 7,zmt 37 35 11,zbt 38 35 .lss 36 37,zp 39 35 38])
 (.cond (.t 39) (.seq (zr [zm 40 8,zm 41 7,sD 42 (.mksl none 3 [(.int .i64 0)] 1 [(0,1,(.t 41))]),sD 43 (.app 3 1 8 [(.int .i64 0)] (.t 40) (.t 42)),zm 8 43])
 (zr [zy 9 true]))
 .skip))
 (zr [zm 44 8,zm 45 11,sD 46 (.mksl none 3 [(.int .i64 0)] 1 [(0,1,(.t 45))]),sD 47 (.app 3 1 8 [(.int .i64 0)] (.t 44) (.t 46)),zm 8 47]))))
 (zr [zd 48 .add 29 1,zm 29 48])))))))
 (.seq (.seq (zr [zm 49 9,zo 50 49])
 (.cond (.t 50) (zr [zm 51 8,zm 52 7,sD 53 (.mksl none 3 [(.int .i64 0)] 1 [(0,1,(.t 52))]),sD 54 (.app 3 1 8 [(.int .i64 0)] (.t 51) (.t 53)),zm 8 54])
 .skip))
 (zr [zm 55 8,zm 5 55]))))))))
 (zr [zd 56 .add 20 1,zm 20 56])))))))
 (.seq (zr [zf 57 0 2,zl 58 57,zm 59 58,zff 60 59 0 3,zlf 61 59 60,zq 62 59 61,zm 63 5,sD 64 (.build [(.bool false),.nilsl] [(0,1,(.t 62)),(1,1,(.t 63))]),zst 2 4 64])
 .ret))))
def fn22 : AN:=⟨65,[(.cell 4 (some 2))],an22.erase⟩
theorem ok22 : OKF 22 fn22 = true:=by kernel_rfl
def sh22 (C : AK) (a0 b1 : AV) (h : H) (R : AV -> H -> Prop) : Prop:=
 AL h (AV.cells a0) 46 fun a2 h=>
 AL h (AV.cells b1) 46 fun b3 h=>
 AL h [(.bool false),.nilsl] 46 fun a h=>
 AJ (fun (l5' : AV) (h : H)=>
 zF 0 a2 h fun b h=>
 zH b 0 b3 h fun c h=>
 AA (AE b (.bool true) c) h fun c h=>
 AA (AT (AG [(.bool false),.nilsl] [(0,1,c),(1,1,l5')])) h fun c h=>
 AM (stA h 2 a c) .undef fun _ h=>
 AA (ldA h (some 2) a) h fun res _=>R res h) fun J=>
 zF 1 a2 h fun a h=>
 AA (faA 1 b3) h fun c h=>
 zL c h fun b h=>
 A5 h 3 0 (AG [] []) fun d h=>
 A4 h 3 1 8 d a fun a h=>
 AY (AA (ldA h none c) h (fun v _=>v = b)) <|
 A4 h 3 1 8 a b fun b h=>
 AA (AF false b) h fun a h=>
 AP (fun N l h=>AX l 0 fun l5=>AX l 1 fun c=>
 AA (binOp .lss .num c a) h fun a h=>
 AC a
 (AJ (fun (l5'_0 : AV) (h : H)=>
 AA (binOp .add .num c (.int .i64 1)) h fun a h=>
 N [l5'_0,a] h) fun J_39=>
 AA (iaA 1 b c) h fun c h=>
 zL c h fun c h=>
 C 66 [l5,c] h fun b h=>
 AC b
 (J_39 l5 h)
 (AJ (fun (next8'_40 : AV) (done9'_41 : AV) (h : H)=>
 AJ (fun (next8'_65 : AV) (h : H)=>
 J_39 next8'_65 h) fun J_72=>
 AA (unOp .not done9'_41) h fun b h=>
 AC b
 (A5 h 3 1 (AG [(.int .i64 0)] [(0,1,c)]) fun b h=>
 A4 h 3 1 8 next8'_40 b fun b h=>
 J_72 b h)
 (J_72 next8'_40 h)) fun J_73=>
 AA (AF false l5) h fun b h=>
 AP (fun N_74 l h=>AX l 0 fun next8=>AX l 1 fun done9=>AX l 2 fun a=>
 AA (binOp .lss .num a b) h fun b h=>
 AC b
 (AA (iaA 1 l5 a) h fun b h=>
 zL b h fun b h=>
 AJ (fun (next8'_75 : AV) (done9'_76 : AV) (h : H)=>
 A5 h 3 1 (AG [(.int .i64 0)] [(0,1,b)]) fun d h=>
 A4 h 3 1 8 next8'_75 d fun d h=>
 AA (binOp .add .num a (.int .i64 1)) h fun a h=>
 N_74 [d,done9'_76,a] h) fun J_88=>
 AA (unOp .not done9) h fun a h=>
 zU a c h fun d h=>
 zU a b h fun b h=>
 zT a (binOp .lss .num d b) h fun b h=>
 AA (AE a b (.bool false)) h fun b h=>
 AC b
 (A5 h 3 1 (AG [(.int .i64 0)] [(0,1,c)]) fun c h=>
 A4 h 3 1 8 next8 c fun c h=>
 J_88 c (.bool true) h)
 (J_88 next8 done9 h))
 (J_73 next8 done9 h)) [.nilsl,(.bool false),(.int .i64 0)] h))
 (J l5 h)) [.nilsl,(.int .i64 0)] h
def an23 : ACode:=
 (.seq (zr [sD 2 (.bx none 46 (.t 0)),sD 3 (.bx none 46 (.t 1)),zy 4 false])
 (.seq (zr [zf 5 0 3,zl 6 5,zm 7 6,zff 8 7 0 2,zlf 9 7 8,zof 10 7 9,zq 11 7 10,zm 12 11,zft 13 12 1 2,zlt 14 12 13,sG 15 12 true (.mkf 68 [] [(.t 3)]),z2t 16 12 67 14 15,zot 17 12 16,zp 18 12 17,zm 4 18])
 .ret))
def fn23 : AN:=⟨19,[(.tmp 4)],an23.erase⟩
theorem ok23 : OKF 23 fn23 = true:=by kernel_rfl
def sh23 (C : AK) (a0 b1 : AV) (h : H) (R : AV -> H -> Prop) : Prop:=
 AL h (AV.cells a0) 46 fun a2 h=>
 AL h (AV.cells b1) 46 fun b3 h=>
 zF 0 b3 h fun a h=>
 zH a 0 a2 h fun b h=>
 zE a (unOp .not b) h fun b h=>
 AA (AE a (.bool true) b) h fun b h=>
 zG b 1 a2 h fun a h=>
 zU b (.fn 68 [] [b3]) h fun c h=>
 AH b true (fun K=>C 67 [a,c] h K) h fun c h=>
 zT b (unOp .not c) h fun c h=>
 AA (AE b c (.bool false)) h fun c h=>
 R c h
def an24 : ACode:=
 (.seq (zr [sD 2 (.bx none 46 (.t 0)),sD 3 (.bx none 46 (.t 1)),zy 4 false])
 (.seq (.seq (zr [zf 7 0 2,zl 8 7,zm 9 8,zft 10 9 0 3,zlt 11 9 10,zot 12 9 11,zp 13 9 12])
 (.cond (.t 13) (.seq (zr [zy 4 false])
 .ret)
 .skip))
 (.seq (.seq (zr [zf 14 1 2,zl 15 14,zn 16 15,z0 17 0])
 (.block 0 (.loop [17] 229384 (.seq (zr [zb 18 .lss 17 16])
 (.seq (.cond (.t 18) .skip
 (.exit 0))
 (.seq (.block 1 (.seq (zr [zi 19 1 15 17,zl 20 19,zm 6 20])
 (.seq (zr [zf 21 1 3,zl 22 21,zm 23 6,z2 24 66 22 23,zo 25 24])
 (.cond (.t 25) (.seq (zr [zy 4 false])
 .ret)
 .skip))))
 (zr [zd 26 .add 17 1,zm 17 26])))))))
 (.seq (zr [zy 4 true])
 .ret))))
def fn24 : AN:=⟨27,[(.tmp 4)],an24.erase⟩
theorem ok24 : OKF 24 fn24 = true:=by kernel_rfl
def sh24 (C : AK) (a0 b1 : AV) (h : H) (R : AV -> H -> Prop) : Prop:=
 AL h (AV.cells a0) 46 fun a2 h=>
 AL h (AV.cells b1) 46 fun b3 h=>
 zF 0 a2 h fun a h=>
 zG a 0 b3 h fun b h=>
 zT a (unOp .not b) h fun b h=>
 AA (AE a b (.bool false)) h fun b h=>
 AC b
 (R (.bool false) h)
 (AJ (fun (h : H)=>
 R (.bool true) h) fun J=>
 zF 1 a2 h fun b h=>
 AA (AF false b) h fun a h=>
 AP (fun N l h=>AX l 0 fun c=>
 AA (binOp .lss .num c a) h fun a h=>
 AC a
 (AA (iaA 1 b c) h fun b h=>
 zL b h fun b h=>
 zF 1 b3 h fun a h=>
 C 66 [a,b] h fun b h=>
 AA (unOp .not b) h fun b h=>
 AC b
 (R (.bool false) h)
 (AA (binOp .add .num c (.int .i64 1)) h fun c h=>
 N [c] h))
 (J h)) [(.int .i64 0)] h)
def an26 : ACode:=
 (.seq (zr [zy 0 false])
 (.seq (zr [sD 10 (.call 33 []),sD 1 (.al none 28 [.nilsl,.nilsl,.nilsl,.nilsl,.nilsl,(.int .i64 0),(.int .i64 0)]),zst 7 1 10])
 (.seq (zr [zk 12 7 1,z1 13 27 12,zm 11 13,zx 14 11 0,zx 15 11 1,zx 16 11 2,zx 17 11 3,zm 2 14,zm 3 15,zm 4 16,zm 5 17])
 (.seq (.reg 0 [0,1,2,3,4,5,6,7,8,9,10,11,12,13,14,15,16] (zcz [[],[0],[1],[2],[3],[],[5],[6],[7],[8],[9],[10],[11],[12],[13,4],[14],[15]]) [zf 18 4 1,zl 19 18,sD 20 (.ia none 4 (.t 19) (.c (.int .i64 0))),zf 21 3 20,zl 22 21,zf 23 4 1,zl 24 23,sD 25 (.ia none 4 (.t 24) (.c (.int .i64 0))),zf 26 3 25,zl 27 26,sD 28 (.ia none 2 (.t 27) (.c (.int .i64 0))),zf 29 1 28,zl 30 29,sD 31 (.sli (.row 9) (.t 30) (some (.c (.int .i64 1))) none none),sD 32 (.ia none 2 (.t 22) (.c (.int .i64 0))),zf 33 1 32,zst 1 33 31])
 (.seq (zr [zk 35 7 1,z1 36 27 35,zm 34 36,zx 37 34 0,zx 38 34 1,zx 39 34 2,zx 40 34 3,zm 6 37,zm 7 38,zm 8 39,zm 9 40])
 (.seq (zr [zm 41 5,zm 42 41,zmt 43 42 9,zot 44 42 43,zp 45 42 44,zm 46 45,zmt 47 46 2,zdt 48 46 .eql 47 0,zp 49 46 48,zm 50 49,zmt 51 50 3,zdt 52 50 .eql 51 0,zp 53 50 52,zm 54 53,zmt 55 54 4,zdt 56 54 .eql 55 0,zp 57 54 56,zm 58 57,zmt 59 58 6,zdt 60 58 .eql 59 0,zp 61 58 60,zm 62 61,zmt 63 62 7,zdt 64 62 .eql 63 0,zp 65 62 64,zm 66 65,zmt 67 66 8,zdt 68 66 .eql 67 0,zp 69 66 68,zm 70 69,zkt 71 70 7 1,z1t 72 70 29 71,zdt 73 70 .eql 72 21,zp 74 70 73,zm 75 74,sG 76 75 true (.call 33 []),z1t 77 75 29 76,zdt 78 75 .eql 77 0,zp 79 75 78,zm 80 79,sG 81 80 true (.build [(.bool false),.nilsl] []),sG 82 80 true (.build [(.bool false),.nilsl] [(0,1,(.c (.bool true)))]),z2t 83 80 23 81 82,zp 84 80 83,zm 85 84,sG 86 85 true (.build [(.bool false),.nilsl] [(0,1,(.c (.bool true)))]),sG 87 85 true (.build [(.bool false),.nilsl] []),z2t 88 85 23 86 87,zot 89 85 88,zp 90 85 89,zm 0 90])
 .ret))))))
def fn26 : AN:=⟨91,[(.tmp 0)],an26.erase⟩
theorem ok26 : OKF 26 fn26 = true:=by kernel_rfl
def sh26 (C : AK) (h : H) (R : AV -> H -> Prop) : Prop:=
 C 33 [] h fun a h=>
 AL h [.nilsl,.nilsl,.nilsl,.nilsl,.nilsl,(.int .i64 0),(.int .i64 0)] 28 fun m1 h=>
 AM (stA h 7 m1 a) .undef fun _ h=>
 AA (ldA h (some 7) m1) h fun a h=>
 C 27 [a] h fun a h=>
 AA (A8 a 0) h fun b h=>
 AA (A8 a 1) h fun c h=>
 AA (A8 a 2) h fun d h=>
 AA (A8 a 3) h fun a h=>
 zF 4 m1 h fun e h=>
 AA (iaA 4 e (.int .i64 0)) h fun e h=>
 zF 3 e h fun e h=>
 zF 4 m1 h fun f h=>
 AA (iaA 4 f (.int .i64 0)) h fun f h=>
 zF 3 f h fun f h=>
 AA (iaA 2 f (.int .i64 0)) h fun f h=>
 zF 1 f h fun f h=>
 AA (B7 (.row 9) f (some (.int .i64 1)) none none) h fun f h=>
 AA (iaA 2 e (.int .i64 0)) h fun e h=>
 AA (faA 1 e) h fun e h=>
 AM (stA h 1 e f) .undef fun _ h=>
 AA (ldA h (some 7) m1) h fun f h=>
 C 27 [f] h fun f h=>
 AA (A8 f 0) h fun e h=>
 AA (A8 f 1) h fun g h=>
 AA (A8 f 2) h fun i h=>
 AA (A8 f 3) h fun f h=>
 zU a f h fun f h=>
 zT a (unOp .not f) h fun f h=>
 AA (AE a f (.bool false)) h fun f h=>
 zU f b h fun b h=>
 zT f (binOp .eql .num b (.int .i64 0)) h fun b h=>
 AA (AE f b (.bool false)) h fun b h=>
 zU b c h fun c h=>
 zT b (binOp .eql .num c (.int .i64 0)) h fun c h=>
 AA (AE b c (.bool false)) h fun c h=>
 zU c d h fun d h=>
 zT c (binOp .eql .num d (.int .i64 0)) h fun d h=>
 AA (AE c d (.bool false)) h fun d h=>
 zU d e h fun e h=>
 zT d (binOp .eql .num e (.int .i64 0)) h fun e h=>
 AA (AE d e (.bool false)) h fun e h=>
 zU e g h fun g h=>
 zT e (binOp .eql .num g (.int .i64 0)) h fun g h=>
 AA (AE e g (.bool false)) h fun g h=>
 zU g i h fun i h=>
 zT g (binOp .eql .num i (.int .i64 0)) h fun i h=>
 AA (AE g i (.bool false)) h fun i h=>
 zT i (ldA h (some 7) m1) h fun g h=>
 AH i true (fun K=>C 29 [g] h K) h fun g h=>
 zT i (binOp .eql .num g (.int .i64 21)) h fun g h=>
 AA (AE i g (.bool false)) h fun g h=>
 AH g true (fun K=>C 33 [] h K) h fun i h=>
 AH g true (fun K=>C 29 [i] h K) h fun i h=>
 zT g (binOp .eql .num i (.int .i64 0)) h fun i h=>
 AA (AE g i (.bool false)) h fun i h=>
 zT i (AT (AG [(.bool false),.nilsl] [])) h fun g h=>
 AH i true (fun K=>AA (AT (AG [(.bool false),.nilsl] [(0,1,(.bool true))])) h K) h fun e h=>
 AH i true (fun K=>C 23 [g,e] h K) h fun e h=>
 AA (AE i e (.bool false)) h fun e h=>
 AH e true (fun K=>AA (AT (AG [(.bool false),.nilsl] [(0,1,(.bool true))])) h K) h fun i h=>
 zT e (AT (AG [(.bool false),.nilsl] [])) h fun g h=>
 AH e true (fun K=>C 23 [i,g] h K) h fun g h=>
 zT e (unOp .not g) h fun g h=>
 AA (AE e g (.bool false)) h fun g h=>
 R g h
def an27 : ACode:=
 (.seq (zr [sD 1 (.bx none 28 (.t 0)),z0 2 0,z0 3 0,z0 4 0,zy 5 false])
 (.seq (.seq (zr [zk 11 7 1,z1 12 30 11,zo 13 12])
 (.cond (.t 13) (.seq (zr [z0 2 (-1),z0 3 (-1),z0 4 (-1),zy 5 false])
 .ret)
 .skip))
 (.seq (.seq (zr [zf 14 4 1,zl 15 14,zn 16 15,z0 17 0])
 (.block 0 (.loop [17] 229378 (.seq (zr [zb 18 .lss 17 16])
 (.seq (.cond (.t 18) .skip
 (.exit 0))
 (.seq (.block 1 (.seq (zr [zm 19 17,zi 20 4 15 17,zk 21 4 20,sD 7 (.al none 39 [.nilsl,(.int .i64 0),(.int .i64 0),.nilsl]),zm 6 19,zst 4 7 21])
 (.seq (zr [zf 22 3 7,zl 23 22,zn 24 23,z0 25 0])
 (.block 2 (.loop [25] 58949826 (.seq (zr [zb 26 .lss 25 24])
 (.seq (.cond (.t 26) .skip
 (.exit 2))
 (.seq (.block 3 (.seq (zr [zm 27 25,zi 28 2 23 25,zk 29 2 28,sD 9 (.al none 42 [.nilsl,.nilsl]),zm 8 27,zst 2 9 29])
 (.seq (zr [zk 30 7 1,zk 31 4 7,zk 32 2 9,z3 33 70 30 31 32,zm 10 33])
 (.seq (zr [zm 34 10,zd 35 .geq 34 0])
 (.cond (.t 35) (.seq (zr [zm 36 6,zm 37 8,zm 38 10,zm 2 36,zm 3 37,zm 4 38,zy 5 false])
 .ret)
 .skip)))))
 (zr [zd 39 .add 25 1,zm 25 39])))))))))
 (zr [zd 40 .add 17 1,zm 17 40])))))))
 (.seq (zr [z0 2 0,z0 3 0,z0 4 0,zy 5 true])
 .ret))))
def fn27 : AN:=⟨41,[(.tmp 2),(.tmp 3),(.tmp 4),(.tmp 5)],an27.erase⟩
theorem ok27 : OKF 27 fn27 = true:=by kernel_rfl
def sh27 (C : AK) (m0 : AV) (h : H) (R : AV -> H -> Prop) : Prop:=
 AL h (AV.cells m0) 28 fun m1 h=>
 AA (ldA h (some 7) m1) h fun a h=>
 C 30 [a] h fun a h=>
 AA (unOp .not a) h fun a h=>
 AC a
 (R (.tup [(.int .i64 (-1)),(.int .i64 (-1)),(.int .i64 (-1)),(.bool false)]) h)
 (AJ (fun (h : H)=>
 R (.tup [(.int .i64 0),(.int .i64 0),(.int .i64 0),(.bool true)]) h) fun J=>
 zF 4 m1 h fun a h=>
 AA (AF false a) h fun b h=>
 AP (fun N l h=>AX l 0 fun c=>
 AA (binOp .lss .num c b) h fun b h=>
 AC b
 (AJ (fun (h : H)=>
 AA (binOp .add .num c (.int .i64 1)) h fun b h=>
 N [b] h) fun J_30=>
 AA (iaA 4 a c) h fun a h=>
 AA (ldA h (some 4) a) h fun a h=>
 AL h [.nilsl,(.int .i64 0),(.int .i64 0),.nilsl] 39 fun f7 h=>
 AM (stA h 4 f7 a) .undef fun _ h=>
 zF 3 f7 h fun a h=>
 AA (AF false a) h fun b h=>
 AP (fun N_31 l h=>AX l 0 fun d=>
 AA (binOp .lss .num d b) h fun b h=>
 AC b
 (AA (iaA 2 a d) h fun a h=>
 AA (ldA h (some 2) a) h fun a h=>
 AL h [.nilsl,.nilsl] 42 fun b9 h=>
 AM (stA h 2 b9 a) .undef fun _ h=>
 AA (ldA h (some 7) m1) h fun a h=>
 AA (ldA h (some 4) f7) h fun b h=>
 AA (ldA h (some 2) b9) h fun e h=>
 C 70 [a,b,e] h fun e h=>
 AA (binOp .geq .num e (.int .i64 0)) h fun b h=>
 AC b
 (R (.tup [c,d,e,(.bool false)]) h)
 (AA (binOp .add .num d (.int .i64 1)) h fun d h=>
 N_31 [d] h))
 (J_30 h)) [(.int .i64 0)] h)
 (J h)) [(.int .i64 0)] h)
def an28 : ACode:=
 (.seq (zr [sD 1 (.bx none 28 (.t 0)),z0 2 0,z0 3 0,z0 4 0,zy 5 false])
 (.seq (.seq (zr [zk 11 7 1,z1 12 31 11,zo 13 12])
 (.cond (.t 13) (.seq (zr [z0 2 (-1),z0 3 (-1),z0 4 (-1),zy 5 false])
 .ret)
 .skip))
 (.seq (.seq (zr [zf 14 4 1,zl 15 14,zn 16 15,z0 17 0])
 (.block 0 (.loop [17] 229378 (.seq (zr [zb 18 .lss 17 16])
 (.seq (.cond (.t 18) .skip
 (.exit 0))
 (.seq (.block 1 (.seq (zr [zm 19 17,zi 20 4 15 17,zk 21 4 20,sD 7 (.al none 39 [.nilsl,(.int .i64 0),(.int .i64 0),.nilsl]),zm 6 19,zst 4 7 21])
 (.seq (zr [zf 22 3 7,zl 23 22,zn 24 23,z0 25 0])
 (.block 2 (.loop [25] 58949826 (.seq (zr [zb 26 .lss 25 24])
 (.seq (.cond (.t 26) .skip
 (.exit 2))
 (.seq (.block 3 (.seq (zr [zm 27 25,zi 28 2 23 25,zk 29 2 28,sD 9 (.al none 42 [.nilsl,.nilsl]),zm 8 27,zst 2 9 29])
 (.seq (zr [zk 30 7 1,zk 31 4 7,zk 32 2 9,z3 33 71 30 31 32,zm 10 33])
 (.seq (zr [zm 34 10,zd 35 .geq 34 0])
 (.cond (.t 35) (.seq (zr [zm 36 6,zm 37 8,zm 38 10,zm 2 36,zm 3 37,zm 4 38,zy 5 false])
 .ret)
 .skip)))))
 (zr [zd 39 .add 25 1,zm 25 39])))))))))
 (zr [zd 40 .add 17 1,zm 17 40])))))))
 (.seq (zr [z0 2 0,z0 3 0,z0 4 0,zy 5 true])
 .ret))))
def fn28 : AN:=⟨41,[(.tmp 2),(.tmp 3),(.tmp 4),(.tmp 5)],an28.erase⟩
theorem ok28 : OKF 28 fn28 = true:=by kernel_rfl
def sh28 (C : AK) (m0 : AV) (h : H) (R : AV -> H -> Prop) : Prop:=
 AL h (AV.cells m0) 28 fun m1 h=>
 AA (ldA h (some 7) m1) h fun a h=>
 C 31 [a] h fun a h=>
 AA (unOp .not a) h fun a h=>
 AC a
 (R (.tup [(.int .i64 (-1)),(.int .i64 (-1)),(.int .i64 (-1)),(.bool false)]) h)
 (AJ (fun (h : H)=>
 R (.tup [(.int .i64 0),(.int .i64 0),(.int .i64 0),(.bool true)]) h) fun J=>
 zF 4 m1 h fun a h=>
 AA (AF false a) h fun b h=>
 AP (fun N l h=>AX l 0 fun c=>
 AA (binOp .lss .num c b) h fun b h=>
 AC b
 (AJ (fun (h : H)=>
 AA (binOp .add .num c (.int .i64 1)) h fun b h=>
 N [b] h) fun J_30=>
 AA (iaA 4 a c) h fun a h=>
 AA (ldA h (some 4) a) h fun a h=>
 AL h [.nilsl,(.int .i64 0),(.int .i64 0),.nilsl] 39 fun f7 h=>
 AM (stA h 4 f7 a) .undef fun _ h=>
 zF 3 f7 h fun a h=>
 AA (AF false a) h fun b h=>
 AP (fun N_31 l h=>AX l 0 fun d=>
 AA (binOp .lss .num d b) h fun b h=>
 AC b
 (AA (iaA 2 a d) h fun a h=>
 AA (ldA h (some 2) a) h fun a h=>
 AL h [.nilsl,.nilsl] 42 fun b9 h=>
 AM (stA h 2 b9 a) .undef fun _ h=>
 AA (ldA h (some 7) m1) h fun a h=>
 AA (ldA h (some 4) f7) h fun b h=>
 AA (ldA h (some 2) b9) h fun e h=>
 C 71 [a,b,e] h fun e h=>
 AA (binOp .geq .num e (.int .i64 0)) h fun b h=>
 AC b
 (R (.tup [c,d,e,(.bool false)]) h)
 (AA (binOp .add .num d (.int .i64 1)) h fun d h=>
 N_31 [d] h))
 (J_30 h)) [(.int .i64 0)] h)
 (J h)) [(.int .i64 0)] h)
def an29 : ACode:=
 (.seq (zr [sD 1 (.bx none 28 (.t 0)),z0 2 0])
 (.seq (.seq (zr [zk 8 7 1,z1 9 27 8,zm 7 9,zx 10 7 0,zx 11 7 1,zx 12 7 2,zx 13 7 3,zm 3 10,zm 4 11,zm 5 12,zm 6 13])
 (.seq (zr [zm 14 6,zo 15 14])
 (.cond (.t 15) (.seq (zr [z0 2 21])
 .ret)
 .skip)))
 (.seq (zr [z0 2 0])
 .ret)))
def fn29 : AN:=⟨16,[(.tmp 2)],an29.erase⟩
theorem ok29 : OKF 29 fn29 = true:=by kernel_rfl
def sh29 (C : AK) (m0 : AV) (h : H) (R : AV -> H -> Prop) : Prop:=
 AL h (AV.cells m0) 28 fun m1 h=>
 AA (ldA h (some 7) m1) h fun a h=>
 C 27 [a] h fun a h=>
 AA (A8 a 0) h fun b h=>
 AA (A8 a 1) h fun b h=>
 AA (A8 a 2) h fun b h=>
 AA (A8 a 3) h fun a h=>
 AA (unOp .not a) h fun a h=>
 AC a
 (R (.int .i64 21) h)
 (R (.int .i64 0) h)
def an30 : ACode:=
 (.seq (zr [sD 1 (.bx none 28 (.t 0)),zy 2 false])
 (.seq (.seq (zr [zk 8 7 1,z1 9 43 8,zd 10 .neq 9 0,zm 11 10,zff 12 11 0 1,zlf 13 11 12,znf 14 11 13,zdf 15 11 .eql 14 0,zq 16 11 15,zm 17 16,zff 18 17 0 1,zlf 19 17 18,sG 20 17 false (.ia none 2 (.t 19) (.c (.int .i64 0))),zff 21 17 0 20,zlf 22 17 21,zof 23 17 22,zq 24 17 23,zm 25 24,zff 26 25 0 1,zlf 27 25 26,sG 28 25 false (.ia none 2 (.t 27) (.c (.int .i64 0))),zff 29 25 1 28,zlf 30 25 29,znf 31 25 30,zdf 32 25 .gtr 31 0,zq 33 25 32,zm 34 33,zff 35 34 1 1,zlf 36 34 35,znf 37 34 36,zdf 38 34 .eql 37 0,zq 39 34 38,zm 40 39,zff 41 40 1 1,zlf 42 40 41,sG 43 40 false (.ia none 3 (.t 42) (.c (.int .i64 0))),zff 44 40 0 43,zlf 45 40 44,zdf 46 40 .neq 45 3,zq 47 40 46])
 (.cond (.t 47) (.seq (zr [zy 2 false])
 .ret)
 .skip))
 (.seq (zr [sD 48 (.mkf 72 [] [(.t 1)]),sD 3 (.al none 98 [.nilfn]),zst 1 3 48])
 (.seq (.seq (zr [zf 49 0 1,zl 50 49,zn 51 50,z0 52 0])
 (.block 0 (.loop [52] 7881299347898378 (.seq (zr [zb 53 .lss 52 51])
 (.seq (.cond (.t 53) .skip
 (.exit 0))
 (.seq (.block 1 (.seq (zr [zi 54 2 50 52,zk 55 2 54,sD 5 (.al none 46 [(.bool false),.nilsl]),zst 2 5 55])
 (.seq (zr [zf 56 1 5,zl 57 56,zf 58 1 1,zl 59 58,zn 60 59,z2 61 73 57 60,zo 62 61])
 (.cond (.t 62) (.seq (zr [zy 2 false])
 .ret)
 .skip))))
 (zr [zd 63 .add 52 1,zm 52 63])))))))
 (.seq (.seq (zr [zf 64 1 1,zl 65 64,zn 66 65,z0 67 0])
 (.block 2 (.loop [67] 258254417031933722634 (.seq (zr [zb 68 .lss 67 66])
 (.seq (.cond (.t 68) .skip
 (.exit 2))
 (.seq (.block 3 (.seq (zr [zi 69 3 65 67,zk 70 3 69,sD 7 (.al none 61 [(.int .i64 0),.nilsl,(.str [])]),zst 3 7 70])
 (.seq (zr [zf 71 0 7,zl 72 71,zd 73 .lss 72 1,zm 74 73,zff 75 74 0 7,zlf 76 74 75,zdf 77 74 .gtr 76 3,zq 78 74 77,zm 79 78,zff 80 79 0 7,zlf 81 79 80,zdf 82 79 .eql 81 2,zmf 83 79 82,zft 84 83 1 7,zlt 85 83 84,znt 86 83 85,zdt 87 83 .neq 86 1,zpf 88 79 83 87,zq 89 79 88,zm 90 89,zff 91 90 0 7,zlf 92 90 91,zdf 93 90 .eql 92 3,zmf 94 90 93,zft 95 94 1 7,zlt 96 94 95,znt 97 94 96,zdt 98 94 .gtr 97 0,zpf 99 90 94 98,zq 100 90 99,zm 101 100,zff 102 101 1 7,zlf 103 101 102,sG 104 101 false (.mkf 74 [] [(.t 3)]),z2f 105 101 67 103 104,zq 106 101 105])
 (.cond (.t 106) (.seq (zr [zy 2 false])
 .ret)
 .skip))))
 (zr [zd 107 .add 67 1,zm 67 107])))))))
 (.seq (.seq (zr [zl 108 3,zf 109 6 1,zl 110 109,sD 111 (.callv (.t 108) [(.t 110)]),zo 112 111,zm 113 112,zff 114 113 0 1,zlf 115 113 114,zff 116 113 6 1,zlf 117 113 116,zif 118 113 2 115 117,zff 119 113 0 118,zlf 120 113 119,zof 121 113 120,zq 122 113 121,zm 123 122,zff 124 123 0 1,zlf 125 123 124,zff 126 123 6 1,zlf 127 123 126,zif 128 123 2 125 127,zff 129 123 1 128,zlf 130 123 129,sG 131 123 false (.mkf 75 [] [(.t 1)]),z2f 132 123 67 130 131,zq 133 123 132])
 (.cond (.t 133) (.seq (zr [zy 2 false])
 .ret)
 .skip))
 (.seq (.seq (zr [zf 134 5 1,zl 135 134,zd 136 .lss 135 0,zm 137 136,zff 138 137 5 1,zlf 139 137 138,zff 140 137 4 1,zlf 141 137 140,znf 142 137 141,zbf 143 137 .geq 139 142,zq 144 137 143,zm 145 144,zff 146 145 4 1,zlf 147 145 146,zff 148 145 5 1,zlf 149 145 148,zif 150 145 4 147 149,zff 151 145 0 150,zlf 152 145 151,znf 153 145 152,zdf 154 145 .gtr 153 0,zq 155 145 154])
 (.cond (.t 155) (.seq (zr [zy 2 false])
 .ret)
 .skip))
 (.seq (zr [zf 156 4 1,zl 157 156,sD 158 (.mkf 77 [] [(.t 3)]),z2 159 76 157 158,zo 160 159,zm 2 160])
 .ret))))))))
def fn30 : AN:=⟨161,[(.tmp 2)],an30.erase⟩
theorem ok30 : OKF 30 fn30 = true:=by kernel_rfl
def sh30 (C : AK) (m0 : AV) (h : H) (R : AV -> H -> Prop) : Prop:=
 AL h (AV.cells m0) 28 fun m1 h=>
 AA (ldA h (some 7) m1) h fun a h=>
 C 43 [a] h fun a h=>
 AA (binOp .neq .num a (.int .i64 0)) h fun a h=>
 zH a 0 m1 h fun b h=>
 zE a (AF false b) h fun b h=>
 zE a (binOp .eql .num b (.int .i64 0)) h fun b h=>
 AA (AE a (.bool true) b) h fun b h=>
 zH b 0 m1 h fun a h=>
 zE b (iaA 2 a (.int .i64 0)) h fun a h=>
 zH b 0 a h fun a h=>
 zE b (unOp .not a) h fun a h=>
 AA (AE b (.bool true) a) h fun a h=>
 zH a 0 m1 h fun b h=>
 zE a (iaA 2 b (.int .i64 0)) h fun b h=>
 zH a 1 b h fun b h=>
 zE a (AF false b) h fun b h=>
 zE a (binOp .gtr .num b (.int .i64 0)) h fun b h=>
 AA (AE a (.bool true) b) h fun b h=>
 zH b 1 m1 h fun a h=>
 zE b (AF false a) h fun a h=>
 zE b (binOp .eql .num a (.int .i64 0)) h fun a h=>
 AA (AE b (.bool true) a) h fun a h=>
 zH a 1 m1 h fun b h=>
 zE a (iaA 3 b (.int .i64 0)) h fun b h=>
 zH a 0 b h fun b h=>
 zE a (binOp .neq .num b (.int .i64 3)) h fun b h=>
 AA (AE a (.bool true) b) h fun b h=>
 AC b
 (R (.bool false) h)
 (AL h [.nilfn] 98 fun kind3 h=>
 AM (stA h 1 kind3 (.fn 72 [] [m1])) .undef fun _ h=>
 AJ (fun (h : H)=>
 AJ (fun (h : H)=>
 zL kind3 h fun b h=>
 zF 6 m1 h fun a h=>
 CQ C b [a] h fun a h=>
 AA (unOp .not a) h fun a h=>
 zH a 0 m1 h fun b h=>
 zH a 6 m1 h fun c h=>
 zE a (iaA 2 b c) h fun c h=>
 zH a 0 c h fun c h=>
 zE a (unOp .not c) h fun c h=>
 AA (AE a (.bool true) c) h fun c h=>
 zH c 0 m1 h fun a h=>
 zH c 6 m1 h fun b h=>
 zE c (iaA 2 a b) h fun b h=>
 zH c 1 b h fun b h=>
 zV c (.fn 75 [] [m1]) h fun a h=>
 AH c false (fun K=>C 67 [b,a] h K) h fun a h=>
 AA (AE c (.bool true) a) h fun a h=>
 AC a
 (R (.bool false) h)
 (zF 5 m1 h fun a h=>
 AA (binOp .lss .num a (.int .i64 0)) h fun a h=>
 zH a 5 m1 h fun c h=>
 zH a 4 m1 h fun b h=>
 zE a (AF false b) h fun b h=>
 zE a (binOp .geq .num c b) h fun b h=>
 AA (AE a (.bool true) b) h fun b h=>
 zH b 4 m1 h fun a h=>
 zH b 5 m1 h fun c h=>
 zE b (iaA 4 a c) h fun c h=>
 zH b 0 c h fun c h=>
 zE b (AF false c) h fun c h=>
 zE b (binOp .gtr .num c (.int .i64 0)) h fun c h=>
 AA (AE b (.bool true) c) h fun c h=>
 AC c
 (R (.bool false) h)
 (zF 4 m1 h fun c h=>
 C 76 [c,(.fn 77 [] [kind3])] h fun c h=>
 AA (unOp .not c) h fun c h=>
 R c h))) fun J=>
 zF 1 m1 h fun c h=>
 AA (AF false c) h fun b h=>
 AP (fun N l h=>AX l 0 fun a=>
 AA (binOp .lss .num a b) h fun b h=>
 AC b
 (AA (iaA 3 c a) h fun c h=>
 AA (ldA h (some 3) c) h fun c h=>
 AL h [(.int .i64 0),.nilsl,(.str [])] 61 fun s7 h=>
 AM (stA h 3 s7 c) .undef fun _ h=>
 zF 0 s7 h fun c h=>
 AA (binOp .lss .num c (.int .i64 1)) h fun c h=>
 zH c 0 s7 h fun b h=>
 zE c (binOp .gtr .num b (.int .i64 3)) h fun b h=>
 AA (AE c (.bool true) b) h fun b h=>
 zH b 0 s7 h fun c h=>
 zE b (binOp .eql .num c (.int .i64 2)) h fun c h=>
 zV b c h fun c h=>
 zG c 1 s7 h fun d h=>
 zT c (AF false d) h fun d h=>
 zT c (binOp .neq .num d (.int .i64 1)) h fun d h=>
 zE b (AE c d (.bool false)) h fun d h=>
 AA (AE b (.bool true) d) h fun d h=>
 zH d 0 s7 h fun b h=>
 zE d (binOp .eql .num b (.int .i64 3)) h fun b h=>
 zV d b h fun b h=>
 zG b 1 s7 h fun c h=>
 zT b (AF false c) h fun c h=>
 zT b (binOp .gtr .num c (.int .i64 0)) h fun c h=>
 zE d (AE b c (.bool false)) h fun c h=>
 AA (AE d (.bool true) c) h fun c h=>
 zH c 1 s7 h fun d h=>
 zV c (.fn 74 [] [kind3]) h fun b h=>
 AH c false (fun K=>C 67 [d,b] h K) h fun b h=>
 AA (AE c (.bool true) b) h fun b h=>
 AC b
 (R (.bool false) h)
 (AA (binOp .add .num a (.int .i64 1)) h fun a h=>
 N [a] h))
 (J h)) [(.int .i64 0)] h) fun J_1=>
 zF 0 m1 h fun a h=>
 AA (AF false a) h fun b h=>
 AP (fun N_2 l h=>AX l 0 fun c=>
 AA (binOp .lss .num c b) h fun b h=>
 AC b
 (AA (iaA 2 a c) h fun a h=>
 AA (ldA h (some 2) a) h fun a h=>
 AL h [(.bool false),.nilsl] 46 fun b h=>
 AM (stA h 2 b a) .undef fun _ h=>
 zF 1 b h fun b h=>
 zF 1 m1 h fun a h=>
 AA (AF false a) h fun a h=>
 C 73 [b,a] h fun a h=>
 AA (unOp .not a) h fun a h=>
 AC a
 (R (.bool false) h)
 (AA (binOp .add .num c (.int .i64 1)) h fun c h=>
 N_2 [c] h))
 (J_1 h)) [(.int .i64 0)] h)
def an31 : ACode:=
 (.seq (zr [sD 1 (.bx none 28 (.t 0)),zy 2 false])
 (.seq (.seq (zr [zk 12 7 1,z1 13 19 12,zd 14 .neq 13 0,zm 15 14,zff 16 15 0 1,zlf 17 15 16,znf 18 15 17,zdf 19 15 .lss 18 1,zq 20 15 19,zm 21 20,zff 22 21 1 1,zlf 23 21 22,znf 24 21 23,zdf 25 21 .lss 24 1,zq 26 21 25,zm 27 26,zff 28 27 0 1,zlf 29 27 28,sG 30 27 false (.ia none 2 (.t 29) (.c (.int .i64 0))),zff 31 27 0 30,zlf 32 27 31,zof 33 27 32,zq 34 27 33,zm 35 34,zff 36 35 0 1,zlf 37 35 36,sG 38 35 false (.ia none 2 (.t 37) (.c (.int .i64 0))),zff 39 35 1 38,zlf 40 35 39,znf 41 35 40,zdf 42 35 .neq 41 0,zq 43 35 42,zm 44 43,zff 45 44 1 1,zlf 46 44 45,sG 47 44 false (.ia none 3 (.t 46) (.c (.int .i64 0))),zff 48 44 0 47,zlf 49 44 48,zdf 50 44 .neq 49 3,zq 51 44 50])
 (.cond (.t 51) (.seq (zr [zy 2 false])
 .ret)
 .skip))
 (.seq (.seq (zr [zf 52 0 1,zl 53 52,zn 54 53,z0 55 0])
 (.block 0 (.loop [55] 63050394783186946 (.seq (zr [zb 56 .lss 55 54])
 (.seq (.cond (.t 56) .skip
 (.exit 0))
 (.seq (.block 1 (.seq (zr [zi 57 2 53 55,zk 58 2 57,sD 4 (.al none 46 [(.bool false),.nilsl]),zst 2 4 58])
 (.seq (zr [zf 59 1 4,zl 60 59,zf 61 1 1,zl 62 61,zn 63 62,z2 64 79 60 63,zo 65 64])
 (.cond (.t 65) (.seq (zr [zy 2 false])
 .ret)
 .skip))))
 (zr [zd 66 .add 55 1,zm 55 66])))))))
 (.seq (.seq (zr [zf 67 1 1,zl 68 67,zn 69 68,z0 70 0])
 (.block 2 (.loop [70] 2066035336255469780994 (.seq (zr [zb 71 .lss 70 69])
 (.seq (.cond (.t 71) .skip
 (.exit 2))
 (.seq (.block 3 (.seq (zr [zi 72 3 68 70,zk 73 3 72,sD 6 (.al none 61 [(.int .i64 0),.nilsl,(.str [])]),zst 3 6 73])
 (.seq (zr [zf 74 1 6,zl 75 74,zn 76 75,zm 7 76])
 (.seq (zr [zf 77 0 6,zl 78 77,zd 79 .lss 78 1,zm 80 79,zff 81 80 0 6,zlf 82 80 81,zdf 83 80 .gtr 82 3,zq 84 80 83,zm 85 84,zff 86 85 0 6,zlf 87 85 86,zdf 88 85 .eql 87 2,zmf 89 85 88,zmt 90 89 7,zdt 91 89 .neq 90 1,zpf 92 85 89 91,zq 93 85 92,zm 94 93,zff 95 94 0 6,zlf 96 94 95,zdf 97 94 .eql 96 3,zmf 98 94 97,zmt 99 98 7,zdt 100 98 .neq 99 0,zpf 101 94 98 100,zq 102 94 101,zm 103 102,zkf 104 103 7 1,zff 105 103 1 6,zlf 106 103 105,z2f 107 103 80 104 106,zof 108 103 107,zq 109 103 108])
 (.cond (.t 109) (.seq (zr [zy 2 false])
 .ret)
 .skip)))))
 (zr [zd 110 .add 70 1,zm 70 110])))))))
 (.seq (.seq (zr [zk 111 7 1,zf 112 6 1,zl 113 112,sD 114 (.mksl none 3 [(.int .i64 0)] 1 [(0,1,(.t 113))]),z2 115 80 111 114,zo 116 115,zm 117 116,zff 118 117 0 1,zlf 119 117 118,zff 120 117 6 1,zlf 121 117 120,zif 122 117 2 119 121,zff 123 117 0 122,zlf 124 117 123,zof 125 117 124,zq 126 117 125,zm 127 126,zff 128 127 5 1,zlf 129 127 128,zdf 130 127 .lss 129 0,zq 131 127 130,zm 132 131,zff 133 132 5 1,zlf 134 132 133,zff 135 132 4 1,zlf 136 132 135,znf 137 132 136,zbf 138 132 .geq 134 137,zq 139 132 138,zm 140 139,zff 141 140 4 1,zlf 142 140 141,zff 143 140 5 1,zlf 144 140 143,zif 145 140 4 142 144,zff 146 140 0 145,zlf 147 140 146,znf 148 140 147,zdf 149 140 .neq 148 0,zq 150 140 149])
 (.cond (.t 150) (.seq (zr [zy 2 false])
 .ret)
 .skip))
 (.seq (.seq (zr [zf 151 0 1,zl 152 151,zf 153 6 1,zl 154 153,zi 155 2 152 154,zf 156 1 155,zl 157 156,zn 158 157,z0 159 0])
 (.block 4 (.loop [159] 1278813932664540053428224228626747642198940975106 (.seq (zr [zb 160 .lss 159 158])
 (.seq (.cond (.t 160) .skip
 (.exit 4))
 (.seq (.block 5 (.seq (zr [zi 161 1 157 159,zl 162 161,zm 9 162])
 (.seq (zr [zf 163 1 1,zl 164 163,zm 165 9,zi 166 3 164 165,zf 167 0 166,zl 168 167,zd 169 .neq 168 1])
 (.cond (.t 169) (.seq (zr [zy 2 false])
 .ret)
 .skip))))
 (zr [zd 170 .add 159 1,zm 159 170])))))))
 (.seq (.seq (zr [zf 171 4 1,zl 172 171,zn 173 172,z0 174 0])
 (.block 6 (.loop [174] 41904174945551648470736051523641266739574897872207874 (.seq (zr [zb 175 .lss 174 173])
 (.seq (.cond (.t 175) .skip
 (.exit 6))
 (.seq (.block 7 (.seq (zr [zi 176 4 172 174,zk 177 4 176,sD 11 (.al none 39 [.nilsl,(.int .i64 0),(.int .i64 0),.nilsl]),zst 4 11 177])
 (.seq (zr [zk 178 7 1,zk 179 4 11,z2 180 81 178 179,zo 181 180])
 (.cond (.t 181) (.seq (zr [zy 2 false])
 .ret)
 .skip))))
 (zr [zd 182 .add 174 1,zm 174 182])))))))
 (.seq (zr [zy 2 true])
 .ret))))))))
def fn31 : AN:=⟨183,[(.tmp 2)],an31.erase⟩
theorem ok31 : OKF 31 fn31 = true:=by kernel_rfl
def sh31 (C : AK) (m0 : AV) (h : H) (R : AV -> H -> Prop) : Prop:=
 AL h (AV.cells m0) 28 fun m1 h=>
 AA (ldA h (some 7) m1) h fun a h=>
 C 19 [a] h fun a h=>
 AA (binOp .neq .num a (.int .i64 0)) h fun a h=>
 zH a 0 m1 h fun b h=>
 zE a (AF false b) h fun b h=>
 zE a (binOp .lss .num b (.int .i64 1)) h fun b h=>
 AA (AE a (.bool true) b) h fun b h=>
 zH b 1 m1 h fun a h=>
 zE b (AF false a) h fun a h=>
 zE b (binOp .lss .num a (.int .i64 1)) h fun a h=>
 AA (AE b (.bool true) a) h fun a h=>
 zH a 0 m1 h fun b h=>
 zE a (iaA 2 b (.int .i64 0)) h fun b h=>
 zH a 0 b h fun b h=>
 zE a (unOp .not b) h fun b h=>
 AA (AE a (.bool true) b) h fun b h=>
 zH b 0 m1 h fun a h=>
 zE b (iaA 2 a (.int .i64 0)) h fun a h=>
 zH b 1 a h fun a h=>
 zE b (AF false a) h fun a h=>
 zE b (binOp .neq .num a (.int .i64 0)) h fun a h=>
 AA (AE b (.bool true) a) h fun a h=>
 zH a 1 m1 h fun b h=>
 zE a (iaA 3 b (.int .i64 0)) h fun b h=>
 zH a 0 b h fun b h=>
 zE a (binOp .neq .num b (.int .i64 3)) h fun b h=>
 AA (AE a (.bool true) b) h fun b h=>
 AC b
 (R (.bool false) h)
 (AJ (fun (h : H)=>
 AJ (fun (h : H)=>
 AA (ldA h (some 7) m1) h fun b h=>
 zF 6 m1 h fun a h=>
 A5 h 3 1 (AG [(.int .i64 0)] [(0,1,a)]) fun a h=>
 C 80 [b,a] h fun a h=>
 AA (unOp .not a) h fun a h=>
 zH a 0 m1 h fun b h=>
 zH a 6 m1 h fun c h=>
 zE a (iaA 2 b c) h fun c h=>
 zH a 0 c h fun c h=>
 zE a (unOp .not c) h fun c h=>
 AA (AE a (.bool true) c) h fun c h=>
 zH c 5 m1 h fun a h=>
 zE c (binOp .lss .num a (.int .i64 0)) h fun a h=>
 AA (AE c (.bool true) a) h fun a h=>
 zH a 5 m1 h fun c h=>
 zH a 4 m1 h fun b h=>
 zE a (AF false b) h fun b h=>
 zE a (binOp .geq .num c b) h fun b h=>
 AA (AE a (.bool true) b) h fun b h=>
 zH b 4 m1 h fun a h=>
 zH b 5 m1 h fun c h=>
 zE b (iaA 4 a c) h fun c h=>
 zH b 0 c h fun c h=>
 zE b (AF false c) h fun c h=>
 zE b (binOp .neq .num c (.int .i64 0)) h fun c h=>
 AA (AE b (.bool true) c) h fun c h=>
 AC c
 (R (.bool false) h)
 (AJ (fun (h : H)=>
 AJ (fun (h : H)=>
 R (.bool true) h) fun J=>
 zF 4 m1 h fun c h=>
 AA (AF false c) h fun b h=>
 AP (fun N l h=>AX l 0 fun a=>
 AA (binOp .lss .num a b) h fun b h=>
 AC b
 (AA (iaA 4 c a) h fun c h=>
 AA (ldA h (some 4) c) h fun c h=>
 AL h [.nilsl,(.int .i64 0),(.int .i64 0),.nilsl] 39 fun f11 h=>
 AM (stA h 4 f11 c) .undef fun _ h=>
 AA (ldA h (some 7) m1) h fun c h=>
 AA (ldA h (some 4) f11) h fun b h=>
 C 81 [c,b] h fun b h=>
 AA (unOp .not b) h fun b h=>
 AC b
 (R (.bool false) h)
 (AA (binOp .add .num a (.int .i64 1)) h fun a h=>
 N [a] h))
 (J h)) [(.int .i64 0)] h) fun J_3=>
 zF 0 m1 h fun a h=>
 zF 6 m1 h fun b h=>
 AA (iaA 2 a b) h fun b h=>
 zF 1 b h fun b h=>
 AA (AF false b) h fun a h=>
 AP (fun N_4 l h=>AX l 0 fun c=>
 AA (binOp .lss .num c a) h fun a h=>
 AC a
 (AA (iaA 1 b c) h fun b h=>
 zL b h fun b h=>
 zF 1 m1 h fun a h=>
 AA (iaA 3 a b) h fun b h=>
 zF 0 b h fun b h=>
 AA (binOp .neq .num b (.int .i64 1)) h fun b h=>
 AC b
 (R (.bool false) h)
 (AA (binOp .add .num c (.int .i64 1)) h fun c h=>
 N_4 [c] h))
 (J_3 h)) [(.int .i64 0)] h)) fun J_5=>
 zF 1 m1 h fun c h=>
 AA (AF false c) h fun b h=>
 AP (fun N_6 l h=>AX l 0 fun a=>
 AA (binOp .lss .num a b) h fun b h=>
 AC b
 (AA (iaA 3 c a) h fun c h=>
 AA (ldA h (some 3) c) h fun c h=>
 AL h [(.int .i64 0),.nilsl,(.str [])] 61 fun s6 h=>
 AM (stA h 3 s6 c) .undef fun _ h=>
 zF 1 s6 h fun c h=>
 AA (AF false c) h fun c h=>
 zF 0 s6 h fun b h=>
 AA (binOp .lss .num b (.int .i64 1)) h fun b h=>
 zH b 0 s6 h fun d h=>
 zE b (binOp .gtr .num d (.int .i64 3)) h fun d h=>
 AA (AE b (.bool true) d) h fun d h=>
 zH d 0 s6 h fun b h=>
 zE d (binOp .eql .num b (.int .i64 2)) h fun b h=>
 zV d b h fun b h=>
 zU b c h fun e h=>
 zT b (binOp .neq .num e (.int .i64 1)) h fun e h=>
 zE d (AE b e (.bool false)) h fun e h=>
 AA (AE d (.bool true) e) h fun e h=>
 zH e 0 s6 h fun d h=>
 zE e (binOp .eql .num d (.int .i64 3)) h fun d h=>
 zV e d h fun d h=>
 zU d c h fun c h=>
 zT d (binOp .neq .num c (.int .i64 0)) h fun c h=>
 zE e (AE d c (.bool false)) h fun c h=>
 AA (AE e (.bool true) c) h fun c h=>
 zE c (ldA h (some 7) m1) h fun e h=>
 zH c 1 s6 h fun d h=>
 AH c false (fun K=>C 80 [e,d] h K) h fun d h=>
 zE c (unOp .not d) h fun d h=>
 AA (AE c (.bool true) d) h fun d h=>
 AC d
 (R (.bool false) h)
 (AA (binOp .add .num a (.int .i64 1)) h fun a h=>
 N_6 [a] h))
 (J_5 h)) [(.int .i64 0)] h) fun J_7=>
 zF 0 m1 h fun a h=>
 AA (AF false a) h fun d h=>
 AP (fun N_8 l h=>AX l 0 fun c=>
 AA (binOp .lss .num c d) h fun d h=>
 AC d
 (AA (iaA 2 a c) h fun a h=>
 AA (ldA h (some 2) a) h fun a h=>
 AL h [(.bool false),.nilsl] 46 fun d h=>
 AM (stA h 2 d a) .undef fun _ h=>
 zF 1 d h fun d h=>
 zF 1 m1 h fun a h=>
 AA (AF false a) h fun a h=>
 C 79 [d,a] h fun a h=>
 AA (unOp .not a) h fun a h=>
 AC a
 (R (.bool false) h)
 (AA (binOp .add .num c (.int .i64 1)) h fun c h=>
 N_8 [c] h))
 (J_7 h)) [(.int .i64 0)] h)
def an32 : ACode:=
 (.seq (zr [sD 3 (.bx none 28 (.t 0)),sD 4 (.bx none 55 (.t 1)),sD 6 (.al none 28 [.nilsl,.nilsl,.nilsl,.nilsl,.nilsl,(.int .i64 0),(.int .i64 0)])])
 (.seq (zr [sD 7 (.mv (.c (.int .u64 0)))])
 (.seq (.seq (zr [zf 17 4 3,zl 18 17,zn 19 18,z0 20 0])
 (.block 0 (.loop [7,20] 1835228 (.seq (zr [zb 21 .lss 20 19])
 (.seq (.cond (.t 21) .skip
 (.exit 0))
 (.seq (.block 1 (.seq (zr [zi 22 4 18 20,zk 23 4 22,sD 9 (.al none 39 [.nilsl,(.int .i64 0),(.int .i64 0),.nilsl]),zst 4 9 23])
 (.seq (zr [zf 24 3 9,zl 25 24,zn 26 25,z0 27 0])
 (.block 2 (.loop [7,27] 236716252 (.seq (zr [zb 28 .lss 27 26])
 (.seq (.cond (.t 28) .skip
 (.exit 2))
 (.seq (.block 3 (.seq (zr [zi 29 2 25 27,zk 30 2 29,sD 11 (.al none 42 [.nilsl,.nilsl]),zst 2 11 30])
 (zr [zm 31 7,zf 32 1 11,zl 33 32,zn 34 33,sD 35 (.cv none (.toInt .u64) (.t 34)),zb 36 .add 31 35,zm 7 36])))
 (zr [zd 37 .add 27 1,zm 27 37])))))))))
 (zr [zd 38 .add 20 1,zm 20 38])))))))
 (.seq (.seq (zr [zm 39 7,sD 40 (.bin .eql .num (.t 39) (.c (.int .u64 0)))])
 (.cond (.t 40) (.seq (zr [zk 41 7 3,zst 7 6 41])
 .ret)
 .skip))
 (.seq (zr [zm 42 2,zm 43 7,zb 44 .rem 42 43,zm 2 44])
 (.seq (zr [sD 45 (.mksl none 39 [] 0 []),zf 46 4 3,zl 47 46,sD 48 (.app 39 4 64 [.nilsl,(.int .i64 0),(.int .i64 0),.nilsl] (.t 45) (.t 47)),zf 49 4 3,zst 1 49 48])
 (.seq (.seq (zr [zf 50 4 3,zl 51 50,zn 52 51,z0 53 0])
 (.block 4 (.loop [2,53] 15762598695796828 (.seq (zr [zb 54 .lss 53 52])
 (.seq (.cond (.t 54) .skip
 (.exit 4))
 (.seq (.block 5 (.seq (zr [zm 55 53,zi 56 4 51 53,zk 57 4 56,sD 13 (.al none 39 [.nilsl,(.int .i64 0),(.int .i64 0),.nilsl]),zm 12 55,zst 4 13 57])
 (.seq (zr [zf 58 3 13,zl 59 58,zn 60 59,z0 61 0])
 (.block 6 (.loop [2,61] 4050987864819773532 (.seq (zr [zb 62 .lss 61 60])
 (.seq (.cond (.t 62) .skip
 (.exit 6))
 (.seq (.block 7 (.seq (zr [zm 63 61,zi 64 2 59 61,zk 65 2 64,sD 15 (.al none 42 [.nilsl,.nilsl]),zm 14 63,zst 2 15 65])
 (.seq (.seq (zr [zm 66 2,zf 67 1 15,zl 68 67,zn 69 68,sD 70 (.cv none (.toInt .u64) (.t 69)),zb 71 .lss 66 70])
 (.cond (.t 71) (.seq (zr [sD 72 (.mksl none 55 [] 0 []),zf 73 1 15,zl 74 73,sD 75 (.app 55 9 120 [(.int .i64 0),(.int .i64 0),(.int .i64 0),(.int .i64 0),(.int .i64 0),(.int .i64 0),.nilsl,.nilsl,.nilsl] (.t 72) (.t 74)),zm 16 75])
 (.seq (zr [zm 76 16,zm 77 2,zk 78 9 4,zi 79 9 76 77,zst 9 79 78])
 (.seq (.reg 1 [0,1,2,4,5,3,6,7,8,9] (zcz [[],[0],[],[],[],[4],[5,3],[6,2,1],[7],[8]]) [zf 80 4 3,zl 81 80,zm 82 12,zf 84 3 13,zl 85 84,sD 83 (.mksl (some 0) 42 [] 0 []),⟨(some 86),none,(.app 42 2 48 [.nilsl,.nilsl] (.t 83) (.t 85)),[⟨none,(.ld none (.t 80)),81⟩]⟩,zi 87 4 81 82,zf 88 3 87,zst 1 88 86])
 (.seq (zr [zf 89 4 3,zl 90 89,zm 91 12,zi 92 4 90 91,zf 93 3 92,zl 94 93,zm 95 14,zm 96 16,zi 97 2 94 95,zf 98 1 97,zst 1 98 96])
 (.seq (zr [zk 99 7 3,zst 7 6 99])
 .ret)))))
 .skip))
 (zr [zm 100 2,zf 101 1 15,zl 102 101,zn 103 102,sD 104 (.cv none (.toInt .u64) (.t 103)),zb 105 .sub 100 104,zm 2 105]))))
 (zr [zd 106 .add 61 1,zm 61 106])))))))))
 (zr [zd 107 .add 53 1,zm 53 107])))))))
 (.seq (zr [zk 108 7 3,zst 7 6 108])
 .ret))))))))
def fn32 : AN:=⟨109,[(.cell 6 (some 7))],an32.erase⟩
theorem ok32 : OKF 32 fn32 = true:=by kernel_rfl
def sh32 (C : AK) (m0 x1 at2 : AV) (h : H) (R : AV -> H -> Prop) : Prop:=
 AL h (AV.cells m0) 28 fun m3 h=>
 AL h (AV.cells x1) 55 fun x4 h=>
 AL h [.nilsl,.nilsl,.nilsl,.nilsl,.nilsl,(.int .i64 0),(.int .i64 0)] 28 fun a h=>
 AJ (fun (n7' : AV) (h : H)=>
 AA (binOp .eql .num n7' (.int .u64 0)) h fun b h=>
 AC b
 (AA (ldA h (some 7) m3) h fun b h=>
 AM (stA h 7 a b) .undef fun _ h=>
 AA (ldA h (some 7) a) h fun res _=>R res h)
 (AA (binOp .rem .num at2 n7') h fun b h=>
 A5 h 39 0 (AG [] []) fun c h=>
 zF 4 m3 h fun d h=>
 A4 h 39 4 64 c d fun d h=>
 AA (faA 4 m3) h fun c h=>
 AM (stA h 1 c d) .undef fun _ h=>
 AJ (fun (h : H)=>
 AA (ldA h (some 7) m3) h fun d h=>
 AM (stA h 7 a d) .undef fun _ h=>
 AA (ldA h (some 7) a) h fun res_0 _=>R res_0 h) fun J=>
 zF 4 m3 h fun d h=>
 AA (AF false d) h fun c h=>
 AP (fun N l h=>AX l 0 fun at2_1=>AX l 1 fun e=>
 AA (binOp .lss .num e c) h fun c h=>
 AC c
 (AJ (fun (at2'_2 : AV) (h : H)=>
 AA (binOp .add .num e (.int .i64 1)) h fun c h=>
 N [at2'_2,c] h) fun J_60=>
 AA (iaA 4 d e) h fun d h=>
 AA (ldA h (some 4) d) h fun d h=>
 AL h [.nilsl,(.int .i64 0),(.int .i64 0),.nilsl] 39 fun f13 h=>
 AM (stA h 4 f13 d) .undef fun _ h=>
 zF 3 f13 h fun d h=>
 AA (AF false d) h fun c h=>
 AP (fun N_61 l h=>AX l 0 fun at2_62=>AX l 1 fun f=>
 AA (binOp .lss .num f c) h fun c h=>
 AC c
 (AA (iaA 2 d f) h fun d h=>
 AA (ldA h (some 2) d) h fun d h=>
 AL h [.nilsl,.nilsl] 42 fun b15 h=>
 AM (stA h 2 b15 d) .undef fun _ h=>
 zF 1 b15 h fun d h=>
 AA (AF false d) h fun d h=>
 AA (cvA .u64 d) h fun d h=>
 AA (binOp .lss .num at2_62 d) h fun d h=>
 AC d
 (A5 h 55 0 (AG [] []) fun d h=>
 zF 1 b15 h fun c h=>
 A4 h 55 9 120 d c fun c h=>
 AA (ldA h (some 9) x4) h fun d h=>
 AA (iaA 9 c at2_62) h fun g h=>
 AM (stA h 9 g d) .undef fun _ h=>
 AA (faA 4 m3) h fun d h=>
 zL d h fun g h=>
 zF 3 f13 h fun i h=>
 A5 h 42 0 (AG [] []) fun j h=>
 A4 h 42 2 48 j i fun i h=>
 AY (AA (ldA h none d) h (fun v _=>v = g)) <|
 AA (iaA 4 g e) h fun g h=>
 AA (faA 3 g) h fun g h=>
 AM (stA h 1 g i) .undef fun _ h=>
 zF 4 m3 h fun i h=>
 AA (iaA 4 i e) h fun e h=>
 zF 3 e h fun e h=>
 AA (iaA 2 e f) h fun e h=>
 AA (faA 1 e) h fun e h=>
 AM (stA h 1 e c) .undef fun _ h=>
 AA (ldA h (some 7) m3) h fun c h=>
 AM (stA h 7 a c) .undef fun _ h=>
 AA (ldA h (some 7) a) h fun res_63 _=>R res_63 h)
 (zF 1 b15 h fun a h=>
 AA (AF false a) h fun a h=>
 AA (cvA .u64 a) h fun a h=>
 AA (binOp .sub .num at2_62 a) h fun a h=>
 AA (binOp .add .num f (.int .i64 1)) h fun f h=>
 N_61 [a,f] h))
 (J_60 at2_62 h)) [at2_1,(.int .i64 0)] h)
 (J h)) [b,(.int .i64 0)] h)) fun J_64=>
 zF 4 m3 h fun b h=>
 AA (AF false b) h fun f h=>
 AP (fun N_65 l h=>AX l 0 fun n7=>AX l 1 fun a=>
 AA (binOp .lss .num a f) h fun f h=>
 AC f
 (AJ (fun (n7'_66 : AV) (h : H)=>
 AA (binOp .add .num a (.int .i64 1)) h fun f h=>
 N_65 [n7'_66,f] h) fun J_85=>
 AA (iaA 4 b a) h fun a h=>
 AA (ldA h (some 4) a) h fun a h=>
 AL h [.nilsl,(.int .i64 0),(.int .i64 0),.nilsl] 39 fun f9 h=>
 AM (stA h 4 f9 a) .undef fun _ h=>
 zF 3 f9 h fun a h=>
 AA (AF false a) h fun b h=>
 AP (fun N_86 l h=>AX l 0 fun n7_87=>AX l 1 fun f=>
 AA (binOp .lss .num f b) h fun b h=>
 AC b
 (AA (iaA 2 a f) h fun a h=>
 AA (ldA h (some 2) a) h fun a h=>
 AL h [.nilsl,.nilsl] 42 fun b11 h=>
 AM (stA h 2 b11 a) .undef fun _ h=>
 zF 1 b11 h fun a h=>
 AA (AF false a) h fun a h=>
 AA (cvA .u64 a) h fun a h=>
 AA (binOp .add .num n7_87 a) h fun a h=>
 AA (binOp .add .num f (.int .i64 1)) h fun f h=>
 N_86 [a,f] h)
 (J_85 n7_87 h)) [n7,(.int .i64 0)] h)
 (J_64 n7 h)) [(.int .u64 0),(.int .i64 0)] h
def an33 : ACode:=
 (.seq (zr [sD 0 (.al none 28 [.nilsl,.nilsl,.nilsl,.nilsl,.nilsl,(.int .i64 0),(.int .i64 0)])])
 (.seq (zr [sD 1 (.build [(.bool false),.nilsl] [(0,1,(.c (.bool true)))]),sD 2 (.mksl none 3 [(.int .i64 0)] 1 [(0,1,(.c (.int .i64 0)))]),sD 3 (.build [(.bool false),.nilsl] [(1,1,(.t 2))]),sD 4 (.mksl none 46 [(.bool false),.nilsl,(.bool false),.nilsl] 2 [(0,2,(.t 1)),(2,2,(.t 3))]),sD 5 (.build [(.int .i64 0),.nilsl,(.str [])] [(0,1,(.c (.int .i64 3)))]),sD 6 (.mksl none 61 [(.int .i64 0),.nilsl,(.str [])] 1 [(0,3,(.t 5))]),sD 7 (.mksl none 3 [(.int .i64 0)] 1 [(0,1,(.c (.int .i64 (-1))))]),sD 8 (.build [(.int .i64 0),(.int .i64 0),(.int .i64 0),(.int .i64 0),(.int .i64 0),(.int .i64 0),.nilsl,.nilsl,.nilsl] [(0,1,(.c (.int .i64 1))),(5,1,(.c (.int .i64 5)))]),sD 9 (.build [(.int .i64 0),(.int .i64 0),(.int .i64 0),(.int .i64 0),(.int .i64 0),(.int .i64 0),.nilsl,.nilsl,.nilsl] [(0,1,(.c (.int .i64 22)))]),sD 10 (.mksl none 55 [(.int .i64 0),(.int .i64 0),(.int .i64 0),(.int .i64 0),(.int .i64 0),(.int .i64 0),.nilsl,.nilsl,.nilsl,(.int .i64 0),(.int .i64 0),(.int .i64 0),(.int .i64 0),(.int .i64 0),(.int .i64 0),.nilsl,.nilsl,.nilsl] 2 [(0,9,(.t 8)),(9,9,(.t 9))]),sD 11 (.build [.nilsl,.nilsl] [(0,1,(.t 7)),(1,1,(.t 10))]),sD 12 (.mksl none 42 [.nilsl,.nilsl] 1 [(0,2,(.t 11))]),sD 13 (.build [.nilsl,(.int .i64 0),(.int .i64 0),.nilsl] [(2,1,(.c (.int .i64 1))),(3,1,(.t 12))]),sD 14 (.mksl none 39 [.nilsl,(.int .i64 0),(.int .i64 0),.nilsl] 1 [(0,4,(.t 13))]),sD 15 (.build [.nilsl,.nilsl,.nilsl,.nilsl,.nilsl,(.int .i64 0),(.int .i64 0)] [(0,1,(.t 4)),(1,1,(.t 6)),(4,1,(.t 14))]),zst 7 0 15])
 .ret))
def fn33 : AN:=⟨16,[(.cell 0 (some 7))],an33.erase⟩
theorem ok33 : OKF 33 fn33 = true:=by kernel_rfl
def sh33 (C : AK) (h : H) (R : AV -> H -> Prop) : Prop:=
 AL h [.nilsl,.nilsl,.nilsl,.nilsl,.nilsl,(.int .i64 0),(.int .i64 0)] 28 fun a h=>
 AA (AT (AG [(.bool false),.nilsl] [(0,1,(.bool true))])) h fun b h=>
 A5 h 3 1 (AG [(.int .i64 0)] [(0,1,(.int .i64 0))]) fun c h=>
 AA (AT (AG [(.bool false),.nilsl] [(1,1,c)])) h fun c h=>
 A5 h 46 2 (AG [(.bool false),.nilsl,(.bool false),.nilsl] [(0,2,b),(2,2,c)]) fun c h=>
 AA (AT (AG [(.int .i64 0),.nilsl,(.str [])] [(0,1,(.int .i64 3))])) h fun b h=>
 A5 h 61 1 (AG [(.int .i64 0),.nilsl,(.str [])] [(0,3,b)]) fun b h=>
 A5 h 3 1 (AG [(.int .i64 0)] [(0,1,(.int .i64 (-1)))]) fun d h=>
 AA (AT (AG [(.int .i64 0),(.int .i64 0),(.int .i64 0),(.int .i64 0),(.int .i64 0),(.int .i64 0),.nilsl,.nilsl,.nilsl] [(0,1,(.int .i64 1)),(5,1,(.int .i64 5))])) h fun e h=>
 AA (AT (AG [(.int .i64 0),(.int .i64 0),(.int .i64 0),(.int .i64 0),(.int .i64 0),(.int .i64 0),.nilsl,.nilsl,.nilsl] [(0,1,(.int .i64 22))])) h fun f h=>
 A5 h 55 2 (AG [(.int .i64 0),(.int .i64 0),(.int .i64 0),(.int .i64 0),(.int .i64 0),(.int .i64 0),.nilsl,.nilsl,.nilsl,(.int .i64 0),(.int .i64 0),(.int .i64 0),(.int .i64 0),(.int .i64 0),(.int .i64 0),.nilsl,.nilsl,.nilsl] [(0,9,e),(9,9,f)]) fun f h=>
 AA (AT (AG [.nilsl,.nilsl] [(0,1,d),(1,1,f)])) h fun f h=>
 A5 h 42 1 (AG [.nilsl,.nilsl] [(0,2,f)]) fun f h=>
 AA (AT (AG [.nilsl,(.int .i64 0),(.int .i64 0),.nilsl] [(2,1,(.int .i64 1)),(3,1,f)])) h fun f h=>
 A5 h 39 1 (AG [.nilsl,(.int .i64 0),(.int .i64 0),.nilsl] [(0,4,f)]) fun f h=>
 AA (AT (AG [.nilsl,.nilsl,.nilsl,.nilsl,.nilsl,(.int .i64 0),(.int .i64 0)] [(0,1,c),(1,1,b),(4,1,f)])) h fun f h=>
 AM (stA h 7 a f) .undef fun _ h=>
 AA (ldA h (some 7) a) h fun res _=>R res h
def an43 : ACode:=
 (.seq (zr [sD 1 (.bx none 28 (.t 0)),z0 2 0])
 (.seq (.seq (zr [zk 7 7 1,z1 8 87 7])
 (.cond (.t 8) (.seq (zr [z0 2 2])
 .ret)
 .skip))
 (.seq (.seq (zr [zf 9 4 1,zl 10 9,zn 11 10,z0 12 0])
 (.block 0 (.loop [12] 7168 (.seq (zr [zb 13 .lss 12 11])
 (.seq (.cond (.t 13) .skip
 (.exit 0))
 (.seq (.block 1 (.seq (zr [zi 14 4 10 12,zk 15 4 14,sD 4 (.al none 39 [.nilsl,(.int .i64 0),(.int .i64 0),.nilsl]),zst 4 4 15])
 (.seq (zr [zf 16 3 4,zl 17 16,zn 18 17,z0 19 0])
 (.block 2 (.loop [19] 924672 (.seq (zr [zb 20 .lss 19 18])
 (.seq (.cond (.t 20) .skip
 (.exit 2))
 (.seq (.block 3 (.seq (zr [zi 21 2 17 19,zk 22 2 21,sD 6 (.al none 42 [.nilsl,.nilsl]),zst 2 6 22])
 (.seq (zr [zf 23 1 6,zl 24 23,sD 25 (.call 88 [(.t 24),(.c (.fn 89 [] []))])])
 (.cond (.t 25) (.seq (zr [z0 2 1])
 .ret)
 .skip))))
 (zr [zd 26 .add 19 1,zm 19 26])))))))))
 (zr [zd 27 .add 12 1,zm 12 27])))))))
 (.seq (zr [z0 2 0])
 .ret))))
def fn43 : AN:=⟨28,[(.tmp 2)],an43.erase⟩
theorem ok43 : OKF 43 fn43 = true:=by kernel_rfl
def sh43 (C : AK) (m0 : AV) (h : H) (R : AV -> H -> Prop) : Prop:=
 AL h (AV.cells m0) 28 fun m1 h=>
 AA (ldA h (some 7) m1) h fun a h=>
 C 87 [a] h fun a h=>
 AC a
 (R (.int .i64 2) h)
 (AJ (fun (h : H)=>
 R (.int .i64 0) h) fun J=>
 zF 4 m1 h fun a h=>
 AA (AF false a) h fun b h=>
 AP (fun N l h=>AX l 0 fun c=>
 AA (binOp .lss .num c b) h fun b h=>
 AC b
 (AJ (fun (h : H)=>
 AA (binOp .add .num c (.int .i64 1)) h fun b h=>
 N [b] h) fun J_16=>
 AA (iaA 4 a c) h fun c h=>
 AA (ldA h (some 4) c) h fun c h=>
 AL h [.nilsl,(.int .i64 0),(.int .i64 0),.nilsl] 39 fun f4 h=>
 AM (stA h 4 f4 c) .undef fun _ h=>
 zF 3 f4 h fun c h=>
 AA (AF false c) h fun a h=>
 AP (fun N_17 l h=>AX l 0 fun b=>
 AA (binOp .lss .num b a) h fun a h=>
 AC a
 (AA (iaA 2 c b) h fun c h=>
 AA (ldA h (some 2) c) h fun c h=>
 AL h [.nilsl,.nilsl] 42 fun b6 h=>
 AM (stA h 2 b6 c) .undef fun _ h=>
 zF 1 b6 h fun c h=>
 C 88 [c,(.fn 89 [] [])] h fun c h=>
 AC c
 (R (.int .i64 1) h)
 (AA (binOp .add .num b (.int .i64 1)) h fun b h=>
 N_17 [b] h))
 (J_16 h)) [(.int .i64 0)] h)
 (J h)) [(.int .i64 0)] h)
def an59 : ACode:=
 (.seq (zr [sD 2 (.mv (.c (.str [])))])
 (.seq (.seq (zr [zm 3 0])
 (.block 0 (.seq (zr [zd 5 .eql 3 1,zm 4 5])
 (.cond (.t 4) (.seq (zr [sD 2 (.mv (.c (.str [68,78])))])
 .ret)
 (.seq (zr [zd 7 .eql 3 2,zm 6 7])
 (.cond (.t 6) (.seq (zr [sD 2 (.mv (.c (.str [68,65,108])))])
 .ret)
 (.seq (.seq (zr [zd 9 .eql 3 3,zm 8 9])
 (.cond (.t 8) .skip
 (zr [zd 10 .eql 3 11,zm 8 10])))
 (.cond (.t 8) (.seq (zr [sD 2 (.mv (.c (.str [68,65])))])
 .ret)
 (.seq (zr [zd 12 .eql 3 4,zm 11 12])
 (.cond (.t 11) (.seq (zr [sD 2 (.mv (.c (.str [68,65,66,78])))])
 .ret)
 (.seq (zr [zd 14 .eql 3 5,zm 13 14])
 (.cond (.t 13) (.seq (zr [sD 2 (.mv (.c (.str [68,65,76,108])))])
 .ret)
 (.seq (.seq (zr [zd 16 .eql 3 6,zm 15 16])
 (.cond (.t 15) .skip
 (.seq (zr [zd 17 .eql 3 9,zm 15 17])
 (.cond (.t 15) .skip
 (.seq (zr [zd 18 .eql 3 12,zm 15 18])
 (.cond (.t 15) .skip
 (zr [zd 19 .eql 3 14,zm 15 19])))))))
 (.cond (.t 15) (.seq (zr [sD 2 (.mv (.c (.str [68,65,66])))])
 .ret)
 (.seq (.seq (zr [zd 21 .eql 3 7,zm 20 21])
 (.cond (.t 20) .skip
 (.seq (zr [zd 22 .eql 3 10,zm 20 22])
 (.cond (.t 20) .skip
 (zr [zd 23 .eql 3 19,zm 20 23])))))
 (.cond (.t 20) (.seq (zr [sD 2 (.mv (.c (.str [65,66,67])))])
 .ret)
 (.seq (zr [zd 25 .eql 3 8,zm 24 25])
 (.cond (.t 24) (.seq (zr [sD 2 (.mv (.c (.str [68,65,66,67,108])))])
 .ret)
 (.seq (zr [zd 27 .eql 3 13,zm 26 27])
 (.cond (.t 26) (.seq (zr [sD 2 (.mv (.c (.str [68,65,66,108])))])
 .ret)
 (.seq (zr [zd 29 .eql 3 15,zm 28 29])
 (.cond (.t 28) (.seq (zr [sD 2 (.mv (.c (.str [68])))])
 .ret)
 (.seq (.seq (zr [zd 31 .eql 3 16,zm 30 31])
 (.cond (.t 30) .skip
 (.seq (zr [zd 32 .eql 3 18,zm 30 32])
 (.cond (.t 30) .skip
 (.seq (zr [zd 33 .eql 3 22,zm 30 33])
 (.cond (.t 30) .skip
 (zr [zd 34 .eql 3 23,zm 30 34])))))))
 (.cond (.t 30) (.seq (zr [sD 2 (.mv (.c (.str [65])))])
 .ret)
 (.seq (zr [zd 36 .eql 3 17,zm 35 36])
 (.cond (.t 35) (.seq (zr [sD 2 (.mv (.c (.str [68,65,66,67,76,108])))])
 .ret)
 (.seq (zr [zd 38 .eql 3 20,zm 37 38])
 (.cond (.t 37) (.seq (zr [sD 2 (.mv (.c (.str [65,76,77,66])))])
 .ret)
 (.seq (zr [zd 40 .eql 3 21,zm 39 40])
 (.cond (.t 39) (.seq (zr [sD 2 (.mv (.c (.str [65,76])))])
 .ret)
 .skip))))))))))))))))))))))))))))))
 (.seq (zr [sD 2 (.mv (.c (.str [])))])
 .ret)))
def fn59 : AN:=⟨41,[(.tmp 2)],an59.erase⟩
theorem ok59 : OKF 59 fn59 = true:=by kernel_rfl
def sh59 (C : AK) (op0 : AV) (h : H) (R : AV -> H -> Prop) : Prop:=
 AA (binOp .eql .num op0 (.int .i64 1)) h fun a h=>
 AC a
 (R (.str [68,78]) h)
 (AA (binOp .eql .num op0 (.int .i64 2)) h fun a h=>
 AC a
 (R (.str [68,65,108]) h)
 (AJ (fun (a' : AV) (h : H)=>
 AC a'
 (R (.str [68,65]) h)
 (AA (binOp .eql .num op0 (.int .i64 4)) h fun a h=>
 AC a
 (R (.str [68,65,66,78]) h)
 (AA (binOp .eql .num op0 (.int .i64 5)) h fun a h=>
 AC a
 (R (.str [68,65,76,108]) h)
 (AJ (fun (a' : AV) (h : H)=>
 AC a'
 (R (.str [68,65,66]) h)
 (AJ (fun (a' : AV) (h : H)=>
 AC a'
 (R (.str [65,66,67]) h)
 (AA (binOp .eql .num op0 (.int .i64 8)) h fun a h=>
 AC a
 (R (.str [68,65,66,67,108]) h)
 (AA (binOp .eql .num op0 (.int .i64 13)) h fun a h=>
 AC a
 (R (.str [68,65,66,108]) h)
 (AA (binOp .eql .num op0 (.int .i64 15)) h fun a h=>
 AC a
 (R (.str [68]) h)
 (AJ (fun (a' : AV) (h : H)=>
 AC a'
 (R (.str [65]) h)
 (AA (binOp .eql .num op0 (.int .i64 17)) h fun a h=>
 AC a
 (R (.str [68,65,66,67,76,108]) h)
 (AA (binOp .eql .num op0 (.int .i64 20)) h fun a h=>
 AC a
 (R (.str [65,76,77,66]) h)
 (AA (binOp .eql .num op0 (.int .i64 21)) h fun a h=>
 AC a
 (R (.str [65,76]) h)
 (R (.str []) h))))) fun J=>
 AA (binOp .eql .num op0 (.int .i64 16)) h fun a h=>
 AC a
 (J a h)
 (AA (binOp .eql .num op0 (.int .i64 18)) h fun a h=>
 AC a
 (J a h)
 (AA (binOp .eql .num op0 (.int .i64 22)) h fun a h=>
 AC a
 (J a h)
 (AA (binOp .eql .num op0 (.int .i64 23)) h fun a h=>
 J a h)))))))) fun J_0=>
 AA (binOp .eql .num op0 (.int .i64 7)) h fun a h=>
 AC a
 (J_0 a h)
 (AA (binOp .eql .num op0 (.int .i64 10)) h fun a h=>
 AC a
 (J_0 a h)
 (AA (binOp .eql .num op0 (.int .i64 19)) h fun a h=>
 J_0 a h)))) fun J_1=>
 AA (binOp .eql .num op0 (.int .i64 6)) h fun a h=>
 AC a
 (J_1 a h)
 (AA (binOp .eql .num op0 (.int .i64 9)) h fun a h=>
 AC a
 (J_1 a h)
 (AA (binOp .eql .num op0 (.int .i64 12)) h fun a h=>
 AC a
 (J_1 a h)
 (AA (binOp .eql .num op0 (.int .i64 14)) h fun a h=>
 J_1 a h))))))) fun J_2=>
 AA (binOp .eql .num op0 (.int .i64 3)) h fun a h=>
 AC a
 (J_2 a h)
 (AA (binOp .eql .num op0 (.int .i64 11)) h fun a h=>
 J_2 a h)))
def an60 : ACode:=
 (.seq (zr [sD 1 (.bx none 55 (.t 0)),zy 2 false])
 (.seq (zr [zk 8 9 1,sD 3 (.al none 55 [(.int .i64 0),(.int .i64 0),(.int .i64 0),(.int .i64 0),(.int .i64 0),(.int .i64 0),.nilsl,.nilsl,.nilsl]),zst 9 3 8])
 (.seq (zr [zf 9 0 1,zl 10 9,z1 11 59 10,zm 4 11])
 (.seq (.seq (zr [zm 12 4,sD 13 (.cv none (.s2b 5) (.t 12)),zn 14 13,z0 15 0])
 (.block 0 (.loop [15] 57368 (.seq (zr [zb 16 .lss 15 14])
 (.seq (.cond (.t 16) .skip
 (.exit 0))
 (.seq (.block 1 (.seq (zr [zi 17 1 13 15,zl 18 17,zm 6 18])
 (.seq (zr [zm 19 6,sD 20 (.bin .eql .num (.t 19) (.c (.int .u8 78)))])
 (.cond (.t 20) (zr [zf 21 5 3,sN (.st 1 (.t 21) (.c (.int .i64 0)))])
 (.seq (zr [zm 22 6,z2 23 109 3 22,zm 7 23])
 (.seq (zr [zm 24 7,sD 25 (.bin .neq .ptr (.t 24) (.c .nilp))])
 (.cond (.t 25) (zr [zm 26 7,sD 27 (.nilc (.t 26)),sN (.st 1 (.t 27) (.c (.int .i64 0)))])
 (zr [zm 28 6,z2 29 110 3 28,sD 30 (.nilc (.t 29)),sN (.st 1 (.t 30) (.c .nilsl))]))))))))
 (zr [zd 31 .add 15 1,zm 15 31])))))))
 (.seq (zr [zm 32 4,sD 33 (.bin .neq .num (.t 32) (.c (.str []))),zm 34 33,zft 35 34 1 3,zlt 36 34 35,zdt 37 34 .eql 36 0,zp 38 34 37,zm 39 38,zft 40 39 2 3,zlt 41 39 40,zdt 42 39 .eql 41 0,zp 43 39 42,zm 44 43,zft 45 44 3 3,zlt 46 44 45,zdt 47 44 .eql 46 0,zp 48 44 47,zm 49 48,zft 50 49 4 3,zlt 51 49 50,zdt 52 49 .eql 51 0,zp 53 49 52,zm 54 53,zft 55 54 5 3,zlt 56 54 55,zdt 57 54 .eql 56 0,zp 58 54 57,zm 59 58,zft 60 59 6 3,zlt 61 59 60,znt 62 59 61,zdt 63 59 .eql 62 0,zp 64 59 63,zm 65 64,zft 66 65 7 3,zlt 67 65 66,znt 68 65 67,zdt 69 65 .eql 68 0,zp 70 65 69,zm 71 70,zft 72 71 8 3,zlt 73 71 72,znt 74 71 73,zdt 75 71 .eql 74 0,zp 76 71 75,zm 2 76])
 .ret)))))
def fn60 : AN:=⟨77,[(.tmp 2)],an60.erase⟩
theorem ok60 : OKF 60 fn60 = true:=by kernel_rfl
def sh60 (C : AK) (x0 : AV) (h : H) (R : AV -> H -> Prop) : Prop:=
 AL h (AV.cells x0) 55 fun x1 h=>
 AA (ldA h (some 9) x1) h fun a h=>
 AL h [(.int .i64 0),(.int .i64 0),(.int .i64 0),(.int .i64 0),(.int .i64 0),(.int .i64 0),.nilsl,.nilsl,.nilsl] 55 fun y3 h=>
 AM (stA h 9 y3 a) .undef fun _ h=>
 zF 0 x1 h fun a h=>
 C 59 [a] h fun a h=>
 AJ (fun (h : H)=>
 AA (binOp .neq .num a (.str [])) h fun b h=>
 zG b 1 y3 h fun c h=>
 zT b (binOp .eql .num c (.int .i64 0)) h fun c h=>
 AA (AE b c (.bool false)) h fun c h=>
 zG c 2 y3 h fun b h=>
 zT c (binOp .eql .num b (.int .i64 0)) h fun b h=>
 AA (AE c b (.bool false)) h fun b h=>
 zG b 3 y3 h fun c h=>
 zT b (binOp .eql .num c (.int .i64 0)) h fun c h=>
 AA (AE b c (.bool false)) h fun c h=>
 zG c 4 y3 h fun b h=>
 zT c (binOp .eql .num b (.int .i64 0)) h fun b h=>
 AA (AE c b (.bool false)) h fun b h=>
 zG b 5 y3 h fun c h=>
 zT b (binOp .eql .num c (.int .i64 0)) h fun c h=>
 AA (AE b c (.bool false)) h fun c h=>
 zG c 6 y3 h fun b h=>
 zT c (AF false b) h fun b h=>
 zT c (binOp .eql .num b (.int .i64 0)) h fun b h=>
 AA (AE c b (.bool false)) h fun b h=>
 zG b 7 y3 h fun c h=>
 zT b (AF false c) h fun c h=>
 zT b (binOp .eql .num c (.int .i64 0)) h fun c h=>
 AA (AE b c (.bool false)) h fun c h=>
 zG c 8 y3 h fun b h=>
 zT c (AF false b) h fun b h=>
 zT c (binOp .eql .num b (.int .i64 0)) h fun b h=>
 AA (AE c b (.bool false)) h fun b h=>
 R b h) fun J=>
 XN h 5 a fun a h=>
 AA (AF false a) h fun b h=>
 AP (fun N l h=>AX l 0 fun c=>
 AA (binOp .lss .num c b) h fun b h=>
 AC b
 (AJ (fun (h : H)=>
 AA (binOp .add .num c (.int .i64 1)) h fun b h=>
 N [b] h) fun J_16=>
 AA (iaA 1 a c) h fun c h=>
 zL c h fun c h=>
 AA (binOp .eql .num c (.int .u8 78)) h fun a h=>
 AC a
 (AA (faA 5 y3) h fun a h=>
 AM (stA h 1 a (.int .i64 0)) .undef fun _ h=>
 J_16 h)
 (C 109 [y3,c] h fun a h=>
 AA (binOp .neq .ptr a .nilp) h fun b h=>
 AC b
 (AA (BJ a) h fun a h=>
 AM (stA h 1 a (.int .i64 0)) .undef fun _ h=>
 J_16 h)
 (C 110 [y3,c] h fun c h=>
 AA (BJ c) h fun c h=>
 AM (stA h 1 c .nilsl) .undef fun _ h=>
 J_16 h)))
 (J h)) [(.int .i64 0)] h
def an61 : ACode:=
 (.seq (zr [sD 1 (.bx none 28 (.t 0)),zy 2 false])
 (.seq (.seq (zr [zf 18 0 1,zl 19 18,zn 20 19,zd 21 .gtr 20 1024,zm 22 21,zff 23 22 1 1,zlf 24 22 23,znf 25 22 24,zdf 26 22 .gtr 25 512,zq 27 22 26,zm 28 27,zff 29 28 2 1,zlf 30 28 29,znf 31 28 30,zdf 32 28 .gtr 31 256,zq 33 28 32,zm 34 33,zff 35 34 3 1,zlf 36 34 35,znf 37 34 36,zdf 38 34 .gtr 37 256,zq 39 34 38,zm 40 39,zff 41 40 4 1,zlf 42 40 41,znf 43 40 42,zdf 44 40 .gtr 43 1024,zq 45 40 44])
 (.cond (.t 45) (.seq (zr [zy 2 true])
 .ret)
 .skip))
 (.seq (.seq (zr [zf 46 0 1,zl 47 46,zn 48 47,z0 49 0])
 (.block 0 (.loop [49] 985162418487298 (.seq (zr [zb 50 .lss 49 48])
 (.seq (.cond (.t 50) .skip
 (.exit 0))
 (.seq (.block 1 (.seq (zr [zi 51 2 47 49,zk 52 2 51,sD 4 (.al none 46 [(.bool false),.nilsl]),zst 2 4 52])
 (.seq (zr [zf 53 1 4,zl 54 53,zn 55 54,zd 56 .gtr 55 512])
 (.cond (.t 56) (.seq (zr [zy 2 true])
 .ret)
 .skip))))
 (zr [zd 57 .add 49 1,zm 49 57])))))))
 (.seq (.seq (zr [zf 58 1 1,zl 59 58,zn 60 59,z0 61 0])
 (.block 2 (.loop [61] 4035225266123964418 (.seq (zr [zb 62 .lss 61 60])
 (.seq (.cond (.t 62) .skip
 (.exit 2))
 (.seq (.block 3 (.seq (zr [zi 63 3 59 61,zk 64 3 63,sD 6 (.al none 61 [(.int .i64 0),.nilsl,(.str [])]),zst 3 6 64])
 (.seq (zr [zf 65 1 6,zl 66 65,zn 67 66,zd 68 .gtr 67 200,zm 69 68,zff 70 69 2 6,zlf 71 69 70,sG 72 69 false (.len true (.t 71)),zdf 73 69 .gtr 72 16384,zq 74 69 73])
 (.cond (.t 74) (.seq (zr [zy 2 true])
 .ret)
 .skip))))
 (zr [zd 75 .add 61 1,zm 61 75])))))))
 (.seq (.seq (zr [zf 76 2 1,zl 77 76,zn 78 77,z0 79 0])
 (.block 4 (.loop [79] 1057810092162800527867906 (.seq (zr [zb 80 .lss 79 78])
 (.seq (.cond (.t 80) .skip
 (.exit 4))
 (.seq (.block 5 (.seq (zr [zi 81 1 77 79,zl 82 81,zm 8 82])
 (.seq (zr [zm 83 8,sD 84 (.len true (.t 83)),zd 85 .gtr 84 16384])
 (.cond (.t 85) (.seq (zr [zy 2 true])
 .ret)
 .skip))))
 (zr [zd 86 .add 79 1,zm 79 86])))))))
 (.seq (.seq (zr [zf 87 3 1,zl 88 87,zn 89 88,z0 90 0])
 (.block 6 (.loop [90] 2166395068749415481073467394 (.seq (zr [zb 91 .lss 90 89])
 (.seq (.cond (.t 91) .skip
 (.exit 6))
 (.seq (.block 7 (.seq (zr [zi 92 1 88 90,zl 93 92,zm 10 93])
 (.seq (zr [zm 94 10,sD 95 (.len true (.t 94)),zd 96 .gtr 95 16384])
 (.cond (.t 96) (.seq (zr [zy 2 true])
 .ret)
 .skip))))
 (zr [zd 97 .add 90 1,zm 90 97])))))))
 (.seq (zr [z0 11 0])
 (.seq (.seq (zr [zf 98 4 1,zl 99 98,zn 100 99,z0 101 0])
 (.block 8 (.loop [11,101] 4436777100798802905238461220864 (.seq (zr [zb 102 .lss 101 100])
 (.seq (.cond (.t 102) .skip
 (.exit 8))
 (.seq (.block 9 (.seq (zr [zi 103 4 99 101,zk 104 4 103,sD 13 (.al none 39 [.nilsl,(.int .i64 0),(.int .i64 0),.nilsl]),zst 4 13 104])
 (.seq (.seq (zr [zf 105 2 13,zl 106 105,zd 107 .gtr 106 200,zm 108 107,zff 109 108 0 13,zlf 110 108 109,znf 111 108 110,zdf 112 108 .gtr 111 200,zq 113 108 112,zm 114 113,zff 115 114 3 13,zlf 116 114 115,znf 117 114 116,zdf 118 114 .gtr 117 2000,zq 119 114 118])
 (.cond (.t 119) (.seq (zr [zy 2 true])
 .ret)
 .skip))
 (.seq (zr [zf 120 3 13,zl 121 120,zn 122 121,z0 123 0])
 (.block 10 (.loop [11,123] 18609196377765923019456204082386044928 (.seq (zr [zb 124 .lss 123 122])
 (.seq (.cond (.t 124) .skip
 (.exit 10))
 (.seq (.block 11 (.seq (zr [zi 125 2 121 123,zk 126 2 125,sD 15 (.al none 42 [.nilsl,.nilsl]),zst 2 15 126])
 (.seq (zr [zm 127 11,zf 128 1 15,zl 129 128,zn 130 129,zb 131 .add 127 130,zm 11 131])
 (.seq (.seq (zr [zm 132 11,zd 133 .gtr 132 20000,zm 134 133,zff 135 134 0 15,zlf 136 134 135,znf 137 134 136,zdf 138 134 .gtr 137 200,zq 139 134 138])
 (.cond (.t 139) (.seq (zr [zy 2 true])
 .ret)
 .skip))
 (.seq (zr [zf 140 1 15,zl 141 140,zn 142 141,z0 143 0])
 (.block 12 (.loop [143] 19513170657910673014766772944771398703777792 (.seq (zr [zb 144 .lss 143 142])
 (.seq (.cond (.t 144) .skip
 (.exit 12))
 (.seq (.block 13 (.seq (zr [zi 145 9 141 143,zk 146 9 145,sD 17 (.al none 55 [(.int .i64 0),(.int .i64 0),(.int .i64 0),(.int .i64 0),(.int .i64 0),(.int .i64 0),.nilsl,.nilsl,.nilsl]),zst 9 17 146])
 (.seq (zr [zf 147 6 17,zl 148 147,zn 149 148,zd 150 .gtr 149 1024,zm 151 150,zff 152 151 7 17,zlf 153 151 152,znf 154 151 153,zdf 155 151 .gtr 154 1024,zq 156 151 155,zm 157 156,zff 158 157 8 17,zlf 159 157 158,znf 160 157 159,zdf 161 157 .gtr 160 200,zq 162 157 161])
 (.cond (.t 162) (.seq (zr [zy 2 true])
 .ret)
 .skip))))
 (zr [zd 163 .add 143 1,zm 143 163])))))))))))
 (zr [zd 164 .add 123 1,zm 123 164]))))))))))
 (zr [zd 165 .add 101 1,zm 101 165])))))))
 (.seq (zr [zy 2 false])
 .ret)))))))))
def fn61 : AN:=⟨166,[(.tmp 2)],an61.erase⟩
theorem ok61 : OKF 61 fn61 = true:=by kernel_rfl
def sh61 (C : AK) (m0 : AV) (h : H) (R : AV -> H -> Prop) : Prop:=
 AL h (AV.cells m0) 28 fun m1 h=>
 zF 0 m1 h fun a h=>
 AA (AF false a) h fun a h=>
 AA (binOp .gtr .num a (.int .i64 1024)) h fun a h=>
 zH a 1 m1 h fun b h=>
 zE a (AF false b) h fun b h=>
 zE a (binOp .gtr .num b (.int .i64 512)) h fun b h=>
 AA (AE a (.bool true) b) h fun b h=>
 zH b 2 m1 h fun a h=>
 zE b (AF false a) h fun a h=>
 zE b (binOp .gtr .num a (.int .i64 256)) h fun a h=>
 AA (AE b (.bool true) a) h fun a h=>
 zH a 3 m1 h fun b h=>
 zE a (AF false b) h fun b h=>
 zE a (binOp .gtr .num b (.int .i64 256)) h fun b h=>
 AA (AE a (.bool true) b) h fun b h=>
 zH b 4 m1 h fun a h=>
 zE b (AF false a) h fun a h=>
 zE b (binOp .gtr .num a (.int .i64 1024)) h fun a h=>
 AA (AE b (.bool true) a) h fun a h=>
 AC a
 (R (.bool true) h)
 (AJ (fun (h : H)=>
 AJ (fun (h : H)=>
 AJ (fun (h : H)=>
 AJ (fun (h : H)=>
 AJ (fun (h : H)=>
 R (.bool false) h) fun J=>
 zF 4 m1 h fun a h=>
 AA (AF false a) h fun b h=>
 AP (fun N l h=>AX l 0 fun n11=>AX l 1 fun c=>
 AA (binOp .lss .num c b) h fun b h=>
 AC b
 (AJ (fun (n11'_5 : AV) (h : H)=>
 AA (binOp .add .num c (.int .i64 1)) h fun b h=>
 N [n11'_5,b] h) fun J_71=>
 AA (iaA 4 a c) h fun c h=>
 AA (ldA h (some 4) c) h fun c h=>
 AL h [.nilsl,(.int .i64 0),(.int .i64 0),.nilsl] 39 fun f13 h=>
 AM (stA h 4 f13 c) .undef fun _ h=>
 zF 2 f13 h fun c h=>
 AA (binOp .gtr .num c (.int .i64 200)) h fun c h=>
 zH c 0 f13 h fun a h=>
 zE c (AF false a) h fun a h=>
 zE c (binOp .gtr .num a (.int .i64 200)) h fun a h=>
 AA (AE c (.bool true) a) h fun a h=>
 zH a 3 f13 h fun c h=>
 zE a (AF false c) h fun c h=>
 zE a (binOp .gtr .num c (.int .i64 2000)) h fun c h=>
 AA (AE a (.bool true) c) h fun c h=>
 AC c
 (R (.bool true) h)
 (zF 3 f13 h fun c h=>
 AA (AF false c) h fun a h=>
 AP (fun N_72 l h=>AX l 0 fun n11_73=>AX l 1 fun b=>
 AA (binOp .lss .num b a) h fun a h=>
 AC a
 (AJ (fun (n11'_75 : AV) (h : H)=>
 AA (binOp .add .num b (.int .i64 1)) h fun a h=>
 N_72 [n11'_75,a] h) fun J_117=>
 AA (iaA 2 c b) h fun b h=>
 AA (ldA h (some 2) b) h fun b h=>
 AL h [.nilsl,.nilsl] 42 fun b15 h=>
 AM (stA h 2 b15 b) .undef fun _ h=>
 zF 1 b15 h fun b h=>
 AA (AF false b) h fun b h=>
 AA (binOp .add .num n11_73 b) h fun b h=>
 AA (binOp .gtr .num b (.int .i64 20000)) h fun c h=>
 zH c 0 b15 h fun a h=>
 zE c (AF false a) h fun a h=>
 zE c (binOp .gtr .num a (.int .i64 200)) h fun a h=>
 AA (AE c (.bool true) a) h fun a h=>
 AC a
 (R (.bool true) h)
 (zF 1 b15 h fun a h=>
 AA (AF false a) h fun c h=>
 AP (fun N_118 l h=>AX l 0 fun d=>
 AA (binOp .lss .num d c) h fun c h=>
 AC c
 (AA (iaA 9 a d) h fun a h=>
 AA (ldA h (some 9) a) h fun a h=>
 AL h [(.int .i64 0),(.int .i64 0),(.int .i64 0),(.int .i64 0),(.int .i64 0),(.int .i64 0),.nilsl,.nilsl,.nilsl] 55 fun x17 h=>
 AM (stA h 9 x17 a) .undef fun _ h=>
 zF 6 x17 h fun a h=>
 AA (AF false a) h fun a h=>
 AA (binOp .gtr .num a (.int .i64 1024)) h fun a h=>
 zH a 7 x17 h fun c h=>
 zE a (AF false c) h fun c h=>
 zE a (binOp .gtr .num c (.int .i64 1024)) h fun c h=>
 AA (AE a (.bool true) c) h fun c h=>
 zH c 8 x17 h fun a h=>
 zE c (AF false a) h fun a h=>
 zE c (binOp .gtr .num a (.int .i64 200)) h fun a h=>
 AA (AE c (.bool true) a) h fun a h=>
 AC a
 (R (.bool true) h)
 (AA (binOp .add .num d (.int .i64 1)) h fun d h=>
 N_118 [d] h))
 (J_117 b h)) [(.int .i64 0)] h))
 (J_71 n11_73 h)) [n11,(.int .i64 0)] h))
 (J h)) [(.int .i64 0),(.int .i64 0)] h) fun J_119=>
 zF 3 m1 h fun b h=>
 AA (AF false b) h fun d h=>
 AP (fun N_120 l h=>AX l 0 fun a=>
 AA (binOp .lss .num a d) h fun d h=>
 AC d
 (AA (iaA 1 b a) h fun b h=>
 zL b h fun b h=>
 AA (AF true b) h fun b h=>
 AA (binOp .gtr .num b (.int .i64 16384)) h fun b h=>
 AC b
 (R (.bool true) h)
 (AA (binOp .add .num a (.int .i64 1)) h fun a h=>
 N_120 [a] h))
 (J_119 h)) [(.int .i64 0)] h) fun J_121=>
 zF 2 m1 h fun a h=>
 AA (AF false a) h fun b h=>
 AP (fun N_122 l h=>AX l 0 fun d=>
 AA (binOp .lss .num d b) h fun b h=>
 AC b
 (AA (iaA 1 a d) h fun a h=>
 zL a h fun a h=>
 AA (AF true a) h fun a h=>
 AA (binOp .gtr .num a (.int .i64 16384)) h fun a h=>
 AC a
 (R (.bool true) h)
 (AA (binOp .add .num d (.int .i64 1)) h fun d h=>
 N_122 [d] h))
 (J_121 h)) [(.int .i64 0)] h) fun J_123=>
 zF 1 m1 h fun d h=>
 AA (AF false d) h fun a h=>
 AP (fun N_124 l h=>AX l 0 fun b=>
 AA (binOp .lss .num b a) h fun a h=>
 AC a
 (AA (iaA 3 d b) h fun d h=>
 AA (ldA h (some 3) d) h fun d h=>
 AL h [(.int .i64 0),.nilsl,(.str [])] 61 fun s6 h=>
 AM (stA h 3 s6 d) .undef fun _ h=>
 zF 1 s6 h fun d h=>
 AA (AF false d) h fun d h=>
 AA (binOp .gtr .num d (.int .i64 200)) h fun d h=>
 zH d 2 s6 h fun a h=>
 zE d (AF true a) h fun a h=>
 zE d (binOp .gtr .num a (.int .i64 16384)) h fun a h=>
 AA (AE d (.bool true) a) h fun a h=>
 AC a
 (R (.bool true) h)
 (AA (binOp .add .num b (.int .i64 1)) h fun b h=>
 N_124 [b] h))
 (J_123 h)) [(.int .i64 0)] h) fun J_125=>
 zF 0 m1 h fun b h=>
 AA (AF false b) h fun a h=>
 AP (fun N_126 l h=>AX l 0 fun d=>
 AA (binOp .lss .num d a) h fun a h=>
 AC a
 (AA (iaA 2 b d) h fun b h=>
 AA (ldA h (some 2) b) h fun b h=>
 AL h [(.bool false),.nilsl] 46 fun a h=>
 AM (stA h 2 a b) .undef fun _ h=>
 zF 1 a h fun a h=>
 AA (AF false a) h fun a h=>
 AA (binOp .gtr .num a (.int .i64 512)) h fun a h=>
 AC a
 (R (.bool true) h)
 (AA (binOp .add .num d (.int .i64 1)) h fun d h=>
 N_126 [d] h))
 (J_125 h)) [(.int .i64 0)] h)
def an62 : ACode:=
 (.seq (zr [sD 1 (.bx none 55 (.t 0)),zy 2 false])
 (.seq (zr [zf 4 0 1,zl 5 4,z1 6 111 5,zm 3 6])
 (.seq (.seq (zr [zm 7 3,sD 8 (.bin .eql .num (.t 7) (.c (.str []))),zm 9 8,zmf 10 9 3,sG 11 9 false (.call 112 [(.t 10),(.c (.int .u8 68))]),zof 12 9 11,zmf 13 9 12,zft 14 13 1 1,zlt 15 13 14,zdt 16 13 .neq 15 0,zpf 17 9 13 16,zq 18 9 17,zm 19 18,zmf 20 19 3,sG 21 19 false (.call 112 [(.t 20),(.c (.int .u8 65))]),zof 22 19 21,zmf 23 19 22,zft 24 23 2 1,zlt 25 23 24,zdt 26 23 .neq 25 0,zpf 27 19 23 26,zq 28 19 27,zm 29 28,zmf 30 29 3,sG 31 29 false (.call 112 [(.t 30),(.c (.int .u8 66))]),zof 32 29 31,zmf 33 29 32,zft 34 33 3 1,zlt 35 33 34,zdt 36 33 .neq 35 0,zpf 37 29 33 36,zq 38 29 37,zm 39 38,zmf 40 39 3,sG 41 39 false (.call 112 [(.t 40),(.c (.int .u8 67))]),zof 42 39 41,zmf 43 39 42,zft 44 43 4 1,zlt 45 43 44,zdt 46 43 .neq 45 0,zpf 47 39 43 46,zq 48 39 47,zm 49 48,zmf 50 49 3,sG 51 49 false (.call 112 [(.t 50),(.c (.int .u8 78))]),zof 52 49 51,zmf 53 49 52,zft 54 53 5 1,zlt 55 53 54,zdt 56 53 .neq 55 0,zpf 57 49 53 56,zq 58 49 57])
 (.cond (.t 58) (.seq (zr [zy 2 false])
 .ret)
 .skip))
 (.seq (zr [zm 59 3,sD 60 (.call 112 [(.t 59),(.c (.int .u8 76))]),zm 61 60,zff 62 61 6 1,zlf 63 61 62,znf 64 61 63,zdf 65 61 .eql 64 0,zq 66 61 65,zm 67 66,zmt 68 67 3,sG 69 67 true (.call 112 [(.t 68),(.c (.int .u8 77))]),zmt 70 67 69,zff 71 70 7 1,zlf 72 70 71,znf 73 70 72,zdf 74 70 .eql 73 0,zqt 75 67 70 74,zp 76 67 75,zm 77 76,zmt 78 77 3,sG 79 77 true (.call 112 [(.t 78),(.c (.int .u8 108))]),zmt 80 77 79,zff 81 80 8 1,zlf 82 80 81,znf 83 80 82,zdf 84 80 .eql 83 0,zqt 85 77 80 84,zp 86 77 85,zm 2 86])
 .ret))))
def fn62 : AN:=⟨87,[(.tmp 2)],an62.erase⟩
theorem ok62 : OKF 62 fn62 = true:=by kernel_rfl
def sh62 (C : AK) (x0 : AV) (h : H) (R : AV -> H -> Prop) : Prop:=
 AL h (AV.cells x0) 55 fun x1 h=>
 zF 0 x1 h fun a h=>
 C 111 [a] h fun a h=>
 AA (binOp .eql .num a (.str [])) h fun b h=>
 zV b a h fun c h=>
 AH b false (fun K=>C 112 [c,(.int .u8 68)] h K) h fun c h=>
 zE b (unOp .not c) h fun c h=>
 zV b c h fun c h=>
 zG c 1 x1 h fun d h=>
 zT c (binOp .neq .num d (.int .i64 0)) h fun d h=>
 zE b (AE c d (.bool false)) h fun d h=>
 AA (AE b (.bool true) d) h fun d h=>
 zV d a h fun b h=>
 AH d false (fun K=>C 112 [b,(.int .u8 65)] h K) h fun b h=>
 zE d (unOp .not b) h fun b h=>
 zV d b h fun b h=>
 zG b 2 x1 h fun c h=>
 zT b (binOp .neq .num c (.int .i64 0)) h fun c h=>
 zE d (AE b c (.bool false)) h fun c h=>
 AA (AE d (.bool true) c) h fun c h=>
 zV c a h fun d h=>
 AH c false (fun K=>C 112 [d,(.int .u8 66)] h K) h fun d h=>
 zE c (unOp .not d) h fun d h=>
 zV c d h fun d h=>
 zG d 3 x1 h fun b h=>
 zT d (binOp .neq .num b (.int .i64 0)) h fun b h=>
 zE c (AE d b (.bool false)) h fun b h=>
 AA (AE c (.bool true) b) h fun b h=>
 zV b a h fun c h=>
 AH b false (fun K=>C 112 [c,(.int .u8 67)] h K) h fun c h=>
 zE b (unOp .not c) h fun c h=>
 zV b c h fun c h=>
 zG c 4 x1 h fun d h=>
 zT c (binOp .neq .num d (.int .i64 0)) h fun d h=>
 zE b (AE c d (.bool false)) h fun d h=>
 AA (AE b (.bool true) d) h fun d h=>
 zV d a h fun b h=>
 AH d false (fun K=>C 112 [b,(.int .u8 78)] h K) h fun b h=>
 zE d (unOp .not b) h fun b h=>
 zV d b h fun b h=>
 zG b 5 x1 h fun c h=>
 zT b (binOp .neq .num c (.int .i64 0)) h fun c h=>
 zE d (AE b c (.bool false)) h fun c h=>
 AA (AE d (.bool true) c) h fun c h=>
 AC c
 (R (.bool false) h)
 (C 112 [a,(.int .u8 76)] h fun c h=>
 zH c 6 x1 h fun d h=>
 zE c (AF false d) h fun d h=>
 zE c (binOp .eql .num d (.int .i64 0)) h fun d h=>
 AA (AE c (.bool true) d) h fun d h=>
 zU d a h fun c h=>
 AH d true (fun K=>C 112 [c,(.int .u8 77)] h K) h fun c h=>
 zU d c h fun c h=>
 zH c 7 x1 h fun b h=>
 zE c (AF false b) h fun b h=>
 zE c (binOp .eql .num b (.int .i64 0)) h fun b h=>
 zT d (AE c (.bool true) b) h fun b h=>
 AA (AE d b (.bool false)) h fun b h=>
 zU b a h fun a h=>
 AH b true (fun K=>C 112 [a,(.int .u8 108)] h K) h fun a h=>
 zU b a h fun a h=>
 zH a 8 x1 h fun d h=>
 zE a (AF false d) h fun d h=>
 zE a (binOp .eql .num d (.int .i64 0)) h fun d h=>
 zT b (AE a (.bool true) d) h fun d h=>
 AA (AE b d (.bool false)) h fun d h=>
 R d h)
def an63 : ACode:=
 (.seq (zr [sD 2 (.mv (.c .nilsl))])
 (.seq (zr [z0 3 0])
 (.seq (.seq (zr [zm 9 0,zn 10 9,z0 11 0])
 (.block 0 (.loop [3,11] 3593 (.seq (zr [zb 12 .lss 11 10])
 (.seq (.cond (.t 12) .skip
 (.exit 0))
 (.seq (.block 1 (.seq (zr [zi 13 1 9 11,zl 14 13,zm 5 14])
 (.seq (zr [zm 15 3,zm 16 5,zn 17 16,zb 18 .add 15 17,zm 3 18])
 (.seq (zr [zm 19 3,zd 20 .lss 19 0])
 (.cond (.t 20) (zr [sD 21 (.ext (.c .undef) 0),sN (.ext (.c .undef) 0)])
 .skip)))))
 (zr [zd 22 .add 11 1,zm 11 22])))))))
 (.seq (zr [zm 23 3,sD 24 (.call 113 [(.c .nilsl),(.t 23)]),zm 6 24])
 (.seq (.seq (zr [zm 25 0,zn 26 25,z0 27 0])
 (.block 2 (.loop [6,27] 234881088 (.seq (zr [zb 28 .lss 27 26])
 (.seq (.cond (.t 28) .skip
 (.exit 2))
 (.seq (.block 3 (.seq (zr [zi 29 1 25 27,zl 30 29,zm 8 30])
 (zr [zm 31 6,zm 32 8,sD 33 (.app 3 1 8 [(.int .i64 0)] (.t 31) (.t 32)),zm 6 33])))
 (zr [zd 34 .add 27 1,zm 27 34])))))))
 (.seq (zr [zm 35 6,zm 2 35])
 .ret))))))
def fn63 : AN:=⟨36,[(.tmp 2)],an63.erase⟩
theorem ok63 : OKF 63 fn63 = true:=by kernel_rfl
def sh63 (C : AK) (slices0 : AV) (h : H) (R : AV -> H -> Prop) : Prop:=
 AJ (fun (size3' : AV) (h : H)=>
 C 113 [.nilsl,size3'] h fun a h=>
 AJ (fun (newslice6' : AV) (h : H)=>
 R newslice6' h) fun J=>
 AA (AF false slices0) h fun b h=>
 AP (fun N l h=>AX l 0 fun newslice6=>AX l 1 fun c=>
 AA (binOp .lss .num c b) h fun b h=>
 AC b
 (AA (iaA 1 slices0 c) h fun b h=>
 zL b h fun b h=>
 A4 h 3 1 8 newslice6 b fun b h=>
 AA (binOp .add .num c (.int .i64 1)) h fun c h=>
 N [b,c] h)
 (J newslice6 h)) [a,(.int .i64 0)] h) fun J_0=>
 AA (AF false slices0) h fun a h=>
 AP (fun N_1 l h=>AX l 0 fun size3=>AX l 1 fun c=>
 AA (binOp .lss .num c a) h fun a h=>
 AC a
 (AJ (fun (size3'_2 : AV) (h : H)=>
 AA (binOp .add .num c (.int .i64 1)) h fun a h=>
 N_1 [size3'_2,a] h) fun J_13=>
 AA (iaA 1 slices0 c) h fun c h=>
 zL c h fun c h=>
 AA (AF false c) h fun c h=>
 AA (binOp .add .num size3 c) h fun c h=>
 AA (binOp .lss .num c (.int .i64 0)) h fun a h=>
 AC a
 (AA (A8 .undef 0) h fun a h=>
 AA (A8 .undef 0) h fun _ h=>
 J_13 c h)
 (J_13 c h))
 (J_0 size3 h)) [(.int .i64 0),(.int .i64 0)] h
def an65 : ACode:=
 (.seq (zr [sD 2 (.mv (.c .nilsl))])
 (.seq (.seq (zr [zm 6 0,zn 7 6,zd 8 .lss 7 2])
 (.cond (.t 8) (.seq (zr [zm 9 0,zm 2 9])
 .ret)
 .skip))
 (.seq (.seq (zr [z0 3 1])
 (.block 0 (.loop [3] 9 (.seq (.seq (zr [zm 10 3,zm 11 0,zn 12 11,zb 13 .lss 10 12])
 (.cond (.t 13) .skip
 (.exit 0)))
 (.seq (.block 1 (.seq (.reg 0 [0,1,2,3,4,5,6,7,8,9] (zcz [[],[],[1,0],[2],[],[],[5],[6,4],[7],[8,3]]) [zm 16 0,zm 17 3,zi 18 1 16 17,zl 19 18,zm 20 0,zm 21 3,zd 22 .sub 21 1,zi 23 1 20 22,zl 24 23,zb 25 .eql 19 24])
 (.cond (.t 25) (.seq (zr [zm 26 0,zm 27 3,sD 28 (.sli (.row 1) (.t 26) (some (.t 27)) none none),zm 4 28])
 (.seq (.seq (zr [z0 5 1])
 (.block 2 (.loop [3,5] 57 (.seq (.seq (zr [zm 29 5,zm 30 4,zn 31 30,zb 32 .lss 29 31])
 (.cond (.t 32) .skip
 (.exit 2)))
 (.seq (.block 3 (.seq (.reg 0 [0,1,2,3,4,5,6,7,8,9] (zcz [[],[],[1,0],[2],[],[],[5],[6,4],[7],[8,3]]) [zm 35 4,zm 36 5,zi 37 1 35 36,zl 38 37,zm 39 4,zm 40 5,zd 41 .sub 40 1,zi 42 1 39 41,zl 43 42,zb 44 .neq 38 43])
 (.cond (.t 44) (.seq (zr [zm 45 0,zm 46 3,zm 47 4,zm 48 5,zi 49 1 47 48,zl 50 49,zi 51 1 45 46,zst 1 51 50])
 (zr [zm 52 3,zd 53 .add 52 1,zm 3 53]))
 .skip)))
 (zr [zm 33 5,zd 34 .add 33 1,zm 5 34]))))))
 (.seq (zr [zm 54 0,zm 55 3,sD 56 (.sli (.row 1) (.t 54) (some (.t 55)) none none),sN (.clear [(.int .i64 0)] (.t 56))])
 (.seq (zr [zm 57 0,zm 58 3,sD 59 (.sli (.row 1) (.t 57) none (some (.t 58)) none),zm 2 59])
 .ret))))
 .skip)))
 (zr [zm 14 3,zd 15 .add 14 1,zm 3 15]))))))
 (.seq (zr [zm 60 0,zm 2 60])
 .ret))))
def fn65 : AN:=⟨61,[(.tmp 2)],an65.erase⟩
theorem ok65 : OKF 65 fn65 = true:=by kernel_rfl
def sh65 (C : AK) (s0 : AV) (h : H) (R : AV -> H -> Prop) : Prop:=
 AA (AF false s0) h fun a h=>
 AA (binOp .lss .num a (.int .i64 2)) h fun a h=>
 AC a
 (R s0 h)
 (AJ (fun (h : H)=>
 R s0 h) fun J=>
 AP (fun N l h=>AX l 0 fun k3=>
 AA (AF false s0) h fun a h=>
 AA (binOp .lss .num k3 a) h fun a h=>
 AC a
 (AJ (fun (k3'_1 : AV) (h : H)=>
 AA (binOp .add .num k3'_1 (.int .i64 1)) h fun a h=>
 N [a] h) fun J_48=>
 AA (iaA 1 s0 k3) h fun a h=>
 zL a h fun a h=>
 AA (binOp .sub .num k3 (.int .i64 1)) h fun b h=>
 AA (iaA 1 s0 b) h fun b h=>
 zL b h fun b h=>
 AA (binOp .eql .num a b) h fun b h=>
 AC b
 (AA (B7 (.row 1) s0 (some k3) none none) h fun b h=>
 AJ (fun (k3'_49 : AV) (h : H)=>
 AA (B7 (.row 1) s0 (some k3'_49) none none) h fun a h=>
 KP h [(.int .i64 0)] a fun _ h=>
 AA (B7 (.row 1) s0 none (some k3'_49) none) h fun a h=>
 R a h) fun J_76=>
 AP (fun N_77 l h=>AX l 0 fun k3_78=>AX l 1 fun k25=>
 AA (AF false b) h fun a h=>
 AA (binOp .lss .num k25 a) h fun a h=>
 AC a
 (AJ (fun (k3'_79 : AV) (h : H)=>
 AA (binOp .add .num k25 (.int .i64 1)) h fun a h=>
 N_77 [k3'_79,a] h) fun J_99=>
 AA (iaA 1 b k25) h fun a h=>
 zL a h fun a h=>
 AA (binOp .sub .num k25 (.int .i64 1)) h fun c h=>
 AA (iaA 1 b c) h fun c h=>
 zL c h fun c h=>
 AA (binOp .neq .num a c) h fun c h=>
 AC c
 (AA (iaA 1 b k25) h fun b h=>
 zL b h fun b h=>
 AA (iaA 1 s0 k3_78) h fun c h=>
 AM (stA h 1 c b) .undef fun _ h=>
 AA (binOp .add .num k3_78 (.int .i64 1)) h fun b h=>
 J_99 b h)
 (J_99 k3_78 h))
 (J_76 k3_78 h)) [k3,(.int .i64 1)] h)
 (J_48 k3 h))
 (J h)) [(.int .i64 1)] h)
def an66 : ACode:=
 (.seq (zr [zy 4 false])
 (.seq (.seq (zr [zm 7 0,zn 8 7,z0 9 0])
 (.block 0 (.loop [9] 898 (.seq (zr [zb 10 .lss 9 8])
 (.seq (.cond (.t 10) .skip
 (.exit 0))
 (.seq (.block 1 (.seq (zr [zi 11 1 7 9,zl 12 11,zm 6 12])
 (.seq (zr [zm 13 1,zm 14 6,zb 15 .eql 13 14])
 (.cond (.t 15) (.seq (zr [zy 4 true])
 .ret)
 .skip))))
 (zr [zd 16 .add 9 1,zm 9 16])))))))
 (.seq (zr [zy 4 false])
 .ret)))
def fn66 : AN:=⟨17,[(.tmp 4)],an66.erase⟩
theorem ok66 : OKF 66 fn66 = true:=by kernel_rfl
def sh66 (C : AK) (l0 x1 : AV) (h : H) (R : AV -> H -> Prop) : Prop:=
 AJ (fun (h : H)=>
 R (.bool false) h) fun J=>
 AA (AF false l0) h fun a h=>
 AP (fun N l h=>AX l 0 fun b=>
 AA (binOp .lss .num b a) h fun a h=>
 AC a
 (AA (iaA 1 l0 b) h fun a h=>
 zL a h fun a h=>
 AA (binOp .eql .num x1 a) h fun a h=>
 AC a
 (R (.bool true) h)
 (AA (binOp .add .num b (.int .i64 1)) h fun b h=>
 N [b] h))
 (J h)) [(.int .i64 0)] h
def an67 : ACode:=
 (.seq (zr [zy 4 false])
 (.seq (zr [zm 5 0,zm 6 1,z2 7 116 5 6,zd 8 .geq 7 0,zm 4 8])
 .ret))
def fn67 : AN:=⟨9,[(.tmp 4)],an67.erase⟩
theorem ok67 : OKF 67 fn67 = true:=by kernel_rfl
def sh67 (C : AK) (s0 f1 : AV) (h : H) (R : AV -> H -> Prop) : Prop:=
 C 116 [s0,f1] h fun a h=>
 AA (binOp .geq .num a (.int .i64 0)) h fun a h=>
 R a h
def an68 : ACode:=
 (.seq (zr [zy 3 false])
 (.seq (zr [zf 4 1 1,zl 5 4,zm 6 0,z2 7 69 5 6,zo 8 7,zm 3 8])
 .ret))
def fn68 : AN:=⟨9,[(.tmp 3)],an68.erase⟩
theorem ok68 : OKF 68 fn68 = true:=by kernel_rfl
def sh68 (C : AK) (s0 a : AV) (h : H) (R : AV -> H -> Prop) : Prop:=
 zF 1 a h fun a h=>
 C 69 [a,s0] h fun a h=>
 AA (unOp .not a) h fun a h=>
 R a h
def an69 : ACode:=
 (.seq (zr [zy 4 false])
 (.seq (zr [zm 5 0,zm 6 1,z2 7 117 5 6,zd 8 .geq 7 0,zm 4 8])
 .ret))
def fn69 : AN:=⟨9,[(.tmp 4)],an69.erase⟩
theorem ok69 : OKF 69 fn69 = true:=by kernel_rfl
def sh69 (C : AK) (s0 v1 : AV) (h : H) (R : AV -> H -> Prop) : Prop:=
 C 117 [s0,v1] h fun a h=>
 AA (binOp .geq .num a (.int .i64 0)) h fun a h=>
 R a h
def an70 : ACode:=
 (.seq (zr [sD 3 (.bx none 28 (.t 0)),sD 4 (.bx none 39 (.t 1)),sD 5 (.bx none 42 (.t 2)),z0 6 0])
 (.seq (zr [zk 14 7 3,zk 15 4 4,sD 16 (.build [.nilsl,.nilsl,.nilsl,.nilsl,.nilsl,(.int .i64 0),(.int .i64 0),.nilsl,(.int .i64 0),(.int .i64 0),.nilsl,.nilsl] [(0,7,(.t 14)),(7,4,(.t 15))]),sD 17 (.bx none 146 (.t 16)),sD 7 (.al none 143 [.nilp]),zst 1 7 17])
 (.seq (.seq (zr [zf 18 0 5,zl 19 18,zn 20 19,z0 21 0])
 (.block 0 (.loop [21] 3670176 (.seq (zr [zb 22 .lss 21 20])
 (.seq (.cond (.t 22) .skip
 (.exit 0))
 (.seq (.block 1 (.seq (zr [zi 23 1 19 21,zl 24 23,zm 9 24])
 (.reg 1 [0,1,2,3,4,5,6,7,8,9,10,11,12] (zcz [[],[],[1],[2],[3],[],[],[6,5],[7],[8,4],[9,0],[10],[11]]) [zl 25 7,zl 26 7,sD 27 (.nilc (.t 26)),zf 28 11 27,zl 29 28,zl 30 7,zm 31 9,⟨(some 32),none,(.call 118 [(.t 30),(.t 31)]),[⟨none,(.ld none (.t 7)),25⟩,⟨none,(.ld none (.t 7)),26⟩,⟨none,(.ld none (.t 28)),29⟩]⟩,sD 33 (.mksl (some 0) 148 [(.bool false),.nilsl,(.bool false)] 1 [(0,3,(.t 32))]),⟨(some 34),none,(.app 148 3 40 [(.bool false),.nilsl,(.bool false)] (.t 29) (.t 33)),[⟨none,(.ld none (.t 7)),25⟩]⟩,sD 35 (.nilc (.t 25)),zf 36 11 35,zst 1 36 34])))
 (zr [zd 37 .add 21 1,zm 21 37])))))))
 (.seq (.seq (zr [zf 38 1 5,zl 39 38,zn 40 39,z0 41 0])
 (.block 2 (.loop [41] 3848290697376 (.seq (zr [zb 42 .lss 41 40])
 (.seq (.cond (.t 42) .skip
 (.exit 2))
 (.seq (.block 3 (.seq (zr [zm 43 41,zi 44 9 39 41,zk 45 9 44,sD 11 (.al none 55 [(.int .i64 0),(.int .i64 0),(.int .i64 0),(.int .i64 0),(.int .i64 0),(.int .i64 0),.nilsl,.nilsl,.nilsl]),zm 10 43,zst 9 11 45])
 (.seq (zr [zf 46 0 11,zl 47 46,zd 48 .geq 47 18,sD 12 (.al none 4 [(.bool false)]),zst 1 12 48])
 (.seq (.seq (zr [zl 49 12,zm 50 10,zd 51 .add 50 1,zf 52 1 5,zl 53 52,zn 54 53,zb 55 .eql 51 54,sD 56 (.bin .neq .bool (.t 49) (.t 55)),zm 57 56,zlt 58 57 12,zp 59 57 58])
 (.cond (.t 59) (.seq (zr [zm 60 10,zm 6 60])
 .ret)
 .skip))
 (.seq (zr [sD 61 (.mkf 120 [] [(.t 12),(.t 7),(.t 11)]),z1 62 119 61,zo 63 62])
 (.cond (.t 63) (.seq (zr [zm 64 10,zm 6 64])
 .ret)
 .skip))))))
 (zr [zd 65 .add 41 1,zm 41 65])))))))
 (.seq (.seq (zr [zf 66 1 5,zl 67 66,zn 68 67,zm 13 68])
 (.seq (zr [zm 69 13,zd 70 .eql 69 0,zm 71 70,zff 72 71 1 5,zlf 73 71 72,zmf 74 71 13,zdf 75 71 .sub 74 1,zif 76 71 9 73 75,zff 77 71 0 76,zlf 78 71 77,zdf 79 71 .lss 78 18,zq 80 71 79])
 (.cond (.t 80) (.seq (zr [zm 81 13,zm 6 81])
 .ret)
 .skip)))
 (.seq (zr [z0 6 (-1)])
 .ret))))))
def fn70 : AN:=⟨82,[(.tmp 6)],an70.erase⟩
theorem ok70 : OKF 70 fn70 = true:=by kernel_rfl
def sh70 (C : AK) (m0 f1 b2 : AV) (h : H) (R : AV -> H -> Prop) : Prop:=
 AL h (AV.cells m0) 28 fun m3 h=>
 AL h (AV.cells f1) 39 fun f4 h=>
 AL h (AV.cells b2) 42 fun b5 h=>
 AA (ldA h (some 7) m3) h fun a h=>
 AA (ldA h (some 4) f4) h fun b h=>
 AA (AT (AG [.nilsl,.nilsl,.nilsl,.nilsl,.nilsl,(.int .i64 0),(.int .i64 0),.nilsl,(.int .i64 0),(.int .i64 0),.nilsl,.nilsl] [(0,7,a),(7,4,b)])) h fun b h=>
 AL h (AV.cells b) 146 fun b h=>
 AL h [.nilp] 143 fun s7 h=>
 AM (stA h 1 s7 b) .undef fun _ h=>
 AJ (fun (h : H)=>
 AJ (fun (h : H)=>
 zF 1 b5 h fun b h=>
 AA (AF false b) h fun b h=>
 AA (binOp .eql .num b (.int .i64 0)) h fun a h=>
 zH a 1 b5 h fun c h=>
 zV a b h fun d h=>
 zE a (binOp .sub .num d (.int .i64 1)) h fun d h=>
 zE a (iaA 9 c d) h fun d h=>
 zH a 0 d h fun d h=>
 zE a (binOp .lss .num d (.int .i64 18)) h fun d h=>
 AA (AE a (.bool true) d) h fun d h=>
 AC d
 (R b h)
 (R (.int .i64 (-1)) h)) fun J=>
 zF 1 b5 h fun b h=>
 AA (AF false b) h fun d h=>
 AP (fun N l h=>AX l 0 fun a=>
 AA (binOp .lss .num a d) h fun d h=>
 AC d
 (AA (iaA 9 b a) h fun b h=>
 AA (ldA h (some 9) b) h fun b h=>
 AL h [(.int .i64 0),(.int .i64 0),(.int .i64 0),(.int .i64 0),(.int .i64 0),(.int .i64 0),.nilsl,.nilsl,.nilsl] 55 fun x11 h=>
 AM (stA h 9 x11 b) .undef fun _ h=>
 zF 0 x11 h fun b h=>
 AA (binOp .geq .num b (.int .i64 18)) h fun b h=>
 AL h [(.bool false)] 4 fun last12 h=>
 AM (stA h 1 last12 b) .undef fun _ h=>
 zL last12 h fun b h=>
 AA (binOp .add .num a (.int .i64 1)) h fun d h=>
 zF 1 b5 h fun c h=>
 AA (AF false c) h fun c h=>
 AA (binOp .eql .num d c) h fun c h=>
 AA (binOp .neq .bool b c) h fun c h=>
 zT c (ldA h none last12) h fun b h=>
 AA (AE c b (.bool false)) h fun b h=>
 AC b
 (R a h)
 (C 119 [(.fn 120 [] [last12,s7,x11])] h fun b h=>
 AA (unOp .not b) h fun b h=>
 AC b
 (R a h)
 (AA (binOp .add .num a (.int .i64 1)) h fun a h=>
 N [a] h)))
 (J h)) [(.int .i64 0)] h) fun J_0=>
 zF 0 b5 h fun a h=>
 AA (AF false a) h fun b h=>
 AP (fun N_1 l h=>AX l 0 fun c=>
 AA (binOp .lss .num c b) h fun b h=>
 AC b
 (AA (iaA 1 a c) h fun a h=>
 zL a h fun a h=>
 zL s7 h fun b h=>
 zL s7 h fun d h=>
 AA (BJ d) h fun e h=>
 AA (faA 11 e) h fun e h=>
 zL e h fun f h=>
 zL s7 h fun g h=>
 C 118 [g,a] h fun a h=>
 AY (AA (ldA h none s7) h (fun v _=>v = b)) <|
 AY (AA (ldA h none s7) h (fun v _=>v = d)) <|
 AY (AA (ldA h none e) h (fun v _=>v = f)) <|
 A5 h 148 1 (AG [(.bool false),.nilsl,(.bool false)] [(0,3,a)]) fun a h=>
 A4 h 148 3 40 f a fun a h=>
 AY (AA (ldA h none s7) h (fun v _=>v = b)) <|
 AA (BJ b) h fun b h=>
 AA (faA 11 b) h fun b h=>
 AM (stA h 1 b a) .undef fun _ h=>
 AA (binOp .add .num c (.int .i64 1)) h fun c h=>
 N_1 [c] h)
 (J_0 h)) [(.int .i64 0)] h
def an71 : ACode:=
 (.seq (zr [sD 3 (.bx none 28 (.t 0)),sD 4 (.bx none 39 (.t 1)),sD 5 (.bx none 42 (.t 2)),z0 6 0])
 (.seq (zr [sD 7 (.mv (.c .nilsl))])
 (.seq (.seq (zr [zf 14 0 5,zl 15 14,zn 16 15,z0 17 0])
 (.block 0 (.loop [7,17] 229560 (.seq (zr [zb 18 .lss 17 16])
 (.seq (.cond (.t 18) .skip
 (.exit 0))
 (.seq (.block 1 (.seq (zr [zi 19 1 15 17,zl 20 19,zm 9 20])
 (.seq (zr [zm 21 9,zd 22 .lss 21 0])
 (.cond (.t 22) (zr [zm 23 7,sD 24 (.build [(.bool false),.nilsl,(.bool false)] [(2,1,(.c (.bool true)))]),sD 25 (.mksl none 154 [(.bool false),.nilsl,(.bool false)] 1 [(0,3,(.t 24))]),sD 26 (.app 154 3 40 [(.bool false),.nilsl,(.bool false)] (.t 23) (.t 25)),zm 7 26])
 (zr [zm 27 7,zf 28 0 3,zl 29 28,zm 30 9,zi 31 2 29 30,zk 32 2 31,sD 33 (.build [(.bool false),.nilsl,(.bool false)] [(0,2,(.t 32))]),sD 34 (.mksl none 154 [(.bool false),.nilsl,(.bool false)] 1 [(0,3,(.t 33))]),sD 35 (.app 154 3 40 [(.bool false),.nilsl,(.bool false)] (.t 27) (.t 34)),zm 7 35])))))
 (zr [zd 36 .add 17 1,zm 17 36])))))))
 (.seq (.seq (zr [zf 37 1 5,zl 38 37,zn 39 38,z0 40 0])
 (.block 2 (.loop [7,40] 1924145348792 (.seq (zr [zb 41 .lss 40 39])
 (.seq (.cond (.t 41) .skip
 (.exit 2))
 (.seq (.block 3 (.seq (zr [zm 42 40,zi 43 9 38 40,zk 44 9 43,sD 11 (.al none 55 [(.int .i64 0),(.int .i64 0),(.int .i64 0),(.int .i64 0),(.int .i64 0),(.int .i64 0),.nilsl,.nilsl,.nilsl]),zm 10 42,zst 9 11 44])
 (.seq (.seq (zr [zf 45 0 11,zl 46 45,z1 47 123 46])
 (.cond (.t 47) (.seq (.seq (zr [zm 48 10,zd 49 .add 48 1,zf 50 1 5,zl 51 50,zn 52 51,zb 53 .lss 49 52,zm 54 53,zkf 55 54 7 3,zkf 56 54 4 4,zmf 57 54 7,zkf 58 54 9 11,sG 59 54 false (.call 124 [(.t 55),(.t 56),(.t 57),(.t 58)]),zof 60 54 59,zq 61 54 60])
 (.cond (.t 61) (.seq (zr [zm 62 10,zm 6 62])
 .ret)
 .skip))
 (.seq (zr [z0 6 (-1)])
 .ret))
 .skip))
 (.seq (zr [zk 64 7 3,zk 65 4 4,zm 66 7,zk 67 9 11,sD 68 (.call 125 [(.t 64),(.t 65),(.t 66),(.t 67)]),zm 63 68,zx 69 63 0,zx 70 63 1,zm 12 69,zm 13 70])
 (.seq (.seq (zr [zm 71 13,zo 72 71])
 (.cond (.t 72) (.seq (zr [zm 73 10,zm 6 73])
 .ret)
 .skip))
 (zr [zm 74 12,zm 7 74]))))))
 (zr [zd 75 .add 40 1,zm 40 75])))))))
 (.seq (zr [zf 76 1 5,zl 77 76,zn 78 77,zm 6 78])
 .ret)))))
def fn71 : AN:=⟨79,[(.tmp 6)],an71.erase⟩
theorem ok71 : OKF 71 fn71 = true:=by kernel_rfl
def sh71 (C : AK) (m0 f1 b2 : AV) (h : H) (R : AV -> H -> Prop) : Prop:=
 AL h (AV.cells m0) 28 fun m3 h=>
 AL h (AV.cells f1) 39 fun f4 h=>
 AL h (AV.cells b2) 42 fun b5 h=>
 AJ (fun (l7' : AV) (h : H)=>
 AJ (fun (h : H)=>
 zF 1 b5 h fun a h=>
 AA (AF false a) h fun a h=>
 R a h) fun J=>
 zF 1 b5 h fun a h=>
 AA (AF false a) h fun b h=>
 AP (fun N l h=>AX l 0 fun l7=>AX l 1 fun c=>
 AA (binOp .lss .num c b) h fun b h=>
 AC b
 (AA (iaA 9 a c) h fun a h=>
 AA (ldA h (some 9) a) h fun a h=>
 AL h [(.int .i64 0),(.int .i64 0),(.int .i64 0),(.int .i64 0),(.int .i64 0),(.int .i64 0),.nilsl,.nilsl,.nilsl] 55 fun x11 h=>
 AM (stA h 9 x11 a) .undef fun _ h=>
 zF 0 x11 h fun a h=>
 C 123 [a] h fun a h=>
 AC a
 (AA (binOp .add .num c (.int .i64 1)) h fun a h=>
 zF 1 b5 h fun b h=>
 AA (AF false b) h fun b h=>
 AA (binOp .lss .num a b) h fun b h=>
 zE b (ldA h (some 7) m3) h fun a h=>
 zE b (ldA h (some 4) f4) h fun d h=>
 zV b l7 h fun e h=>
 zE b (ldA h (some 9) x11) h fun f h=>
 AH b false (fun K=>C 124 [a,d,e,f] h K) h fun f h=>
 zE b (unOp .not f) h fun f h=>
 AA (AE b (.bool true) f) h fun f h=>
 AC f
 (R c h)
 (R (.int .i64 (-1)) h))
 (AA (ldA h (some 7) m3) h fun f h=>
 AA (ldA h (some 4) f4) h fun b h=>
 AA (ldA h (some 9) x11) h fun e h=>
 C 125 [f,b,l7,e] h fun e h=>
 AA (A8 e 0) h fun b h=>
 AA (A8 e 1) h fun e h=>
 AA (unOp .not e) h fun e h=>
 AC e
 (R c h)
 (AA (binOp .add .num c (.int .i64 1)) h fun c h=>
 N [b,c] h)))
 (J h)) [l7',(.int .i64 0)] h) fun J_1=>
 zF 0 b5 h fun c h=>
 AA (AF false c) h fun b h=>
 AP (fun N_2 l h=>AX l 0 fun l7_3=>AX l 1 fun e=>
 AA (binOp .lss .num e b) h fun b h=>
 AC b
 (AJ (fun (l7'_4 : AV) (h : H)=>
 AA (binOp .add .num e (.int .i64 1)) h fun b h=>
 N_2 [l7'_4,b] h) fun J_23=>
 AA (iaA 1 c e) h fun e h=>
 zL e h fun e h=>
 AA (binOp .lss .num e (.int .i64 0)) h fun c h=>
 AC c
 (AA (AT (AG [(.bool false),.nilsl,(.bool false)] [(2,1,(.bool true))])) h fun c h=>
 A5 h 154 1 (AG [(.bool false),.nilsl,(.bool false)] [(0,3,c)]) fun c h=>
 A4 h 154 3 40 l7_3 c fun c h=>
 J_23 c h)
 (zF 0 m3 h fun c h=>
 AA (iaA 2 c e) h fun e h=>
 AA (ldA h (some 2) e) h fun e h=>
 AA (AT (AG [(.bool false),.nilsl,(.bool false)] [(0,2,e)])) h fun e h=>
 A5 h 154 1 (AG [(.bool false),.nilsl,(.bool false)] [(0,3,e)]) fun e h=>
 A4 h 154 3 40 l7_3 e fun e h=>
 J_23 e h))
 (J_1 l7_3 h)) [.nilsl,(.int .i64 0)] h
def an72 : ACode:=
 (.seq (zr [zy 3 false])
 (.seq (zr [zm 4 0,zd 5 .geq 4 0,zm 6 5,zmt 7 6 0,zft 8 6 0 1,zlt 9 6 8,znt 10 6 9,zbt 11 6 .lss 7 10,zp 12 6 11,zm 3 12])
 .ret))
def fn72 : AN:=⟨13,[(.tmp 3)],an72.erase⟩
theorem ok72 : OKF 72 fn72 = true:=by kernel_rfl
def sh72 (C : AK) (a b : AV) (h : H) (R : AV -> H -> Prop) : Prop:=
 AA (binOp .geq .num a (.int .i64 0)) h fun c h=>
 zU c a h fun a h=>
 zG c 0 b h fun b h=>
 zT c (AF false b) h fun b h=>
 zT c (binOp .lss .num a b) h fun b h=>
 AA (AE c b (.bool false)) h fun b h=>
 R b h
def an73 : ACode:=
 (.seq (zr [zy 4 false])
 (.seq (zr [z0 5 (-1)])
 (.seq (.seq (zr [zm 8 0,zn 9 8,z0 10 0])
 (.block 0 (.loop [5,10] 1826 (.seq (zr [zb 11 .lss 10 9])
 (.seq (.cond (.t 11) .skip
 (.exit 0))
 (.seq (.block 1 (.seq (zr [zi 12 1 8 10,zl 13 12,zm 7 13])
 (.seq (.seq (zr [zm 14 7,zm 15 5,zb 16 .leq 14 15,zm 17 16,zmf 18 17 7,zmf 19 17 1,zbf 20 17 .geq 18 19,zq 21 17 20])
 (.cond (.t 21) (.seq (zr [zy 4 false])
 .ret)
 .skip))
 (zr [zm 22 7,zm 5 22]))))
 (zr [zd 23 .add 10 1,zm 10 23])))))))
 (.seq (zr [zy 4 true])
 .ret))))
def fn73 : AN:=⟨24,[(.tmp 4)],an73.erase⟩
theorem ok73 : OKF 73 fn73 = true:=by kernel_rfl
def sh73 (C : AK) (l0 most1 : AV) (h : H) (R : AV -> H -> Prop) : Prop:=
 AJ (fun (h : H)=>
 R (.bool true) h) fun J=>
 AA (AF false l0) h fun a h=>
 AP (fun N l h=>AX l 0 fun last5=>AX l 1 fun b=>
 AA (binOp .lss .num b a) h fun a h=>
 AC a
 (AA (iaA 1 l0 b) h fun a h=>
 zL a h fun a h=>
 AA (binOp .leq .num a last5) h fun c h=>
 zV c a h fun d h=>
 zV c most1 h fun e h=>
 zE c (binOp .geq .num d e) h fun e h=>
 AA (AE c (.bool true) e) h fun e h=>
 AC e
 (R (.bool false) h)
 (AA (binOp .add .num b (.int .i64 1)) h fun b h=>
 N [a,b] h))
 (J h)) [(.int .i64 (-1)),(.int .i64 0)] h
def an74 : ACode:=
 (.seq (zr [zy 3 false])
 (.seq (zr [zl 4 1,zm 5 0,sD 6 (.callv (.t 4) [(.t 5)]),zo 7 6,zm 3 7])
 .ret))
def fn74 : AN:=⟨8,[(.tmp 3)],an74.erase⟩
theorem ok74 : OKF 74 fn74 = true:=by kernel_rfl
def sh74 (C : AK) (a b : AV) (h : H) (R : AV -> H -> Prop) : Prop:=
 zL b h fun b h=>
 CQ C b [a] h fun a h=>
 AA (unOp .not a) h fun a h=>
 R a h
def an75 : ACode:=
 (.seq (zr [zy 3 false])
 (.seq (zr [zf 4 1 1,zl 5 4,zm 6 0,zi 7 3 5 6,zf 8 0 7,zl 9 8,zd 10 .neq 9 1,zm 3 10])
 .ret))
def fn75 : AN:=⟨11,[(.tmp 3)],an75.erase⟩
theorem ok75 : OKF 75 fn75 = true:=by kernel_rfl
def sh75 (C : AK) (s0 a : AV) (h : H) (R : AV -> H -> Prop) : Prop:=
 zF 1 a h fun a h=>
 AA (iaA 3 a s0) h fun a h=>
 zF 0 a h fun a h=>
 AA (binOp .neq .num a (.int .i64 1)) h fun a h=>
 R a h
def an76 : ACode:=
 (.seq (zr [zy 4 false])
 (.seq (zr [zm 5 0,zm 6 1,z2 7 126 5 6,zd 8 .geq 7 0,zm 4 8])
 .ret))
def fn76 : AN:=⟨9,[(.tmp 4)],an76.erase⟩
theorem ok76 : OKF 76 fn76 = true:=by kernel_rfl
def sh76 (C : AK) (s0 f1 : AV) (h : H) (R : AV -> H -> Prop) : Prop:=
 C 126 [s0,f1] h fun a h=>
 AA (binOp .geq .num a (.int .i64 0)) h fun a h=>
 R a h
def an77 : ACode:=
 (.seq (zr [sD 2 (.bx none 39 (.t 0)),zy 3 false])
 (.seq (zr [zk 4 4 2,zl 5 1,z2 6 78 4 5,zo 7 6,zm 3 7])
 .ret))
def fn77 : AN:=⟨8,[(.tmp 3)],an77.erase⟩
theorem ok77 : OKF 77 fn77 = true:=by kernel_rfl
def sh77 (C : AK) (f0 a : AV) (h : H) (R : AV -> H -> Prop) : Prop:=
 AL h (AV.cells f0) 39 fun f2 h=>
 AA (ldA h (some 4) f2) h fun b h=>
 zL a h fun a h=>
 C 78 [b,a] h fun a h=>
 AA (unOp .not a) h fun a h=>
 R a h
def an78 : ACode:=
 (.seq (zr [sD 2 (.bx none 39 (.t 0)),sD 3 (.bx none 98 (.t 1)),zy 4 false])
 (.seq (.seq (zr [zf 10 0 2,zl 11 10,sD 12 (.mkf 127 [] [(.t 3)]),z2 13 67 11 12,zm 14 13,zlf 15 14 3,zff 16 14 1 2,zlf 17 14 16,sG 18 14 false (.callv (.t 15) [(.t 17)]),zof 19 14 18,zq 20 14 19,zm 21 20,zff 22 21 2 2,zlf 23 21 22,zdf 24 21 .lss 23 0,zq 25 21 24,zm 26 25,zff 27 26 0 2,zlf 28 26 27,znf 29 26 28,zff 30 26 2 2,zlf 31 26 30,zbf 32 26 .gtr 29 31,zq 33 26 32,zm 34 33,zff 35 34 3 2,zlf 36 34 35,znf 37 34 36,zdf 38 34 .eql 37 0,zq 39 34 38])
 (.cond (.t 39) (.seq (zr [zy 4 false])
 .ret)
 .skip))
 (.seq (.seq (zr [zf 40 3 2,zl 41 40,zn 42 41,z0 43 0])
 (.block 0 (.loop [43] 15393162788876 (.seq (zr [zb 44 .lss 43 42])
 (.seq (.cond (.t 44) .skip
 (.exit 0))
 (.seq (.block 1 (.seq (zr [zm 45 43,zi 46 2 41 43,zk 47 2 46,sD 6 (.al none 42 [.nilsl,.nilsl]),zm 5 45,zst 2 6 47])
 (.seq (.seq (zr [zf 48 0 6,zl 49 48,zn 50 49,zf 51 2 2,zl 52 51,zb 53 .neq 50 52])
 (.cond (.t 53) (.seq (zr [zy 4 false])
 .ret)
 .skip))
 (.seq (zr [zf 54 0 6,zl 55 54,zn 56 55,z0 57 0])
 (.block 2 (.loop [57] 252216972295536684 (.seq (zr [zb 58 .lss 57 56])
 (.seq (.cond (.t 58) .skip
 (.exit 2))
 (.seq (.block 3 (.seq (zr [zm 59 57,zi 60 1 55 57,zl 61 60,zm 7 59,zm 8 61])
 (.seq (.seq (zr [zm 62 8,zd 63 .neq 62 (-1),zm 64 63,zlt 65 64 3,zmt 66 64 8,sG 67 64 true (.callv (.t 65) [(.t 66)]),zot 68 64 67,zp 69 64 68])
 (.cond (.t 69) (.seq (zr [zy 4 false])
 .ret)
 .skip))
 (.seq (zr [z0 9 (-1)])
 (.seq (zr [zm 70 5,zd 71 .eql 70 0])
 (.cond (.t 71) (.seq (.seq (zr [zm 72 7,zf 73 0 2,zl 74 73,zn 75 74,zb 76 .lss 72 75])
 (.cond (.t 76) (zr [zf 77 0 2,zl 78 77,zm 79 7,zi 80 1 78 79,zl 81 80,zm 9 81])
 .skip))
 (.seq (zr [zm 82 8,zm 83 9,zb 84 .neq 82 83])
 (.cond (.t 84) (.seq (zr [zy 4 false])
 .ret)
 .skip)))
 .skip))))))
 (zr [zd 85 .add 57 1,zm 57 85]))))))))))
 (zr [zd 86 .add 43 1,zm 43 86])))))))
 (.seq (zr [zy 4 true])
 .ret))))
def fn78 : AN:=⟨87,[(.tmp 4)],an78.erase⟩
theorem ok78 : OKF 78 fn78 = true:=by kernel_rfl
def sh78 (C : AK) (f0 kind1 : AV) (h : H) (R : AV -> H -> Prop) : Prop:=
 AL h (AV.cells f0) 39 fun f2 h=>
 AL h (AV.cells kind1) 98 fun kind3 h=>
 zF 0 f2 h fun a h=>
 C 67 [a,(.fn 127 [] [kind3])] h fun a h=>
 zE a (ldA h none kind3) h fun b h=>
 zH a 1 f2 h fun c h=>
 AH a false (fun K=>CQ C b [c] h K) h fun c h=>
 zE a (unOp .not c) h fun c h=>
 AA (AE a (.bool true) c) h fun c h=>
 zH c 2 f2 h fun a h=>
 zE c (binOp .lss .num a (.int .i64 0)) h fun a h=>
 AA (AE c (.bool true) a) h fun a h=>
 zH a 0 f2 h fun c h=>
 zE a (AF false c) h fun c h=>
 zH a 2 f2 h fun b h=>
 zE a (binOp .gtr .num c b) h fun b h=>
 AA (AE a (.bool true) b) h fun b h=>
 zH b 3 f2 h fun a h=>
 zE b (AF false a) h fun a h=>
 zE b (binOp .eql .num a (.int .i64 0)) h fun a h=>
 AA (AE b (.bool true) a) h fun a h=>
 AC a
 (R (.bool false) h)
 (AJ (fun (h : H)=>
 R (.bool true) h) fun J=>
 zF 3 f2 h fun a h=>
 AA (AF false a) h fun b h=>
 AP (fun N l h=>AX l 0 fun c=>
 AA (binOp .lss .num c b) h fun b h=>
 AC b
 (AJ (fun (h : H)=>
 AA (binOp .add .num c (.int .i64 1)) h fun b h=>
 N [b] h) fun J_47=>
 AA (iaA 2 a c) h fun a h=>
 AA (ldA h (some 2) a) h fun a h=>
 AL h [.nilsl,.nilsl] 42 fun b6 h=>
 AM (stA h 2 b6 a) .undef fun _ h=>
 zF 0 b6 h fun a h=>
 AA (AF false a) h fun a h=>
 zF 2 f2 h fun b h=>
 AA (binOp .neq .num a b) h fun b h=>
 AC b
 (R (.bool false) h)
 (zF 0 b6 h fun b h=>
 AA (AF false b) h fun a h=>
 AP (fun N_48 l h=>AX l 0 fun d=>
 AA (binOp .lss .num d a) h fun a h=>
 AC a
 (AJ (fun (h : H)=>
 AA (binOp .add .num d (.int .i64 1)) h fun a h=>
 N_48 [a] h) fun J_79=>
 AA (iaA 1 b d) h fun b h=>
 zL b h fun b h=>
 AA (binOp .neq .num b (.int .i64 (-1))) h fun a h=>
 zT a (ldA h none kind3) h fun e h=>
 zU a b h fun f h=>
 AH a true (fun K=>CQ C e [f] h K) h fun f h=>
 zT a (unOp .not f) h fun f h=>
 AA (AE a f (.bool false)) h fun f h=>
 AC f
 (R (.bool false) h)
 (AA (binOp .eql .num c (.int .i64 0)) h fun c h=>
 AC c
 (AJ (fun (want9'_80 : AV) (h : H)=>
 AA (binOp .neq .num b want9'_80) h fun b h=>
 AC b
 (R (.bool false) h)
 (J_79 h)) fun J_91=>
 zF 0 f2 h fun b h=>
 AA (AF false b) h fun b h=>
 AA (binOp .lss .num d b) h fun b h=>
 AC b
 (zF 0 f2 h fun b h=>
 AA (iaA 1 b d) h fun d h=>
 zL d h fun d h=>
 J_91 d h)
 (J_91 (.int .i64 (-1)) h))
 (J_79 h)))
 (J_47 h)) [(.int .i64 0)] h))
 (J h)) [(.int .i64 0)] h)
def an79 : ACode:=
 (.seq (zr [zy 4 false])
 (.seq (.seq (zr [zm 7 0,zn 8 7,z0 9 0])
 (.block 0 (.loop [9] 899 (.seq (zr [zb 10 .lss 9 8])
 (.seq (.cond (.t 10) .skip
 (.exit 0))
 (.seq (.block 1 (.seq (zr [zm 11 9,zi 12 1 7 9,zl 13 12,zm 5 11,zm 6 13])
 (.seq (zr [zm 14 6,zd 15 .lss 14 0,zm 16 15,zmf 17 16 6,zmf 18 16 1,zbf 19 16 .geq 17 18,zq 20 16 19,zm 21 20,zmf 22 21 5,zdf 23 21 .gtr 22 0,zmf 24 21 23,zmt 25 24 6,zmt 26 24 0,zmt 27 24 5,zdt 28 24 .sub 27 1,zit 29 24 1 26 28,zlt 30 24 29,zbt 31 24 .leq 25 30,zpf 32 21 24 31,zq 33 21 32])
 (.cond (.t 33) (.seq (zr [zy 4 false])
 .ret)
 .skip))))
 (zr [zd 34 .add 9 1,zm 9 34])))))))
 (.seq (zr [zy 4 true])
 .ret)))
def fn79 : AN:=⟨35,[(.tmp 4)],an79.erase⟩
theorem ok79 : OKF 79 fn79 = true:=by kernel_rfl
def sh79 (C : AK) (l0 most1 : AV) (h : H) (R : AV -> H -> Prop) : Prop:=
 AJ (fun (h : H)=>
 R (.bool true) h) fun J=>
 AA (AF false l0) h fun a h=>
 AP (fun N l h=>AX l 0 fun b=>
 AA (binOp .lss .num b a) h fun a h=>
 AC a
 (AA (iaA 1 l0 b) h fun a h=>
 zL a h fun a h=>
 AA (binOp .lss .num a (.int .i64 0)) h fun c h=>
 zV c a h fun d h=>
 zV c most1 h fun e h=>
 zE c (binOp .geq .num d e) h fun e h=>
 AA (AE c (.bool true) e) h fun e h=>
 zV e b h fun c h=>
 zE e (binOp .gtr .num c (.int .i64 0)) h fun c h=>
 zV e c h fun c h=>
 zU c a h fun a h=>
 zU c l0 h fun d h=>
 zU c b h fun f h=>
 zT c (binOp .sub .num f (.int .i64 1)) h fun f h=>
 zT c (iaA 1 d f) h fun f h=>
 zT c (ldA h none f) h fun f h=>
 zT c (binOp .leq .num a f) h fun f h=>
 zE e (AE c f (.bool false)) h fun f h=>
 AA (AE e (.bool true) f) h fun f h=>
 AC f
 (R (.bool false) h)
 (AA (binOp .add .num b (.int .i64 1)) h fun b h=>
 N [b] h))
 (J h)) [(.int .i64 0)] h
def an80 : ACode:=
 (.seq (zr [sD 2 (.bx none 28 (.t 0)),zy 4 false])
 (.seq (.seq (zr [zm 7 1,zn 8 7,z0 9 0])
 (.block 0 (.loop [9] 900 (.seq (zr [zb 10 .lss 9 8])
 (.seq (.cond (.t 10) .skip
 (.exit 0))
 (.seq (.block 1 (.seq (zr [zi 11 1 7 9,zl 12 11,zm 6 12])
 (.seq (zr [zm 13 6,zd 14 .lss 13 0,zm 15 14,zmf 16 15 6,zff 17 15 0 2,zlf 18 15 17,znf 19 15 18,zbf 20 15 .geq 16 19,zq 21 15 20])
 (.cond (.t 21) (.seq (zr [zy 4 false])
 .ret)
 .skip))))
 (zr [zd 22 .add 9 1,zm 9 22])))))))
 (.seq (zr [zy 4 true])
 .ret)))
def fn80 : AN:=⟨23,[(.tmp 4)],an80.erase⟩
theorem ok80 : OKF 80 fn80 = true:=by kernel_rfl
def sh80 (C : AK) (m0 l1 : AV) (h : H) (R : AV -> H -> Prop) : Prop:=
 AL h (AV.cells m0) 28 fun m2 h=>
 AJ (fun (h : H)=>
 R (.bool true) h) fun J=>
 AA (AF false l1) h fun a h=>
 AP (fun N l h=>AX l 0 fun b=>
 AA (binOp .lss .num b a) h fun a h=>
 AC a
 (AA (iaA 1 l1 b) h fun a h=>
 zL a h fun a h=>
 AA (binOp .lss .num a (.int .i64 0)) h fun c h=>
 zV c a h fun a h=>
 zH c 0 m2 h fun d h=>
 zE c (AF false d) h fun d h=>
 zE c (binOp .geq .num a d) h fun d h=>
 AA (AE c (.bool true) d) h fun d h=>
 AC d
 (R (.bool false) h)
 (AA (binOp .add .num b (.int .i64 1)) h fun b h=>
 N [b] h))
 (J h)) [(.int .i64 0)] h
def an81 : ACode:=
 (.seq (zr [sD 2 (.bx none 28 (.t 0)),sD 3 (.bx none 39 (.t 1)),zy 4 false])
 (.seq (.seq (zr [zk 9 7 2,zf 10 0 3,zl 11 10,z2 12 80 9 11,zo 13 12,zm 14 13,zkf 15 14 7 2,zff 16 14 1 3,zlf 17 14 16,sG 18 14 false (.mksl none 3 [(.int .i64 0)] 1 [(0,1,(.t 17))]),z2f 19 14 80 15 18,zof 20 14 19,zq 21 14 20,zm 22 21,zff 23 22 2 3,zlf 24 22 23,zdf 25 22 .lss 24 0,zq 26 22 25,zm 27 26,zff 28 27 0 3,zlf 29 27 28,znf 30 27 29,zff 31 27 2 3,zlf 32 27 31,zbf 33 27 .gtr 30 32,zq 34 27 33,zm 35 34,zff 36 35 3 3,zlf 37 35 36,znf 38 35 37,zdf 39 35 .eql 38 0,zq 40 35 39])
 (.cond (.t 40) (.seq (zr [zy 4 false])
 .ret)
 .skip))
 (.seq (.seq (zr [zf 41 3 3,zl 42 41,zn 43 42,z0 44 0])
 (.block 0 (.loop [44] 30786325577740 (.seq (zr [zb 45 .lss 44 43])
 (.seq (.cond (.t 45) .skip
 (.exit 0))
 (.seq (.block 1 (.seq (zr [zm 46 44,zi 47 2 42 44,zk 48 2 47,sD 6 (.al none 42 [.nilsl,.nilsl]),zm 5 46,zst 2 6 48])
 (.seq (.seq (zr [zf 49 0 6,zl 50 49,zn 51 50,zf 52 2 3,zl 53 52,zb 54 .neq 51 53])
 (.cond (.t 54) (.seq (zr [zy 4 false])
 .ret)
 .skip))
 (.seq (zr [zf 55 0 6,zl 56 55,zn 57 56,z0 58 0])
 (.block 2 (.loop [58] 504433944591073324 (.seq (zr [zb 59 .lss 58 57])
 (.seq (.cond (.t 59) .skip
 (.exit 2))
 (.seq (.block 3 (.seq (zr [zm 60 58,zi 61 1 56 58,zl 62 61,zm 7 60,zm 8 62])
 (.seq (zr [zm 63 8,zd 64 .lss 63 (-1),zm 65 64,zmf 66 65 8,zff 67 65 0 2,zlf 68 65 67,znf 69 65 68,zbf 70 65 .geq 66 69,zq 71 65 70,zm 72 71,zmf 73 72 5,zdf 74 72 .eql 73 0,zmf 75 72 74,zmt 76 75 7,zft 77 75 0 3,zlt 78 75 77,znt 79 75 78,zbt 80 75 .lss 76 79,zpf 81 72 75 80,zmf 82 72 81,zmt 83 82 8,zft 84 82 0 3,zlt 85 82 84,zmt 86 82 7,zit 87 82 1 85 86,zlt 88 82 87,zbt 89 82 .neq 83 88,zpf 90 72 82 89,zq 91 72 90,zm 92 91,zmf 93 92 5,zdf 94 92 .eql 93 0,zmf 95 92 94,zmt 96 95 7,zft 97 95 0 3,zlt 98 95 97,znt 99 95 98,zbt 100 95 .geq 96 99,zpf 101 92 95 100,zmf 102 92 101,zmt 103 102 8,zdt 104 102 .neq 103 (-1),zpf 105 92 102 104,zq 106 92 105])
 (.cond (.t 106) (.seq (zr [zy 4 false])
 .ret)
 .skip))))
 (zr [zd 107 .add 58 1,zm 58 107]))))))))))
 (zr [zd 108 .add 44 1,zm 44 108])))))))
 (.seq (zr [zy 4 true])
 .ret))))
def fn81 : AN:=⟨109,[(.tmp 4)],an81.erase⟩
theorem ok81 : OKF 81 fn81 = true:=by kernel_rfl
def sh81 (C : AK) (m0 f1 : AV) (h : H) (R : AV -> H -> Prop) : Prop:=
 AL h (AV.cells m0) 28 fun m2 h=>
 AL h (AV.cells f1) 39 fun f3 h=>
 AA (ldA h (some 7) m2) h fun a h=>
 zF 0 f3 h fun b h=>
 C 80 [a,b] h fun b h=>
 AA (unOp .not b) h fun b h=>
 zE b (ldA h (some 7) m2) h fun a h=>
 zH b 1 f3 h fun c h=>
 AH b false (fun K=>A5 h 3 1 (AG [(.int .i64 0)] [(0,1,c)]) K) h fun c h=>
 AH b false (fun K=>C 80 [a,c] h K) h fun c h=>
 zE b (unOp .not c) h fun c h=>
 AA (AE b (.bool true) c) h fun c h=>
 zH c 2 f3 h fun b h=>
 zE c (binOp .lss .num b (.int .i64 0)) h fun b h=>
 AA (AE c (.bool true) b) h fun b h=>
 zH b 0 f3 h fun c h=>
 zE b (AF false c) h fun c h=>
 zH b 2 f3 h fun a h=>
 zE b (binOp .gtr .num c a) h fun a h=>
 AA (AE b (.bool true) a) h fun a h=>
 zH a 3 f3 h fun b h=>
 zE a (AF false b) h fun b h=>
 zE a (binOp .eql .num b (.int .i64 0)) h fun b h=>
 AA (AE a (.bool true) b) h fun b h=>
 AC b
 (R (.bool false) h)
 (AJ (fun (h : H)=>
 R (.bool true) h) fun J=>
 zF 3 f3 h fun b h=>
 AA (AF false b) h fun a h=>
 AP (fun N l h=>AX l 0 fun c=>
 AA (binOp .lss .num c a) h fun a h=>
 AC a
 (AJ (fun (h : H)=>
 AA (binOp .add .num c (.int .i64 1)) h fun a h=>
 N [a] h) fun J_67=>
 AA (iaA 2 b c) h fun b h=>
 AA (ldA h (some 2) b) h fun b h=>
 AL h [.nilsl,.nilsl] 42 fun b6 h=>
 AM (stA h 2 b6 b) .undef fun _ h=>
 zF 0 b6 h fun b h=>
 AA (AF false b) h fun b h=>
 zF 2 f3 h fun a h=>
 AA (binOp .neq .num b a) h fun a h=>
 AC a
 (R (.bool false) h)
 (zF 0 b6 h fun a h=>
 AA (AF false a) h fun b h=>
 AP (fun N_68 l h=>AX l 0 fun d=>
 AA (binOp .lss .num d b) h fun b h=>
 AC b
 (AA (iaA 1 a d) h fun a h=>
 zL a h fun a h=>
 AA (binOp .lss .num a (.int .i64 (-1))) h fun b h=>
 zV b a h fun e h=>
 zH b 0 m2 h fun f h=>
 zE b (AF false f) h fun f h=>
 zE b (binOp .geq .num e f) h fun f h=>
 AA (AE b (.bool true) f) h fun f h=>
 zV f c h fun b h=>
 zE f (binOp .eql .num b (.int .i64 0)) h fun b h=>
 zV f b h fun b h=>
 zU b d h fun e h=>
 zG b 0 f3 h fun g h=>
 zT b (AF false g) h fun g h=>
 zT b (binOp .lss .num e g) h fun g h=>
 zE f (AE b g (.bool false)) h fun g h=>
 zV f g h fun g h=>
 zU g a h fun b h=>
 zG g 0 f3 h fun e h=>
 zU g d h fun i h=>
 zT g (iaA 1 e i) h fun i h=>
 zT g (ldA h none i) h fun i h=>
 zT g (binOp .neq .num b i) h fun i h=>
 zE f (AE g i (.bool false)) h fun i h=>
 AA (AE f (.bool true) i) h fun i h=>
 zV i c h fun c h=>
 zE i (binOp .eql .num c (.int .i64 0)) h fun c h=>
 zV i c h fun c h=>
 zU c d h fun f h=>
 zG c 0 f3 h fun g h=>
 zT c (AF false g) h fun g h=>
 zT c (binOp .geq .num f g) h fun g h=>
 zE i (AE c g (.bool false)) h fun g h=>
 zV i g h fun g h=>
 zU g a h fun a h=>
 zT g (binOp .neq .num a (.int .i64 (-1))) h fun a h=>
 zE i (AE g a (.bool false)) h fun a h=>
 AA (AE i (.bool true) a) h fun a h=>
 AC a
 (R (.bool false) h)
 (AA (binOp .add .num d (.int .i64 1)) h fun d h=>
 N_68 [d] h))
 (J_67 h)) [(.int .i64 0)] h))
 (J h)) [(.int .i64 0)] h)
def an87 : ACode:=
 (.seq (zr [sD 1 (.bx none 28 (.t 0)),zy 2 false])
 (.seq (.seq (zr [zf 14 0 1,zl 15 14,sD 16 (.mksl none 23 [.nilsl] 1 [(0,1,(.t 15))]),sD 17 (.call 132 [(.c (.int .i64 1024)),(.t 16)]),zm 18 17,zff 19 18 1 1,zlf 20 18 19,sG 21 18 false (.mksl none 24 [.nilsl] 1 [(0,1,(.t 20))]),sG 22 18 false (.call 133 [(.c (.int .i64 512)),(.t 21)]),zq 23 18 22,zm 24 23,zff 25 24 2 1,zlf 26 24 25,zff 27 24 3 1,zlf 28 24 27,sG 29 24 false (.mksl none 25 [.nilsl,.nilsl] 2 [(0,1,(.t 26)),(1,1,(.t 28))]),sG 30 24 false (.call 134 [(.c (.int .i64 256)),(.t 29)]),zq 31 24 30,zm 32 31,zff 33 32 4 1,zlf 34 32 33,sG 35 32 false (.mksl none 26 [.nilsl] 1 [(0,1,(.t 34))]),sG 36 32 false (.call 135 [(.c (.int .i64 1024)),(.t 35)]),zq 37 32 36,zm 38 37,zff 39 38 2 1,zlf 40 38 39,z1f 41 38 136 40,zq 42 38 41,zm 43 42,zff 44 43 3 1,zlf 45 43 44,z1f 46 43 136 45,zq 47 43 46])
 (.cond (.t 47) (.seq (zr [zy 2 true])
 .ret)
 .skip))
 (.seq (.seq (zr [zf 48 0 1,zl 49 48,zn 50 49,z0 51 0])
 (.block 0 (.loop [51] 3940649673949186 (.seq (zr [zb 52 .lss 51 50])
 (.seq (.cond (.t 52) .skip
 (.exit 0))
 (.seq (.block 1 (.seq (zr [zi 53 2 49 51,zk 54 2 53,sD 4 (.al none 46 [(.bool false),.nilsl]),zst 2 4 54])
 (.seq (zr [zf 55 1 4,zl 56 55,sD 57 (.mksl none 36 [.nilsl] 1 [(0,1,(.t 56))]),sD 58 (.call 137 [(.c (.int .i64 512)),(.t 57)])])
 (.cond (.t 58) (.seq (zr [zy 2 true])
 .ret)
 .skip))))
 (zr [zd 59 .add 51 1,zm 51 59])))))))
 (.seq (.seq (zr [zf 60 1 1,zl 61 60,zn 62 61,z0 63 0])
 (.block 2 (.loop [63] 16140901064495857666 (.seq (zr [zb 64 .lss 63 62])
 (.seq (.cond (.t 64) .skip
 (.exit 2))
 (.seq (.block 3 (.seq (zr [zi 65 3 61 63,zk 66 3 65,sD 6 (.al none 61 [(.int .i64 0),.nilsl,(.str [])]),zst 3 6 66])
 (.seq (zr [zf 67 1 6,zl 68 67,sD 69 (.mksl none 36 [.nilsl] 1 [(0,1,(.t 68))]),sD 70 (.call 137 [(.c (.int .i64 200)),(.t 69)]),zm 71 70,zff 72 71 2 6,zlf 73 71 72,sG 74 71 false (.mksl none 9 [(.str [])] 1 [(0,1,(.t 73))]),z1f 75 71 136 74,zq 76 71 75])
 (.cond (.t 76) (.seq (zr [zy 2 true])
 .ret)
 .skip))))
 (zr [zd 77 .add 63 1,zm 63 77])))))))
 (.seq (zr [z0 7 20000])
 (.seq (.seq (zr [zf 78 4 1,zl 79 78,zn 80 79,z0 81 0])
 (.block 4 (.loop [7,81] 4231240368651202111471744 (.seq (zr [zb 82 .lss 81 80])
 (.seq (.cond (.t 82) .skip
 (.exit 4))
 (.seq (.block 5 (.seq (zr [zi 83 4 79 81,zk 84 4 83,sD 9 (.al none 39 [.nilsl,(.int .i64 0),(.int .i64 0),.nilsl]),zst 4 9 84])
 (.seq (.seq (zr [zf 85 2 9,zl 86 85,zd 87 .gtr 86 200,zm 88 87,zff 89 88 0 9,zlf 90 88 89,sG 91 88 false (.mksl none 36 [.nilsl] 1 [(0,1,(.t 90))]),sG 92 88 false (.call 137 [(.c (.int .i64 200)),(.t 91)]),zq 93 88 92,zm 94 93,zff 95 94 3 9,zlf 96 94 95,sG 97 94 false (.mksl none 37 [.nilsl] 1 [(0,1,(.t 96))]),sG 98 94 false (.call 138 [(.c (.int .i64 2000)),(.t 97)]),zq 99 94 98])
 (.cond (.t 99) (.seq (zr [zy 2 true])
 .ret)
 .skip))
 (.seq (zr [zf 100 3 9,zl 101 100,zn 102 101,z0 103 0])
 (.block 6 (.loop [7,103] 17747112634435580272155956347008 (.seq (zr [zb 104 .lss 103 102])
 (.seq (.cond (.t 104) .skip
 (.exit 6))
 (.seq (.block 7 (.seq (zr [zi 105 2 101 103,zk 106 2 105,sD 11 (.al none 42 [.nilsl,.nilsl]),zst 2 11 106])
 (.seq (.seq (zr [zm 107 7,zf 108 1 11,zl 109 108,zn 110 109,zb 111 .sub 107 110,zm 7 111])
 (.seq (zr [zm 112 7,zd 113 .lss 112 0,zm 114 113,zff 115 114 0 11,zlf 116 114 115,sG 117 114 false (.mksl none 36 [.nilsl] 1 [(0,1,(.t 116))]),sG 118 114 false (.call 137 [(.c (.int .i64 200)),(.t 117)]),zq 119 114 118])
 (.cond (.t 119) (.seq (zr [zy 2 true])
 .ret)
 .skip)))
 (.seq (zr [zf 120 1 11,zl 121 120,zn 122 121,z0 123 0])
 (.block 8 (.loop [123] 18609209688101456656233570999881171072 (.seq (zr [zb 124 .lss 123 122])
 (.seq (.cond (.t 124) .skip
 (.exit 8))
 (.seq (.block 9 (.seq (zr [zi 125 9 121 123,zk 126 9 125,sD 13 (.al none 55 [(.int .i64 0),(.int .i64 0),(.int .i64 0),(.int .i64 0),(.int .i64 0),(.int .i64 0),.nilsl,.nilsl,.nilsl]),zst 9 13 126])
 (.seq (zr [zf 127 6 13,zl 128 127,zf 129 7 13,zl 130 129,sD 131 (.mksl none 36 [.nilsl,.nilsl] 2 [(0,1,(.t 128)),(1,1,(.t 130))]),sD 132 (.call 137 [(.c (.int .i64 1024)),(.t 131)]),zm 133 132,zff 134 133 8 13,zlf 135 133 134,sG 136 133 false (.mksl none 36 [.nilsl] 1 [(0,1,(.t 135))]),sG 137 133 false (.call 137 [(.c (.int .i64 200)),(.t 136)]),zq 138 133 137])
 (.cond (.t 138) (.seq (zr [zy 2 true])
 .ret)
 .skip))))
 (zr [zd 139 .add 123 1,zm 123 139]))))))))))
 (zr [zd 140 .add 103 1,zm 103 140]))))))))))
 (zr [zd 141 .add 81 1,zm 81 141])))))))
 (.seq (zr [zy 2 false])
 .ret)))))))
def fn87 : AN:=⟨142,[(.tmp 2)],an87.erase⟩
theorem ok87 : OKF 87 fn87 = true:=by kernel_rfl
def sh87 (C : AK) (m0 : AV) (h : H) (R : AV -> H -> Prop) : Prop:=
 AL h (AV.cells m0) 28 fun m1 h=>
 zF 0 m1 h fun a h=>
 A5 h 23 1 (AG [.nilsl] [(0,1,a)]) fun a h=>
 C 132 [(.int .i64 1024),a] h fun a h=>
 zH a 1 m1 h fun b h=>
 AH a false (fun K=>A5 h 24 1 (AG [.nilsl] [(0,1,b)]) K) h fun b h=>
 AH a false (fun K=>C 133 [(.int .i64 512),b] h K) h fun b h=>
 AA (AE a (.bool true) b) h fun b h=>
 zH b 2 m1 h fun a h=>
 zH b 3 m1 h fun c h=>
 AH b false (fun K=>A5 h 25 2 (AG [.nilsl,.nilsl] [(0,1,a),(1,1,c)]) K) h fun c h=>
 AH b false (fun K=>C 134 [(.int .i64 256),c] h K) h fun c h=>
 AA (AE b (.bool true) c) h fun c h=>
 zH c 4 m1 h fun b h=>
 AH c false (fun K=>A5 h 26 1 (AG [.nilsl] [(0,1,b)]) K) h fun b h=>
 AH c false (fun K=>C 135 [(.int .i64 1024),b] h K) h fun b h=>
 AA (AE c (.bool true) b) h fun b h=>
 zH b 2 m1 h fun c h=>
 AH b false (fun K=>C 136 [c] h K) h fun c h=>
 AA (AE b (.bool true) c) h fun c h=>
 zH c 3 m1 h fun b h=>
 AH c false (fun K=>C 136 [b] h K) h fun b h=>
 AA (AE c (.bool true) b) h fun b h=>
 AC b
 (R (.bool true) h)
 (AJ (fun (h : H)=>
 AJ (fun (h : H)=>
 AJ (fun (h : H)=>
 R (.bool false) h) fun J=>
 zF 4 m1 h fun b h=>
 AA (AF false b) h fun c h=>
 AP (fun N l h=>AX l 0 fun left7=>AX l 1 fun a=>
 AA (binOp .lss .num a c) h fun c h=>
 AC c
 (AJ (fun (left7'_3 : AV) (h : H)=>
 AA (binOp .add .num a (.int .i64 1)) h fun c h=>
 N [left7'_3,c] h) fun J_65=>
 AA (iaA 4 b a) h fun a h=>
 AA (ldA h (some 4) a) h fun a h=>
 AL h [.nilsl,(.int .i64 0),(.int .i64 0),.nilsl] 39 fun f9 h=>
 AM (stA h 4 f9 a) .undef fun _ h=>
 zF 2 f9 h fun a h=>
 AA (binOp .gtr .num a (.int .i64 200)) h fun a h=>
 zH a 0 f9 h fun b h=>
 AH a false (fun K=>A5 h 36 1 (AG [.nilsl] [(0,1,b)]) K) h fun b h=>
 AH a false (fun K=>C 137 [(.int .i64 200),b] h K) h fun b h=>
 AA (AE a (.bool true) b) h fun b h=>
 zH b 3 f9 h fun a h=>
 AH b false (fun K=>A5 h 37 1 (AG [.nilsl] [(0,1,a)]) K) h fun a h=>
 AH b false (fun K=>C 138 [(.int .i64 2000),a] h K) h fun a h=>
 AA (AE b (.bool true) a) h fun a h=>
 AC a
 (R (.bool true) h)
 (zF 3 f9 h fun a h=>
 AA (AF false a) h fun b h=>
 AP (fun N_66 l h=>AX l 0 fun left7_67=>AX l 1 fun c=>
 AA (binOp .lss .num c b) h fun b h=>
 AC b
 (AJ (fun (left7'_69 : AV) (h : H)=>
 AA (binOp .add .num c (.int .i64 1)) h fun b h=>
 N_66 [left7'_69,b] h) fun J_107=>
 AA (iaA 2 a c) h fun c h=>
 AA (ldA h (some 2) c) h fun c h=>
 AL h [.nilsl,.nilsl] 42 fun b11 h=>
 AM (stA h 2 b11 c) .undef fun _ h=>
 zF 1 b11 h fun c h=>
 AA (AF false c) h fun c h=>
 AA (binOp .sub .num left7_67 c) h fun c h=>
 AA (binOp .lss .num c (.int .i64 0)) h fun a h=>
 zH a 0 b11 h fun b h=>
 AH a false (fun K=>A5 h 36 1 (AG [.nilsl] [(0,1,b)]) K) h fun b h=>
 AH a false (fun K=>C 137 [(.int .i64 200),b] h K) h fun b h=>
 AA (AE a (.bool true) b) h fun b h=>
 AC b
 (R (.bool true) h)
 (zF 1 b11 h fun b h=>
 AA (AF false b) h fun a h=>
 AP (fun N_108 l h=>AX l 0 fun d=>
 AA (binOp .lss .num d a) h fun a h=>
 AC a
 (AA (iaA 9 b d) h fun b h=>
 AA (ldA h (some 9) b) h fun b h=>
 AL h [(.int .i64 0),(.int .i64 0),(.int .i64 0),(.int .i64 0),(.int .i64 0),(.int .i64 0),.nilsl,.nilsl,.nilsl] 55 fun x13 h=>
 AM (stA h 9 x13 b) .undef fun _ h=>
 zF 6 x13 h fun b h=>
 zF 7 x13 h fun a h=>
 A5 h 36 2 (AG [.nilsl,.nilsl] [(0,1,b),(1,1,a)]) fun a h=>
 C 137 [(.int .i64 1024),a] h fun a h=>
 zH a 8 x13 h fun b h=>
 AH a false (fun K=>A5 h 36 1 (AG [.nilsl] [(0,1,b)]) K) h fun b h=>
 AH a false (fun K=>C 137 [(.int .i64 200),b] h K) h fun b h=>
 AA (AE a (.bool true) b) h fun b h=>
 AC b
 (R (.bool true) h)
 (AA (binOp .add .num d (.int .i64 1)) h fun d h=>
 N_108 [d] h))
 (J_107 c h)) [(.int .i64 0)] h))
 (J_65 left7_67 h)) [left7,(.int .i64 0)] h))
 (J h)) [(.int .i64 20000),(.int .i64 0)] h) fun J_109=>
 zF 1 m1 h fun c h=>
 AA (AF false c) h fun d h=>
 AP (fun N_110 l h=>AX l 0 fun b=>
 AA (binOp .lss .num b d) h fun d h=>
 AC d
 (AA (iaA 3 c b) h fun c h=>
 AA (ldA h (some 3) c) h fun c h=>
 AL h [(.int .i64 0),.nilsl,(.str [])] 61 fun s6 h=>
 AM (stA h 3 s6 c) .undef fun _ h=>
 zF 1 s6 h fun c h=>
 A5 h 36 1 (AG [.nilsl] [(0,1,c)]) fun c h=>
 C 137 [(.int .i64 200),c] h fun c h=>
 zH c 2 s6 h fun d h=>
 AH c false (fun K=>A5 h 9 1 (AG [(.str [])] [(0,1,d)]) K) h fun d h=>
 AH c false (fun K=>C 136 [d] h K) h fun d h=>
 AA (AE c (.bool true) d) h fun d h=>
 AC d
 (R (.bool true) h)
 (AA (binOp .add .num b (.int .i64 1)) h fun b h=>
 N_110 [b] h))
 (J_109 h)) [(.int .i64 0)] h) fun J_111=>
 zF 0 m1 h fun b h=>
 AA (AF false b) h fun d h=>
 AP (fun N_112 l h=>AX l 0 fun c=>
 AA (binOp .lss .num c d) h fun d h=>
 AC d
 (AA (iaA 2 b c) h fun b h=>
 AA (ldA h (some 2) b) h fun b h=>
 AL h [(.bool false),.nilsl] 46 fun d h=>
 AM (stA h 2 d b) .undef fun _ h=>
 zF 1 d h fun d h=>
 A5 h 36 1 (AG [.nilsl] [(0,1,d)]) fun d h=>
 C 137 [(.int .i64 512),d] h fun d h=>
 AC d
 (R (.bool true) h)
 (AA (binOp .add .num c (.int .i64 1)) h fun c h=>
 N_112 [c] h))
 (J_111 h)) [(.int .i64 0)] h)
def an88 : ACode:=
 (.seq (zr [zy 4 false])
 (.seq (zr [zm 5 0,zm 6 1,z2 7 139 5 6,zd 8 .geq 7 0,zm 4 8])
 .ret))
def fn88 : AN:=⟨9,[(.tmp 4)],an88.erase⟩
theorem ok88 : OKF 88 fn88 = true:=by kernel_rfl
def sh88 (C : AK) (s0 f1 : AV) (h : H) (R : AV -> H -> Prop) : Prop:=
 C 139 [s0,f1] h fun a h=>
 AA (binOp .geq .num a (.int .i64 0)) h fun a h=>
 R a h
def an89 : ACode:=
 (.seq (zr [sD 1 (.bx none 55 (.t 0)),zy 2 false])
 (.seq (zr [zk 3 9 1,z1 4 60 3,zo 5 4,zm 2 5])
 .ret))
def fn89 : AN:=⟨6,[(.tmp 2)],an89.erase⟩
theorem ok89 : OKF 89 fn89 = true:=by kernel_rfl
def sh89 (C : AK) (x0 : AV) (h : H) (R : AV -> H -> Prop) : Prop:=
 AL h (AV.cells x0) 55 fun x1 h=>
 AA (ldA h (some 9) x1) h fun a h=>
 C 60 [a] h fun a h=>
 AA (unOp .not a) h fun a h=>
 R a h
def an109 : ACode:=
 (.seq (zr [sD 4 (.mv (.c .nilp))])
 (.seq (.seq (zr [zm 5 1])
 (.block 0 (.seq (zr [sD 7 (.bin .eql .num (.t 5) (.c (.int .u8 68))),zm 6 7])
 (.cond (.t 6) (.seq (zr [zm 8 0,sD 9 (.nilc (.t 8)),zf 10 1 9,zm 4 10])
 .ret)
 (.seq (zr [sD 12 (.bin .eql .num (.t 5) (.c (.int .u8 65))),zm 11 12])
 (.cond (.t 11) (.seq (zr [zm 13 0,sD 14 (.nilc (.t 13)),zf 15 2 14,zm 4 15])
 .ret)
 (.seq (zr [sD 17 (.bin .eql .num (.t 5) (.c (.int .u8 66))),zm 16 17])
 (.cond (.t 16) (.seq (zr [zm 18 0,sD 19 (.nilc (.t 18)),zf 20 3 19,zm 4 20])
 .ret)
 (.seq (zr [sD 22 (.bin .eql .num (.t 5) (.c (.int .u8 67))),zm 21 22])
 (.cond (.t 21) (.seq (zr [zm 23 0,sD 24 (.nilc (.t 23)),zf 25 4 24,zm 4 25])
 .ret)
 .skip))))))))))
 (.seq (zr [sD 4 (.mv (.c .nilp))])
 .ret)))
def aW : AN:=⟨26,[(.tmp 4)],an109.erase⟩
theorem ok109 : OKF 109 aW = true:=by kernel_rfl
def PE (C : AK) (x0 c1 : AV) (h : H) (R : AV -> H -> Prop) : Prop:=
 AA (binOp .eql .num c1 (.int .u8 68)) h fun a h=>
 AC a
 (AA (BJ x0) h fun a h=>
 AA (faA 1 a) h fun a h=>
 R a h)
 (AA (binOp .eql .num c1 (.int .u8 65)) h fun a h=>
 AC a
 (AA (BJ x0) h fun a h=>
 AA (faA 2 a) h fun a h=>
 R a h)
 (AA (binOp .eql .num c1 (.int .u8 66)) h fun a h=>
 AC a
 (AA (BJ x0) h fun a h=>
 AA (faA 3 a) h fun a h=>
 R a h)
 (AA (binOp .eql .num c1 (.int .u8 67)) h fun a h=>
 AC a
 (AA (BJ x0) h fun a h=>
 AA (faA 4 a) h fun a h=>
 R a h)
 (R .nilp h))))
def an110 : ACode:=
 (.seq (zr [sD 4 (.mv (.c .nilp))])
 (.seq (.seq (zr [zm 5 1])
 (.block 0 (.seq (zr [sD 7 (.bin .eql .num (.t 5) (.c (.int .u8 76))),zm 6 7])
 (.cond (.t 6) (.seq (zr [zm 8 0,sD 9 (.nilc (.t 8)),zf 10 6 9,zm 4 10])
 .ret)
 (.seq (zr [sD 12 (.bin .eql .num (.t 5) (.c (.int .u8 77))),zm 11 12])
 (.cond (.t 11) (.seq (zr [zm 13 0,sD 14 (.nilc (.t 13)),zf 15 7 14,zm 4 15])
 .ret)
 .skip))))))
 (.seq (zr [zm 16 0,sD 17 (.nilc (.t 16)),zf 18 8 17,zm 4 18])
 .ret)))
def aV : AN:=⟨19,[(.tmp 4)],an110.erase⟩
theorem ok110 : OKF 110 aV = true:=by kernel_rfl
def UT (C : AK) (x0 c1 : AV) (h : H) (R : AV -> H -> Prop) : Prop:=
 AA (binOp .eql .num c1 (.int .u8 76)) h fun a h=>
 AC a
 (AA (BJ x0) h fun a h=>
 AA (faA 6 a) h fun a h=>
 R a h)
 (AA (binOp .eql .num c1 (.int .u8 77)) h fun a h=>
 AC a
 (AA (BJ x0) h fun a h=>
 AA (faA 7 a) h fun a h=>
 R a h)
 (AA (BJ x0) h fun a h=>
 AA (faA 8 a) h fun a h=>
 R a h))
def an111 : ACode:=
 (.seq (zr [sD 2 (.mv (.c (.str [])))])
 (.seq (zr [sD 4 (.mksl none 9 [(.str []),(.str []),(.str []),(.str []),(.str []),(.str []),(.str []),(.str []),(.str []),(.str []),(.str []),(.str []),(.str []),(.str []),(.str []),(.str []),(.str []),(.str []),(.str []),(.str []),(.str []),(.str []),(.str []),(.str [])] 24 [(0,1,(.c (.str []))),(1,1,(.c (.str [68,78]))),(2,1,(.c (.str [68,65,108]))),(3,1,(.c (.str [68,65]))),(4,1,(.c (.str [68,65,66,78]))),(5,1,(.c (.str [68,65,76,108]))),(6,1,(.c (.str [68,65,66]))),(7,1,(.c (.str [65,66,67]))),(8,1,(.c (.str [68,65,66,67,108]))),(9,1,(.c (.str [68,65,66]))),(10,1,(.c (.str [65,66,67]))),(11,1,(.c (.str [68,65]))),(12,1,(.c (.str [68,65,66]))),(13,1,(.c (.str [68,65,66,108]))),(14,1,(.c (.str [68,65,66]))),(15,1,(.c (.str [68]))),(16,1,(.c (.str [65]))),(17,1,(.c (.str [68,65,66,67,76,108]))),(18,1,(.c (.str [65]))),(19,1,(.c (.str [65,66,67]))),(20,1,(.c (.str [65,76,77,66]))),(21,1,(.c (.str [65,76]))),(22,1,(.c (.str [65]))),(23,1,(.c (.str [65])))]),zm 3 4])
 (.seq (.seq (zr [zm 5 0,zd 6 .lss 5 0,zm 7 6,zmf 8 7 0,zmf 9 7 3,znf 10 7 9,zbf 11 7 .geq 8 10,zq 12 7 11])
 (.cond (.t 12) (.seq (zr [sD 2 (.mv (.c (.str [])))])
 .ret)
 .skip))
 (.seq (zr [zm 13 3,zm 14 0,zi 15 1 13 14,zl 16 15,zm 2 16])
 .ret))))
def aU : AN:=⟨17,[(.tmp 2)],an111.erase⟩
theorem ok111 : OKF 111 aU = true:=by kernel_rfl
def sh111 (C : AK) (op0 : AV) (h : H) (R : AV -> H -> Prop) : Prop:=
 A5 h 9 24 (AG [(.str []),(.str []),(.str []),(.str []),(.str []),(.str []),(.str []),(.str []),(.str []),(.str []),(.str []),(.str []),(.str []),(.str []),(.str []),(.str []),(.str []),(.str []),(.str []),(.str []),(.str []),(.str []),(.str []),(.str [])] [(0,1,(.str [])),(1,1,(.str [68,78])),(2,1,(.str [68,65,108])),(3,1,(.str [68,65])),(4,1,(.str [68,65,66,78])),(5,1,(.str [68,65,76,108])),(6,1,(.str [68,65,66])),(7,1,(.str [65,66,67])),(8,1,(.str [68,65,66,67,108])),(9,1,(.str [68,65,66])),(10,1,(.str [65,66,67])),(11,1,(.str [68,65])),(12,1,(.str [68,65,66])),(13,1,(.str [68,65,66,108])),(14,1,(.str [68,65,66])),(15,1,(.str [68])),(16,1,(.str [65])),(17,1,(.str [68,65,66,67,76,108])),(18,1,(.str [65])),(19,1,(.str [65,66,67])),(20,1,(.str [65,76,77,66])),(21,1,(.str [65,76])),(22,1,(.str [65])),(23,1,(.str [65]))]) fun a h=>
 AA (binOp .lss .num op0 (.int .i64 0)) h fun b h=>
 zV b op0 h fun c h=>
 zV b a h fun d h=>
 zE b (AF false d) h fun d h=>
 zE b (binOp .geq .num c d) h fun d h=>
 AA (AE b (.bool true) d) h fun d h=>
 AC d
 (R (.str []) h)
 (AA (iaA 1 a op0) h fun a h=>
 zL a h fun a h=>
 R a h)
def an112 : ACode:=
 (.seq (zr [zy 4 false])
 (.seq (.seq (zr [z0 5 0])
 (.block 0 (.loop [5] 35 (.seq (.seq (zr [zm 6 5,zm 7 0,sD 8 (.len true (.t 7)),zb 9 .lss 6 8])
 (.cond (.t 9) .skip
 (.exit 0)))
 (.seq (.block 1 (.seq (zr [zm 12 0,zm 13 5,sD 14 (.ix none (.t 12) (.t 13)),zm 15 1,zb 16 .eql 14 15])
 (.cond (.t 16) (.seq (zr [zy 4 true])
 .ret)
 .skip)))
 (zr [zm 10 5,zd 11 .add 10 1,zm 5 11]))))))
 (.seq (zr [zy 4 false])
 .ret)))
def aT : AN:=⟨17,[(.tmp 4)],an112.erase⟩
theorem ok112 : OKF 112 aT = true:=by kernel_rfl
def sh112 (C : AK) (s0 c1 : AV) (h : H) (R : AV -> H -> Prop) : Prop:=
 AJ (fun (h : H)=>
 R (.bool false) h) fun J=>
 AP (fun N l h=>AX l 0 fun i5=>
 AA (AF true s0) h fun a h=>
 AA (binOp .lss .num i5 a) h fun a h=>
 AC a
 (AA (MC s0 i5) h fun a h=>
 AA (binOp .eql .num a c1) h fun a h=>
 AC a
 (R (.bool true) h)
 (AA (binOp .add .num i5 (.int .i64 1)) h fun a h=>
 N [a] h))
 (J h)) [(.int .i64 0)] h
def an113 : ACode:=
 (.seq (zr [sD 4 (.mv (.c .nilsl))])
 (.seq (.seq (zr [zm 5 1,zd 6 .lss 5 0])
 (.cond (.t 6) (zr [sD 7 (.ext (.c .undef) 0),sN (.ext (.c .undef) 0)])
 .skip))
 (.seq (.seq (zr [zm 8 1,zm 9 0,sD 10 (.cap (.t 9)),zm 11 0,zn 12 11,zb 13 .sub 10 12,zb 14 .sub 8 13,zm 1 14])
 (.seq (zr [zm 15 1,zd 16 .gtr 15 0])
 (.cond (.t 16) (zr [zm 17 0,zm 18 0,sD 19 (.cap (.t 18)),sD 20 (.sli (.row 1) (.t 17) none (some (.t 19)) none),zm 21 1,sD 22 (.grow 3 1 8 [(.int .i64 0)] (.t 20) (.t 21)),zm 23 0,zn 24 23,sD 25 (.sli (.row 1) (.t 22) none (some (.t 24)) none),zm 0 25])
 .skip)))
 (.seq (zr [zm 26 0,zm 4 26])
 .ret))))
def aS : AN:=⟨27,[(.tmp 4)],an113.erase⟩
theorem ok113 : OKF 113 aS = true:=by kernel_rfl
def sh113 (C : AK) (s0 n1 : AV) (h : H) (R : AV -> H -> Prop) : Prop:=
 AJ (fun (h : H)=>
 AJ (fun (s0' : AV) (h : H)=>
 R s0' h) fun J=>
 AA (bL s0) h fun a h=>
 AA (AF false s0) h fun b h=>
 AA (binOp .sub .num a b) h fun b h=>
 AA (binOp .sub .num n1 b) h fun b h=>
 AA (binOp .gtr .num b (.int .i64 0)) h fun a h=>
 AC a
 (AA (bL s0) h fun a h=>
 AA (B7 (.row 1) s0 none (some a) none) h fun a h=>
 SR h 3 1 8 [(.int .i64 0)] a b fun b h=>
 AA (AF false s0) h fun a h=>
 AA (B7 (.row 1) b none (some a) none) h fun a h=>
 J a h)
 (J s0 h)) fun J_0=>
 AA (binOp .lss .num n1 (.int .i64 0)) h fun a h=>
 AC a
 (AA (A8 .undef 0) h fun a h=>
 AA (A8 .undef 0) h fun _ h=>
 J_0 h)
 (J_0 h)
def an116 : ACode:=
 (.seq (zr [z0 4 0])
 (.seq (.seq (zr [zm 6 0,zn 7 6,z0 8 0])
 (.block 0 (.loop [8] 387 (.seq (zr [zb 9 .lss 8 7])
 (.seq (.cond (.t 9) .skip
 (.exit 0))
 (.seq (.block 1 (.seq (zr [zm 10 8,zm 5 10])
 (.seq (zr [zm 11 1,zm 12 0,zm 13 5,zi 14 1 12 13,zl 15 14,sD 16 (.callv (.t 11) [(.t 15)])])
 (.cond (.t 16) (.seq (zr [zm 17 5,zm 4 17])
 .ret)
 .skip))))
 (zr [zd 18 .add 8 1,zm 8 18])))))))
 (.seq (zr [z0 4 (-1)])
 .ret)))
def aR : AN:=⟨19,[(.tmp 4)],an116.erase⟩
theorem ok116 : OKF 116 aR = true:=by kernel_rfl
def sh116 (C : AK) (s0 f1 : AV) (h : H) (R : AV -> H -> Prop) : Prop:=
 AJ (fun (h : H)=>
 R (.int .i64 (-1)) h) fun J=>
 AA (AF false s0) h fun a h=>
 AP (fun N l h=>AX l 0 fun b=>
 AA (binOp .lss .num b a) h fun a h=>
 AC a
 (AA (iaA 1 s0 b) h fun a h=>
 zL a h fun a h=>
 CQ C f1 [a] h fun a h=>
 AC a
 (R b h)
 (AA (binOp .add .num b (.int .i64 1)) h fun b h=>
 N [b] h))
 (J h)) [(.int .i64 0)] h
def an117 : ACode:=
 (.seq (zr [z0 4 0])
 (.seq (.seq (zr [zm 6 0,zn 7 6,z0 8 0])
 (.block 0 (.loop [8] 387 (.seq (zr [zb 9 .lss 8 7])
 (.seq (.cond (.t 9) .skip
 (.exit 0))
 (.seq (.block 1 (.seq (zr [zm 10 8,zm 5 10])
 (.seq (zr [zm 11 1,zm 12 0,zm 13 5,zi 14 1 12 13,zl 15 14,zb 16 .eql 11 15])
 (.cond (.t 16) (.seq (zr [zm 17 5,zm 4 17])
 .ret)
 .skip))))
 (zr [zd 18 .add 8 1,zm 8 18])))))))
 (.seq (zr [z0 4 (-1)])
 .ret)))
def aQ : AN:=⟨19,[(.tmp 4)],an117.erase⟩
theorem ok117 : OKF 117 aQ = true:=by kernel_rfl
def sh117 (C : AK) (s0 v1 : AV) (h : H) (R : AV -> H -> Prop) : Prop:=
 AJ (fun (h : H)=>
 R (.int .i64 (-1)) h) fun J=>
 AA (AF false s0) h fun a h=>
 AP (fun N l h=>AX l 0 fun b=>
 AA (binOp .lss .num b a) h fun a h=>
 AC a
 (AA (iaA 1 s0 b) h fun a h=>
 zL a h fun a h=>
 AA (binOp .eql .num v1 a) h fun a h=>
 AC a
 (R b h)
 (AA (binOp .add .num b (.int .i64 1)) h fun b h=>
 N [b] h))
 (J h)) [(.int .i64 0)] h
def an118 : ACode:=
 (.seq (zr [sD 4 (.al none 148 [(.bool false),.nilsl,(.bool false)])])
 (.seq (.seq (zr [zm 5 1,zd 6 .lss 5 0])
 (.cond (.t 6) (.seq (zr [sD 7 (.build [(.bool false),.nilsl,(.bool false)] [(2,1,(.c (.bool true)))]),zst 3 4 7])
 .ret)
 .skip))
 (.seq (zr [zm 8 0,sD 9 (.nilc (.t 8)),zf 10 0 9,zf 11 0 10,zl 12 11,zm 13 1,zi 14 2 12 13,zk 15 2 14,sD 16 (.build [(.bool false),.nilsl,(.bool false)] [(0,2,(.t 15))]),zst 3 4 16])
 .ret)))
def aP : AN:=⟨17,[(.cell 4 (some 3))],an118.erase⟩
theorem ok118 : OKF 118 aP = true:=by kernel_rfl
def sh118 (C : AK) (s0 a : AV) (h : H) (R : AV -> H -> Prop) : Prop:=
 AL h [(.bool false),.nilsl,(.bool false)] 148 fun b h=>
 AA (binOp .lss .num a (.int .i64 0)) h fun c h=>
 AC c
 (AA (AT (AG [(.bool false),.nilsl,(.bool false)] [(2,1,(.bool true))])) h fun c h=>
 AM (stA h 3 b c) .undef fun _ h=>
 AA (ldA h (some 3) b) h fun res _=>R res h)
 (AA (BJ s0) h fun c h=>
 AA (faA 0 c) h fun c h=>
 zF 0 c h fun c h=>
 AA (iaA 2 c a) h fun a h=>
 AA (ldA h (some 2) a) h fun a h=>
 AA (AT (AG [(.bool false),.nilsl,(.bool false)] [(0,2,a)])) h fun a h=>
 AM (stA h 3 b a) .undef fun _ h=>
 AA (ldA h (some 3) b) h fun res_0 _=>R res_0 h)
def an120 : ACode:=
 (.seq (zr [zl 3 0])
 (.cond (.t 3) (zr [zl 4 1,zk 5 9 2,z2 6 121 4 5])
 (zr [zl 7 1,zk 8 9 2,z2 9 122 7 8])))
def aO : AN:=⟨10,[],an120.erase⟩
theorem ok120 : OKF 120 aO = true:=by kernel_rfl
def sh120 (C : AK) (a b c : AV) (h : H) (R : AV -> H -> Prop) : Prop:=
 zL a h fun a h=>
 AC a
 (zL b h fun a h=>
 AA (ldA h (some 9) c) h fun d h=>
 C 121 [a,d] h fun d h=>
 R (.tup []) h)
 (zL b h fun b h=>
 AA (ldA h (some 9) c) h fun c h=>
 C 122 [b,c] h fun c h=>
 R (.tup []) h)
def an121 : ACode:=
 (.seq (zr [sD 3 (.bx none 55 (.t 1))])
 (.seq (zr [zf 5 0 3,zl 6 5])
 (.block 0 (.seq (zr [zd 9 .eql 6 18,zm 8 9])
 (.cond (.t 8) (zr [zm 10 0,zf 11 2 3,zl 12 11,sD 13 (.build [(.bool false),.nilsl] []),sD 14 (.call 157 [(.t 10),(.t 12),(.c (.int .i64 (-1))),(.t 13)])])
 (.seq (zr [zd 16 .eql 6 19,zm 15 16])
 (.cond (.t 15) (.seq (zr [zm 17 0,zf 18 2 3,zl 19 18,z2 20 158 17 19])
 (.seq (zr [zm 21 0,zf 22 3 3,zl 23 22,sD 24 (.build [(.bool false),.nilsl] []),sD 25 (.call 157 [(.t 21),(.t 23),(.c (.int .i64 (-1))),(.t 24)])])
 (zr [zm 26 0,zf 27 4 3,zl 28 27,sD 29 (.build [(.bool false),.nilsl] []),sD 30 (.call 157 [(.t 26),(.t 28),(.c (.int .i64 (-1))),(.t 29)])])))
 (.seq (zr [zd 32 .eql 6 20,zm 31 32])
 (.cond (.t 31) (zr [zm 33 0,zk 34 9 3,z2 35 159 33 34])
 (.seq (zr [zd 37 .eql 6 21,zm 36 37])
 (.cond (.t 36) (.seq (zr [zm 38 0,zk 39 9 3,z2 40 160 38 39,sD 4 (.al none 39 [.nilsl,(.int .i64 0),(.int .i64 0),.nilsl]),zst 4 4 40])
 (.reg 0 [0,1,2,3,4,5,6,7,8,9,10,11,12,13,14,15,16,17,18,19,20,21,22] (zcz [[],[0],[1],[2],[3],[],[5],[6,4],[7],[],[9],[10],[11],[12],[],[14],[15],[16],[17],[18,13],[19],[20,8],[21]]) [zm 41 0,sD 42 (.nilc (.t 41)),zf 43 0 42,zf 44 0 43,zl 45 44,zf 46 1 4,zl 47 46,zi 48 2 45 47,zk 49 2 48,zm 50 0,sD 51 (.nilc (.t 50)),zf 52 0 51,zf 53 0 52,zl 54 53,zm 55 0,sD 56 (.nilc (.t 55)),zf 57 7 56,zf 58 1 57,zl 59 58,zi 60 2 54 59,zk 61 2 60,z2 62 23 49 61,z1 63 161 62]))
 (.seq (zr [zd 65 .eql 6 22,zm 64 65])
 (.cond (.t 64) (.reg 0 [0,1,2,4,5,6,7,8,9,10,11,12,13,14,15,3,16,17] (zcz [[],[],[1],[2,0],[],[4],[5],[6],[7],[],[9],[10],[11],[12],[13,8],[14],[15,3],[16]]) [zm 66 0,zf 67 2 3,zl 68 67,zm 70 0,sD 71 (.nilc (.t 70)),zf 72 0 71,zf 73 0 72,zl 74 73,zm 75 0,sD 76 (.nilc (.t 75)),zf 77 7 76,zf 78 1 77,zl 79 78,zi 80 2 74 79,zk 81 2 80,⟨(some 69),none,(.call 162 [(.t 66),(.t 68)]),[⟨none,(.ld none (.t 73)),74⟩,⟨none,(.ld none (.t 78)),79⟩,⟨none,(.ld (some 2) (.t 80)),81⟩]⟩,z2 82 23 69 81,z1 83 161 82])
 (.seq (zr [zd 85 .eql 6 23,zm 84 85])
 (.cond (.t 84) (.reg 0 [0,1,2,4,5,6,7,8,9,10,11,12,13,14,15,3,16,17] (zcz [[],[],[1],[2,0],[],[4],[5],[6],[7],[],[9],[10],[11],[12],[13,8],[14],[15,3],[16]]) [zm 86 0,zf 87 2 3,zl 88 87,zm 90 0,sD 91 (.nilc (.t 90)),zf 92 0 91,zf 93 0 92,zl 94 93,zm 95 0,sD 96 (.nilc (.t 95)),zf 97 0 96,zf 98 6 97,zl 99 98,zi 100 2 94 99,zk 101 2 100,⟨(some 89),none,(.call 162 [(.t 86),(.t 88)]),[⟨none,(.ld none (.t 93)),94⟩,⟨none,(.ld none (.t 98)),99⟩,⟨none,(.ld (some 2) (.t 100)),101⟩]⟩,z2 102 23 89 101,z1 103 161 102])
 (zr [sD 7 (.call 161 [(.c (.bool false))])]))))))))))))))))
def aN : AN:=⟨104,[],an121.erase⟩
theorem ok121 : OKF 121 aN = true:=by kernel_rfl
def sh121 (C : AK) (s0 x1 : AV) (h : H) (R : AV -> H -> Prop) : Prop:=
 AL h (AV.cells x1) 55 fun x3 h=>
 zF 0 x3 h fun a h=>
 AA (binOp .eql .num a (.int .i64 18)) h fun b h=>
 AC b
 (zF 2 x3 h fun b h=>
 AA (AT (AG [(.bool false),.nilsl] [])) h fun c h=>
 C 157 [s0,b,(.int .i64 (-1)),c] h fun c h=>
 R (.tup []) h)
 (AA (binOp .eql .num a (.int .i64 19)) h fun c h=>
 AC c
 (zF 2 x3 h fun c h=>
 C 158 [s0,c] h fun c h=>
 zF 3 x3 h fun c h=>
 AA (AT (AG [(.bool false),.nilsl] [])) h fun b h=>
 C 157 [s0,c,(.int .i64 (-1)),b] h fun b h=>
 zF 4 x3 h fun b h=>
 AA (AT (AG [(.bool false),.nilsl] [])) h fun c h=>
 C 157 [s0,b,(.int .i64 (-1)),c] h fun c h=>
 R (.tup []) h)
 (AA (binOp .eql .num a (.int .i64 20)) h fun c h=>
 AC c
 (AA (ldA h (some 9) x3) h fun c h=>
 C 159 [s0,c] h fun c h=>
 R (.tup []) h)
 (AA (binOp .eql .num a (.int .i64 21)) h fun c h=>
 AC c
 (AA (ldA h (some 9) x3) h fun c h=>
 C 160 [s0,c] h fun c h=>
 AL h [.nilsl,(.int .i64 0),(.int .i64 0),.nilsl] 39 fun f4 h=>
 AM (stA h 4 f4 c) .undef fun _ h=>
 AA (BJ s0) h fun c h=>
 AA (faA 0 c) h fun c h=>
 zF 0 c h fun c h=>
 zF 1 f4 h fun b h=>
 AA (iaA 2 c b) h fun b h=>
 AA (ldA h (some 2) b) h fun b h=>
 AA (BJ s0) h fun c h=>
 AA (faA 0 c) h fun c h=>
 zF 0 c h fun c h=>
 AA (BJ s0) h fun d h=>
 AA (faA 7 d) h fun d h=>
 zF 1 d h fun d h=>
 AA (iaA 2 c d) h fun d h=>
 AA (ldA h (some 2) d) h fun d h=>
 C 23 [b,d] h fun d h=>
 C 161 [d] h fun d h=>
 R (.tup []) h)
 (AA (binOp .eql .num a (.int .i64 22)) h fun d h=>
 AC d
 (zF 2 x3 h fun d h=>
 AA (BJ s0) h fun b h=>
 AA (faA 0 b) h fun b h=>
 AA (faA 0 b) h fun b h=>
 zL b h fun c h=>
 AA (BJ s0) h fun e h=>
 AA (faA 7 e) h fun e h=>
 AA (faA 1 e) h fun e h=>
 zL e h fun f h=>
 AA (iaA 2 c f) h fun g h=>
 AA (ldA h (some 2) g) h fun i h=>
 C 162 [s0,d] h fun d h=>
 AY (AA (ldA h none b) h (fun v _=>v = c)) <|
 AY (AA (ldA h none e) h (fun v _=>v = f)) <|
 AY (AA (ldA h (some 2) g) h (fun v _=>v = i)) <|
 C 23 [d,i] h fun i h=>
 C 161 [i] h fun i h=>
 R (.tup []) h)
 (AA (binOp .eql .num a (.int .i64 23)) h fun a h=>
 AC a
 (zF 2 x3 h fun a h=>
 AA (BJ s0) h fun i h=>
 AA (faA 0 i) h fun i h=>
 AA (faA 0 i) h fun i h=>
 zL i h fun d h=>
 AA (BJ s0) h fun g h=>
 AA (faA 0 g) h fun g h=>
 AA (faA 6 g) h fun g h=>
 zL g h fun f h=>
 AA (iaA 2 d f) h fun e h=>
 AA (ldA h (some 2) e) h fun c h=>
 C 162 [s0,a] h fun a h=>
 AY (AA (ldA h none i) h (fun v _=>v = d)) <|
 AY (AA (ldA h none g) h (fun v _=>v = f)) <|
 AY (AA (ldA h (some 2) e) h (fun v _=>v = c)) <|
 C 23 [a,c] h fun c h=>
 C 161 [c] h fun c h=>
 R (.tup []) h)
 (C 161 [(.bool false)] h fun c h=>
 R (.tup []) h))))))
def an122 : ACode:=
 (.seq (zr [sD 3 (.bx none 55 (.t 1))])
 (.seq (zr [sD 7 (.build [(.bool false),.nilsl] [(0,1,(.c (.bool true)))]),sD 4 (.al none 46 [(.bool false),.nilsl]),zst 2 4 7])
 (.seq (zr [zf 8 0 3,zl 9 8])
 (.block 0 (.seq (zr [zd 12 .eql 9 1,zm 11 12])
 (.cond (.t 11) (.seq (.reg 0 [0,1,3,4,2,5,6] (zcz [[],[0],[1],[],[3],[4,2],[5]]) [zf 13 5 3,zl 14 13,zf 16 5 3,zl 17 16,⟨(some 15),none,(.call 163 [(.t 14)]),[⟨none,(.ld none (.t 16)),17⟩]⟩,zb 18 .eql 15 17,z1 19 161 18])
 (zr [zm 20 0,zf 21 1 3,zl 22 21,zk 23 2 4,z3 24 164 20 22 23]))
 (.seq (zr [zd 26 .eql 9 3,zm 25 26])
 (.cond (.t 25) (.reg 0 [0,1,2,3,4,5,6,7] (zcz [[],[],[1],[],[],[4],[5,3],[6,2,0]]) [zm 27 0,zf 28 1 3,zl 29 28,zm 30 0,zf 31 2 3,zl 32 31,⟨(some 33),none,(.call 162 [(.t 30),(.t 32)]),[⟨none,(.ld none (.t 28)),29⟩]⟩,z3 34 164 27 29 33])
 (.seq (zr [zd 36 .eql 9 15,zm 35 36])
 (.cond (.t 35) (zr [zm 37 0,zf 38 1 3,zl 39 38,zk 40 2 4,z3 41 164 37 39 40])
 (.seq (zr [zd 43 .eql 9 16,zm 42 43])
 (.cond (.t 42) (zr [zm 44 0,zf 45 2 3,zl 46 45,z2 47 158 44 46])
 (.seq (zr [zd 49 .eql 9 4,zm 48 49])
 (.cond (.t 48) (.seq (zr [zf 50 5 3,zl 51 50,zd 52 .geq 51 1,zm 53 52,zft 54 53 5 3,zlt 55 53 54,zdt 56 53 .leq 55 8,zp 57 53 56,z1 58 161 57])
 (.seq (zr [zm 59 0,zf 60 2 3,zl 61 60,z2 62 158 59 61])
 (.seq (zr [zm 63 0,zf 64 3 3,zl 65 64,z2 66 158 63 65])
 (zr [zm 67 0,zf 68 1 3,zl 69 68,zk 70 2 4,z3 71 164 67 69 70]))))
 (.seq (zr [zd 73 .eql 9 2,zm 72 73])
 (.cond (.t 72) (.seq (.reg 0 [0,1,2,3,4,5,6,7,8,9,10,11,12,13,14] (zcz [[],[0],[1],[2],[3],[4],[3],[6],[7],[8],[9],[10],[11,5],[12],[13]]) [zf 74 2 3,zl 75 74,zd 76 .geq 75 0,zm 77 76,zft 78 77 2 3,zlt 79 77 78,zmt 80 77 0,sG 81 77 true (.nilc (.t 80)),zft 82 77 0 81,zft 83 77 2 82,zlt 84 77 83,znt 85 77 84,zbt 86 77 .lss 79 85,zp 87 77 86,z1 88 161 87])
 (.seq (zr [zm 89 0,zf 90 8 3,zl 91 90,z2 92 165 89 91])
 (.reg 0 [0,1,2,3,4] (zcz [[],[],[1],[],[3,2,0]]) [zm 93 0,zf 94 1 3,zl 95 94,⟨(some 96),none,(.call 166 [(.c (.int .i64 0))]),[⟨none,(.ld none (.t 94)),95⟩]⟩,z3 97 164 93 95 96])))
 (.seq (.seq (zr [zd 99 .eql 9 13,zm 98 99])
 (.cond (.t 98) .skip
 (.seq (zr [zd 100 .eql 9 14,zm 98 100])
 (.cond (.t 98) .skip
 (zr [zd 101 .eql 9 12,zm 98 101])))))
 (.cond (.t 98) (zr [zm 102 0,zk 103 9 3,z2 104 167 102 103])
 (.seq (zr [zd 106 .eql 9 5,zm 105 106])
 (.cond (.t 105) (.seq (zr [zm 107 0,zf 108 2 3,zl 109 108,sD 110 (.call 168 [(.t 107),(.t 109),(.c (.int .i64 1))]),sD 111 (.fld 1 none (.t 110)),zm 5 111])
 (.seq (zr [zm 112 0,zf 113 6 3,zl 114 113,zm 115 5,z3 116 169 112 114 115])
 (.seq (zr [zm 117 0,zf 118 8 3,zl 119 118,z2 120 165 117 119])
 (.reg 0 [0,1,2,3,4,5,6] (zcz [[],[],[1],[],[3],[4],[5,2,0]]) [zm 121 0,zf 122 1 3,zl 123 122,zf 124 2 3,zl 125 124,⟨(some 126),none,(.call 166 [(.t 125)]),[⟨none,(.ld none (.t 122)),123⟩]⟩,z3 127 164 121 123 126]))))
 (.seq (zr [zd 129 .eql 9 8,zm 128 129])
 (.cond (.t 128) (.seq (zr [zm 130 0,zf 131 2 3,zl 132 131,sD 133 (.call 168 [(.t 130),(.t 132),(.c (.int .i64 2))]),sD 134 (.fld 1 none (.t 133)),zm 6 134])
 (.seq (zr [zm 135 0,zf 136 3 3,zl 137 136,z2 138 158 135 137])
 (.seq (zr [zm 139 0,zf 140 4 3,zl 141 140,sD 142 (.mksl none 3 [(.int .i64 0)] 1 [(0,1,(.t 141))]),zm 143 6,z3 144 169 139 142 143])
 (.seq (zr [zm 145 0,zf 146 8 3,zl 147 146,z2 148 165 145 147])
 (.reg 0 [0,1,2,3,4,5,6] (zcz [[],[],[1],[],[3],[4],[5,2,0]]) [zm 149 0,zf 150 1 3,zl 151 150,zf 152 2 3,zl 153 152,⟨(some 154),none,(.call 166 [(.t 153)]),[⟨none,(.ld none (.t 150)),151⟩]⟩,z3 155 164 149 151 154])))))
 (.seq (zr [zd 157 .eql 9 6,zm 156 157])
 (.cond (.t 156) (.reg 1 [0,1,2,3,4,5,6,9,10,7,8,11,12,13] (zcz [[],[],[1],[],[],[],[5],[],[7,6,4],[],[9],[10,8,3],[11],[12,2,0]]) [zm 158 0,zf 159 1 3,zl 160 159,zm 161 0,zm 162 0,zf 163 2 3,zl 164 163,zf 167 3 3,zl 168 167,sD 165 (.mksl (some 0) 3 [(.int .i64 0)] 1 [(0,1,(.c (.int .i64 1)))]),⟨(some 166),none,(.call 172 [(.t 162),(.t 164),(.t 165)]),[⟨none,(.ld none (.t 159)),160⟩,⟨none,(.ld none (.t 167)),168⟩]⟩,⟨(some 169),none,(.call 171 [(.t 161),(.t 166),(.t 168)]),[⟨none,(.ld none (.t 159)),160⟩]⟩,⟨(some 170),none,(.call 170 [(.t 169)]),[⟨none,(.ld none (.t 159)),160⟩]⟩,z3 171 164 158 160 170])
 (.seq (zr [zd 173 .eql 9 7,zm 172 173])
 (.cond (.t 172) (.reg 1 [0,1,2,3,4,5,6,9,10,7,8,11,12] (zcz [[],[],[1],[],[],[],[5],[],[7,6,4],[],[9],[10,8,3],[11,2,0]]) [zm 174 0,zf 175 4 3,zl 176 175,zm 177 0,zm 178 0,zf 179 2 3,zl 180 179,zf 183 3 3,zl 184 183,sD 181 (.mksl (some 0) 3 [(.int .i64 0)] 1 [(0,1,(.c (.int .i64 1)))]),⟨(some 182),none,(.call 172 [(.t 178),(.t 180),(.t 181)]),[⟨none,(.ld none (.t 175)),176⟩,⟨none,(.ld none (.t 183)),184⟩]⟩,⟨(some 185),none,(.call 171 [(.t 177),(.t 182),(.t 184)]),[⟨none,(.ld none (.t 175)),176⟩]⟩,z3 186 173 174 176 185])
 (.seq (zr [zd 188 .eql 9 9,zm 187 188])
 (.cond (.t 187) (.seq (zr [zm 189 0,zf 190 3 3,zl 191 190,z2 192 158 189 191])
 (.reg 1 [0,1,2,3,4,5,6,7,8,9,10,11] (zcz [[],[],[1],[],[],[],[5],[],[7,6,4],[8,3],[9],[10,2,0]]) [zm 193 0,zf 194 1 3,zl 195 194,zm 196 0,zm 197 0,zf 198 2 3,zl 199 198,sD 200 (.mksl (some 0) 3 [(.int .i64 0)] 1 [(0,1,(.c (.int .i64 2)))]),⟨(some 201),none,(.call 172 [(.t 197),(.t 199),(.t 200)]),[⟨none,(.ld none (.t 194)),195⟩]⟩,⟨(some 202),none,(.call 171 [(.t 196),(.t 201),(.c (.int .i64 0))]),[⟨none,(.ld none (.t 194)),195⟩]⟩,⟨(some 203),none,(.call 170 [(.t 202)]),[⟨none,(.ld none (.t 194)),195⟩]⟩,z3 204 164 193 195 203]))
 (.seq (zr [zd 206 .eql 9 10,zm 205 206])
 (.cond (.t 205) (.seq (zr [zm 207 0,zf 208 3 3,zl 209 208,z2 210 158 207 209])
 (.reg 1 [0,1,2,3,4,5,6,7,8,9,10] (zcz [[],[],[1],[],[],[],[5],[],[7,6,4],[8,3],[9,2,0]]) [zm 211 0,zf 212 4 3,zl 213 212,zm 214 0,zm 215 0,zf 216 2 3,zl 217 216,sD 218 (.mksl (some 0) 3 [(.int .i64 0)] 1 [(0,1,(.c (.int .i64 2)))]),⟨(some 219),none,(.call 172 [(.t 215),(.t 217),(.t 218)]),[⟨none,(.ld none (.t 212)),213⟩]⟩,⟨(some 220),none,(.call 171 [(.t 214),(.t 219),(.c (.int .i64 0))]),[⟨none,(.ld none (.t 212)),213⟩]⟩,z3 221 173 211 213 220]))
 (.seq (zr [zd 223 .eql 9 11,zm 222 223])
 (.cond (.t 222) (.seq (zr [zm 224 0,zf 225 2 3,zl 226 225,sD 227 (.mksl none 3 [(.int .i64 0),(.int .i64 0)] 2 [(0,1,(.c (.int .i64 2))),(1,1,(.c (.int .i64 3)))]),z3 228 172 224 226 227])
 (zr [zm 229 0,zf 230 1 3,zl 231 230,zk 232 2 4,z3 233 164 229 231 232]))
 (.seq (zr [zd 235 .eql 9 17,zm 234 235])
 (.cond (.t 234) (zr [zm 236 0,zk 237 9 3,z2 238 174 236 237])
 (zr [sD 10 (.call 161 [(.c (.bool false))])])))))))))))))))))))))))))))))))))))
def aM : AN:=⟨239,[],an122.erase⟩
theorem ok122 : OKF 122 aM = true:=by kernel_rfl
def sh122 (C : AK) (s0 x1 : AV) (h : H) (R : AV -> H -> Prop) : Prop:=
 AL h (AV.cells x1) 55 fun x3 h=>
 AA (AT (AG [(.bool false),.nilsl] [(0,1,(.bool true))])) h fun a h=>
 AL h [(.bool false),.nilsl] 46 fun num4 h=>
 AM (stA h 2 num4 a) .undef fun _ h=>
 zF 0 x3 h fun a h=>
 AA (binOp .eql .num a (.int .i64 1)) h fun b h=>
 AC b
 (zF 5 x3 h fun b h=>
 AA (faA 5 x3) h fun c h=>
 zL c h fun d h=>
 C 163 [b] h fun b h=>
 AY (AA (ldA h none c) h (fun v _=>v = d)) <|
 AA (binOp .eql .num b d) h fun d h=>
 C 161 [d] h fun d h=>
 zF 1 x3 h fun d h=>
 AA (ldA h (some 2) num4) h fun b h=>
 C 164 [s0,d,b] h fun b h=>
 R (.tup []) h)
 (AA (binOp .eql .num a (.int .i64 3)) h fun b h=>
 AC b
 (AA (faA 1 x3) h fun b h=>
 zL b h fun d h=>
 zF 2 x3 h fun c h=>
 C 162 [s0,c] h fun c h=>
 AY (AA (ldA h none b) h (fun v _=>v = d)) <|
 C 164 [s0,d,c] h fun c h=>
 R (.tup []) h)
 (AA (binOp .eql .num a (.int .i64 15)) h fun c h=>
 AC c
 (zF 1 x3 h fun c h=>
 AA (ldA h (some 2) num4) h fun d h=>
 C 164 [s0,c,d] h fun d h=>
 R (.tup []) h)
 (AA (binOp .eql .num a (.int .i64 16)) h fun d h=>
 AC d
 (zF 2 x3 h fun d h=>
 C 158 [s0,d] h fun d h=>
 R (.tup []) h)
 (AA (binOp .eql .num a (.int .i64 4)) h fun d h=>
 AC d
 (zF 5 x3 h fun d h=>
 AA (binOp .geq .num d (.int .i64 1)) h fun d h=>
 zG d 5 x3 h fun c h=>
 zT d (binOp .leq .num c (.int .i64 8)) h fun c h=>
 AA (AE d c (.bool false)) h fun c h=>
 C 161 [c] h fun c h=>
 zF 2 x3 h fun c h=>
 C 158 [s0,c] h fun c h=>
 zF 3 x3 h fun c h=>
 C 158 [s0,c] h fun c h=>
 zF 1 x3 h fun c h=>
 AA (ldA h (some 2) num4) h fun d h=>
 C 164 [s0,c,d] h fun d h=>
 R (.tup []) h)
 (AA (binOp .eql .num a (.int .i64 2)) h fun d h=>
 AC d
 (zF 2 x3 h fun d h=>
 AA (binOp .geq .num d (.int .i64 0)) h fun d h=>
 zG d 2 x3 h fun c h=>
 zU d s0 h fun b h=>
 zT d (BJ b) h fun b h=>
 zT d (faA 0 b) h fun b h=>
 zG d 2 b h fun b h=>
 zT d (AF false b) h fun b h=>
 zT d (binOp .lss .num c b) h fun b h=>
 AA (AE d b (.bool false)) h fun b h=>
 C 161 [b] h fun b h=>
 zF 8 x3 h fun b h=>
 C 165 [s0,b] h fun b h=>
 AA (faA 1 x3) h fun b h=>
 zL b h fun d h=>
 C 166 [(.int .i64 0)] h fun c h=>
 AY (AA (ldA h none b) h (fun v _=>v = d)) <|
 C 164 [s0,d,c] h fun c h=>
 R (.tup []) h)
 (AJ (fun (c' : AV) (h : H)=>
 AC c'
 (AA (ldA h (some 9) x3) h fun c h=>
 C 167 [s0,c] h fun c h=>
 R (.tup []) h)
 (AA (binOp .eql .num a (.int .i64 5)) h fun c h=>
 AC c
 (zF 2 x3 h fun c h=>
 C 168 [s0,c,(.int .i64 1)] h fun c h=>
 AA (T3 1 none c) h fun c h=>
 zF 6 x3 h fun d h=>
 C 169 [s0,d,c] h fun c h=>
 zF 8 x3 h fun c h=>
 C 165 [s0,c] h fun c h=>
 AA (faA 1 x3) h fun c h=>
 zL c h fun d h=>
 zF 2 x3 h fun b h=>
 C 166 [b] h fun b h=>
 AY (AA (ldA h none c) h (fun v _=>v = d)) <|
 C 164 [s0,d,b] h fun b h=>
 R (.tup []) h)
 (AA (binOp .eql .num a (.int .i64 8)) h fun b h=>
 AC b
 (zF 2 x3 h fun b h=>
 C 168 [s0,b,(.int .i64 2)] h fun b h=>
 AA (T3 1 none b) h fun b h=>
 zF 3 x3 h fun d h=>
 C 158 [s0,d] h fun d h=>
 zF 4 x3 h fun d h=>
 A5 h 3 1 (AG [(.int .i64 0)] [(0,1,d)]) fun d h=>
 C 169 [s0,d,b] h fun b h=>
 zF 8 x3 h fun b h=>
 C 165 [s0,b] h fun b h=>
 AA (faA 1 x3) h fun b h=>
 zL b h fun d h=>
 zF 2 x3 h fun c h=>
 C 166 [c] h fun c h=>
 AY (AA (ldA h none b) h (fun v _=>v = d)) <|
 C 164 [s0,d,c] h fun c h=>
 R (.tup []) h)
 (AA (binOp .eql .num a (.int .i64 6)) h fun c h=>
 AC c
 (AA (faA 1 x3) h fun c h=>
 zL c h fun d h=>
 zF 2 x3 h fun b h=>
 AA (faA 3 x3) h fun e h=>
 zL e h fun f h=>
 A5 h 3 1 (AG [(.int .i64 0)] [(0,1,(.int .i64 1))]) fun g h=>
 C 172 [s0,b,g] h fun g h=>
 AY (AA (ldA h none c) h (fun v _=>v = d)) <|
 AY (AA (ldA h none e) h (fun v _=>v = f)) <|
 C 171 [s0,g,f] h fun f h=>
 AY (AA (ldA h none c) h (fun v _=>v = d)) <|
 C 170 [f] h fun f h=>
 AY (AA (ldA h none c) h (fun v _=>v = d)) <|
 C 164 [s0,d,f] h fun f h=>
 R (.tup []) h)
 (AA (binOp .eql .num a (.int .i64 7)) h fun f h=>
 AC f
 (AA (faA 4 x3) h fun f h=>
 zL f h fun d h=>
 zF 2 x3 h fun c h=>
 AA (faA 3 x3) h fun g h=>
 zL g h fun e h=>
 A5 h 3 1 (AG [(.int .i64 0)] [(0,1,(.int .i64 1))]) fun b h=>
 C 172 [s0,c,b] h fun b h=>
 AY (AA (ldA h none f) h (fun v _=>v = d)) <|
 AY (AA (ldA h none g) h (fun v _=>v = e)) <|
 C 171 [s0,b,e] h fun e h=>
 AY (AA (ldA h none f) h (fun v _=>v = d)) <|
 C 173 [s0,d,e] h fun e h=>
 R (.tup []) h)
 (AA (binOp .eql .num a (.int .i64 9)) h fun e h=>
 AC e
 (zF 3 x3 h fun e h=>
 C 158 [s0,e] h fun e h=>
 AA (faA 1 x3) h fun e h=>
 zL e h fun d h=>
 zF 2 x3 h fun f h=>
 A5 h 3 1 (AG [(.int .i64 0)] [(0,1,(.int .i64 2))]) fun b h=>
 C 172 [s0,f,b] h fun b h=>
 AY (AA (ldA h none e) h (fun v _=>v = d)) <|
 C 171 [s0,b,(.int .i64 0)] h fun b h=>
 AY (AA (ldA h none e) h (fun v _=>v = d)) <|
 C 170 [b] h fun b h=>
 AY (AA (ldA h none e) h (fun v _=>v = d)) <|
 C 164 [s0,d,b] h fun b h=>
 R (.tup []) h)
 (AA (binOp .eql .num a (.int .i64 10)) h fun b h=>
 AC b
 (zF 3 x3 h fun b h=>
 C 158 [s0,b] h fun b h=>
 AA (faA 4 x3) h fun b h=>
 zL b h fun d h=>
 zF 2 x3 h fun e h=>
 A5 h 3 1 (AG [(.int .i64 0)] [(0,1,(.int .i64 2))]) fun f h=>
 C 172 [s0,e,f] h fun f h=>
 AY (AA (ldA h none b) h (fun v _=>v = d)) <|
 C 171 [s0,f,(.int .i64 0)] h fun f h=>
 AY (AA (ldA h none b) h (fun v _=>v = d)) <|
 C 173 [s0,d,f] h fun f h=>
 R (.tup []) h)
 (AA (binOp .eql .num a (.int .i64 11)) h fun f h=>
 AC f
 (zF 2 x3 h fun f h=>
 A5 h 3 2 (AG [(.int .i64 0),(.int .i64 0)] [(0,1,(.int .i64 2)),(1,1,(.int .i64 3))]) fun d h=>
 C 172 [s0,f,d] h fun d h=>
 zF 1 x3 h fun d h=>
 AA (ldA h (some 2) num4) h fun f h=>
 C 164 [s0,d,f] h fun f h=>
 R (.tup []) h)
 (AA (binOp .eql .num a (.int .i64 17)) h fun f h=>
 AC f
 (AA (ldA h (some 9) x3) h fun f h=>
 C 174 [s0,f] h fun f h=>
 R (.tup []) h)
 (C 161 [(.bool false)] h fun f h=>
 R (.tup []) h)))))))))) fun J=>
 AA (binOp .eql .num a (.int .i64 13)) h fun f h=>
 AC f
 (J f h)
 (AA (binOp .eql .num a (.int .i64 14)) h fun f h=>
 AC f
 (J f h)
 (AA (binOp .eql .num a (.int .i64 12)) h fun a h=>
 J a h))))))))
def an123 : ACode:=
 (.seq (zr [zy 2 false])
 (.seq (zr [zm 3 0,zd 4 .geq 3 18,zm 5 4,zmt 6 5 0,zdt 7 5 .leq 6 23,zp 8 5 7,zm 2 8])
 .ret))
def aL : AN:=⟨9,[(.tmp 2)],an123.erase⟩
theorem ok123 : OKF 123 aL = true:=by kernel_rfl
def sh123 (C : AK) (op0 : AV) (h : H) (R : AV -> H -> Prop) : Prop:=
 AA (binOp .geq .num op0 (.int .i64 18)) h fun a h=>
 zU a op0 h fun b h=>
 zT a (binOp .leq .num b (.int .i64 23)) h fun b h=>
 AA (AE a b (.bool false)) h fun b h=>
 R b h
def an124 : ACode:=
 (.seq (zr [sD 4 (.bx none 28 (.t 0)),sD 5 (.bx none 39 (.t 1)),sD 7 (.bx none 55 (.t 3)),zy 8 false])
 (.seq (.seq (zr [zf 9 0 7,zl 10 9])
 (.block 0 (.seq (zr [zd 12 .eql 10 18,zm 11 12])
 (.cond (.t 11) (.seq (zr [zk 13 7 4,zk 14 4 5,zm 15 2,zf 16 2 7,zl 17 16,sD 18 (.call 175 [(.t 13),(.t 14),(.t 15),(.t 17)]),zm 8 18])
 .ret)
 (.seq (zr [zd 20 .eql 10 19,zm 19 20])
 (.cond (.t 19) (.seq (.reg 0 [0,1,2,3,4,5,6,7,8,9,10,11,12,13,14,15,16,17,18,19,20,21] (zcz [[],[],[1],[],[3,2,0],[4],[5],[5],[5],[5],[9],[10,8,7,6],[11],[12],[13],[13],[13],[13],[17],[18,16,15,14],[19],[20]]) [zm 21 2,zf 22 2 7,zl 23 22,⟨(some 24),none,(.call 177 []),[⟨none,(.ld none (.t 22)),23⟩]⟩,z3 25 176 21 23 24,zm 26 25,zkt 27 26 7 4,zkt 28 26 4 5,zmt 29 26 2,zft 30 26 3 7,zlt 31 26 30,sG 32 26 true (.call 175 [(.t 27),(.t 28),(.t 29),(.t 31)]),zp 33 26 32,zm 34 33,zkt 35 34 7 4,zkt 36 34 4 5,zmt 37 34 2,zft 38 34 4 7,zlt 39 34 38,sG 40 34 true (.call 175 [(.t 35),(.t 36),(.t 37),(.t 39)]),zp 41 34 40,zm 8 41])
 .ret)
 (.seq (zr [zd 43 .eql 10 20,zm 42 43])
 (.cond (.t 42) (.seq (zr [zk 44 7 4,zk 45 4 5,zm 46 2,zk 47 9 7,sD 48 (.call 178 [(.t 44),(.t 45),(.t 46),(.t 47)]),zm 8 48])
 .ret)
 (.seq (zr [zd 50 .eql 10 21,zm 49 50])
 (.cond (.t 49) (.seq (.reg 0 [0,1,2,3,4,5,6,7,8,9,10,11,12,13,14,15,16,17,18,19,20,21,22,23,24,25,26,27,28,29,30,31,32,33,34,35,36,37,38,39,40,41,42,43,44,45] (zcz [[],[0],[1],[2],[3],[4],[3],[6],[7],[8,5],[9],[10],[11],[11],[11],[14],[11],[16],[11],[18],[19,17],[20],[21],[22,15,13,12],[23],[24],[25],[26],[25],[28],[25],[30],[31,29],[32],[33],[34,27],[35],[25],[37],[25],[39],[40,38],[41],[42,36],[43],[44]]) [zf 51 2 7,zl 52 51,zd 53 .geq 52 0,zm 54 53,zft 55 54 2 7,zlt 56 54 55,zft 57 54 4 4,zlt 58 54 57,znt 59 54 58,zbt 60 54 .lss 56 59,zp 61 54 60,zm 62 61,zkt 63 62 7 4,zmt 64 62 2,zft 65 62 6 7,zlt 66 62 65,zft 67 62 4 4,zlt 68 62 67,zft 69 62 2 7,zlt 70 62 69,zit 71 62 4 68 70,zft 72 62 0 71,zlt 73 62 72,sG 74 62 true (.call 179 [(.t 63),(.t 64),(.t 66),(.t 73)]),zp 75 62 74,zm 76 75,zft 77 76 0 4,zlt 78 76 77,zft 79 76 4 4,zlt 80 76 79,zft 81 76 2 7,zlt 82 76 81,zit 83 76 4 80 82,zft 84 76 1 83,zlt 85 76 84,zit 86 76 2 78 85,zkt 87 76 2 86,zft 88 76 0 4,zlt 89 76 88,zft 90 76 1 5,zlt 91 76 90,zit 92 76 2 89 91,zkt 93 76 2 92,z2t 94 76 24 87 93,zp 95 76 94,zm 8 95])
 .ret)
 (.seq (zr [zd 97 .eql 10 22,zm 96 97])
 (.cond (.t 96) (.seq (.reg 0 [0,1,2,3,4,5,6,7,8,9,10] (zcz [[],[],[1],[],[3],[],[5],[6,4],[7],[8,2,0],[9]]) [zm 98 2,zf 99 2 7,zl 100 99,zf 101 0 4,zl 102 101,zf 103 1 5,zl 104 103,zi 105 2 102 104,zk 106 2 105,z3 107 176 98 100 106,zm 8 107])
 .ret)
 (.seq (zr [zd 109 .eql 10 23,zm 108 109])
 (.cond (.t 108) (.seq (.reg 0 [0,1,2,3,4,5,6,7,8,9,10] (zcz [[],[],[1],[],[3],[],[5],[6,4],[7],[8,2,0],[9]]) [zm 110 2,zf 111 2 7,zl 112 111,zf 113 0 4,zl 114 113,zf 115 6 4,zl 116 115,zi 117 2 114 116,zk 118 2 117,z3 119 176 110 112 118,zm 8 119])
 .ret)
 .skip))))))))))))))
 (.seq (zr [zy 8 false])
 .ret)))
def aK : AN:=⟨120,[(.tmp 8)],an124.erase⟩
theorem ok124 : OKF 124 aK = true:=by kernel_rfl
def sh124 (C : AK) (m0 f1 l2 x3 : AV) (h : H) (R : AV -> H -> Prop) : Prop:=
 AL h (AV.cells m0) 28 fun m4 h=>
 AL h (AV.cells f1) 39 fun f5 h=>
 AL h (AV.cells x3) 55 fun x7 h=>
 zF 0 x7 h fun a h=>
 AA (binOp .eql .num a (.int .i64 18)) h fun b h=>
 AC b
 (AA (ldA h (some 7) m4) h fun b h=>
 AA (ldA h (some 4) f5) h fun c h=>
 zF 2 x7 h fun d h=>
 C 175 [b,c,l2,d] h fun d h=>
 R d h)
 (AA (binOp .eql .num a (.int .i64 19)) h fun d h=>
 AC d
 (AA (faA 2 x7) h fun d h=>
 zL d h fun c h=>
 C 177 [] h fun b h=>
 AY (AA (ldA h none d) h (fun v _=>v = c)) <|
 C 176 [l2,c,b] h fun b h=>
 zT b (ldA h (some 7) m4) h fun c h=>
 zT b (ldA h (some 4) f5) h fun d h=>
 zU b l2 h fun e h=>
 zG b 3 x7 h fun f h=>
 AH b true (fun K=>C 175 [c,d,e,f] h K) h fun f h=>
 AA (AE b f (.bool false)) h fun f h=>
 zT f (ldA h (some 7) m4) h fun b h=>
 zT f (ldA h (some 4) f5) h fun e h=>
 zU f l2 h fun d h=>
 zG f 4 x7 h fun c h=>
 AH f true (fun K=>C 175 [b,e,d,c] h K) h fun c h=>
 AA (AE f c (.bool false)) h fun c h=>
 R c h)
 (AA (binOp .eql .num a (.int .i64 20)) h fun c h=>
 AC c
 (AA (ldA h (some 7) m4) h fun c h=>
 AA (ldA h (some 4) f5) h fun f h=>
 AA (ldA h (some 9) x7) h fun d h=>
 C 178 [c,f,l2,d] h fun d h=>
 R d h)
 (AA (binOp .eql .num a (.int .i64 21)) h fun d h=>
 AC d
 (zF 2 x7 h fun d h=>
 AA (binOp .geq .num d (.int .i64 0)) h fun d h=>
 zG d 2 x7 h fun f h=>
 zG d 4 m4 h fun c h=>
 zT d (AF false c) h fun c h=>
 zT d (binOp .lss .num f c) h fun c h=>
 AA (AE d c (.bool false)) h fun c h=>
 zT c (ldA h (some 7) m4) h fun d h=>
 zU c l2 h fun f h=>
 zG c 6 x7 h fun e h=>
 zG c 4 m4 h fun b h=>
 zG c 2 x7 h fun g h=>
 zT c (iaA 4 b g) h fun g h=>
 zG c 0 g h fun g h=>
 AH c true (fun K=>C 179 [d,f,e,g] h K) h fun g h=>
 AA (AE c g (.bool false)) h fun g h=>
 zG g 0 m4 h fun c h=>
 zG g 4 m4 h fun e h=>
 zG g 2 x7 h fun f h=>
 zT g (iaA 4 e f) h fun f h=>
 zG g 1 f h fun f h=>
 zT g (iaA 2 c f) h fun f h=>
 zT g (ldA h (some 2) f) h fun f h=>
 zG g 0 m4 h fun c h=>
 zG g 1 f5 h fun e h=>
 zT g (iaA 2 c e) h fun e h=>
 zT g (ldA h (some 2) e) h fun e h=>
 AH g true (fun K=>C 24 [f,e] h K) h fun e h=>
 AA (AE g e (.bool false)) h fun e h=>
 R e h)
 (AA (binOp .eql .num a (.int .i64 22)) h fun e h=>
 AC e
 (zF 2 x7 h fun e h=>
 zF 0 m4 h fun g h=>
 zF 1 f5 h fun f h=>
 AA (iaA 2 g f) h fun f h=>
 AA (ldA h (some 2) f) h fun f h=>
 C 176 [l2,e,f] h fun f h=>
 R f h)
 (AA (binOp .eql .num a (.int .i64 23)) h fun a h=>
 AC a
 (zF 2 x7 h fun a h=>
 zF 0 m4 h fun f h=>
 zF 6 m4 h fun e h=>
 AA (iaA 2 f e) h fun e h=>
 AA (ldA h (some 2) e) h fun e h=>
 C 176 [l2,a,e] h fun e h=>
 R e h)
 (R (.bool false) h))))))
def an125 : ACode:=
 (.seq (zr [sD 4 (.bx none 28 (.t 0)),sD 5 (.bx none 39 (.t 1)),sD 7 (.bx none 55 (.t 3)),sD 8 (.mv (.c .nilsl)),zy 9 false])
 (.seq (.seq (zr [zf 18 0 7,zl 19 18,zd 20 .neq 19 2,zm 21 20,zft 22 21 0 7,zlt 23 21 22,zdt 24 21 .neq 23 13,zp 25 21 24,zm 26 25,zft 27 26 0 7,zlt 28 26 27,zdt 29 26 .neq 28 5,zp 30 26 29,zm 31 30,zft 32 31 0 7,zlt 33 31 32,zdt 34 31 .neq 33 8,zp 35 31 34,zm 36 35,zft 37 36 0 7,zlt 38 36 37,zdt 39 36 .neq 38 17,zp 40 36 39])
 (.cond (.t 40) (.seq (zr [zk 42 7 4,zm 43 2,zk 44 9 7,z3 45 180 42 43 44,zm 41 45,zx 46 41 0,zx 47 41 1,zx 48 41 2,sD 10 (.al none 46 [(.bool false),.nilsl]),zst 2 10 46,zm 11 47,zm 12 48])
 (.seq (.seq (zr [zm 49 12,zo 50 49,zm 51 50,zmf 52 51 11,zof 53 51 52,zq 54 51 53])
 (.cond (.t 54) (.seq (zr [zm 55 2,zm 56 12,zm 8 55,zm 9 56])
 .ret)
 .skip))
 (.seq (zr [zm 57 2,zf 58 1 7,zl 59 58,zk 60 2 10,z3 61 181 57 59 60,zx 62 61 0,zx 63 61 1,zm 8 62,zm 9 63])
 .ret)))
 .skip))
 (.seq (zr [zk 65 7 4,zm 66 2,zk 67 9 7,z3 68 182 65 66 67,zm 64 68,zx 69 64 0,zx 70 64 1,sD 13 (.al none 46 [(.bool false),.nilsl]),zst 2 13 69,zm 14 70])
 (.seq (.seq (zr [zm 71 14,zo 72 71])
 (.cond (.t 72) (.seq (zr [sD 8 (.mv (.c .nilsl)),zy 9 false])
 .ret)
 .skip))
 (.seq (zr [zm 74 2,zf 75 8 7,zl 76 75,z2 77 183 74 76,zm 73 77,zx 78 73 0,zx 79 73 1,zm 15 78,zm 14 79])
 (.seq (.seq (zr [zm 80 14,zo 81 80])
 (.cond (.t 81) (.seq (zr [sD 8 (.mv (.c .nilsl)),zy 9 false])
 .ret)
 .skip))
 (.seq (.seq (zr [zf 82 0 7,zl 83 82,zd 84 .eql 83 17,zm 85 84,zft 86 85 3 7,zlt 87 85 86,zdt 88 85 .eql 87 (-1),zp 89 85 88,zm 90 89,zft 91 90 4 7,zlt 92 90 91,zdt 93 90 .neq 92 0,zp 94 90 93])
 (.cond (.t 94) (.seq (zr [sD 8 (.mv (.c .nilsl)),zy 9 false])
 .ret)
 .skip))
 (.seq (.seq (zr [zf 95 0 7,zl 96 95,zd 97 .eql 96 17,zm 98 97,zft 99 98 3 7,zlt 100 98 99,zdt 101 98 .neq 100 (-1),zp 102 98 101])
 (.cond (.t 102) (.seq (.reg 0 [0,1,2,3,4,5,6,7,8,9,10,11,12,13,14] (zcz [[],[],[1],[],[3],[],[5],[6,4],[7],[8,2,0],[9],[10],[10],[11],[13,12]]) [zm 104 15,zf 105 4 7,zl 106 105,zf 107 0 4,zl 108 107,zf 109 6 4,zl 110 109,zi 111 2 108 110,zk 112 2 111,z3 113 181 104 106 112,zm 103 113,zx 114 103 0,zx 115 103 1,zm 16 114,zm 17 115])
 (.seq (zr [zm 116 17,zo 117 116,zm 118 117,zkf 119 118 7 4,zkf 120 118 4 5,zmf 121 118 16,zff 122 118 3 7,zlf 123 118 122,sG 124 118 false (.call 175 [(.t 119),(.t 120),(.t 121),(.t 123)]),zof 125 118 124,zq 126 118 125])
 (.cond (.t 126) (.seq (zr [sD 8 (.mv (.c .nilsl)),zy 9 false])
 .ret)
 .skip)))
 .skip))
 (.seq (zr [zm 127 15,zf 128 1 7,zl 129 128,zk 130 2 13,z3 131 181 127 129 130,zx 132 131 0,zx 133 131 1,zm 8 132,zm 9 133])
 .ret)))))))))
def aJ : AN:=⟨134,[(.tmp 8),(.tmp 9)],an125.erase⟩
theorem ok125 : OKF 125 aJ = true:=by kernel_rfl
def sh125 (C : AK) (m0 f1 l2 x3 : AV) (h : H) (R : AV -> H -> Prop) : Prop:=
 AL h (AV.cells m0) 28 fun m4 h=>
 AL h (AV.cells f1) 39 fun f5 h=>
 AL h (AV.cells x3) 55 fun x7 h=>
 zF 0 x7 h fun a h=>
 AA (binOp .neq .num a (.int .i64 2)) h fun a h=>
 zG a 0 x7 h fun b h=>
 zT a (binOp .neq .num b (.int .i64 13)) h fun b h=>
 AA (AE a b (.bool false)) h fun b h=>
 zG b 0 x7 h fun a h=>
 zT b (binOp .neq .num a (.int .i64 5)) h fun a h=>
 AA (AE b a (.bool false)) h fun a h=>
 zG a 0 x7 h fun b h=>
 zT a (binOp .neq .num b (.int .i64 8)) h fun b h=>
 AA (AE a b (.bool false)) h fun b h=>
 zG b 0 x7 h fun a h=>
 zT b (binOp .neq .num a (.int .i64 17)) h fun a h=>
 AA (AE b a (.bool false)) h fun a h=>
 AC a
 (AA (ldA h (some 7) m4) h fun a h=>
 AA (ldA h (some 9) x7) h fun b h=>
 C 180 [a,l2,b] h fun b h=>
 AA (A8 b 0) h fun a h=>
 AA (A8 b 1) h fun c h=>
 AA (A8 b 2) h fun b h=>
 AL h [(.bool false),.nilsl] 46 fun d h=>
 AM (stA h 2 d a) .undef fun _ h=>
 AA (unOp .not b) h fun a h=>
 zV a c h fun c h=>
 zE a (unOp .not c) h fun c h=>
 AA (AE a (.bool true) c) h fun c h=>
 AC c
 (R (.tup [l2,b]) h)
 (zF 1 x7 h fun b h=>
 AA (ldA h (some 2) d) h fun d h=>
 C 181 [l2,b,d] h fun d h=>
 AA (A8 d 0) h fun b h=>
 AA (A8 d 1) h fun d h=>
 R (.tup [b,d]) h))
 (AA (ldA h (some 7) m4) h fun d h=>
 AA (ldA h (some 9) x7) h fun b h=>
 C 182 [d,l2,b] h fun b h=>
 AA (A8 b 0) h fun d h=>
 AA (A8 b 1) h fun b h=>
 AL h [(.bool false),.nilsl] 46 fun c h=>
 AM (stA h 2 c d) .undef fun _ h=>
 AA (unOp .not b) h fun b h=>
 AC b
 (R (.tup [.nilsl,(.bool false)]) h)
 (zF 8 x7 h fun b h=>
 C 183 [l2,b] h fun b h=>
 AA (A8 b 0) h fun d h=>
 AA (A8 b 1) h fun b h=>
 AA (unOp .not b) h fun b h=>
 AC b
 (R (.tup [.nilsl,(.bool false)]) h)
 (zF 0 x7 h fun b h=>
 AA (binOp .eql .num b (.int .i64 17)) h fun b h=>
 zG b 3 x7 h fun a h=>
 zT b (binOp .eql .num a (.int .i64 (-1))) h fun a h=>
 AA (AE b a (.bool false)) h fun a h=>
 zG a 4 x7 h fun b h=>
 zT a (binOp .neq .num b (.int .i64 0)) h fun b h=>
 AA (AE a b (.bool false)) h fun b h=>
 AC b
 (R (.tup [.nilsl,(.bool false)]) h)
 (AJ (fun (h : H)=>
 zF 1 x7 h fun b h=>
 AA (ldA h (some 2) c) h fun c h=>
 C 181 [d,b,c] h fun c h=>
 AA (A8 c 0) h fun b h=>
 AA (A8 c 1) h fun c h=>
 R (.tup [b,c]) h) fun J=>
 zF 0 x7 h fun c h=>
 AA (binOp .eql .num c (.int .i64 17)) h fun c h=>
 zG c 3 x7 h fun b h=>
 zT c (binOp .neq .num b (.int .i64 (-1))) h fun b h=>
 AA (AE c b (.bool false)) h fun b h=>
 AC b
 (zF 4 x7 h fun b h=>
 zF 0 m4 h fun c h=>
 zF 6 m4 h fun a h=>
 AA (iaA 2 c a) h fun a h=>
 AA (ldA h (some 2) a) h fun a h=>
 C 181 [d,b,a] h fun a h=>
 AA (A8 a 0) h fun b h=>
 AA (A8 a 1) h fun a h=>
 AA (unOp .not a) h fun a h=>
 zE a (ldA h (some 7) m4) h fun d h=>
 zE a (ldA h (some 4) f5) h fun c h=>
 zV a b h fun b h=>
 zH a 3 x7 h fun e h=>
 AH a false (fun K=>C 175 [d,c,b,e] h K) h fun e h=>
 zE a (unOp .not e) h fun e h=>
 AA (AE a (.bool true) e) h fun e h=>
 AC e
 (R (.tup [.nilsl,(.bool false)]) h)
 (J h))
 (J h)))))
def an126 : ACode:=
 (.seq (zr [z0 4 0])
 (.seq (.seq (zr [zm 6 0,zn 7 6,z0 8 0])
 (.block 0 (.loop [8] 387 (.seq (zr [zb 9 .lss 8 7])
 (.seq (.cond (.t 9) .skip
 (.exit 0))
 (.seq (.block 1 (.seq (zr [zm 10 8,zm 5 10])
 (.seq (zr [zm 11 1,zm 12 0,zm 13 5,zi 14 4 12 13,zk 15 4 14,sD 16 (.callv (.t 11) [(.t 15)])])
 (.cond (.t 16) (.seq (zr [zm 17 5,zm 4 17])
 .ret)
 .skip))))
 (zr [zd 18 .add 8 1,zm 8 18])))))))
 (.seq (zr [z0 4 (-1)])
 .ret)))
def aI : AN:=⟨19,[(.tmp 4)],an126.erase⟩
theorem ok126 : OKF 126 aI = true:=by kernel_rfl
def sh126 (C : AK) (s0 f1 : AV) (h : H) (R : AV -> H -> Prop) : Prop:=
 AJ (fun (h : H)=>
 R (.int .i64 (-1)) h) fun J=>
 AA (AF false s0) h fun a h=>
 AP (fun N l h=>AX l 0 fun b=>
 AA (binOp .lss .num b a) h fun a h=>
 AC a
 (AA (iaA 4 s0 b) h fun a h=>
 AA (ldA h (some 4) a) h fun a h=>
 CQ C f1 [a] h fun a h=>
 AC a
 (R b h)
 (AA (binOp .add .num b (.int .i64 1)) h fun b h=>
 N [b] h))
 (J h)) [(.int .i64 0)] h
def an127 : ACode:=
 (.seq (zr [zy 3 false])
 (.seq (zr [zl 4 1,zm 5 0,sD 6 (.callv (.t 4) [(.t 5)]),zo 7 6,zm 3 7])
 .ret))
def aH : AN:=⟨8,[(.tmp 3)],an127.erase⟩
theorem ok127 : OKF 127 aH = true:=by kernel_rfl
def sh127 (C : AK) (a b : AV) (h : H) (R : AV -> H -> Prop) : Prop:=
 zL b h fun b h=>
 CQ C b [a] h fun a h=>
 AA (unOp .not a) h fun a h=>
 R a h
def an132 : ACode:=
 (.seq (zr [sD 2 (.bx none 3 (.t 0)),zy 4 false])
 (.seq (zr [zm 5 1,sD 6 (.mkf 185 [] [(.t 2)]),z2 7 184 5 6,zm 4 7])
 .ret))
def aG : AN:=⟨8,[(.tmp 4)],an132.erase⟩
theorem ok132 : OKF 132 aG = true:=by kernel_rfl
def sh132 (C : AK) (most0 lists1 : AV) (h : H) (R : AV -> H -> Prop) : Prop:=
 AL h (AV.cells most0) 3 fun most2 h=>
 C 184 [lists1,(.fn 185 [] [most2])] h fun a h=>
 R a h
def an133 : ACode:=
 (.seq (zr [sD 2 (.bx none 3 (.t 0)),zy 4 false])
 (.seq (zr [zm 5 1,sD 6 (.mkf 187 [] [(.t 2)]),z2 7 186 5 6,zm 4 7])
 .ret))
def aF : AN:=⟨8,[(.tmp 4)],an133.erase⟩
theorem ok133 : OKF 133 aF = true:=by kernel_rfl
def sh133 (C : AK) (most0 lists1 : AV) (h : H) (R : AV -> H -> Prop) : Prop:=
 AL h (AV.cells most0) 3 fun most2 h=>
 C 186 [lists1,(.fn 187 [] [most2])] h fun a h=>
 R a h
def an134 : ACode:=
 (.seq (zr [sD 2 (.bx none 3 (.t 0)),zy 4 false])
 (.seq (zr [zm 5 1,sD 6 (.mkf 189 [] [(.t 2)]),z2 7 188 5 6,zm 4 7])
 .ret))
def aE : AN:=⟨8,[(.tmp 4)],an134.erase⟩
theorem ok134 : OKF 134 aE = true:=by kernel_rfl
def sh134 (C : AK) (most0 lists1 : AV) (h : H) (R : AV -> H -> Prop) : Prop:=
 AL h (AV.cells most0) 3 fun most2 h=>
 C 188 [lists1,(.fn 189 [] [most2])] h fun a h=>
 R a h
def an135 : ACode:=
 (.seq (zr [sD 2 (.bx none 3 (.t 0)),zy 4 false])
 (.seq (zr [zm 5 1,sD 6 (.mkf 191 [] [(.t 2)]),z2 7 190 5 6,zm 4 7])
 .ret))
def aD : AN:=⟨8,[(.tmp 4)],an135.erase⟩
theorem ok135 : OKF 135 aD = true:=by kernel_rfl
def sh135 (C : AK) (most0 lists1 : AV) (h : H) (R : AV -> H -> Prop) : Prop:=
 AL h (AV.cells most0) 3 fun most2 h=>
 C 190 [lists1,(.fn 191 [] [most2])] h fun a h=>
 R a h
def an136 : ACode:=
 (.seq (zr [zy 2 false])
 (.seq (zr [zm 3 0,sD 4 (.call 192 [(.t 3),(.c (.fn 193 [] []))]),zm 2 4])
 .ret))
def aC : AN:=⟨5,[(.tmp 2)],an136.erase⟩
theorem ok136 : OKF 136 aC = true:=by kernel_rfl
def sh136 (C : AK) (texts0 : AV) (h : H) (R : AV -> H -> Prop) : Prop:=
 C 192 [texts0,(.fn 193 [] [])] h fun a h=>
 R a h
def an137 : ACode:=
 (.seq (zr [sD 2 (.bx none 3 (.t 0)),zy 4 false])
 (.seq (zr [zm 5 1,sD 6 (.mkf 195 [] [(.t 2)]),z2 7 194 5 6,zm 4 7])
 .ret))
def aB : AN:=⟨8,[(.tmp 4)],an137.erase⟩
theorem ok137 : OKF 137 aB = true:=by kernel_rfl
def sh137 (C : AK) (most0 lists1 : AV) (h : H) (R : AV -> H -> Prop) : Prop:=
 AL h (AV.cells most0) 3 fun most2 h=>
 C 194 [lists1,(.fn 195 [] [most2])] h fun a h=>
 R a h
def an138 : ACode:=
 (.seq (zr [sD 2 (.bx none 3 (.t 0)),zy 4 false])
 (.seq (zr [zm 5 1,sD 6 (.mkf 197 [] [(.t 2)]),z2 7 196 5 6,zm 4 7])
 .ret))
def aA : AN:=⟨8,[(.tmp 4)],an138.erase⟩
theorem ok138 : OKF 138 aA = true:=by kernel_rfl
def sh138 (C : AK) (most0 lists1 : AV) (h : H) (R : AV -> H -> Prop) : Prop:=
 AL h (AV.cells most0) 3 fun most2 h=>
 C 196 [lists1,(.fn 197 [] [most2])] h fun a h=>
 R a h
def an139 : ACode:=
 (.seq (zr [z0 4 0])
 (.seq (.seq (zr [zm 6 0,zn 7 6,z0 8 0])
 (.block 0 (.loop [8] 387 (.seq (zr [zb 9 .lss 8 7])
 (.seq (.cond (.t 9) .skip
 (.exit 0))
 (.seq (.block 1 (.seq (zr [zm 10 8,zm 5 10])
 (.seq (zr [zm 11 1,zm 12 0,zm 13 5,zi 14 9 12 13,zk 15 9 14,sD 16 (.callv (.t 11) [(.t 15)])])
 (.cond (.t 16) (.seq (zr [zm 17 5,zm 4 17])
 .ret)
 .skip))))
 (zr [zd 18 .add 8 1,zm 8 18])))))))
 (.seq (zr [z0 4 (-1)])
 .ret)))
def Z9 : AN:=⟨19,[(.tmp 4)],an139.erase⟩
theorem ok139 : OKF 139 Z9 = true:=by kernel_rfl
def sh139 (C : AK) (s0 f1 : AV) (h : H) (R : AV -> H -> Prop) : Prop:=
 AJ (fun (h : H)=>
 R (.int .i64 (-1)) h) fun J=>
 AA (AF false s0) h fun a h=>
 AP (fun N l h=>AX l 0 fun b=>
 AA (binOp .lss .num b a) h fun a h=>
 AC a
 (AA (iaA 9 s0 b) h fun a h=>
 AA (ldA h (some 9) a) h fun a h=>
 CQ C f1 [a] h fun a h=>
 AC a
 (R b h)
 (AA (binOp .add .num b (.int .i64 1)) h fun b h=>
 N [b] h))
 (J h)) [(.int .i64 0)] h
def an157 : ACode:=
 (.seq (zr [sD 7 (.bx none 46 (.t 3))])
 (.seq (zr [zm 11 1,zd 12 .geq 11 0,zm 13 12,zmt 14 13 1,zmt 15 13 0,sG 16 13 true (.nilc (.t 15)),zft 17 13 7 16,zft 18 13 3 17,zlt 19 13 18,znt 20 13 19,zbt 21 13 .lss 14 20,zp 22 13 21,z1 23 161 22])
 (.seq (zr [zm 24 0,sD 25 (.nilc (.t 24)),zf 26 7 25,zf 27 3 26,zl 28 27,zm 29 1,zi 30 2 28 29,zf 31 0 30,zl 32 31,zn 33 32,z0 34 0])
 (.block 0 (.loop [34] 30064771205 (.seq (zr [zb 35 .lss 34 33])
 (.seq (.cond (.t 35) .skip
 (.exit 0))
 (.seq (.block 1 (.seq (zr [zm 36 34,zi 37 1 32 34,zl 38 37,zm 8 36,zm 9 38])
 (.seq (.seq (zr [zm 39 9,zd 40 .lss 39 0])
 (.cond (.t 40) (.exit 1)
 .skip))
 (.seq (zr [zm 41 0,sD 42 (.nilc (.t 41)),zf 43 11 42,zl 44 43,zm 45 8,zi 46 3 44 45,zk 47 3 46,sD 10 (.al none 148 [(.bool false),.nilsl,(.bool false)]),zst 3 10 47])
 (.seq (.seq (zr [zm 48 8,zm 49 2,zb 50 .eql 48 49])
 (.cond (.t 50) (zr [zk 51 2 7,sD 52 (.build [(.bool false),.nilsl,(.bool false)] [(0,2,(.t 51))]),zst 3 10 52])
 .skip))
 (.reg 0 [0,1,2,3,4,5,6,7,8,9,10,11,12,13,14,15,16] (zcz [[],[0],[1],[2],[3],[4],[3],[6],[7],[8],[9],[3],[11,10],[12],[13,5],[14],[15]]) [zf 53 2 10,zl 54 53,zo 55 54,zm 56 55,zft 57 56 0 10,zkt 58 56 2 57,zmt 59 56 0,sG 60 56 true (.nilc (.t 59)),zft 61 56 0 60,zft 62 56 0 61,zlt 63 56 62,zmt 64 56 9,zit 65 56 2 63 64,zkt 66 56 2 65,z2t 67 56 23 58 66,zp 68 56 67,z1 69 161 68]))))))
 (zr [zd 70 .add 34 1,zm 34 70])))))))))
def Z8 : AN:=⟨71,[],an157.erase⟩
theorem ok157 : OKF 157 Z8 = true:=by kernel_rfl
def sh157 (C : AK) (s0 block1 i2 a : AV) (h : H) (R : AV -> H -> Prop) : Prop:=
 AL h (AV.cells a) 46 fun a h=>
 AA (binOp .geq .num block1 (.int .i64 0)) h fun b h=>
 zU b block1 h fun c h=>
 zU b s0 h fun d h=>
 zT b (BJ d) h fun d h=>
 zT b (faA 7 d) h fun d h=>
 zG b 3 d h fun d h=>
 zT b (AF false d) h fun d h=>
 zT b (binOp .lss .num c d) h fun d h=>
 AA (AE b d (.bool false)) h fun d h=>
 C 161 [d] h fun d h=>
 AA (BJ s0) h fun d h=>
 AA (faA 7 d) h fun d h=>
 zF 3 d h fun d h=>
 AA (iaA 2 d block1) h fun d h=>
 zF 0 d h fun d h=>
 AA (AF false d) h fun b h=>
 AP (fun N l h=>AX l 0 fun c=>
 AA (binOp .lss .num c b) h fun b h=>
 AC b
 (AJ (fun (h : H)=>
 AA (binOp .add .num c (.int .i64 1)) h fun b h=>
 N [b] h) fun J=>
 AA (iaA 1 d c) h fun d h=>
 zL d h fun d h=>
 AA (binOp .lss .num d (.int .i64 0)) h fun b h=>
 AC b
 (J h)
 (AA (BJ s0) h fun b h=>
 zF 11 b h fun b h=>
 AA (iaA 3 b c) h fun b h=>
 AA (ldA h (some 3) b) h fun b h=>
 AL h [(.bool false),.nilsl,(.bool false)] 148 fun x10 h=>
 AM (stA h 3 x10 b) .undef fun _ h=>
 AJ (fun (h : H)=>
 zF 2 x10 h fun b h=>
 AA (unOp .not b) h fun b h=>
 zT b (faA 0 x10) h fun e h=>
 zT b (ldA h (some 2) e) h fun e h=>
 zU b s0 h fun f h=>
 zT b (BJ f) h fun f h=>
 zT b (faA 0 f) h fun f h=>
 zG b 0 f h fun f h=>
 zU b d h fun d h=>
 zT b (iaA 2 f d) h fun d h=>
 zT b (ldA h (some 2) d) h fun d h=>
 AH b true (fun K=>C 23 [e,d] h K) h fun d h=>
 AA (AE b d (.bool false)) h fun d h=>
 C 161 [d] h fun d h=>
 J h) fun J_5=>
 AA (binOp .eql .num c i2) h fun c h=>
 AC c
 (AA (ldA h (some 2) a) h fun a h=>
 AA (AT (AG [(.bool false),.nilsl,(.bool false)] [(0,2,a)])) h fun a h=>
 AM (stA h 3 x10 a) .undef fun _ h=>
 J_5 h)
 (J_5 h)))
 (R (.tup []) h)) [(.int .i64 0)] h
def an158 : ACode:=
 (zr [zm 4 0,zm 5 1,z2 6 162 4 5,sD 7 (.build [(.bool false),.nilsl] [(0,1,(.c (.bool true)))]),z2 8 23 6 7,z1 9 161 8])
def Z7 : AN:=⟨10,[],an158.erase⟩
theorem ok158 : OKF 158 Z7 = true:=by kernel_rfl
def sh158 (C : AK) (s0 i1 : AV) (h : H) (R : AV -> H -> Prop) : Prop:=
 C 162 [s0,i1] h fun a h=>
 AA (AT (AG [(.bool false),.nilsl] [(0,1,(.bool true))])) h fun b h=>
 C 23 [a,b] h fun b h=>
 C 161 [b] h fun b h=>
 R (.tup []) h
def an159 : ACode:=
 (.seq (zr [sD 3 (.bx none 55 (.t 1))])
 (.seq (zr [zm 9 0,zf 10 2 3,zl 11 10,z2 12 162 9 11,sD 13 (.build [(.bool false),.nilsl] [(0,1,(.c (.bool true)))]),sD 4 (.al none 46 [(.bool false),.nilsl]),sD 5 (.al none 46 [(.bool false),.nilsl]),zst 2 4 12,zst 2 5 13])
 (.seq (zr [zf 14 6 3,zl 15 14,zn 16 15,zd 17 .rem 16 2,zd 18 .eql 17 0,zm 19 18,zft 20 19 7 3,zlt 21 19 20,znt 22 19 21,zdt 23 19 .rem 22 2,zdt 24 19 .eql 23 0,zp 25 19 24,z1 26 161 25])
 (.seq (.seq (zr [z0 6 0])
 (.block 0 (.loop [6] 121 (.seq (.seq (zr [zm 27 6,zf 28 6 3,zl 29 28,zn 30 29,zb 31 .lss 27 30])
 (.cond (.t 31) .skip
 (.exit 0)))
 (.seq (.block 1 (.seq (.reg 0 [0,1,2,3,4,5,6,7,8,9,10,11,12,13,14,15,16,17,18,19,20,21,22,23,24,25,26,27,28,29,30] (zcz [[],[0],[1],[2],[3],[2],[5],[6,4],[7],[2],[9],[2],[11,10],[12],[13,8],[14],[15],[16],[17],[16],[19,18],[20],[16],[22],[16],[24,23],[25],[26],[27,21],[28],[29]]) [zm 34 6,zd 35 .eql 34 0,zm 36 35,zff 37 36 6 3,zlf 38 36 37,zmf 39 36 6,zdf 40 36 .sub 39 2,zif 41 36 1 38 40,zlf 42 36 41,zff 43 36 6 3,zlf 44 36 43,zmf 45 36 6,zif 46 36 1 44 45,zlf 47 36 46,zbf 48 36 .lss 42 47,zq 49 36 48,zm 50 49,zft 51 50 6 3,zlt 52 50 51,zmt 53 50 6,zit 54 50 1 52 53,zlt 55 50 54,zft 56 50 6 3,zlt 57 50 56,zmt 58 50 6,zit 59 50 1 57 58,zlt 60 50 59,⟨(some 61),(some (50,true)),(.call 163 [(.t 60)]),[⟨(some (50,true)),(.ld none (.t 51)),52⟩,⟨(some (50,true)),(.ld none (.t 54)),55⟩]⟩,zbt 62 50 .eql 55 61,zp 63 50 62,z1 64 161 63])
 (.reg 0 [0,1,2,3,4,5,6,7,8,9,10] (zcz [[],[],[1],[],[3],[4,2],[5],[],[7],[],[9,8,6,0]]) [zm 65 0,zf 66 6 3,zl 67 66,zm 68 6,zd 69 .add 68 1,zi 70 1 67 69,zl 71 70,zf 72 2 3,zl 73 72,zk 74 2 5,sD 75 (.call 157 [(.t 65),(.t 71),(.t 73),(.t 74)])])))
 (zr [zm 32 6,zd 33 .add 32 2,zm 6 33]))))))
 (.seq (.seq (zr [zf 76 3 3,zl 77 76,zd 78 .neq 77 (-1)])
 (.cond (.t 78) (zr [zm 79 0,zf 80 3 3,zl 81 80,zf 82 2 3,zl 83 82,zk 84 2 5,sD 85 (.call 157 [(.t 79),(.t 81),(.t 83),(.t 84)])])
 .skip))
 (.seq (zr [sD 7 (.mv (.c .nilsl))])
 (.seq (.seq (zr [z0 8 0])
 (.block 2 (.loop [7,8] 409 (.seq (.seq (zr [zm 86 8,zf 87 7 3,zl 88 87,zn 89 88,zb 90 .lss 86 89])
 (.cond (.t 90) .skip
 (.exit 2)))
 (.seq (.block 3 (.seq (.reg 0 [0,1,2,3,4,5,6,7,8,9,10,11,12,13,14,15,16,17,18,19,20,21,22,23,24,25,26,27,28,29,30,31,32,33,34,35,36,37,38] (zcz [[],[0],[],[2,1],[3],[4],[5],[6],[7],[6],[9,8],[10],[6],[12],[13],[14],[15],[16],[17,11],[18],[19],[20],[21],[22],[23],[24],[23],[26],[27,25],[28],[23],[30],[23],[32,31],[33],[34,29],[35],[36],[37]]) [zf 93 7 3,zl 94 93,zm 95 8,zi 96 1 94 95,zl 97 96,zd 98 .geq 97 0,zm 99 98,zft 100 99 7 3,zlt 101 99 100,zmt 102 99 8,zit 103 99 1 101 102,zlt 104 99 103,zmt 105 99 0,sG 106 99 true (.nilc (.t 105)),zft 107 99 0 106,zft 108 99 1 107,zlt 109 99 108,znt 110 99 109,zbt 111 99 .lss 104 110,zp 112 99 111,zm 113 112,zmt 114 113 8,zdt 115 113 .eql 114 0,zmt 116 113 115,zff 117 116 7 3,zlf 118 116 117,zmf 119 116 8,zdf 120 116 .sub 119 2,zif 121 116 1 118 120,zlf 122 116 121,zff 123 116 7 3,zlf 124 116 123,zmf 125 116 8,zif 126 116 1 124 125,zlf 127 116 126,zbf 128 116 .lss 122 127,zqt 129 113 116 128,zp 130 113 129,z1 131 161 130])
 (.seq (.reg 0 [0,1,2,3,4,5,6,7,8,9,10,11,12,13,14,15] (zcz [[],[],[1],[],[3],[4,2],[5],[],[7],[],[9],[],[11,10],[12],[13],[14,8,6,0]]) [zm 132 0,zf 133 7 3,zl 134 133,zm 135 8,zd 136 .add 135 1,zi 137 1 134 136,zl 138 137,zf 139 2 3,zl 140 139,zf 141 7 3,zl 142 141,zm 143 8,zi 144 1 142 143,zl 145 144,⟨(some 146),none,(.call 166 [(.t 145)]),[⟨none,(.ld none (.t 133)),134⟩,⟨none,(.ld none (.t 137)),138⟩,⟨none,(.ld none (.t 139)),140⟩]⟩,sD 147 (.call 157 [(.t 132),(.t 138),(.t 140),(.t 146)])])
 (zr [zm 148 7,zf 149 7 3,zl 150 149,zm 151 8,zi 152 1 150 151,zl 153 152,sD 154 (.mksl none 3 [(.int .i64 0)] 1 [(0,1,(.t 153))]),sD 155 (.app 3 1 8 [(.int .i64 0)] (.t 148) (.t 154)),zm 7 155]))))
 (zr [zm 91 8,zd 92 .add 91 2,zm 8 92]))))))
 (zr [zf 156 1 4,zl 157 156,sD 158 (.build [(.bool false),.nilsl] [(1,1,(.t 157))]),zm 159 7,sD 160 (.build [(.bool false),.nilsl] [(1,1,(.t 159))]),z2 161 23 158 160,zm 162 161,zft 163 162 0 4,zlt 164 162 163,zot 165 162 164,zmt 166 162 165,zff 167 166 3 3,zlf 168 166 167,zdf 169 166 .neq 168 (-1),zqt 170 162 166 169,zp 171 162 170,z1 172 161 171]))))))))
def Z6 : AN:=⟨173,[],an159.erase⟩
theorem ok159 : OKF 159 Z6 = true:=by kernel_rfl
def sh159 (C : AK) (s0 x1 : AV) (h : H) (R : AV -> H -> Prop) : Prop:=
 AL h (AV.cells x1) 55 fun x3 h=>
 zF 2 x3 h fun a h=>
 C 162 [s0,a] h fun a h=>
 AA (AT (AG [(.bool false),.nilsl] [(0,1,(.bool true))])) h fun b h=>
 AL h [(.bool false),.nilsl] 46 fun c h=>
 AL h [(.bool false),.nilsl] 46 fun num5 h=>
 AM (stA h 2 c a) .undef fun _ h=>
 AM (stA h 2 num5 b) .undef fun _ h=>
 zF 6 x3 h fun b h=>
 AA (AF false b) h fun b h=>
 AA (binOp .rem .num b (.int .i64 2)) h fun b h=>
 AA (binOp .eql .num b (.int .i64 0)) h fun b h=>
 zG b 7 x3 h fun a h=>
 zT b (AF false a) h fun a h=>
 zT b (binOp .rem .num a (.int .i64 2)) h fun a h=>
 zT b (binOp .eql .num a (.int .i64 0)) h fun a h=>
 AA (AE b a (.bool false)) h fun a h=>
 C 161 [a] h fun a h=>
 AJ (fun (h : H)=>
 AJ (fun (h : H)=>
 AJ (fun (shapes7' : AV) (h : H)=>
 zF 1 c h fun a h=>
 AA (AT (AG [(.bool false),.nilsl] [(1,1,a)])) h fun a h=>
 AA (AT (AG [(.bool false),.nilsl] [(1,1,shapes7')])) h fun b h=>
 C 23 [a,b] h fun b h=>
 zG b 0 c h fun c h=>
 zT b (unOp .not c) h fun c h=>
 zU b c h fun c h=>
 zH c 3 x3 h fun a h=>
 zE c (binOp .neq .num a (.int .i64 (-1))) h fun a h=>
 zT b (AE c (.bool true) a) h fun a h=>
 AA (AE b a (.bool false)) h fun a h=>
 C 161 [a] h fun a h=>
 R (.tup []) h) fun J=>
 AP (fun N l h=>AX l 0 fun shapes7=>AX l 1 fun i8=>
 zF 7 x3 h fun a h=>
 AA (AF false a) h fun a h=>
 AA (binOp .lss .num i8 a) h fun a h=>
 AC a
 (zF 7 x3 h fun a h=>
 AA (iaA 1 a i8) h fun a h=>
 zL a h fun a h=>
 AA (binOp .geq .num a (.int .i64 0)) h fun a h=>
 zG a 7 x3 h fun b h=>
 zU a i8 h fun c h=>
 zT a (iaA 1 b c) h fun c h=>
 zT a (ldA h none c) h fun c h=>
 zU a s0 h fun b h=>
 zT a (BJ b) h fun b h=>
 zT a (faA 0 b) h fun b h=>
 zG a 1 b h fun b h=>
 zT a (AF false b) h fun b h=>
 zT a (binOp .lss .num c b) h fun b h=>
 AA (AE a b (.bool false)) h fun b h=>
 zU b i8 h fun a h=>
 zT b (binOp .eql .num a (.int .i64 0)) h fun a h=>
 zU b a h fun a h=>
 zH a 7 x3 h fun c h=>
 zV a i8 h fun d h=>
 zE a (binOp .sub .num d (.int .i64 2)) h fun d h=>
 zE a (iaA 1 c d) h fun d h=>
 zE a (ldA h none d) h fun d h=>
 zH a 7 x3 h fun c h=>
 zV a i8 h fun e h=>
 zE a (iaA 1 c e) h fun e h=>
 zE a (ldA h none e) h fun e h=>
 zE a (binOp .lss .num d e) h fun e h=>
 zT b (AE a (.bool true) e) h fun e h=>
 AA (AE b e (.bool false)) h fun e h=>
 C 161 [e] h fun e h=>
 AA (faA 7 x3) h fun e h=>
 zL e h fun b h=>
 AA (binOp .add .num i8 (.int .i64 1)) h fun a h=>
 AA (iaA 1 b a) h fun a h=>
 zL a h fun d h=>
 AA (faA 2 x3) h fun c h=>
 zL c h fun f h=>
 zF 7 x3 h fun g h=>
 AA (iaA 1 g i8) h fun g h=>
 zL g h fun g h=>
 C 166 [g] h fun g h=>
 AY (AA (ldA h none e) h (fun v _=>v = b)) <|
 AY (AA (ldA h none a) h (fun v _=>v = d)) <|
 AY (AA (ldA h none c) h (fun v _=>v = f)) <|
 C 157 [s0,d,f,g] h fun g h=>
 zF 7 x3 h fun g h=>
 AA (iaA 1 g i8) h fun g h=>
 zL g h fun g h=>
 A5 h 3 1 (AG [(.int .i64 0)] [(0,1,g)]) fun g h=>
 A4 h 3 1 8 shapes7 g fun g h=>
 AA (binOp .add .num i8 (.int .i64 2)) h fun f h=>
 N [g,f] h)
 (J shapes7 h)) [.nilsl,(.int .i64 0)] h) fun J_0=>
 zF 3 x3 h fun f h=>
 AA (binOp .neq .num f (.int .i64 (-1))) h fun f h=>
 AC f
 (zF 3 x3 h fun f h=>
 zF 2 x3 h fun g h=>
 AA (ldA h (some 2) num5) h fun d h=>
 C 157 [s0,f,g,d] h fun d h=>
 J_0 h)
 (J_0 h)) fun J_1=>
 AP (fun N_2 l h=>AX l 0 fun i6=>
 zF 6 x3 h fun d h=>
 AA (AF false d) h fun d h=>
 AA (binOp .lss .num i6 d) h fun d h=>
 AC d
 (AA (binOp .eql .num i6 (.int .i64 0)) h fun d h=>
 zH d 6 x3 h fun g h=>
 zV d i6 h fun f h=>
 zE d (binOp .sub .num f (.int .i64 2)) h fun f h=>
 zE d (iaA 1 g f) h fun f h=>
 zE d (ldA h none f) h fun f h=>
 zH d 6 x3 h fun g h=>
 zV d i6 h fun c h=>
 zE d (iaA 1 g c) h fun c h=>
 zE d (ldA h none c) h fun c h=>
 zE d (binOp .lss .num f c) h fun c h=>
 AA (AE d (.bool true) c) h fun c h=>
 zT c (faA 6 x3) h fun d h=>
 zT c (ldA h none d) h fun f h=>
 zU c i6 h fun g h=>
 zT c (iaA 1 f g) h fun g h=>
 zT c (ldA h none g) h fun a h=>
 zG c 6 x3 h fun b h=>
 zU c i6 h fun e h=>
 zT c (iaA 1 b e) h fun e h=>
 zT c (ldA h none e) h fun e h=>
 AH c true (fun K=>C 163 [e] h K) h fun e h=>
 AY (GI c true (AA (ldA h none d) h (fun v _=>v = f))) <|
 AY (GI c true (AA (ldA h none g) h (fun v _=>v = a))) <|
 zT c (binOp .eql .num a e) h fun e h=>
 AA (AE c e (.bool false)) h fun e h=>
 C 161 [e] h fun e h=>
 zF 6 x3 h fun e h=>
 AA (binOp .add .num i6 (.int .i64 1)) h fun c h=>
 AA (iaA 1 e c) h fun c h=>
 zL c h fun c h=>
 zF 2 x3 h fun e h=>
 AA (ldA h (some 2) num5) h fun a h=>
 C 157 [s0,c,e,a] h fun a h=>
 AA (binOp .add .num i6 (.int .i64 2)) h fun a h=>
 N_2 [a] h)
 (J_1 h)) [(.int .i64 0)] h
def an160 : ACode:=
 (.seq (zr [sD 3 (.bx none 55 (.t 1)),sD 4 (.al none 39 [.nilsl,(.int .i64 0),(.int .i64 0),.nilsl])])
 (.seq (.reg 0 [0,1,2,3,4,5,6,7,8,9,10,11,12,13,14] (zcz [[],[0],[1],[2],[3],[4],[3],[6],[7],[8],[9],[10],[11,5],[12],[13]]) [zf 6 2 3,zl 7 6,zd 8 .geq 7 0,zm 9 8,zft 10 9 2 3,zlt 11 9 10,zmt 12 9 0,sG 13 9 true (.nilc (.t 12)),zft 14 9 0 13,zft 15 9 4 14,zlt 16 9 15,znt 17 9 16,zbt 18 9 .lss 11 17,zp 19 9 18,z1 20 161 19])
 (.seq (.reg 1 [0,1,2,3,4,5,6,7,8,9,10] (zcz [[],[0],[1],[2],[3],[],[5],[6,4],[7],[],[8,9]]) [zm 21 0,sD 22 (.nilc (.t 21)),zf 23 0 22,zf 24 4 23,zl 25 24,zf 26 2 3,zl 27 26,zi 28 4 25 27,zk 29 4 28,sD 5 (.al (some 0) 39 [.nilsl,(.int .i64 0),(.int .i64 0),.nilsl]),zst 4 5 29])
 (.seq (zr [zm 30 0,zf 31 6 3,zl 32 31,zf 33 0 5,zl 34 33,z3 35 169 30 32 34])
 (.seq (zr [zk 36 4 5,zst 4 4 36])
 .ret)))))
def Z5 : AN:=⟨37,[(.cell 4 (some 4))],an160.erase⟩
theorem ok160 : OKF 160 Z5 = true:=by kernel_rfl
def sh160 (C : AK) (s0 x1 : AV) (h : H) (R : AV -> H -> Prop) : Prop:=
 AL h (AV.cells x1) 55 fun x3 h=>
 AL h [.nilsl,(.int .i64 0),(.int .i64 0),.nilsl] 39 fun a h=>
 zF 2 x3 h fun b h=>
 AA (binOp .geq .num b (.int .i64 0)) h fun b h=>
 zG b 2 x3 h fun c h=>
 zU b s0 h fun d h=>
 zT b (BJ d) h fun d h=>
 zT b (faA 0 d) h fun d h=>
 zG b 4 d h fun d h=>
 zT b (AF false d) h fun d h=>
 zT b (binOp .lss .num c d) h fun d h=>
 AA (AE b d (.bool false)) h fun d h=>
 C 161 [d] h fun d h=>
 AA (BJ s0) h fun d h=>
 AA (faA 0 d) h fun d h=>
 zF 4 d h fun d h=>
 zF 2 x3 h fun b h=>
 AA (iaA 4 d b) h fun b h=>
 AA (ldA h (some 4) b) h fun b h=>
 AL h [.nilsl,(.int .i64 0),(.int .i64 0),.nilsl] 39 fun f5 h=>
 AM (stA h 4 f5 b) .undef fun _ h=>
 zF 6 x3 h fun b h=>
 zF 0 f5 h fun d h=>
 C 169 [s0,b,d] h fun d h=>
 AA (ldA h (some 4) f5) h fun d h=>
 AM (stA h 4 a d) .undef fun _ h=>
 AA (ldA h (some 4) a) h fun res _=>R res h
end Go.Proofs.YtdljelicbnjfjaaGreat.X
