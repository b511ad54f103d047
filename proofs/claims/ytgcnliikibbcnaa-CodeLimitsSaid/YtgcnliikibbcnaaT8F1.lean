/- The plain programs of functions, printed; that they are the model's; what must hold ahead of each. -/
import Derived.Test.YtgcnliikibbcnaaProg
import Derived.Test.YtgcnliikibbcnaaXo
set_option maxRecDepth 100000
set_option linter.unusedVariables false
namespace Go.Proofs.Ytgcnliikibbcnaa.X
open Go
/-! (*bellows/code.writer).text -/
def an31 : ACode :=
 (.seq (.reg 0 [] [] [sD 4 (.mv (.t 0)),
 sD 5 (.mv (.t 1)),
 sD 6 (.len true (.t 5)),
 sD 7 (.call 34 [(.t 4), (.t 6)])])
 (.reg 0 [] [] [sD 8 (.mv (.t 0)),
 sD 9 (.mv (.t 0)),
 sD 10 (.nilc (.t 9)),
 sD 11 (.fa 0 (.t 10)),
 sD 12 (.ld none (.t 11)),
 sD 13 (.mv (.t 1)),
 sD 14 (.app 5 1 1 [(.int .u8 0)] (.t 12) (.t 13)),
 sD 15 (.nilc (.t 8)),
 sD 16 (.fa 0 (.t 15)),
 sN (.st 1 (.t 16) (.t 14))]))
def fn31 : IFun := ⟨17, [], an31.erase⟩
theorem ok31 : okFun Try.prog 31 fn31 = true := by kernel_rfl
theorem oka31 : okA fn31.ntmps fn31.results an31 = true := by kernel_rfl
def sh31 (C : CallA) (w0 s1 : AV) (h : H) (R : AV → H → Prop) : Prop :=
 valA (lenA true s1) h fun t6 h =>
 C 34 [w0, t6] h fun t7 h =>
 valA (nilcA w0) h fun t10 h =>
 valA (faA 0 t10) h fun t11 h =>
 valA (ldA h none t11) h fun t12 h =>
 appendA h 5 1 1 t12 s1 fun t14 h =>
 valA (nilcA w0) h fun t15 h =>
 valA (faA 0 t15) h fun t16 h =>
 memA (stA h 1 t16 t14) .undef fun _ h =>
 R (.tup []) h
theorem she31 (C : CallA) (w0 s1 : AV) (h : H) (R : AV → H → Prop) : wpA C an31 (argE [w0, s1]) h (outA [] R) = sh31 C w0 s1 h R := by kernel_rfl
/-! bellows/code.many[bellows/api.Func] -/
def an32 : ACode :=
 (.seq (.reg 0 [] [] [sD 8 (.mv (.t 0)),
 sD 9 (.mv (.t 1)),
 sD 10 (.len false (.t 9)),
 sD 11 (.call 34 [(.t 8), (.t 10)])])
 (.seq (.reg 0 [] [] [sD 12 (.mv (.t 1)),
 sD 13 (.len false (.t 12)),
 sD 14 (.mv (.c (.int .i64 0)))])
 (.block 0 (.loop [14] 28676 (.seq (.reg 0 [] [] [sD 15 (.bin .lss .num (.t 14) (.t 13))])
 (.seq (.cond (.t 15) .skip
 (.exit 0))
 (.seq (.block 1 (.seq (.reg 0 [] [] [sD 16 (.ia none 4 (.t 12) (.t 14)),
 sD 17 (.ld (some 4) (.t 16)),
 sD 7 (.al none 51 [.nilsl, (.int .i64 0), (.int .i64 0), .nilsl]),
 sN (.st 4 (.t 7) (.t 17))])
 (.reg 0 [] [] [sD 18 (.mv (.t 2)),
 sD 19 (.ld (some 4) (.t 7)),
 sD 20 (.callv (.t 18) [(.t 19)])])))
 (.reg 0 [] [] [sD 21 (.bin .add .num (.t 14) (.c (.int .i64 1))),
 sD 14 (.mv (.t 21))]))))))))
def fn32 : IFun := ⟨22, [], an32.erase⟩
theorem ok32 : okFun Try.prog 32 fn32 = true := by kernel_rfl
theorem oka32 : okA fn32.ntmps fn32.results an32 = true := by kernel_rfl
def sh32 (C : CallA) (w0 l1 each2 : AV) (h : H) (R : AV → H → Prop) : Prop :=
 valA (lenA false l1) h fun t10 h =>
 C 34 [w0, t10] h fun t11 h =>
 valA (lenA false l1) h fun t13 h =>
 loopA (fun N l h => argA l 0 fun t14 => 
  valA (binOp .lss .num t14 t13) h fun t15 h =>
  condA t15
   (valA (iaA 4 l1 t14) h fun t16 h =>
  valA (ldA h (some 4) t16) h fun t17 h =>
  boxA h [.nilsl, (.int .i64 0), (.int .i64 0), .nilsl] 51 fun x7 h =>
  memA (stA h 4 x7 t17) .undef fun _ h =>
  valA (ldA h (some 4) x7) h fun t19 h =>
  callvA C each2 [t19] h fun t20 h =>
  valA (binOp .add .num t14 (.int .i64 1)) h fun t21 h =>
  N [t21] h)
   (R (.tup []) h)) [(.int .i64 0)] h
theorem she32 (C : CallA) (w0 l1 each2 : AV) (h : H) (R : AV → H → Prop) : wpA C an32 (argE [w0, l1, each2]) h (outA [] R) = sh32 C w0 l1 each2 h R := by kernel_rfl
/-! (*bellows/code.writer).function -/
def an33 : ACode :=
 (.seq (.reg 0 [] [] [sD 3 (.bx none 51 (.t 1))])
 (.seq (.reg 0 [] [] [sD 4 (.mv (.t 0)),
 sD 5 (.fa 0 (.t 3)),
 sD 6 (.ld none (.t 5)),
 sD 7 (.call 60 [(.t 4), (.t 6)])])
 (.seq (.reg 0 [] [] [sD 8 (.mv (.t 0)),
 sD 9 (.fa 1 (.t 3)),
 sD 10 (.ld none (.t 9)),
 sD 11 (.call 34 [(.t 8), (.t 10)])])
 (.seq (.reg 0 [] [] [sD 12 (.mv (.t 0)),
 sD 13 (.fa 2 (.t 3)),
 sD 14 (.ld none (.t 13)),
 sD 15 (.call 34 [(.t 12), (.t 14)])])
 (.reg 0 [] [] [sD 16 (.mv (.t 0)),
 sD 17 (.fa 3 (.t 3)),
 sD 18 (.ld none (.t 17)),
 sD 19 (.mv (.t 0)),
 sD 20 (.mkf 62 [(.t 19)] []),
 sD 21 (.call 61 [(.t 16), (.t 18), (.t 20)])])))))
def fn33 : IFun := ⟨22, [], an33.erase⟩
theorem ok33 : okFun Try.prog 33 fn33 = true := by kernel_rfl
theorem oka33 : okA fn33.ntmps fn33.results an33 = true := by kernel_rfl
def sh33 (C : CallA) (w0 f1 : AV) (h : H) (R : AV → H → Prop) : Prop :=
 boxA h (AV.cells f1) 51 fun f3 h =>
 valA (faA 0 f3) h fun t5 h =>
 valA (ldA h none t5) h fun t6 h =>
 C 60 [w0, t6] h fun t7 h =>
 valA (faA 1 f3) h fun t9 h =>
 valA (ldA h none t9) h fun t10 h =>
 C 34 [w0, t10] h fun t11 h =>
 valA (faA 2 f3) h fun t13 h =>
 valA (ldA h none t13) h fun t14 h =>
 C 34 [w0, t14] h fun t15 h =>
 valA (faA 3 f3) h fun t17 h =>
 valA (ldA h none t17) h fun t18 h =>
 C 61 [w0, t18, (.fn 62 [w0] [])] h fun t21 h =>
 R (.tup []) h
theorem she33 (C : CallA) (w0 f1 : AV) (h : H) (R : AV → H → Prop) : wpA C an33 (argE [w0, f1]) h (outA [] R) = sh33 C w0 f1 h R := by kernel_rfl
/-! (*bellows/code.writer).num -/
def an34 : ACode :=
 (.reg 0 [0, 1, 2, 3, 4, 5, 6, 7, 8, 9, 10] [[], [], [1], [1, 2], [2, 1, 3], [], [5], [5, 6, 3, 1, 2, 4], [7, 6, 5, 4, 3, 2, 1, 0], [0, 1, 2, 3, 4, 5, 6, 7, 8], [8, 7, 6, 5, 4, 3, 2, 1, 0, 9]] [sD 4 (.mv (.t 0)),
 sD 5 (.mv (.t 0)),
 sD 6 (.nilc (.t 5)),
 sD 7 (.fa 0 (.t 6)),
 sD 8 (.ld none (.t 7)),
 sD 9 (.mv (.t 1)),
 ⟨(some 10), none, (.call 63 [(.t 9)]), [⟨none, (.ld none (.t 7)), 8⟩]⟩,
 sD 11 (.app 5 1 1 [(.int .u8 0)] (.t 8) (.t 10)),
 sD 12 (.nilc (.t 4)),
 sD 13 (.fa 0 (.t 12)),
 sN (.st 1 (.t 13) (.t 11))])
def fn34 : IFun := ⟨14, [], an34.erase⟩
theorem ok34 : okFun Try.prog 34 fn34 = true := by kernel_rfl
theorem oka34 : okA fn34.ntmps fn34.results an34 = true := by kernel_rfl
def sh34 (C : CallA) (w0 n1 : AV) (h : H) (R : AV → H → Prop) : Prop :=
 valA (nilcA w0) h fun t6 h =>
 valA (faA 0 t6) h fun t7 h =>
 valA (ldA h none t7) h fun t8 h =>
 C 63 [n1] h fun t10 h =>
 againK (valA (ldA h none t7) h (fun v _ => v = t8)) <|
 appendA h 5 1 1 t8 t10 fun t11 h =>
 valA (nilcA w0) h fun t12 h =>
 valA (faA 0 t12) h fun t13 h =>
 memA (stA h 1 t13 t11) .undef fun _ h =>
 R (.tup []) h
theorem she34 (C : CallA) (w0 n1 : AV) (h : H) (R : AV → H → Prop) : wpA C an34 (argE [w0, n1]) h (outA [] R) = sh34 C w0 n1 h R := by kernel_rfl
/-! bellows/code.big -/
def an36 : ACode :=
 (.seq (.reg 0 [] [] [sD 1 (.bx none 34 (.t 0)),
 sD 2 (.mv (.c (.bool false)))])
 (.seq (.seq (.reg 0 [] [] [sD 14 (.fa 0 (.t 1)),
 sD 15 (.ld none (.t 14)),
 sD 16 (.mksl none 29 [.nilsl] 1 [(0, 1, (.t 15))]),
 sD 17 (.call 64 [(.c (.int .i64 1024)), (.t 16)]),
 sD 18 (.mv (.t 17)),
 sG 19 18 false (.fa 1 (.t 1)),
 sG 20 18 false (.ld none (.t 19)),
 sG 21 18 false (.mksl none 30 [.nilsl] 1 [(0, 1, (.t 20))]),
 sG 22 18 false (.call 65 [(.c (.int .i64 512)), (.t 21)]),
 sD 23 (.pick (.t 18) (.c (.bool true)) (.t 22)),
 sD 24 (.mv (.t 23)),
 sG 25 24 false (.fa 2 (.t 1)),
 sG 26 24 false (.ld none (.t 25)),
 sG 27 24 false (.fa 3 (.t 1)),
 sG 28 24 false (.ld none (.t 27)),
 sG 29 24 false (.mksl none 31 [.nilsl, .nilsl] 2 [(0, 1, (.t 26)), (1, 1, (.t 28))]),
 sG 30 24 false (.call 66 [(.c (.int .i64 256)), (.t 29)]),
 sD 31 (.pick (.t 24) (.c (.bool true)) (.t 30)),
 sD 32 (.mv (.t 31)),
 sG 33 32 false (.fa 4 (.t 1)),
 sG 34 32 false (.ld none (.t 33)),
 sG 35 32 false (.mksl none 32 [.nilsl] 1 [(0, 1, (.t 34))]),
 sG 36 32 false (.call 67 [(.c (.int .i64 1024)), (.t 35)]),
 sD 37 (.pick (.t 32) (.c (.bool true)) (.t 36)),
 sD 38 (.mv (.t 37)),
 sG 39 38 false (.fa 2 (.t 1)),
 sG 40 38 false (.ld none (.t 39)),
 sG 41 38 false (.call 68 [(.t 40)]),
 sD 42 (.pick (.t 38) (.c (.bool true)) (.t 41)),
 sD 43 (.mv (.t 42)),
 sG 44 43 false (.fa 3 (.t 1)),
 sG 45 43 false (.ld none (.t 44)),
 sG 46 43 false (.call 68 [(.t 45)]),
 sD 47 (.pick (.t 43) (.c (.bool true)) (.t 46))])
 (.cond (.t 47) (.seq (.reg 0 [] [] [sD 2 (.mv (.c (.bool true)))])
 .ret)
 .skip))
 (.seq (.seq (.reg 0 [] [] [sD 48 (.fa 0 (.t 1)),
 sD 49 (.ld none (.t 48)),
 sD 50 (.len false (.t 49)),
 sD 51 (.mv (.c (.int .i64 0)))])
 (.block 0 (.loop [51] 3940649673949186 (.seq (.reg 0 [] [] [sD 52 (.bin .lss .num (.t 51) (.t 50))])
 (.seq (.cond (.t 52) .skip
 (.exit 0))
 (.seq (.block 1 (.seq (.reg 0 [] [] [sD 53 (.ia none 2 (.t 49) (.t 51)),
 sD 54 (.ld (some 2) (.t 53)),
 sD 4 (.al none 53 [(.bool false), .nilsl]),
 sN (.st 2 (.t 4) (.t 54))])
 (.seq (.reg 0 [] [] [sD 55 (.fa 1 (.t 4)),
 sD 56 (.ld none (.t 55)),
 sD 57 (.mksl none 22 [.nilsl] 1 [(0, 1, (.t 56))]),
 sD 58 (.call 69 [(.c (.int .i64 512)), (.t 57)])])
 (.cond (.t 58) (.seq (.reg 0 [] [] [sD 2 (.mv (.c (.bool true)))])
 .ret)
 .skip))))
 (.reg 0 [] [] [sD 59 (.bin .add .num (.t 51) (.c (.int .i64 1))),
 sD 51 (.mv (.t 59))])))))))
 (.seq (.seq (.reg 0 [] [] [sD 60 (.fa 1 (.t 1)),
 sD 61 (.ld none (.t 60)),
 sD 62 (.len false (.t 61)),
 sD 63 (.mv (.c (.int .i64 0)))])
 (.block 2 (.loop [63] 16140901064495857666 (.seq (.reg 0 [] [] [sD 64 (.bin .lss .num (.t 63) (.t 62))])
 (.seq (.cond (.t 64) .skip
 (.exit 2))
 (.seq (.block 3 (.seq (.reg 0 [] [] [sD 65 (.ia none 3 (.t 61) (.t 63)),
 sD 66 (.ld (some 3) (.t 65)),
 sD 6 (.al none 55 [(.int .i64 0), .nilsl, (.str [])]),
 sN (.st 3 (.t 6) (.t 66))])
 (.seq (.reg 0 [] [] [sD 67 (.fa 1 (.t 6)),
 sD 68 (.ld none (.t 67)),
 sD 69 (.mksl none 22 [.nilsl] 1 [(0, 1, (.t 68))]),
 sD 70 (.call 69 [(.c (.int .i64 200)), (.t 69)]),
 sD 71 (.mv (.t 70)),
 sG 72 71 false (.fa 2 (.t 6)),
 sG 73 71 false (.ld none (.t 72)),
 sG 74 71 false (.mksl none 9 [(.str [])] 1 [(0, 1, (.t 73))]),
 sG 75 71 false (.call 68 [(.t 74)]),
 sD 76 (.pick (.t 71) (.c (.bool true)) (.t 75))])
 (.cond (.t 76) (.seq (.reg 0 [] [] [sD 2 (.mv (.c (.bool true)))])
 .ret)
 .skip))))
 (.reg 0 [] [] [sD 77 (.bin .add .num (.t 63) (.c (.int .i64 1))),
 sD 63 (.mv (.t 77))])))))))
 (.seq (.reg 0 [] [] [sD 7 (.mv (.c (.int .i64 20000)))])
 (.seq (.seq (.reg 0 [] [] [sD 78 (.fa 4 (.t 1)),
 sD 79 (.ld none (.t 78)),
 sD 80 (.len false (.t 79)),
 sD 81 (.mv (.c (.int .i64 0)))])
 (.block 4 (.loop [7, 81] 4231240368651202111471744 (.seq (.reg 0 [] [] [sD 82 (.bin .lss .num (.t 81) (.t 80))])
 (.seq (.cond (.t 82) .skip
 (.exit 4))
 (.seq (.block 5 (.seq (.reg 0 [] [] [sD 83 (.ia none 4 (.t 79) (.t 81)),
 sD 84 (.ld (some 4) (.t 83)),
 sD 9 (.al none 51 [.nilsl, (.int .i64 0), (.int .i64 0), .nilsl]),
 sN (.st 4 (.t 9) (.t 84))])
 (.seq (.seq (.reg 0 [] [] [sD 85 (.fa 2 (.t 9)),
 sD 86 (.ld none (.t 85)),
 sD 87 (.bin .gtr .num (.t 86) (.c (.int .i64 200))),
 sD 88 (.mv (.t 87)),
 sG 89 88 false (.fa 0 (.t 9)),
 sG 90 88 false (.ld none (.t 89)),
 sG 91 88 false (.mksl none 22 [.nilsl] 1 [(0, 1, (.t 90))]),
 sG 92 88 false (.call 69 [(.c (.int .i64 200)), (.t 91)]),
 sD 93 (.pick (.t 88) (.c (.bool true)) (.t 92)),
 sD 94 (.mv (.t 93)),
 sG 95 94 false (.fa 3 (.t 9)),
 sG 96 94 false (.ld none (.t 95)),
 sG 97 94 false (.mksl none 49 [.nilsl] 1 [(0, 1, (.t 96))]),
 sG 98 94 false (.call 70 [(.c (.int .i64 2000)), (.t 97)]),
 sD 99 (.pick (.t 94) (.c (.bool true)) (.t 98))])
 (.cond (.t 99) (.seq (.reg 0 [] [] [sD 2 (.mv (.c (.bool true)))])
 .ret)
 .skip))
 (.seq (.reg 0 [] [] [sD 100 (.fa 3 (.t 9)),
 sD 101 (.ld none (.t 100)),
 sD 102 (.len false (.t 101)),
 sD 103 (.mv (.c (.int .i64 0)))])
 (.block 6 (.loop [7, 103] 17747112634435580272155956347008 (.seq (.reg 0 [] [] [sD 104 (.bin .lss .num (.t 103) (.t 102))])
 (.seq (.cond (.t 104) .skip
 (.exit 6))
 (.seq (.block 7 (.seq (.reg 0 [] [] [sD 105 (.ia none 2 (.t 101) (.t 103)),
 sD 106 (.ld (some 2) (.t 105)),
 sD 11 (.al none 58 [.nilsl, .nilsl]),
 sN (.st 2 (.t 11) (.t 106))])
 (.seq (.seq (.reg 0 [] [] [sD 107 (.mv (.t 7)),
 sD 108 (.fa 1 (.t 11)),
 sD 109 (.ld none (.t 108)),
 sD 110 (.len false (.t 109)),
 sD 111 (.bin .sub .num (.t 107) (.t 110)),
 sD 7 (.mv (.t 111))])
 (.seq (.reg 0 [] [] [sD 112 (.mv (.t 7)),
 sD 113 (.bin .lss .num (.t 112) (.c (.int .i64 0))),
 sD 114 (.mv (.t 113)),
 sG 115 114 false (.fa 0 (.t 11)),
 sG 116 114 false (.ld none (.t 115)),
 sG 117 114 false (.mksl none 22 [.nilsl] 1 [(0, 1, (.t 116))]),
 sG 118 114 false (.call 69 [(.c (.int .i64 200)), (.t 117)]),
 sD 119 (.pick (.t 114) (.c (.bool true)) (.t 118))])
 (.cond (.t 119) (.seq (.reg 0 [] [] [sD 2 (.mv (.c (.bool true)))])
 .ret)
 .skip)))
 (.seq (.reg 0 [] [] [sD 120 (.fa 1 (.t 11)),
 sD 121 (.ld none (.t 120)),
 sD 122 (.len false (.t 121)),
 sD 123 (.mv (.c (.int .i64 0)))])
 (.block 8 (.loop [123] 18609209688101456656233570999881171072 (.seq (.reg 0 [] [] [sD 124 (.bin .lss .num (.t 123) (.t 122))])
 (.seq (.cond (.t 124) .skip
 (.exit 8))
 (.seq (.block 9 (.seq (.reg 0 [] [] [sD 125 (.ia none 9 (.t 121) (.t 123)),
 sD 126 (.ld (some 9) (.t 125)),
 sD 13 (.al none 24 [(.int .i64 0), (.int .i64 0), (.int .i64 0), (.int .i64 0), (.int .i64 0), (.int .i64 0), .nilsl, .nilsl, .nilsl]),
 sN (.st 9 (.t 13) (.t 126))])
 (.seq (.reg 0 [] [] [sD 127 (.fa 6 (.t 13)),
 sD 128 (.ld none (.t 127)),
 sD 129 (.fa 7 (.t 13)),
 sD 130 (.ld none (.t 129)),
 sD 131 (.mksl none 22 [.nilsl, .nilsl] 2 [(0, 1, (.t 128)), (1, 1, (.t 130))]),
 sD 132 (.call 69 [(.c (.int .i64 1024)), (.t 131)]),
 sD 133 (.mv (.t 132)),
 sG 134 133 false (.fa 8 (.t 13)),
 sG 135 133 false (.ld none (.t 134)),
 sG 136 133 false (.mksl none 22 [.nilsl] 1 [(0, 1, (.t 135))]),
 sG 137 133 false (.call 69 [(.c (.int .i64 200)), (.t 136)]),
 sD 138 (.pick (.t 133) (.c (.bool true)) (.t 137))])
 (.cond (.t 138) (.seq (.reg 0 [] [] [sD 2 (.mv (.c (.bool true)))])
 .ret)
 .skip))))
 (.reg 0 [] [] [sD 139 (.bin .add .num (.t 123) (.c (.int .i64 1))),
 sD 123 (.mv (.t 139))]))))))))))
 (.reg 0 [] [] [sD 140 (.bin .add .num (.t 103) (.c (.int .i64 1))),
 sD 103 (.mv (.t 140))]))))))))))
 (.reg 0 [] [] [sD 141 (.bin .add .num (.t 81) (.c (.int .i64 1))),
 sD 81 (.mv (.t 141))])))))))
 (.seq (.reg 0 [] [] [sD 2 (.mv (.c (.bool false)))])
 .ret)))))))
def fn36 : IFun := ⟨142, [(.tmp 2)], an36.erase⟩
theorem ok36 : okFun Try.prog 36 fn36 = true := by kernel_rfl
theorem oka36 : okA fn36.ntmps fn36.results an36 = true := by kernel_rfl
def sh36 (C : CallA) (m0 : AV) (h : H) (R : AV → H → Prop) : Prop :=
 boxA h (AV.cells m0) 34 fun m1 h =>
 valA (faA 0 m1) h fun t14 h =>
 valA (ldA h none t14) h fun t15 h =>
 mkslA h 29 1 (fillV [.nilsl] [(0, 1, t15)]) fun t16 h =>
 C 64 [(.int .i64 1024), t16] h fun t17 h =>
 whenA t17 false (fun K => valA (faA 1 m1) h K) h fun t19 h =>
 whenA t17 false (fun K => valA (ldA h none t19) h K) h fun t20 h =>
 whenA t17 false (fun K => mkslA h 30 1 (fillV [.nilsl] [(0, 1, t20)]) K) h fun t21 h =>
 whenA t17 false (fun K => C 65 [(.int .i64 512), t21] h K) h fun t22 h =>
 valA (pickA t17 (.bool true) t22) h fun t23 h =>
 whenA t23 false (fun K => valA (faA 2 m1) h K) h fun t25 h =>
 whenA t23 false (fun K => valA (ldA h none t25) h K) h fun t26 h =>
 whenA t23 false (fun K => valA (faA 3 m1) h K) h fun t27 h =>
 whenA t23 false (fun K => valA (ldA h none t27) h K) h fun t28 h =>
 whenA t23 false (fun K => mkslA h 31 2 (fillV [.nilsl, .nilsl] [(0, 1, t26), (1, 1, t28)]) K) h fun t29 h =>
 whenA t23 false (fun K => C 66 [(.int .i64 256), t29] h K) h fun t30 h =>
 valA (pickA t23 (.bool true) t30) h fun t31 h =>
 whenA t31 false (fun K => valA (faA 4 m1) h K) h fun t33 h =>
 whenA t31 false (fun K => valA (ldA h none t33) h K) h fun t34 h =>
 whenA t31 false (fun K => mkslA h 32 1 (fillV [.nilsl] [(0, 1, t34)]) K) h fun t35 h =>
 whenA t31 false (fun K => C 67 [(.int .i64 1024), t35] h K) h fun t36 h =>
 valA (pickA t31 (.bool true) t36) h fun t37 h =>
 whenA t37 false (fun K => valA (faA 2 m1) h K) h fun t39 h =>
 whenA t37 false (fun K => valA (ldA h none t39) h K) h fun t40 h =>
 whenA t37 false (fun K => C 68 [t40] h K) h fun t41 h =>
 valA (pickA t37 (.bool true) t41) h fun t42 h =>
 whenA t42 false (fun K => valA (faA 3 m1) h K) h fun t44 h =>
 whenA t42 false (fun K => valA (ldA h none t44) h K) h fun t45 h =>
 whenA t42 false (fun K => C 68 [t45] h K) h fun t46 h =>
 valA (pickA t42 (.bool true) t46) h fun t47 h =>
 condA t47
  (R (.bool true) h)
  (joinA (fun (h : H) =>
  joinA (fun (h : H) =>
   joinA (fun (h : H) =>
    R (.bool false) h) fun J =>
   valA (faA 4 m1) h fun t78 h =>
   valA (ldA h none t78) h fun t79 h =>
   valA (lenA false t79) h fun t80 h =>
   loopA (fun N l h => argA l 0 fun left7 => argA l 1 fun t81 => 
    valA (binOp .lss .num t81 t80) h fun t82 h =>
    condA t82
     (joinA (fun (left7'_3 : AV) (h : H) =>
     valA (binOp .add .num t81 (.int .i64 1)) h fun t141 h =>
     N [left7'_3, t141] h) fun J_65 =>
    valA (iaA 4 t79 t81) h fun t83 h =>
    valA (ldA h (some 4) t83) h fun t84 h =>
    boxA h [.nilsl, (.int .i64 0), (.int .i64 0), .nilsl] 51 fun f9 h =>
    memA (stA h 4 f9 t84) .undef fun _ h =>
    valA (faA 2 f9) h fun t85 h =>
    valA (ldA h none t85) h fun t86 h =>
    valA (binOp .gtr .num t86 (.int .i64 200)) h fun t87 h =>
    whenA t87 false (fun K => valA (faA 0 f9) h K) h fun t89 h =>
    whenA t87 false (fun K => valA (ldA h none t89) h K) h fun t90 h =>
    whenA t87 false (fun K => mkslA h 22 1 (fillV [.nilsl] [(0, 1, t90)]) K) h fun t91 h =>
    whenA t87 false (fun K => C 69 [(.int .i64 200), t91] h K) h fun t92 h =>
    valA (pickA t87 (.bool true) t92) h fun t93 h =>
    whenA t93 false (fun K => valA (faA 3 f9) h K) h fun t95 h =>
    whenA t93 false (fun K => valA (ldA h none t95) h K) h fun t96 h =>
    whenA t93 false (fun K => mkslA h 49 1 (fillV [.nilsl] [(0, 1, t96)]) K) h fun t97 h =>
    whenA t93 false (fun K => C 70 [(.int .i64 2000), t97] h K) h fun t98 h =>
    valA (pickA t93 (.bool true) t98) h fun t99 h =>
    condA t99
     (R (.bool true) h)
     (valA (faA 3 f9) h fun t100 h =>
    valA (ldA h none t100) h fun t101 h =>
    valA (lenA false t101) h fun t102 h =>
    loopA (fun N_66 l h => argA l 0 fun left7_67 => argA l 1 fun t103 => 
     valA (binOp .lss .num t103 t102) h fun t104 h =>
     condA t104
      (joinA (fun (left7'_69 : AV) (h : H) =>
      valA (binOp .add .num t103 (.int .i64 1)) h fun t140 h =>
      N_66 [left7'_69, t140] h) fun J_107 =>
     valA (iaA 2 t101 t103) h fun t105 h =>
     valA (ldA h (some 2) t105) h fun t106 h =>
     boxA h [.nilsl, .nilsl] 58 fun b11 h =>
     memA (stA h 2 b11 t106) .undef fun _ h =>
     valA (faA 1 b11) h fun t108 h =>
     valA (ldA h none t108) h fun t109 h =>
     valA (lenA false t109) h fun t110 h =>
     valA (binOp .sub .num left7_67 t110) h fun t111 h =>
     valA (binOp .lss .num t111 (.int .i64 0)) h fun t113 h =>
     whenA t113 false (fun K => valA (faA 0 b11) h K) h fun t115 h =>
     whenA t113 false (fun K => valA (ldA h none t115) h K) h fun t116 h =>
     whenA t113 false (fun K => mkslA h 22 1 (fillV [.nilsl] [(0, 1, t116)]) K) h fun t117 h =>
     whenA t113 false (fun K => C 69 [(.int .i64 200), t117] h K) h fun t118 h =>
     valA (pickA t113 (.bool true) t118) h fun t119 h =>
     condA t119
      (R (.bool true) h)
      (valA (faA 1 b11) h fun t120 h =>
     valA (ldA h none t120) h fun t121 h =>
     valA (lenA false t121) h fun t122 h =>
     loopA (fun N_108 l h => argA l 0 fun t123 => 
      valA (binOp .lss .num t123 t122) h fun t124 h =>
      condA t124
       (valA (iaA 9 t121 t123) h fun t125 h =>
      valA (ldA h (some 9) t125) h fun t126 h =>
      boxA h [(.int .i64 0), (.int .i64 0), (.int .i64 0), (.int .i64 0), (.int .i64 0), (.int .i64 0), .nilsl, .nilsl, .nilsl] 24 fun x13 h =>
      memA (stA h 9 x13 t126) .undef fun _ h =>
      valA (faA 6 x13) h fun t127 h =>
      valA (ldA h none t127) h fun t128 h =>
      valA (faA 7 x13) h fun t129 h =>
      valA (ldA h none t129) h fun t130 h =>
      mkslA h 22 2 (fillV [.nilsl, .nilsl] [(0, 1, t128), (1, 1, t130)]) fun t131 h =>
      C 69 [(.int .i64 1024), t131] h fun t132 h =>
      whenA t132 false (fun K => valA (faA 8 x13) h K) h fun t134 h =>
      whenA t132 false (fun K => valA (ldA h none t134) h K) h fun t135 h =>
      whenA t132 false (fun K => mkslA h 22 1 (fillV [.nilsl] [(0, 1, t135)]) K) h fun t136 h =>
      whenA t132 false (fun K => C 69 [(.int .i64 200), t136] h K) h fun t137 h =>
      valA (pickA t132 (.bool true) t137) h fun t138 h =>
      condA t138
       (R (.bool true) h)
       (valA (binOp .add .num t123 (.int .i64 1)) h fun t139 h =>
      N_108 [t139] h))
       (J_107 t111 h)) [(.int .i64 0)] h))
      (J_65 left7_67 h)) [left7, (.int .i64 0)] h))
     (J h)) [(.int .i64 20000), (.int .i64 0)] h) fun J_109 =>
  valA (faA 1 m1) h fun t60 h =>
  valA (ldA h none t60) h fun t61 h =>
  valA (lenA false t61) h fun t62 h =>
  loopA (fun N_110 l h => argA l 0 fun t63 => 
   valA (binOp .lss .num t63 t62) h fun t64 h =>
   condA t64
    (valA (iaA 3 t61 t63) h fun t65 h =>
   valA (ldA h (some 3) t65) h fun t66 h =>
   boxA h [(.int .i64 0), .nilsl, (.str [])] 55 fun s6 h =>
   memA (stA h 3 s6 t66) .undef fun _ h =>
   valA (faA 1 s6) h fun t67 h =>
   valA (ldA h none t67) h fun t68 h =>
   mkslA h 22 1 (fillV [.nilsl] [(0, 1, t68)]) fun t69 h =>
   C 69 [(.int .i64 200), t69] h fun t70 h =>
   whenA t70 false (fun K => valA (faA 2 s6) h K) h fun t72 h =>
   whenA t70 false (fun K => valA (ldA h none t72) h K) h fun t73 h =>
   whenA t70 false (fun K => mkslA h 9 1 (fillV [(.str [])] [(0, 1, t73)]) K) h fun t74 h =>
   whenA t70 false (fun K => C 68 [t74] h K) h fun t75 h =>
   valA (pickA t70 (.bool true) t75) h fun t76 h =>
   condA t76
    (R (.bool true) h)
    (valA (binOp .add .num t63 (.int .i64 1)) h fun t77 h =>
   N_110 [t77] h))
    (J_109 h)) [(.int .i64 0)] h) fun J_111 =>
 valA (faA 0 m1) h fun t48 h =>
 valA (ldA h none t48) h fun t49 h =>
 valA (lenA false t49) h fun t50 h =>
 loopA (fun N_112 l h => argA l 0 fun t51 => 
  valA (binOp .lss .num t51 t50) h fun t52 h =>
  condA t52
   (valA (iaA 2 t49 t51) h fun t53 h =>
  valA (ldA h (some 2) t53) h fun t54 h =>
  boxA h [(.bool false), .nilsl] 53 fun t4 h =>
  memA (stA h 2 t4 t54) .undef fun _ h =>
  valA (faA 1 t4) h fun t55 h =>
  valA (ldA h none t55) h fun t56 h =>
  mkslA h 22 1 (fillV [.nilsl] [(0, 1, t56)]) fun t57 h =>
  C 69 [(.int .i64 512), t57] h fun t58 h =>
  condA t58
   (R (.bool true) h)
   (valA (binOp .add .num t51 (.int .i64 1)) h fun t59 h =>
  N_112 [t59] h))
   (J_111 h)) [(.int .i64 0)] h)
theorem she36 (C : CallA) (m0 : AV) (h : H) (R : AV → H → Prop) : wpA C an36 (argE [m0]) h (outA [(.tmp 2)] R) = sh36 C m0 h R := by kernel_rfl
/-! slices.ContainsFunc[[]bellows/api.Instr,bellows/api.Instr] -/
def an37 : ACode :=
 (.seq (.reg 0 [] [] [sD 4 (.mv (.c (.bool false)))])
 (.seq (.reg 0 [] [] [sD 5 (.mv (.t 0)),
 sD 6 (.mv (.t 1)),
 sD 7 (.call 71 [(.t 5), (.t 6)]),
 sD 8 (.bin .geq .num (.t 7) (.c (.int .i64 0))),
 sD 4 (.mv (.t 8))])
 .ret))
def fn37 : IFun := ⟨9, [(.tmp 4)], an37.erase⟩
theorem ok37 : okFun Try.prog 37 fn37 = true := by kernel_rfl
theorem oka37 : okA fn37.ntmps fn37.results an37 = true := by kernel_rfl
def sh37 (C : CallA) (s0 f1 : AV) (h : H) (R : AV → H → Prop) : Prop :=
 C 71 [s0, f1] h fun t7 h =>
 valA (binOp .geq .num t7 (.int .i64 0)) h fun t8 h =>
 R t8 h
theorem she37 (C : CallA) (s0 f1 : AV) (h : H) (R : AV → H → Prop) : wpA C an37 (argE [s0, f1]) h (outA [(.tmp 4)] R) = sh37 C s0 f1 h R := by kernel_rfl
/-! bellows/code.Check$1 -/
def an38 : ACode :=
 (.seq (.reg 0 [] [] [sD 1 (.bx none 24 (.t 0)),
 sD 2 (.mv (.c (.bool false)))])
 (.seq (.reg 0 [] [] [sD 3 (.ld (some 9) (.t 1)),
 sD 4 (.call 12 [(.t 3)]),
 sD 5 (.un .not (.t 4)),
 sD 2 (.mv (.t 5))])
 .ret))
def fn38 : IFun := ⟨6, [(.tmp 2)], an38.erase⟩
theorem ok38 : okFun Try.prog 38 fn38 = true := by kernel_rfl
theorem oka38 : okA fn38.ntmps fn38.results an38 = true := by kernel_rfl
def sh38 (C : CallA) (x0 : AV) (h : H) (R : AV → H → Prop) : Prop :=
 boxA h (AV.cells x0) 24 fun x1 h =>
 valA (ldA h (some 9) x1) h fun t3 h =>
 C 12 [t3] h fun t4 h =>
 valA (unOp .not t4) h fun t5 h =>
 R t5 h
theorem she38 (C : CallA) (x0 : AV) (h : H) (R : AV → H → Prop) : wpA C an38 (argE [x0]) h (outA [(.tmp 2)] R) = sh38 C x0 h R := by kernel_rfl
/-! bellows/code.some[bellows/api.Type] -/
def an43 : ACode :=
 (.seq (.reg 0 [] [] [sD 4 (.mv (.c .nilsl))])
 (.seq (.reg 0 [] [] [sD 5 (.mv (.c .nilsl))])
 (.seq (.seq (.reg 0 [] [] [sD 6 (.mv (.t 0)),
 sD 7 (.call 73 [(.t 6)]),
 sD 8 (.mv (.c (.int .i64 0)))])
 (.block 0 (.loop [5, 8] 419 (.seq (.reg 0 [] [] [sD 9 (.bin .lss .num (.t 8) (.t 7))])
 (.seq (.cond (.t 9) .skip
 (.exit 0))
 (.seq (.block 1 (.seq (.seq (.reg 0 [] [] [sD 10 (.mv (.t 0)),
 sD 11 (.nilc (.t 10)),
 sD 12 (.fa 2 (.t 11)),
 sD 13 (.ld none (.t 12))])
 (.cond (.t 13) (.seq (.reg 0 [] [] [sD 4 (.mv (.c .nilsl))])
 .ret)
 .skip))
 (.reg 0 [] [] [sD 14 (.mv (.t 5)),
 sD 15 (.mv (.t 1)),
 sD 16 (.callv (.t 15) []),
 sD 17 (.mksl none 53 [(.bool false), .nilsl] 1 [(0, 2, (.t 16))]),
 sD 18 (.app 53 2 32 [(.bool false), .nilsl] (.t 14) (.t 17)),
 sD 5 (.mv (.t 18))])))
 (.reg 0 [] [] [sD 19 (.bin .add .num (.t 8) (.c (.int .i64 1))),
 sD 8 (.mv (.t 19))])))))))
 (.seq (.reg 0 [] [] [sD 20 (.mv (.t 5)),
 sD 4 (.mv (.t 20))])
 .ret))))
def fn43 : IFun := ⟨21, [(.tmp 4)], an43.erase⟩
theorem ok43 : okFun Try.prog 43 fn43 = true := by kernel_rfl
theorem oka43 : okA fn43.ntmps fn43.results an43 = true := by kernel_rfl
def sh43 (C : CallA) (r0 each1 : AV) (h : H) (R : AV → H → Prop) : Prop :=
 joinA (fun (l5' : AV) (h : H) =>
  R l5' h) fun J =>
 C 73 [r0] h fun t7 h =>
 loopA (fun N l h => argA l 0 fun l5 => argA l 1 fun t8 => 
  valA (binOp .lss .num t8 t7) h fun t9 h =>
  condA t9
   (valA (nilcA r0) h fun t11 h =>
  valA (faA 2 t11) h fun t12 h =>
  valA (ldA h none t12) h fun t13 h =>
  condA t13
   (R .nilsl h)
   (callvA C each1 [] h fun t16 h =>
  mkslA h 53 1 (fillV [(.bool false), .nilsl] [(0, 2, t16)]) fun t17 h =>
  appendA h 53 2 32 l5 t17 fun t18 h =>
  valA (binOp .add .num t8 (.int .i64 1)) h fun t19 h =>
  N [t18, t19] h))
   (J l5 h)) [.nilsl, (.int .i64 0)] h
theorem she43 (C : CallA) (r0 each1 : AV) (h : H) (R : AV → H → Prop) : wpA C an43 (argE [r0, each1]) h (outA [(.tmp 4)] R) = sh43 C r0 each1 h R := by kernel_rfl
/-! (*bellows/code.reader).kind -/
def an44 : ACode :=
 (.seq (.reg 0 [] [] [sD 2 (.al none 53 [(.bool false), .nilsl])])
 (.seq (.reg 0 [] [] [sD 4 (.mv (.t 0)),
 sD 5 (.call 51 [(.t 4)]),
 sD 3 (.mv (.t 5))])
 (.seq (.reg 0 [] [] [sD 6 (.mv (.t 0)),
 sD 7 (.mv (.t 0)),
 sD 8 (.nilc (.t 7)),
 sD 9 (.fa 2 (.t 8)),
 sD 10 (.ld none (.t 9)),
 sD 11 (.mv (.t 10)),
 sG 12 11 false (.mv (.t 3)),
 sG 13 11 false (.bin .lss .num (.t 12) (.c (.int .i64 0))),
 sD 14 (.pick (.t 11) (.c (.bool true)) (.t 13)),
 sD 15 (.mv (.t 14)),
 sG 16 15 false (.mv (.t 3)),
 sG 17 15 false (.bin .gtr .num (.t 16) (.c (.int .i64 1))),
 sD 18 (.pick (.t 15) (.c (.bool true)) (.t 17)),
 sD 19 (.nilc (.t 6)),
 sD 20 (.fa 2 (.t 19)),
 sN (.st 1 (.t 20) (.t 18))])
 (.seq (.reg 0 [] [] [sD 21 (.mv (.t 3)),
 sD 22 (.bin .eql .num (.t 21) (.c (.int .i64 1))),
 sD 23 (.mv (.t 0)),
 sD 24 (.call 74 [(.t 23)]),
 sD 25 (.build [(.bool false), .nilsl] [(0, 1, (.t 22)), (1, 1, (.t 24))]),
 sN (.st 2 (.t 2) (.t 25))])
 .ret))))
def fn44 : IFun := ⟨26, [(.cell 2 (some 2))], an44.erase⟩
theorem ok44 : okFun Try.prog 44 fn44 = true := by kernel_rfl
theorem oka44 : okA fn44.ntmps fn44.results an44 = true := by kernel_rfl
def sh44 (C : CallA) (r0 : AV) (h : H) (R : AV → H → Prop) : Prop :=
 boxA h [(.bool false), .nilsl] 53 fun t2 h =>
 C 51 [r0] h fun t5 h =>
 valA (nilcA r0) h fun t8 h =>
 valA (faA 2 t8) h fun t9 h =>
 valA (ldA h none t9) h fun t10 h =>
 whenA t10 false (fun K => K t5 h) h fun t12 h =>
 whenA t10 false (fun K => valA (binOp .lss .num t12 (.int .i64 0)) h K) h fun t13 h =>
 valA (pickA t10 (.bool true) t13) h fun t14 h =>
 whenA t14 false (fun K => K t5 h) h fun t16 h =>
 whenA t14 false (fun K => valA (binOp .gtr .num t16 (.int .i64 1)) h K) h fun t17 h =>
 valA (pickA t14 (.bool true) t17) h fun t18 h =>
 valA (nilcA r0) h fun t19 h =>
 valA (faA 2 t19) h fun t20 h =>
 memA (stA h 1 t20 t18) .undef fun _ h =>
 valA (binOp .eql .num t5 (.int .i64 1)) h fun t22 h =>
 C 74 [r0] h fun t24 h =>
 valA (buildA (fillV [(.bool false), .nilsl] [(0, 1, t22), (1, 1, t24)])) h fun t25 h =>
 memA (stA h 2 t2 t25) .undef fun _ h =>
 valA (ldA h (some 2) t2) h fun res _ => R res h
theorem she44 (C : CallA) (r0 : AV) (h : H) (R : AV → H → Prop) : wpA C an44 (argE [r0]) h (outA [(.cell 2 (some 2))] R) = sh44 C r0 h R := by kernel_rfl
/-! bellows/code.some[bellows/api.Shape] -/
def an45 : ACode :=
 (.seq (.reg 0 [] [] [sD 4 (.mv (.c .nilsl))])
 (.seq (.reg 0 [] [] [sD 5 (.mv (.c .nilsl))])
 (.seq (.seq (.reg 0 [] [] [sD 6 (.mv (.t 0)),
 sD 7 (.call 73 [(.t 6)]),
 sD 8 (.mv (.c (.int .i64 0)))])
 (.block 0 (.loop [5, 8] 419 (.seq (.reg 0 [] [] [sD 9 (.bin .lss .num (.t 8) (.t 7))])
 (.seq (.cond (.t 9) .skip
 (.exit 0))
 (.seq (.block 1 (.seq (.seq (.reg 0 [] [] [sD 10 (.mv (.t 0)),
 sD 11 (.nilc (.t 10)),
 sD 12 (.fa 2 (.t 11)),
 sD 13 (.ld none (.t 12))])
 (.cond (.t 13) (.seq (.reg 0 [] [] [sD 4 (.mv (.c .nilsl))])
 .ret)
 .skip))
 (.reg 0 [] [] [sD 14 (.mv (.t 5)),
 sD 15 (.mv (.t 1)),
 sD 16 (.callv (.t 15) []),
 sD 17 (.mksl none 55 [(.int .i64 0), .nilsl, (.str [])] 1 [(0, 3, (.t 16))]),
 sD 18 (.app 55 3 48 [(.int .i64 0), .nilsl, (.str [])] (.t 14) (.t 17)),
 sD 5 (.mv (.t 18))])))
 (.reg 0 [] [] [sD 19 (.bin .add .num (.t 8) (.c (.int .i64 1))),
 sD 8 (.mv (.t 19))])))))))
 (.seq (.reg 0 [] [] [sD 20 (.mv (.t 5)),
 sD 4 (.mv (.t 20))])
 .ret))))
def fn45 : IFun := ⟨21, [(.tmp 4)], an45.erase⟩
theorem ok45 : okFun Try.prog 45 fn45 = true := by kernel_rfl
theorem oka45 : okA fn45.ntmps fn45.results an45 = true := by kernel_rfl
def sh45 (C : CallA) (r0 each1 : AV) (h : H) (R : AV → H → Prop) : Prop :=
 joinA (fun (l5' : AV) (h : H) =>
  R l5' h) fun J =>
 C 73 [r0] h fun t7 h =>
 loopA (fun N l h => argA l 0 fun l5 => argA l 1 fun t8 => 
  valA (binOp .lss .num t8 t7) h fun t9 h =>
  condA t9
   (valA (nilcA r0) h fun t11 h =>
  valA (faA 2 t11) h fun t12 h =>
  valA (ldA h none t12) h fun t13 h =>
  condA t13
   (R .nilsl h)
   (callvA C each1 [] h fun t16 h =>
  mkslA h 55 1 (fillV [(.int .i64 0), .nilsl, (.str [])] [(0, 3, t16)]) fun t17 h =>
  appendA h 55 3 48 l5 t17 fun t18 h =>
  valA (binOp .add .num t8 (.int .i64 1)) h fun t19 h =>
  N [t18, t19] h))
   (J l5 h)) [.nilsl, (.int .i64 0)] h
theorem she45 (C : CallA) (r0 each1 : AV) (h : H) (R : AV → H → Prop) : wpA C an45 (argE [r0, each1]) h (outA [(.tmp 4)] R) = sh45 C r0 each1 h R := by kernel_rfl
/-! (*bellows/code.reader).shape -/
def an46 : ACode :=
 (.seq (.reg 0 [] [] [sD 2 (.al none 55 [(.int .i64 0), .nilsl, (.str [])])])
 (.seq (.reg 0 [] [] [sD 3 (.mv (.t 0)),
 sD 4 (.call 51 [(.t 3)]),
 sD 5 (.fa 0 (.t 2)),
 sN (.st 1 (.t 5) (.t 4))])
 (.seq (.reg 0 [] [] [sD 6 (.mv (.t 0)),
 sD 7 (.call 74 [(.t 6)]),
 sD 8 (.fa 1 (.t 2)),
 sN (.st 1 (.t 8) (.t 7))])
 (.seq (.reg 0 [] [] [sD 9 (.mv (.t 0)),
 sD 10 (.call 48 [(.t 9)]),
 sD 11 (.fa 2 (.t 2)),
 sN (.st 1 (.t 11) (.t 10))])
 (.seq (.reg 0 [] [] [sD 12 (.ld (some 3) (.t 2)),
 sN (.st 3 (.t 2) (.t 12))])
 .ret)))))
def fn46 : IFun := ⟨13, [(.cell 2 (some 3))], an46.erase⟩
theorem ok46 : okFun Try.prog 46 fn46 = true := by kernel_rfl
theorem oka46 : okA fn46.ntmps fn46.results an46 = true := by kernel_rfl
def sh46 (C : CallA) (r0 : AV) (h : H) (R : AV → H → Prop) : Prop :=
 boxA h [(.int .i64 0), .nilsl, (.str [])] 55 fun s2 h =>
 C 51 [r0] h fun t4 h =>
 valA (faA 0 s2) h fun t5 h =>
 memA (stA h 1 t5 t4) .undef fun _ h =>
 C 74 [r0] h fun t7 h =>
 valA (faA 1 s2) h fun t8 h =>
 memA (stA h 1 t8 t7) .undef fun _ h =>
 C 48 [r0] h fun t10 h =>
 valA (faA 2 s2) h fun t11 h =>
 memA (stA h 1 t11 t10) .undef fun _ h =>
 valA (ldA h (some 3) s2) h fun t12 h =>
 memA (stA h 3 s2 t12) .undef fun _ h =>
 valA (ldA h (some 3) s2) h fun res _ => R res h
theorem she46 (C : CallA) (r0 : AV) (h : H) (R : AV → H → Prop) : wpA C an46 (argE [r0]) h (outA [(.cell 2 (some 3))] R) = sh46 C r0 h R := by kernel_rfl
/-! bellows/code.some[string] -/
def an47 : ACode :=
 (.seq (.reg 0 [] [] [sD 4 (.mv (.c .nilsl))])
 (.seq (.reg 0 [] [] [sD 5 (.mv (.c .nilsl))])
 (.seq (.seq (.reg 0 [] [] [sD 6 (.mv (.t 0)),
 sD 7 (.call 73 [(.t 6)]),
 sD 8 (.mv (.c (.int .i64 0)))])
 (.block 0 (.loop [5, 8] 419 (.seq (.reg 0 [] [] [sD 9 (.bin .lss .num (.t 8) (.t 7))])
 (.seq (.cond (.t 9) .skip
 (.exit 0))
 (.seq (.block 1 (.seq (.seq (.reg 0 [] [] [sD 10 (.mv (.t 0)),
 sD 11 (.nilc (.t 10)),
 sD 12 (.fa 2 (.t 11)),
 sD 13 (.ld none (.t 12))])
 (.cond (.t 13) (.seq (.reg 0 [] [] [sD 4 (.mv (.c .nilsl))])
 .ret)
 .skip))
 (.reg 0 [] [] [sD 14 (.mv (.t 5)),
 sD 15 (.mv (.t 1)),
 sD 16 (.callv (.t 15) []),
 sD 17 (.mksl none 9 [(.str [])] 1 [(0, 1, (.t 16))]),
 sD 18 (.app 9 1 16 [(.str [])] (.t 14) (.t 17)),
 sD 5 (.mv (.t 18))])))
 (.reg 0 [] [] [sD 19 (.bin .add .num (.t 8) (.c (.int .i64 1))),
 sD 8 (.mv (.t 19))])))))))
 (.seq (.reg 0 [] [] [sD 20 (.mv (.t 5)),
 sD 4 (.mv (.t 20))])
 .ret))))
def fn47 : IFun := ⟨21, [(.tmp 4)], an47.erase⟩
theorem ok47 : okFun Try.prog 47 fn47 = true := by kernel_rfl
theorem oka47 : okA fn47.ntmps fn47.results an47 = true := by kernel_rfl
def sh47 (C : CallA) (r0 each1 : AV) (h : H) (R : AV → H → Prop) : Prop :=
 joinA (fun (l5' : AV) (h : H) =>
  R l5' h) fun J =>
 C 73 [r0] h fun t7 h =>
 loopA (fun N l h => argA l 0 fun l5 => argA l 1 fun t8 => 
  valA (binOp .lss .num t8 t7) h fun t9 h =>
  condA t9
   (valA (nilcA r0) h fun t11 h =>
  valA (faA 2 t11) h fun t12 h =>
  valA (ldA h none t12) h fun t13 h =>
  condA t13
   (R .nilsl h)
   (callvA C each1 [] h fun t16 h =>
  mkslA h 9 1 (fillV [(.str [])] [(0, 1, t16)]) fun t17 h =>
  appendA h 9 1 16 l5 t17 fun t18 h =>
  valA (binOp .add .num t8 (.int .i64 1)) h fun t19 h =>
  N [t18, t19] h))
   (J l5 h)) [.nilsl, (.int .i64 0)] h
theorem she47 (C : CallA) (r0 each1 : AV) (h : H) (R : AV → H → Prop) : wpA C an47 (argE [r0, each1]) h (outA [(.tmp 4)] R) = sh47 C r0 each1 h R := by kernel_rfl
/-! (*bellows/code.reader).text -/
def an48 : ACode :=
 (.seq (.reg 0 [] [] [sD 2 (.mv (.c (.str [])))])
 (.seq (.reg 0 [] [] [sD 5 (.mv (.t 0)),
 sD 6 (.call 73 [(.t 5)]),
 sD 3 (.mv (.t 6))])
 (.seq (.reg 0 [0, 1, 2, 3, 4, 5, 6, 7, 8, 9, 10, 11, 12, 13, 14, 15, 16] [[], [0], [0, 1], [1, 0, 2], [], [4], [4, 5], [5, 4, 6], [], [8], [8, 9], [9, 8, 10], [], [12, 10, 8, 9, 11], [11, 9, 8, 10, 12, 13, 6, 4, 5, 7, 2, 0, 1, 3], [3, 1, 0, 2, 7, 5, 4, 6, 13, 12, 10, 8, 9, 11, 14], [14, 11, 9, 8, 10, 12, 13, 6, 4, 5, 7, 2, 0, 1, 3, 15]] [sD 7 (.mv (.t 0)),
 sD 8 (.nilc (.t 7)),
 sD 9 (.fa 0 (.t 8)),
 sD 10 (.ld none (.t 9)),
 sD 11 (.mv (.t 0)),
 sD 12 (.nilc (.t 11)),
 sD 13 (.fa 1 (.t 12)),
 sD 14 (.ld none (.t 13)),
 sD 15 (.mv (.t 0)),
 sD 16 (.nilc (.t 15)),
 sD 17 (.fa 1 (.t 16)),
 sD 18 (.ld none (.t 17)),
 sD 19 (.mv (.t 3)),
 sD 20 (.bin .add .num (.t 18) (.t 19)),
 sD 21 (.sli (.row 1) (.t 10) (some (.t 14)) (some (.t 20)) none),
 sD 22 (.cv none .b2s (.t 21)),
 sD 4 (.mv (.t 22))])
 (.seq (.reg 0 [] [] [sD 23 (.mv (.t 0)),
 sD 24 (.nilc (.t 23)),
 sD 25 (.fa 1 (.t 24)),
 sD 26 (.ld none (.t 25)),
 sD 27 (.mv (.t 3)),
 sD 28 (.bin .add .num (.t 26) (.t 27)),
 sD 29 (.nilc (.t 23)),
 sD 30 (.fa 1 (.t 29)),
 sN (.st 1 (.t 30) (.t 28))])
 (.seq (.reg 0 [] [] [sD 31 (.mv (.t 4)),
 sD 2 (.mv (.t 31))])
 .ret)))))
def fn48 : IFun := ⟨32, [(.tmp 2)], an48.erase⟩
theorem ok48 : okFun Try.prog 48 fn48 = true := by kernel_rfl
theorem oka48 : okA fn48.ntmps fn48.results an48 = true := by kernel_rfl
def sh48 (C : CallA) (r0 : AV) (h : H) (R : AV → H → Prop) : Prop :=
 C 73 [r0] h fun t6 h =>
 valA (nilcA r0) h fun t8 h =>
 valA (faA 0 t8) h fun t9 h =>
 valA (ldA h none t9) h fun t10 h =>
 valA (nilcA r0) h fun t12 h =>
 valA (faA 1 t12) h fun t13 h =>
 valA (ldA h none t13) h fun t14 h =>
 valA (nilcA r0) h fun t16 h =>
 valA (faA 1 t16) h fun t17 h =>
 valA (ldA h none t17) h fun t18 h =>
 valA (binOp .add .num t18 t6) h fun t20 h =>
 valA (sliceOp (.row 1) t10 (some t14) (some t20) none) h fun t21 h =>
 valA (b2sA h t21) h fun t22 h =>
 valA (nilcA r0) h fun t24 h =>
 valA (faA 1 t24) h fun t25 h =>
 valA (ldA h none t25) h fun t26 h =>
 valA (binOp .add .num t26 t6) h fun t28 h =>
 valA (nilcA r0) h fun t29 h =>
 valA (faA 1 t29) h fun t30 h =>
 memA (stA h 1 t30 t28) .undef fun _ h =>
 R t22 h
theorem she48 (C : CallA) (r0 : AV) (h : H) (R : AV → H → Prop) : wpA C an48 (argE [r0]) h (outA [(.tmp 2)] R) = sh48 C r0 h R := by kernel_rfl
/-! bellows/code.some[bellows/api.Func] -/
def an49 : ACode :=
 (.seq (.reg 0 [] [] [sD 4 (.mv (.c .nilsl))])
 (.seq (.reg 0 [] [] [sD 5 (.mv (.c .nilsl))])
 (.seq (.seq (.reg 0 [] [] [sD 6 (.mv (.t 0)),
 sD 7 (.call 73 [(.t 6)]),
 sD 8 (.mv (.c (.int .i64 0)))])
 (.block 0 (.loop [5, 8] 419 (.seq (.reg 0 [] [] [sD 9 (.bin .lss .num (.t 8) (.t 7))])
 (.seq (.cond (.t 9) .skip
 (.exit 0))
 (.seq (.block 1 (.seq (.seq (.reg 0 [] [] [sD 10 (.mv (.t 0)),
 sD 11 (.nilc (.t 10)),
 sD 12 (.fa 2 (.t 11)),
 sD 13 (.ld none (.t 12))])
 (.cond (.t 13) (.seq (.reg 0 [] [] [sD 4 (.mv (.c .nilsl))])
 .ret)
 .skip))
 (.reg 0 [] [] [sD 14 (.mv (.t 5)),
 sD 15 (.mv (.t 1)),
 sD 16 (.callv (.t 15) []),
 sD 17 (.mksl none 51 [.nilsl, (.int .i64 0), (.int .i64 0), .nilsl] 1 [(0, 4, (.t 16))]),
 sD 18 (.app 51 4 64 [.nilsl, (.int .i64 0), (.int .i64 0), .nilsl] (.t 14) (.t 17)),
 sD 5 (.mv (.t 18))])))
 (.reg 0 [] [] [sD 19 (.bin .add .num (.t 8) (.c (.int .i64 1))),
 sD 8 (.mv (.t 19))])))))))
 (.seq (.reg 0 [] [] [sD 20 (.mv (.t 5)),
 sD 4 (.mv (.t 20))])
 .ret))))
def fn49 : IFun := ⟨21, [(.tmp 4)], an49.erase⟩
theorem ok49 : okFun Try.prog 49 fn49 = true := by kernel_rfl
theorem oka49 : okA fn49.ntmps fn49.results an49 = true := by kernel_rfl
def sh49 (C : CallA) (r0 each1 : AV) (h : H) (R : AV → H → Prop) : Prop :=
 joinA (fun (l5' : AV) (h : H) =>
  R l5' h) fun J =>
 C 73 [r0] h fun t7 h =>
 loopA (fun N l h => argA l 0 fun l5 => argA l 1 fun t8 => 
  valA (binOp .lss .num t8 t7) h fun t9 h =>
  condA t9
   (valA (nilcA r0) h fun t11 h =>
  valA (faA 2 t11) h fun t12 h =>
  valA (ldA h none t12) h fun t13 h =>
  condA t13
   (R .nilsl h)
   (callvA C each1 [] h fun t16 h =>
  mkslA h 51 1 (fillV [.nilsl, (.int .i64 0), (.int .i64 0), .nilsl] [(0, 4, t16)]) fun t17 h =>
  appendA h 51 4 64 l5 t17 fun t18 h =>
  valA (binOp .add .num t8 (.int .i64 1)) h fun t19 h =>
  N [t18, t19] h))
   (J l5 h)) [.nilsl, (.int .i64 0)] h
theorem she49 (C : CallA) (r0 each1 : AV) (h : H) (R : AV → H → Prop) : wpA C an49 (argE [r0, each1]) h (outA [(.tmp 4)] R) = sh49 C r0 each1 h R := by kernel_rfl
/-! (*bellows/code.reader).function -/
def an50 : ACode :=
 (.seq (.reg 0 [] [] [sD 2 (.al none 51 [.nilsl, (.int .i64 0), (.int .i64 0), .nilsl])])
 (.seq (.reg 0 [] [] [sD 3 (.mv (.t 0)),
 sD 4 (.call 74 [(.t 3)]),
 sD 5 (.fa 0 (.t 2)),
 sN (.st 1 (.t 5) (.t 4))])
 (.seq (.reg 0 [] [] [sD 6 (.mv (.t 0)),
 sD 7 (.call 51 [(.t 6)]),
 sD 8 (.fa 1 (.t 2)),
 sN (.st 1 (.t 8) (.t 7))])
 (.seq (.reg 0 [] [] [sD 9 (.mv (.t 0)),
 sD 10 (.call 51 [(.t 9)]),
 sD 11 (.fa 2 (.t 2)),
 sN (.st 1 (.t 11) (.t 10))])
 (.seq (.reg 0 [] [] [sD 12 (.mv (.t 0)),
 sD 13 (.mv (.t 0)),
 sD 14 (.mkf 76 [(.t 13)] []),
 sD 15 (.call 75 [(.t 12), (.t 14)]),
 sD 16 (.fa 3 (.t 2)),
 sN (.st 1 (.t 16) (.t 15))])
 (.seq (.reg 0 [] [] [sD 17 (.ld (some 4) (.t 2)),
 sN (.st 4 (.t 2) (.t 17))])
 .ret))))))
def fn50 : IFun := ⟨18, [(.cell 2 (some 4))], an50.erase⟩
theorem ok50 : okFun Try.prog 50 fn50 = true := by kernel_rfl
theorem oka50 : okA fn50.ntmps fn50.results an50 = true := by kernel_rfl
def sh50 (C : CallA) (r0 : AV) (h : H) (R : AV → H → Prop) : Prop :=
 boxA h [.nilsl, (.int .i64 0), (.int .i64 0), .nilsl] 51 fun f2 h =>
 C 74 [r0] h fun t4 h =>
 valA (faA 0 f2) h fun t5 h =>
 memA (stA h 1 t5 t4) .undef fun _ h =>
 C 51 [r0] h fun t7 h =>
 valA (faA 1 f2) h fun t8 h =>
 memA (stA h 1 t8 t7) .undef fun _ h =>
 C 51 [r0] h fun t10 h =>
 valA (faA 2 f2) h fun t11 h =>
 memA (stA h 1 t11 t10) .undef fun _ h =>
 C 75 [r0, (.fn 76 [r0] [])] h fun t15 h =>
 valA (faA 3 f2) h fun t16 h =>
 memA (stA h 1 t16 t15) .undef fun _ h =>
 valA (ldA h (some 4) f2) h fun t17 h =>
 memA (stA h 4 f2 t17) .undef fun _ h =>
 valA (ldA h (some 4) f2) h fun res _ => R res h
theorem she50 (C : CallA) (r0 : AV) (h : H) (R : AV → H → Prop) : wpA C an50 (argE [r0]) h (outA [(.cell 2 (some 4))] R) = sh50 C r0 h R := by kernel_rfl
/-! (*bellows/code.reader).num -/
def an51 : ACode :=
 (.seq (.reg 0 [] [] [sD 2 (.mv (.c (.int .i64 0)))])
 (.seq (.reg 0 [] [] [sD 3 (.mv (.t 0)),
 sD 4 (.call 77 [(.t 3)]),
 sD 2 (.mv (.t 4))])
 .ret))
def fn51 : IFun := ⟨5, [(.tmp 2)], an51.erase⟩
theorem ok51 : okFun Try.prog 51 fn51 = true := by kernel_rfl
theorem oka51 : okA fn51.ntmps fn51.results an51 = true := by kernel_rfl
def sh51 (C : CallA) (r0 : AV) (h : H) (R : AV → H → Prop) : Prop :=
 C 77 [r0] h fun t4 h =>
 R t4 h
theorem she51 (C : CallA) (r0 : AV) (h : H) (R : AV → H → Prop) : wpA C an51 (argE [r0]) h (outA [(.tmp 2)] R) = sh51 C r0 h R := by kernel_rfl
/-! slices.EqualFunc[[]bellows/api.Type,[]bellows/api.Type,bellows/api.Type,bellows/api.Type] -/
def an52 : ACode :=
 (.seq (.reg 0 [] [] [sD 6 (.mv (.c (.bool false)))])
 (.seq (.seq (.reg 0 [] [] [sD 10 (.mv (.t 0)),
 sD 11 (.len false (.t 10)),
 sD 12 (.mv (.t 1)),
 sD 13 (.len false (.t 12)),
 sD 14 (.bin .neq .num (.t 11) (.t 13))])
 (.cond (.t 14) (.seq (.reg 0 [] [] [sD 6 (.mv (.c (.bool false)))])
 .ret)
 .skip))
 (.seq (.seq (.reg 0 [] [] [sD 15 (.mv (.t 0)),
 sD 16 (.len false (.t 15)),
 sD 17 (.mv (.c (.int .i64 0)))])
 (.block 0 (.loop [17] 229382 (.seq (.reg 0 [] [] [sD 18 (.bin .lss .num (.t 17) (.t 16))])
 (.seq (.cond (.t 18) .skip
 (.exit 0))
 (.seq (.block 1 (.seq (.reg 0 [] [] [sD 19 (.mv (.t 17)),
 sD 20 (.ia none 2 (.t 15) (.t 17)),
 sD 21 (.ld (some 2) (.t 20)),
 sD 8 (.al none 53 [(.bool false), .nilsl]),
 sD 7 (.mv (.t 19)),
 sN (.st 2 (.t 8) (.t 21))])
 (.seq (.reg 0 [] [] [sD 22 (.mv (.t 1)),
 sD 23 (.mv (.t 7)),
 sD 24 (.ia none 2 (.t 22) (.t 23)),
 sD 25 (.ld (some 2) (.t 24)),
 sD 9 (.al none 53 [(.bool false), .nilsl]),
 sN (.st 2 (.t 9) (.t 25))])
 (.seq (.reg 0 [] [] [sD 26 (.mv (.t 2)),
 sD 27 (.ld (some 2) (.t 8)),
 sD 28 (.ld (some 2) (.t 9)),
 sD 29 (.callv (.t 26) [(.t 27), (.t 28)]),
 sD 30 (.un .not (.t 29))])
 (.cond (.t 30) (.seq (.reg 0 [] [] [sD 6 (.mv (.c (.bool false)))])
 .ret)
 .skip)))))
 (.reg 0 [] [] [sD 31 (.bin .add .num (.t 17) (.c (.int .i64 1))),
 sD 17 (.mv (.t 31))])))))))
 (.seq (.reg 0 [] [] [sD 6 (.mv (.c (.bool true)))])
 .ret))))
def fn52 : IFun := ⟨32, [(.tmp 6)], an52.erase⟩
theorem ok52 : okFun Try.prog 52 fn52 = true := by kernel_rfl
theorem oka52 : okA fn52.ntmps fn52.results an52 = true := by kernel_rfl
def sh52 (C : CallA) (s10 s21 eq2 : AV) (h : H) (R : AV → H → Prop) : Prop :=
 valA (lenA false s10) h fun t11 h =>
 valA (lenA false s21) h fun t13 h =>
 valA (binOp .neq .num t11 t13) h fun t14 h =>
 condA t14
  (R (.bool false) h)
  (joinA (fun (h : H) =>
  R (.bool true) h) fun J =>
 valA (lenA false s10) h fun t16 h =>
 loopA (fun N l h => argA l 0 fun t17 => 
  valA (binOp .lss .num t17 t16) h fun t18 h =>
  condA t18
   (valA (iaA 2 s10 t17) h fun t20 h =>
  valA (ldA h (some 2) t20) h fun t21 h =>
  boxA h [(.bool false), .nilsl] 53 fun v18 h =>
  memA (stA h 2 v18 t21) .undef fun _ h =>
  valA (iaA 2 s21 t17) h fun t24 h =>
  valA (ldA h (some 2) t24) h fun t25 h =>
  boxA h [(.bool false), .nilsl] 53 fun v29 h =>
  memA (stA h 2 v29 t25) .undef fun _ h =>
  valA (ldA h (some 2) v18) h fun t27 h =>
  valA (ldA h (some 2) v29) h fun t28 h =>
  callvA C eq2 [t27, t28] h fun t29 h =>
  valA (unOp .not t29) h fun t30 h =>
  condA t30
   (R (.bool false) h)
   (valA (binOp .add .num t17 (.int .i64 1)) h fun t31 h =>
  N [t31] h))
   (J h)) [(.int .i64 0)] h)
theorem she52 (C : CallA) (s10 s21 eq2 : AV) (h : H) (R : AV → H → Prop) : wpA C an52 (argE [s10, s21, eq2]) h (outA [(.tmp 6)] R) = sh52 C s10 s21 eq2 h R := by kernel_rfl
/-! bellows/code.Same$1 -/
def an53 : ACode :=
 (.seq (.reg 0 [] [] [sD 2 (.bx none 53 (.t 0)),
 sD 3 (.bx none 53 (.t 1)),
 sD 4 (.mv (.c (.bool false)))])
 (.seq (.reg 0 [] [] [sD 5 (.fa 0 (.t 2)),
 sD 6 (.ld none (.t 5)),
 sD 7 (.fa 0 (.t 3)),
 sD 8 (.ld none (.t 7)),
 sD 9 (.bin .eql .bool (.t 6) (.t 8)),
 sD 10 (.mv (.t 9)),
 sG 11 10 true (.fa 1 (.t 2)),
 sG 12 10 true (.ld none (.t 11)),
 sG 13 10 true (.fa 1 (.t 3)),
 sG 14 10 true (.ld none (.t 13)),
 sG 15 10 true (.call 54 [(.t 12), (.t 14)]),
 sD 16 (.pick (.t 10) (.t 15) (.c (.bool false))),
 sD 4 (.mv (.t 16))])
 .ret))
def fn53 : IFun := ⟨17, [(.tmp 4)], an53.erase⟩
theorem ok53 : okFun Try.prog 53 fn53 = true := by kernel_rfl
theorem oka53 : okA fn53.ntmps fn53.results an53 = true := by kernel_rfl
def sh53 (C : CallA) (x0 y1 : AV) (h : H) (R : AV → H → Prop) : Prop :=
 boxA h (AV.cells x0) 53 fun x2 h =>
 boxA h (AV.cells y1) 53 fun y3 h =>
 valA (faA 0 x2) h fun t5 h =>
 valA (ldA h none t5) h fun t6 h =>
 valA (faA 0 y3) h fun t7 h =>
 valA (ldA h none t7) h fun t8 h =>
 valA (binOp .eql .bool t6 t8) h fun t9 h =>
 whenA t9 true (fun K => valA (faA 1 x2) h K) h fun t11 h =>
 whenA t9 true (fun K => valA (ldA h none t11) h K) h fun t12 h =>
 whenA t9 true (fun K => valA (faA 1 y3) h K) h fun t13 h =>
 whenA t9 true (fun K => valA (ldA h none t13) h K) h fun t14 h =>
 whenA t9 true (fun K => C 54 [t12, t14] h K) h fun t15 h =>
 valA (pickA t9 t15 (.bool false)) h fun t16 h =>
 R t16 h
theorem she53 (C : CallA) (x0 y1 : AV) (h : H) (R : AV → H → Prop) : wpA C an53 (argE [x0, y1]) h (outA [(.tmp 4)] R) = sh53 C x0 y1 h R := by kernel_rfl
/-! slices.Equal[[]int,int] -/
def an54 : ACode :=
 (.seq (.reg 0 [] [] [sD 4 (.mv (.c (.bool false)))])
 (.seq (.seq (.reg 0 [] [] [sD 6 (.mv (.t 0)),
 sD 7 (.len false (.t 6)),
 sD 8 (.mv (.t 1)),
 sD 9 (.len false (.t 8)),
 sD 10 (.bin .neq .num (.t 7) (.t 9))])
 (.cond (.t 10) (.seq (.reg 0 [] [] [sD 4 (.mv (.c (.bool false)))])
 .ret)
 .skip))
 (.seq (.seq (.reg 0 [] [] [sD 11 (.mv (.t 0)),
 sD 12 (.len false (.t 11)),
 sD 13 (.mv (.c (.int .i64 0)))])
 (.block 0 (.loop [13] 12291 (.seq (.reg 0 [] [] [sD 14 (.bin .lss .num (.t 13) (.t 12))])
 (.seq (.cond (.t 14) .skip
 (.exit 0))
 (.seq (.block 1 (.seq (.reg 0 [] [] [sD 15 (.mv (.t 13)),
 sD 5 (.mv (.t 15))])
 (.seq (.reg 0 [0, 1, 2, 3, 4, 5, 6, 7, 8] [[], [], [1, 0], [0, 1, 2], [], [], [5, 4], [4, 5, 6], [6, 5, 4, 7, 2, 1, 0, 3]] [sD 16 (.mv (.t 0)),
 sD 17 (.mv (.t 5)),
 sD 18 (.ia none 1 (.t 16) (.t 17)),
 sD 19 (.ld none (.t 18)),
 sD 20 (.mv (.t 1)),
 sD 21 (.mv (.t 5)),
 sD 22 (.ia none 1 (.t 20) (.t 21)),
 sD 23 (.ld none (.t 22)),
 sD 24 (.bin .neq .num (.t 19) (.t 23))])
 (.cond (.t 24) (.seq (.reg 0 [] [] [sD 4 (.mv (.c (.bool false)))])
 .ret)
 .skip))))
 (.reg 0 [] [] [sD 25 (.bin .add .num (.t 13) (.c (.int .i64 1))),
 sD 13 (.mv (.t 25))])))))))
 (.seq (.reg 0 [] [] [sD 4 (.mv (.c (.bool true)))])
 .ret))))
def fn54 : IFun := ⟨26, [(.tmp 4)], an54.erase⟩
theorem ok54 : okFun Try.prog 54 fn54 = true := by kernel_rfl
theorem oka54 : okA fn54.ntmps fn54.results an54 = true := by kernel_rfl
def sh54 (C : CallA) (s10 s21 : AV) (h : H) (R : AV → H → Prop) : Prop :=
 valA (lenA false s10) h fun t7 h =>
 valA (lenA false s21) h fun t9 h =>
 valA (binOp .neq .num t7 t9) h fun t10 h =>
 condA t10
  (R (.bool false) h)
  (joinA (fun (h : H) =>
  R (.bool true) h) fun J =>
 valA (lenA false s10) h fun t12 h =>
 loopA (fun N l h => argA l 0 fun t13 => 
  valA (binOp .lss .num t13 t12) h fun t14 h =>
  condA t14
   (valA (iaA 1 s10 t13) h fun t18 h =>
  valA (ldA h none t18) h fun t19 h =>
  valA (iaA 1 s21 t13) h fun t22 h =>
  valA (ldA h none t22) h fun t23 h =>
  valA (binOp .neq .num t19 t23) h fun t24 h =>
  condA t24
   (R (.bool false) h)
   (valA (binOp .add .num t13 (.int .i64 1)) h fun t25 h =>
  N [t25] h))
   (J h)) [(.int .i64 0)] h)
theorem she54 (C : CallA) (s10 s21 : AV) (h : H) (R : AV → H → Prop) : wpA C an54 (argE [s10, s21]) h (outA [(.tmp 4)] R) = sh54 C s10 s21 h R := by kernel_rfl
/-! slices.EqualFunc[[]bellows/api.Shape,[]bellows/api.Shape,bellows/api.Shape,bellows/api.Shape] -/
def an55 : ACode :=
 (.seq (.reg 0 [] [] [sD 6 (.mv (.c (.bool false)))])
 (.seq (.seq (.reg 0 [] [] [sD 10 (.mv (.t 0)),
 sD 11 (.len false (.t 10)),
 sD 12 (.mv (.t 1)),
 sD 13 (.len false (.t 12)),
 sD 14 (.bin .neq .num (.t 11) (.t 13))])
 (.cond (.t 14) (.seq (.reg 0 [] [] [sD 6 (.mv (.c (.bool false)))])
 .ret)
 .skip))
 (.seq (.seq (.reg 0 [] [] [sD 15 (.mv (.t 0)),
 sD 16 (.len false (.t 15)),
 sD 17 (.mv (.c (.int .i64 0)))])
 (.block 0 (.loop [17] 229382 (.seq (.reg 0 [] [] [sD 18 (.bin .lss .num (.t 17) (.t 16))])
 (.seq (.cond (.t 18) .skip
 (.exit 0))
 (.seq (.block 1 (.seq (.reg 0 [] [] [sD 19 (.mv (.t 17)),
 sD 20 (.ia none 3 (.t 15) (.t 17)),
 sD 21 (.ld (some 3) (.t 20)),
 sD 8 (.al none 55 [(.int .i64 0), .nilsl, (.str [])]),
 sD 7 (.mv (.t 19)),
 sN (.st 3 (.t 8) (.t 21))])
 (.seq (.reg 0 [] [] [sD 22 (.mv (.t 1)),
 sD 23 (.mv (.t 7)),
 sD 24 (.ia none 3 (.t 22) (.t 23)),
 sD 25 (.ld (some 3) (.t 24)),
 sD 9 (.al none 55 [(.int .i64 0), .nilsl, (.str [])]),
 sN (.st 3 (.t 9) (.t 25))])
 (.seq (.reg 0 [] [] [sD 26 (.mv (.t 2)),
 sD 27 (.ld (some 3) (.t 8)),
 sD 28 (.ld (some 3) (.t 9)),
 sD 29 (.callv (.t 26) [(.t 27), (.t 28)]),
 sD 30 (.un .not (.t 29))])
 (.cond (.t 30) (.seq (.reg 0 [] [] [sD 6 (.mv (.c (.bool false)))])
 .ret)
 .skip)))))
 (.reg 0 [] [] [sD 31 (.bin .add .num (.t 17) (.c (.int .i64 1))),
 sD 17 (.mv (.t 31))])))))))
 (.seq (.reg 0 [] [] [sD 6 (.mv (.c (.bool true)))])
 .ret))))
def fn55 : IFun := ⟨32, [(.tmp 6)], an55.erase⟩
theorem ok55 : okFun Try.prog 55 fn55 = true := by kernel_rfl
theorem oka55 : okA fn55.ntmps fn55.results an55 = true := by kernel_rfl
def sh55 (C : CallA) (s10 s21 eq2 : AV) (h : H) (R : AV → H → Prop) : Prop :=
 valA (lenA false s10) h fun t11 h =>
 valA (lenA false s21) h fun t13 h =>
 valA (binOp .neq .num t11 t13) h fun t14 h =>
 condA t14
  (R (.bool false) h)
  (joinA (fun (h : H) =>
  R (.bool true) h) fun J =>
 valA (lenA false s10) h fun t16 h =>
 loopA (fun N l h => argA l 0 fun t17 => 
  valA (binOp .lss .num t17 t16) h fun t18 h =>
  condA t18
   (valA (iaA 3 s10 t17) h fun t20 h =>
  valA (ldA h (some 3) t20) h fun t21 h =>
  boxA h [(.int .i64 0), .nilsl, (.str [])] 55 fun v18 h =>
  memA (stA h 3 v18 t21) .undef fun _ h =>
  valA (iaA 3 s21 t17) h fun t24 h =>
  valA (ldA h (some 3) t24) h fun t25 h =>
  boxA h [(.int .i64 0), .nilsl, (.str [])] 55 fun v29 h =>
  memA (stA h 3 v29 t25) .undef fun _ h =>
  valA (ldA h (some 3) v18) h fun t27 h =>
  valA (ldA h (some 3) v29) h fun t28 h =>
  callvA C eq2 [t27, t28] h fun t29 h =>
  valA (unOp .not t29) h fun t30 h =>
  condA t30
   (R (.bool false) h)
   (valA (binOp .add .num t17 (.int .i64 1)) h fun t31 h =>
  N [t31] h))
   (J h)) [(.int .i64 0)] h)
theorem she55 (C : CallA) (s10 s21 eq2 : AV) (h : H) (R : AV → H → Prop) : wpA C an55 (argE [s10, s21, eq2]) h (outA [(.tmp 6)] R) = sh55 C s10 s21 eq2 h R := by kernel_rfl
/-! bellows/code.Same$2 -/
def an56 : ACode :=
 (.seq (.reg 0 [] [] [sD 2 (.bx none 55 (.t 0)),
 sD 3 (.bx none 55 (.t 1)),
 sD 4 (.mv (.c (.bool false)))])
 (.seq (.reg 0 [] [] [sD 5 (.fa 0 (.t 2)),
 sD 6 (.ld none (.t 5)),
 sD 7 (.fa 0 (.t 3)),
 sD 8 (.ld none (.t 7)),
 sD 9 (.bin .eql .num (.t 6) (.t 8)),
 sD 10 (.mv (.t 9)),
 sG 11 10 true (.fa 2 (.t 2)),
 sG 12 10 true (.ld none (.t 11)),
 sG 13 10 true (.fa 2 (.t 3)),
 sG 14 10 true (.ld none (.t 13)),
 sG 15 10 true (.bin .eql .num (.t 12) (.t 14)),
 sD 16 (.pick (.t 10) (.t 15) (.c (.bool false))),
 sD 17 (.mv (.t 16)),
 sG 18 17 true (.fa 1 (.t 2)),
 sG 19 17 true (.ld none (.t 18)),
 sG 20 17 true (.fa 1 (.t 3)),
 sG 21 17 true (.ld none (.t 20)),
 sG 22 17 true (.call 54 [(.t 19), (.t 21)]),
 sD 23 (.pick (.t 17) (.t 22) (.c (.bool false))),
 sD 4 (.mv (.t 23))])
 .ret))
def fn56 : IFun := ⟨24, [(.tmp 4)], an56.erase⟩
theorem ok56 : okFun Try.prog 56 fn56 = true := by kernel_rfl
theorem oka56 : okA fn56.ntmps fn56.results an56 = true := by kernel_rfl
def sh56 (C : CallA) (x0 y1 : AV) (h : H) (R : AV → H → Prop) : Prop :=
 boxA h (AV.cells x0) 55 fun x2 h =>
 boxA h (AV.cells y1) 55 fun y3 h =>
 valA (faA 0 x2) h fun t5 h =>
 valA (ldA h none t5) h fun t6 h =>
 valA (faA 0 y3) h fun t7 h =>
 valA (ldA h none t7) h fun t8 h =>
 valA (binOp .eql .num t6 t8) h fun t9 h =>
 whenA t9 true (fun K => valA (faA 2 x2) h K) h fun t11 h =>
 whenA t9 true (fun K => valA (ldA h none t11) h K) h fun t12 h =>
 whenA t9 true (fun K => valA (faA 2 y3) h K) h fun t13 h =>
 whenA t9 true (fun K => valA (ldA h none t13) h K) h fun t14 h =>
 whenA t9 true (fun K => valA (binOp .eql .num t12 t14) h K) h fun t15 h =>
 valA (pickA t9 t15 (.bool false)) h fun t16 h =>
 whenA t16 true (fun K => valA (faA 1 x2) h K) h fun t18 h =>
 whenA t16 true (fun K => valA (ldA h none t18) h K) h fun t19 h =>
 whenA t16 true (fun K => valA (faA 1 y3) h K) h fun t20 h =>
 whenA t16 true (fun K => valA (ldA h none t20) h K) h fun t21 h =>
 whenA t16 true (fun K => C 54 [t19, t21] h K) h fun t22 h =>
 valA (pickA t16 t22 (.bool false)) h fun t23 h =>
 R t23 h
theorem she56 (C : CallA) (x0 y1 : AV) (h : H) (R : AV → H → Prop) : wpA C an56 (argE [x0, y1]) h (outA [(.tmp 4)] R) = sh56 C x0 y1 h R := by kernel_rfl
/-! slices.Equal[[]string,string] -/
def an57 : ACode :=
 (.seq (.reg 0 [] [] [sD 4 (.mv (.c (.bool false)))])
 (.seq (.seq (.reg 0 [] [] [sD 6 (.mv (.t 0)),
 sD 7 (.len false (.t 6)),
 sD 8 (.mv (.t 1)),
 sD 9 (.len false (.t 8)),
 sD 10 (.bin .neq .num (.t 7) (.t 9))])
 (.cond (.t 10) (.seq (.reg 0 [] [] [sD 4 (.mv (.c (.bool false)))])
 .ret)
 .skip))
 (.seq (.seq (.reg 0 [] [] [sD 11 (.mv (.t 0)),
 sD 12 (.len false (.t 11)),
 sD 13 (.mv (.c (.int .i64 0)))])
 (.block 0 (.loop [13] 12291 (.seq (.reg 0 [] [] [sD 14 (.bin .lss .num (.t 13) (.t 12))])
 (.seq (.cond (.t 14) .skip
 (.exit 0))
 (.seq (.block 1 (.seq (.reg 0 [] [] [sD 15 (.mv (.t 13)),
 sD 5 (.mv (.t 15))])
 (.seq (.reg 0 [0, 1, 2, 3, 4, 5, 6, 7, 8] [[], [], [1, 0], [0, 1, 2], [], [], [5, 4], [4, 5, 6], [6, 5, 4, 7, 2, 1, 0, 3]] [sD 16 (.mv (.t 0)),
 sD 17 (.mv (.t 5)),
 sD 18 (.ia none 1 (.t 16) (.t 17)),
 sD 19 (.ld none (.t 18)),
 sD 20 (.mv (.t 1)),
 sD 21 (.mv (.t 5)),
 sD 22 (.ia none 1 (.t 20) (.t 21)),
 sD 23 (.ld none (.t 22)),
 sD 24 (.bin .neq .num (.t 19) (.t 23))])
 (.cond (.t 24) (.seq (.reg 0 [] [] [sD 4 (.mv (.c (.bool false)))])
 .ret)
 .skip))))
 (.reg 0 [] [] [sD 25 (.bin .add .num (.t 13) (.c (.int .i64 1))),
 sD 13 (.mv (.t 25))])))))))
 (.seq (.reg 0 [] [] [sD 4 (.mv (.c (.bool true)))])
 .ret))))
def fn57 : IFun := ⟨26, [(.tmp 4)], an57.erase⟩
theorem ok57 : okFun Try.prog 57 fn57 = true := by kernel_rfl
theorem oka57 : okA fn57.ntmps fn57.results an57 = true := by kernel_rfl
def sh57 (C : CallA) (s10 s21 : AV) (h : H) (R : AV → H → Prop) : Prop :=
 valA (lenA false s10) h fun t7 h =>
 valA (lenA false s21) h fun t9 h =>
 valA (binOp .neq .num t7 t9) h fun t10 h =>
 condA t10
  (R (.bool false) h)
  (joinA (fun (h : H) =>
  R (.bool true) h) fun J =>
 valA (lenA false s10) h fun t12 h =>
 loopA (fun N l h => argA l 0 fun t13 => 
  valA (binOp .lss .num t13 t12) h fun t14 h =>
  condA t14
   (valA (iaA 1 s10 t13) h fun t18 h =>
  valA (ldA h none t18) h fun t19 h =>
  valA (iaA 1 s21 t13) h fun t22 h =>
  valA (ldA h none t22) h fun t23 h =>
  valA (binOp .neq .num t19 t23) h fun t24 h =>
  condA t24
   (R (.bool false) h)
   (valA (binOp .add .num t13 (.int .i64 1)) h fun t25 h =>
  N [t25] h))
   (J h)) [(.int .i64 0)] h)
theorem she57 (C : CallA) (s10 s21 : AV) (h : H) (R : AV → H → Prop) : wpA C an57 (argE [s10, s21]) h (outA [(.tmp 4)] R) = sh57 C s10 s21 h R := by kernel_rfl
/-! slices.EqualFunc[[]bellows/api.Func,[]bellows/api.Func,bellows/api.Func,bellows/api.Func] -/
def an58 : ACode :=
 (.seq (.reg 0 [] [] [sD 6 (.mv (.c (.bool false)))])
 (.seq (.seq (.reg 0 [] [] [sD 10 (.mv (.t 0)),
 sD 11 (.len false (.t 10)),
 sD 12 (.mv (.t 1)),
 sD 13 (.len false (.t 12)),
 sD 14 (.bin .neq .num (.t 11) (.t 13))])
 (.cond (.t 14) (.seq (.reg 0 [] [] [sD 6 (.mv (.c (.bool false)))])
 .ret)
 .skip))
 (.seq (.seq (.reg 0 [] [] [sD 15 (.mv (.t 0)),
 sD 16 (.len false (.t 15)),
 sD 17 (.mv (.c (.int .i64 0)))])
 (.block 0 (.loop [17] 229382 (.seq (.reg 0 [] [] [sD 18 (.bin .lss .num (.t 17) (.t 16))])
 (.seq (.cond (.t 18) .skip
 (.exit 0))
 (.seq (.block 1 (.seq (.reg 0 [] [] [sD 19 (.mv (.t 17)),
 sD 20 (.ia none 4 (.t 15) (.t 17)),
 sD 21 (.ld (some 4) (.t 20)),
 sD 8 (.al none 51 [.nilsl, (.int .i64 0), (.int .i64 0), .nilsl]),
 sD 7 (.mv (.t 19)),
 sN (.st 4 (.t 8) (.t 21))])
 (.seq (.reg 0 [] [] [sD 22 (.mv (.t 1)),
 sD 23 (.mv (.t 7)),
 sD 24 (.ia none 4 (.t 22) (.t 23)),
 sD 25 (.ld (some 4) (.t 24)),
 sD 9 (.al none 51 [.nilsl, (.int .i64 0), (.int .i64 0), .nilsl]),
 sN (.st 4 (.t 9) (.t 25))])
 (.seq (.reg 0 [] [] [sD 26 (.mv (.t 2)),
 sD 27 (.ld (some 4) (.t 8)),
 sD 28 (.ld (some 4) (.t 9)),
 sD 29 (.callv (.t 26) [(.t 27), (.t 28)]),
 sD 30 (.un .not (.t 29))])
 (.cond (.t 30) (.seq (.reg 0 [] [] [sD 6 (.mv (.c (.bool false)))])
 .ret)
 .skip)))))
 (.reg 0 [] [] [sD 31 (.bin .add .num (.t 17) (.c (.int .i64 1))),
 sD 17 (.mv (.t 31))])))))))
 (.seq (.reg 0 [] [] [sD 6 (.mv (.c (.bool true)))])
 .ret))))
def fn58 : IFun := ⟨32, [(.tmp 6)], an58.erase⟩
theorem ok58 : okFun Try.prog 58 fn58 = true := by kernel_rfl
theorem oka58 : okA fn58.ntmps fn58.results an58 = true := by kernel_rfl
def sh58 (C : CallA) (s10 s21 eq2 : AV) (h : H) (R : AV → H → Prop) : Prop :=
 valA (lenA false s10) h fun t11 h =>
 valA (lenA false s21) h fun t13 h =>
 valA (binOp .neq .num t11 t13) h fun t14 h =>
 condA t14
  (R (.bool false) h)
  (joinA (fun (h : H) =>
  R (.bool true) h) fun J =>
 valA (lenA false s10) h fun t16 h =>
 loopA (fun N l h => argA l 0 fun t17 => 
  valA (binOp .lss .num t17 t16) h fun t18 h =>
  condA t18
   (valA (iaA 4 s10 t17) h fun t20 h =>
  valA (ldA h (some 4) t20) h fun t21 h =>
  boxA h [.nilsl, (.int .i64 0), (.int .i64 0), .nilsl] 51 fun v18 h =>
  memA (stA h 4 v18 t21) .undef fun _ h =>
  valA (iaA 4 s21 t17) h fun t24 h =>
  valA (ldA h (some 4) t24) h fun t25 h =>
  boxA h [.nilsl, (.int .i64 0), (.int .i64 0), .nilsl] 51 fun v29 h =>
  memA (stA h 4 v29 t25) .undef fun _ h =>
  valA (ldA h (some 4) v18) h fun t27 h =>
  valA (ldA h (some 4) v29) h fun t28 h =>
  callvA C eq2 [t27, t28] h fun t29 h =>
  valA (unOp .not t29) h fun t30 h =>
  condA t30
   (R (.bool false) h)
   (valA (binOp .add .num t17 (.int .i64 1)) h fun t31 h =>
  N [t31] h))
   (J h)) [(.int .i64 0)] h)
theorem she58 (C : CallA) (s10 s21 eq2 : AV) (h : H) (R : AV → H → Prop) : wpA C an58 (argE [s10, s21, eq2]) h (outA [(.tmp 6)] R) = sh58 C s10 s21 eq2 h R := by kernel_rfl
/-! bellows/code.alike -/
def an59 : ACode :=
 (.seq (.reg 0 [] [] [sD 2 (.bx none 51 (.t 0)),
 sD 3 (.bx none 51 (.t 1)),
 sD 4 (.mv (.c (.bool false)))])
 (.seq (.reg 0 [] [] [sD 5 (.fa 0 (.t 2)),
 sD 6 (.ld none (.t 5)),
 sD 7 (.fa 0 (.t 3)),
 sD 8 (.ld none (.t 7)),
 sD 9 (.call 54 [(.t 6), (.t 8)]),
 sD 10 (.mv (.t 9)),
 sG 11 10 true (.fa 1 (.t 2)),
 sG 12 10 true (.ld none (.t 11)),
 sG 13 10 true (.fa 1 (.t 3)),
 sG 14 10 true (.ld none (.t 13)),
 sG 15 10 true (.bin .eql .num (.t 12) (.t 14)),
 sD 16 (.pick (.t 10) (.t 15) (.c (.bool false))),
 sD 17 (.mv (.t 16)),
 sG 18 17 true (.fa 2 (.t 2)),
 sG 19 17 true (.ld none (.t 18)),
 sG 20 17 true (.fa 2 (.t 3)),
 sG 21 17 true (.ld none (.t 20)),
 sG 22 17 true (.bin .eql .num (.t 19) (.t 21)),
 sD 23 (.pick (.t 17) (.t 22) (.c (.bool false))),
 sD 24 (.mv (.t 23)),
 sG 25 24 true (.fa 3 (.t 2)),
 sG 26 24 true (.ld none (.t 25)),
 sG 27 24 true (.fa 3 (.t 3)),
 sG 28 24 true (.ld none (.t 27)),
 sG 29 24 true (.call 78 [(.t 26), (.t 28), (.c (.fn 79 [] []))]),
 sD 30 (.pick (.t 24) (.t 29) (.c (.bool false))),
 sD 4 (.mv (.t 30))])
 .ret))
def fn59 : IFun := ⟨31, [(.tmp 4)], an59.erase⟩
theorem ok59 : okFun Try.prog 59 fn59 = true := by kernel_rfl
theorem oka59 : okA fn59.ntmps fn59.results an59 = true := by kernel_rfl
def sh59 (C : CallA) (f0 g1 : AV) (h : H) (R : AV → H → Prop) : Prop :=
 boxA h (AV.cells f0) 51 fun f2 h =>
 boxA h (AV.cells g1) 51 fun g3 h =>
 valA (faA 0 f2) h fun t5 h =>
 valA (ldA h none t5) h fun t6 h =>
 valA (faA 0 g3) h fun t7 h =>
 valA (ldA h none t7) h fun t8 h =>
 C 54 [t6, t8] h fun t9 h =>
 whenA t9 true (fun K => valA (faA 1 f2) h K) h fun t11 h =>
 whenA t9 true (fun K => valA (ldA h none t11) h K) h fun t12 h =>
 whenA t9 true (fun K => valA (faA 1 g3) h K) h fun t13 h =>
 whenA t9 true (fun K => valA (ldA h none t13) h K) h fun t14 h =>
 whenA t9 true (fun K => valA (binOp .eql .num t12 t14) h K) h fun t15 h =>
 valA (pickA t9 t15 (.bool false)) h fun t16 h =>
 whenA t16 true (fun K => valA (faA 2 f2) h K) h fun t18 h =>
 whenA t16 true (fun K => valA (ldA h none t18) h K) h fun t19 h =>
 whenA t16 true (fun K => valA (faA 2 g3) h K) h fun t20 h =>
 whenA t16 true (fun K => valA (ldA h none t20) h K) h fun t21 h =>
 whenA t16 true (fun K => valA (binOp .eql .num t19 t21) h K) h fun t22 h =>
 valA (pickA t16 t22 (.bool false)) h fun t23 h =>
 whenA t23 true (fun K => valA (faA 3 f2) h K) h fun t25 h =>
 whenA t23 true (fun K => valA (ldA h none t25) h K) h fun t26 h =>
 whenA t23 true (fun K => valA (faA 3 g3) h K) h fun t27 h =>
 whenA t23 true (fun K => valA (ldA h none t27) h K) h fun t28 h =>
 whenA t23 true (fun K => C 78 [t26, t28, (.fn 79 [] [])] h K) h fun t29 h =>
 valA (pickA t23 t29 (.bool false)) h fun t30 h =>
 R t30 h
theorem she59 (C : CallA) (f0 g1 : AV) (h : H) (R : AV → H → Prop) : wpA C an59 (argE [f0, g1]) h (outA [(.tmp 4)] R) = sh59 C f0 g1 h R := by kernel_rfl
/-! (*bellows/code.writer).nums -/
def an60 : ACode :=
 (.reg 0 [] [] [sD 4 (.mv (.t 0)),
 sD 5 (.mv (.t 1)),
 sD 6 (.mv (.t 0)),
 sD 7 (.mkf 34 [(.t 6)] []),
 sD 8 (.call 82 [(.t 4), (.t 5), (.t 7)])])
def fn60 : IFun := ⟨9, [], an60.erase⟩
theorem ok60 : okFun Try.prog 60 fn60 = true := by kernel_rfl
theorem oka60 : okA fn60.ntmps fn60.results an60 = true := by kernel_rfl
def sh60 (C : CallA) (w0 l1 : AV) (h : H) (R : AV → H → Prop) : Prop :=
 C 82 [w0, l1, (.fn 34 [w0] [])] h fun t8 h =>
 R (.tup []) h
theorem she60 (C : CallA) (w0 l1 : AV) (h : H) (R : AV → H → Prop) : wpA C an60 (argE [w0, l1]) h (outA [] R) = sh60 C w0 l1 h R := by kernel_rfl
/-! bellows/code.many[bellows/api.Block] -/
def an61 : ACode :=
 (.seq (.reg 0 [] [] [sD 8 (.mv (.t 0)),
 sD 9 (.mv (.t 1)),
 sD 10 (.len false (.t 9)),
 sD 11 (.call 34 [(.t 8), (.t 10)])])
 (.seq (.reg 0 [] [] [sD 12 (.mv (.t 1)),
 sD 13 (.len false (.t 12)),
 sD 14 (.mv (.c (.int .i64 0)))])
 (.block 0 (.loop [14] 28676 (.seq (.reg 0 [] [] [sD 15 (.bin .lss .num (.t 14) (.t 13))])
 (.seq (.cond (.t 15) .skip
 (.exit 0))
 (.seq (.block 1 (.seq (.reg 0 [] [] [sD 16 (.ia none 2 (.t 12) (.t 14)),
 sD 17 (.ld (some 2) (.t 16)),
 sD 7 (.al none 58 [.nilsl, .nilsl]),
 sN (.st 2 (.t 7) (.t 17))])
 (.reg 0 [] [] [sD 18 (.mv (.t 2)),
 sD 19 (.ld (some 2) (.t 7)),
 sD 20 (.callv (.t 18) [(.t 19)])])))
 (.reg 0 [] [] [sD 21 (.bin .add .num (.t 14) (.c (.int .i64 1))),
 sD 14 (.mv (.t 21))]))))))))
def fn61 : IFun := ⟨22, [], an61.erase⟩
theorem ok61 : okFun Try.prog 61 fn61 = true := by kernel_rfl
theorem oka61 : okA fn61.ntmps fn61.results an61 = true := by kernel_rfl
def sh61 (C : CallA) (w0 l1 each2 : AV) (h : H) (R : AV → H → Prop) : Prop :=
 valA (lenA false l1) h fun t10 h =>
 C 34 [w0, t10] h fun t11 h =>
 valA (lenA false l1) h fun t13 h =>
 loopA (fun N l h => argA l 0 fun t14 => 
  valA (binOp .lss .num t14 t13) h fun t15 h =>
  condA t15
   (valA (iaA 2 l1 t14) h fun t16 h =>
  valA (ldA h (some 2) t16) h fun t17 h =>
  boxA h [.nilsl, .nilsl] 58 fun x7 h =>
  memA (stA h 2 x7 t17) .undef fun _ h =>
  valA (ldA h (some 2) x7) h fun t19 h =>
  callvA C each2 [t19] h fun t20 h =>
  valA (binOp .add .num t14 (.int .i64 1)) h fun t21 h =>
  N [t21] h)
   (R (.tup []) h)) [(.int .i64 0)] h
theorem she61 (C : CallA) (w0 l1 each2 : AV) (h : H) (R : AV → H → Prop) : wpA C an61 (argE [w0, l1, each2]) h (outA [] R) = sh61 C w0 l1 each2 h R := by kernel_rfl
/-! (*bellows/code.writer).block -/
def an62 : ACode :=
 (.seq (.reg 0 [] [] [sD 3 (.bx none 58 (.t 1))])
 (.seq (.reg 0 [] [] [sD 4 (.mv (.t 0)),
 sD 5 (.fa 0 (.t 3)),
 sD 6 (.ld none (.t 5)),
 sD 7 (.call 60 [(.t 4), (.t 6)])])
 (.reg 0 [] [] [sD 8 (.mv (.t 0)),
 sD 9 (.fa 1 (.t 3)),
 sD 10 (.ld none (.t 9)),
 sD 11 (.mv (.t 0)),
 sD 12 (.mkf 84 [(.t 11)] []),
 sD 13 (.call 83 [(.t 8), (.t 10), (.t 12)])])))
def fn62 : IFun := ⟨14, [], an62.erase⟩
theorem ok62 : okFun Try.prog 62 fn62 = true := by kernel_rfl
theorem oka62 : okA fn62.ntmps fn62.results an62 = true := by kernel_rfl
def sh62 (C : CallA) (w0 b1 : AV) (h : H) (R : AV → H → Prop) : Prop :=
 boxA h (AV.cells b1) 58 fun b3 h =>
 valA (faA 0 b3) h fun t5 h =>
 valA (ldA h none t5) h fun t6 h =>
 C 60 [w0, t6] h fun t7 h =>
 valA (faA 1 b3) h fun t9 h =>
 valA (ldA h none t9) h fun t10 h =>
 C 83 [w0, t10, (.fn 84 [w0] [])] h fun t13 h =>
 R (.tup []) h
theorem she62 (C : CallA) (w0 b1 : AV) (h : H) (R : AV → H → Prop) : wpA C an62 (argE [w0, b1]) h (outA [] R) = sh62 C w0 b1 h R := by kernel_rfl
/-! bellows/word.Put -/
def an63 : ACode :=
 (.seq (.reg 0 [] [] [sD 2 (.mv (.c .nilsl))])
 (.seq (.reg 0 [] [] [sD 5 (.mv (.t 0)),
 sD 6 (.cv none (.toInt .u64) (.t 5)),
 sD 7 (.bin .shl .num (.t 6) (.c (.int .u64 1))),
 sD 3 (.mv (.t 7))])
 (.seq (.seq (.reg 0 [] [] [sD 8 (.mv (.t 0)),
 sD 9 (.bin .lss .num (.t 8) (.c (.int .i64 0)))])
 (.cond (.t 9) (.reg 0 [] [] [sD 10 (.mv (.t 3)),
 sD 11 (.un .xor (.t 10)),
 sD 3 (.mv (.t 11))])
 .skip))
 (.seq (.reg 0 [] [] [sD 4 (.mv (.c .nilsl))])
 (.seq (.block 0 (.loop [3, 4] 24 (.seq (.seq (.reg 0 [] [] [sD 12 (.mv (.t 3)),
 sD 13 (.bin .geq .num (.t 12) (.c (.int .u64 128)))])
 (.cond (.t 13) .skip
 (.exit 0)))
 (.seq (.block 1 (.reg 0 [] [] [sD 16 (.mv (.t 4)),
 sD 17 (.mv (.t 3)),
 sD 18 (.cv none (.toInt .u8) (.t 17)),
 sD 19 (.bin .or .num (.t 18) (.c (.int .u8 128))),
 sD 20 (.mksl none 5 [(.int .u8 0)] 1 [(0, 1, (.t 19))]),
 sD 21 (.app 5 1 1 [(.int .u8 0)] (.t 16) (.t 20)),
 sD 4 (.mv (.t 21))]))
 (.reg 0 [] [] [sD 14 (.mv (.t 3)),
 sD 15 (.bin .shr .num (.t 14) (.c (.int .u64 7))),
 sD 3 (.mv (.t 15))])))))
 (.seq (.reg 0 [] [] [sD 22 (.mv (.t 4)),
 sD 23 (.mv (.t 3)),
 sD 24 (.cv none (.toInt .u8) (.t 23)),
 sD 25 (.mksl none 5 [(.int .u8 0)] 1 [(0, 1, (.t 24))]),
 sD 26 (.app 5 1 1 [(.int .u8 0)] (.t 22) (.t 25)),
 sD 2 (.mv (.t 26))])
 .ret))))))
def fn63 : IFun := ⟨27, [(.tmp 2)], an63.erase⟩
theorem ok63 : okFun Try.prog 63 fn63 = true := by kernel_rfl
theorem oka63 : okA fn63.ntmps fn63.results an63 = true := by kernel_rfl
def sh63 (C : CallA) (n0 : AV) (h : H) (R : AV → H → Prop) : Prop :=
 valA (cvA .u64 n0) h fun t6 h =>
 valA (binOp .shl .num t6 (.int .u64 1)) h fun t7 h =>
 joinA (fun (x3' : AV) (h : H) =>
  joinA (fun (x3'_0 : AV) (out4' : AV) (h : H) =>
   valA (cvA .u8 x3'_0) h fun t24 h =>
   mkslA h 5 1 (fillV [(.int .u8 0)] [(0, 1, t24)]) fun t25 h =>
   appendA h 5 1 1 out4' t25 fun t26 h =>
   R t26 h) fun J =>
  loopA (fun N l h => argA l 0 fun x3 => argA l 1 fun out4 => 
   valA (binOp .geq .num x3 (.int .u64 128)) h fun t13 h =>
   condA t13
    (valA (cvA .u8 x3) h fun t18 h =>
   valA (binOp .or .num t18 (.int .u8 128)) h fun t19 h =>
   mkslA h 5 1 (fillV [(.int .u8 0)] [(0, 1, t19)]) fun t20 h =>
   appendA h 5 1 1 out4 t20 fun t21 h =>
   valA (binOp .shr .num x3 (.int .u64 7)) h fun t15 h =>
   N [t15, t21] h)
    (J x3 out4 h)) [x3', .nilsl] h) fun J_1 =>
 valA (binOp .lss .num n0 (.int .i64 0)) h fun t9 h =>
 condA t9
  (valA (unOp .xor t7) h fun t11 h =>
  J_1 t11 h)
  (J_1 t7 h)
theorem she63 (C : CallA) (n0 : AV) (h : H) (R : AV → H → Prop) : wpA C an63 (argE [n0]) h (outA [(.tmp 2)] R) = sh63 C n0 h R := by kernel_rfl
/-! bellows/code.over[bellows/api.Type] -/
def an64 : ACode :=
 (.seq (.reg 0 [] [] [sD 2 (.bx none 3 (.t 0)),
 sD 4 (.mv (.c (.bool false)))])
 (.seq (.reg 0 [] [] [sD 5 (.mv (.t 1)),
 sD 6 (.mkf 86 [] [(.t 2)]),
 sD 7 (.call 85 [(.t 5), (.t 6)]),
 sD 4 (.mv (.t 7))])
 .ret))
def fn64 : IFun := ⟨8, [(.tmp 4)], an64.erase⟩
theorem ok64 : okFun Try.prog 64 fn64 = true := by kernel_rfl
theorem oka64 : okA fn64.ntmps fn64.results an64 = true := by kernel_rfl
def sh64 (C : CallA) (most0 lists1 : AV) (h : H) (R : AV → H → Prop) : Prop :=
 boxA h (AV.cells most0) 3 fun most2 h =>
 C 85 [lists1, (.fn 86 [] [most2])] h fun t7 h =>
 R t7 h
theorem she64 (C : CallA) (most0 lists1 : AV) (h : H) (R : AV → H → Prop) : wpA C an64 (argE [most0, lists1]) h (outA [(.tmp 4)] R) = sh64 C most0 lists1 h R := by kernel_rfl
/-! bellows/code.over[bellows/api.Shape] -/
def an65 : ACode :=
 (.seq (.reg 0 [] [] [sD 2 (.bx none 3 (.t 0)),
 sD 4 (.mv (.c (.bool false)))])
 (.seq (.reg 0 [] [] [sD 5 (.mv (.t 1)),
 sD 6 (.mkf 88 [] [(.t 2)]),
 sD 7 (.call 87 [(.t 5), (.t 6)]),
 sD 4 (.mv (.t 7))])
 .ret))
def fn65 : IFun := ⟨8, [(.tmp 4)], an65.erase⟩
theorem ok65 : okFun Try.prog 65 fn65 = true := by kernel_rfl
theorem oka65 : okA fn65.ntmps fn65.results an65 = true := by kernel_rfl
def sh65 (C : CallA) (most0 lists1 : AV) (h : H) (R : AV → H → Prop) : Prop :=
 boxA h (AV.cells most0) 3 fun most2 h =>
 C 87 [lists1, (.fn 88 [] [most2])] h fun t7 h =>
 R t7 h
theorem she65 (C : CallA) (most0 lists1 : AV) (h : H) (R : AV → H → Prop) : wpA C an65 (argE [most0, lists1]) h (outA [(.tmp 4)] R) = sh65 C most0 lists1 h R := by kernel_rfl
/-! bellows/code.over[string] -/
def an66 : ACode :=
 (.seq (.reg 0 [] [] [sD 2 (.bx none 3 (.t 0)),
 sD 4 (.mv (.c (.bool false)))])
 (.seq (.reg 0 [] [] [sD 5 (.mv (.t 1)),
 sD 6 (.mkf 90 [] [(.t 2)]),
 sD 7 (.call 89 [(.t 5), (.t 6)]),
 sD 4 (.mv (.t 7))])
 .ret))
def fn66 : IFun := ⟨8, [(.tmp 4)], an66.erase⟩
theorem ok66 : okFun Try.prog 66 fn66 = true := by kernel_rfl
theorem oka66 : okA fn66.ntmps fn66.results an66 = true := by kernel_rfl
def sh66 (C : CallA) (most0 lists1 : AV) (h : H) (R : AV → H → Prop) : Prop :=
 boxA h (AV.cells most0) 3 fun most2 h =>
 C 89 [lists1, (.fn 90 [] [most2])] h fun t7 h =>
 R t7 h
theorem she66 (C : CallA) (most0 lists1 : AV) (h : H) (R : AV → H → Prop) : wpA C an66 (argE [most0, lists1]) h (outA [(.tmp 4)] R) = sh66 C most0 lists1 h R := by kernel_rfl
/-! bellows/code.over[bellows/api.Func] -/
def an67 : ACode :=
 (.seq (.reg 0 [] [] [sD 2 (.bx none 3 (.t 0)),
 sD 4 (.mv (.c (.bool false)))])
 (.seq (.reg 0 [] [] [sD 5 (.mv (.t 1)),
 sD 6 (.mkf 92 [] [(.t 2)]),
 sD 7 (.call 91 [(.t 5), (.t 6)]),
 sD 4 (.mv (.t 7))])
 .ret))
def fn67 : IFun := ⟨8, [(.tmp 4)], an67.erase⟩
theorem ok67 : okFun Try.prog 67 fn67 = true := by kernel_rfl
theorem oka67 : okA fn67.ntmps fn67.results an67 = true := by kernel_rfl
def sh67 (C : CallA) (most0 lists1 : AV) (h : H) (R : AV → H → Prop) : Prop :=
 boxA h (AV.cells most0) 3 fun most2 h =>
 C 91 [lists1, (.fn 92 [] [most2])] h fun t7 h =>
 R t7 h
theorem she67 (C : CallA) (most0 lists1 : AV) (h : H) (R : AV → H → Prop) : wpA C an67 (argE [most0, lists1]) h (outA [(.tmp 4)] R) = sh67 C most0 lists1 h R := by kernel_rfl
/-! bellows/code.wide -/
def an68 : ACode :=
 (.seq (.reg 0 [] [] [sD 2 (.mv (.c (.bool false)))])
 (.seq (.reg 0 [] [] [sD 3 (.mv (.t 0)),
 sD 4 (.call 93 [(.t 3), (.c (.fn 94 [] []))]),
 sD 2 (.mv (.t 4))])
 .ret))
def fn68 : IFun := ⟨5, [(.tmp 2)], an68.erase⟩
theorem ok68 : okFun Try.prog 68 fn68 = true := by kernel_rfl
theorem oka68 : okA fn68.ntmps fn68.results an68 = true := by kernel_rfl
def sh68 (C : CallA) (texts0 : AV) (h : H) (R : AV → H → Prop) : Prop :=
 C 93 [texts0, (.fn 94 [] [])] h fun t4 h =>
 R t4 h
theorem she68 (C : CallA) (texts0 : AV) (h : H) (R : AV → H → Prop) : wpA C an68 (argE [texts0]) h (outA [(.tmp 2)] R) = sh68 C texts0 h R := by kernel_rfl
end Go.Proofs.Ytgcnliikibbcnaa.X
