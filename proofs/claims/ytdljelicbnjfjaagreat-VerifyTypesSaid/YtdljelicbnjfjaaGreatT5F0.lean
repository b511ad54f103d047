/- The plain programs of functions, printed; that they are the model's; what must hold ahead of each. -/
import Derived.Test.YtdljelicbnjfjaaGreatProg
import Derived.Test.YtdljelicbnjfjaaGreatXo
set_option maxRecDepth 100000
set_option linter.unusedVariables false
namespace Go.Proofs.YtdljelicbnjfjaaGreat.X
open Go
/-! bellows/bellowslaw05.VerifyTypes -/
def an5 : ACode :=
 (.seq (.reg 0 [] [] [sD 2 (.bx none 46 (.t 0)),
 sD 3 (.bx none 46 (.t 1)),
 sD 4 (.mv (.c (.bool false)))])
 (.seq (.reg 0 [0, 2, 1, 3, 4, 5] [[], [0], [], [0, 1, 2], [2, 3, 0, 1], [4, 2, 1, 0, 3]] [sD 7 (.ld (some 2) (.t 2)),
 sD 9 (.ld (some 2) (.t 3)),
 ⟨(some 8), none, (.call 20 [(.t 7)]), [⟨none, (.ld (some 2) (.t 3)), 9⟩]⟩,
 sD 10 (.call 20 [(.t 9)]),
 sN (.st 2 (.t 2) (.t 8)),
 sN (.st 2 (.t 3) (.t 10))])
 (.seq (.reg 2 [0, 1, 3, 4, 2, 5, 6, 7, 8, 9] [[], [], [1, 0], [], [], [0, 1, 2, 4, 3], [], [], [7, 3, 4, 5, 0, 1, 2, 6], [6, 8, 3, 4, 2, 1, 0, 5, 7]] [sD 11 (.ld (some 2) (.t 2)),
 sD 12 (.ld (some 2) (.t 3)),
 sD 14 (.ld (some 2) (.t 2)),
 sD 15 (.ld (some 2) (.t 3)),
 ⟨(some 13), none, (.call 21 [(.t 11), (.t 12)]), [⟨none, (.ld (some 2) (.t 2)), 14⟩, ⟨none, (.ld (some 2) (.t 3)), 15⟩]⟩,
 sD 16 (.call 22 [(.t 14), (.t 15)]),
 sD 5 (.al (some 0) 46 [(.bool false), .nilsl]),
 sD 6 (.al (some 1) 46 [(.bool false), .nilsl]),
 sN (.st 2 (.t 5) (.t 13)),
 sN (.st 2 (.t 6) (.t 16))])
 (.seq (.reg 0 [0, 1, 3, 4, 2, 5, 6, 7, 8, 9, 10, 11, 12, 13, 14, 15, 16, 17, 18, 19, 20, 21, 22, 23, 24] [[], [], [1, 0], [], [], [0, 1, 2, 4, 3], [3, 4, 5, 0, 1, 2], [2, 1, 0, 5, 4, 3, 6], [6, 3, 4, 5, 0, 1, 2, 7], [7, 2, 1, 0, 5, 4, 3, 6, 8], [6, 3, 4, 5, 0, 1, 2, 7], [7, 2, 1, 0, 5, 4, 3, 6, 10], [10, 11, 8, 6, 3, 4, 5, 0, 1, 2, 7, 9], [9, 8, 11, 10, 12, 6, 3, 4, 5, 0, 1, 2, 7], [7, 2, 1, 0, 5, 4, 3, 6, 12, 10, 11, 8, 9, 13], [13, 9, 8, 11, 10, 12, 6, 3, 4, 5, 0, 1, 2, 7, 14], [14, 7, 2, 1, 0, 5, 4, 3, 6, 12, 10, 11, 8, 9, 13, 15], [13, 9, 8, 11, 10, 12, 6, 3, 4, 5, 0, 1, 2, 7, 14], [14, 7, 2, 1, 0, 5, 4, 3, 6, 12, 10, 11, 8, 9, 13, 17], [17, 18, 15, 13, 9, 8, 11, 10, 12, 6, 3, 4, 5, 0, 1, 2, 7, 14, 16], [16, 15, 18, 17, 19, 13, 9, 8, 11, 10, 12, 6, 3, 4, 5, 0, 1, 2, 7, 14], [14, 7, 2, 1, 0, 5, 4, 3, 6, 12, 10, 11, 8, 9, 13, 19, 17, 18, 15, 16, 20], [20, 16, 15, 18, 17, 19, 13, 9, 8, 11, 10, 12, 6, 3, 4, 5, 0, 1, 2, 7, 14, 21], [22, 20, 16, 15, 18, 17, 19, 13, 9, 8, 11, 10, 12, 6, 3, 4, 5, 0, 1, 2, 7, 14, 21], [21, 14, 7, 2, 1, 0, 5, 4, 3, 6, 12, 10, 11, 8, 9, 13, 19, 17, 18, 15, 16, 20, 22, 23]] [sD 17 (.ld (some 2) (.t 2)),
 sD 18 (.ld (some 2) (.t 3)),
 sD 20 (.ld (some 2) (.t 2)),
 sD 21 (.ld (some 2) (.t 3)),
 ⟨(some 19), none, (.call 23 [(.t 17), (.t 18)]), [⟨none, (.ld (some 2) (.t 2)), 20⟩, ⟨none, (.ld (some 2) (.t 3)), 21⟩]⟩,
 sD 22 (.call 24 [(.t 20), (.t 21)]),
 sD 23 (.bin .eql .bool (.t 19) (.t 22)),
 sD 24 (.mv (.t 23)),
 sG 25 24 true (.fa 0 (.t 5)),
 sG 26 24 true (.ld none (.t 25)),
 sG 27 24 true (.fa 0 (.t 6)),
 sG 28 24 true (.ld none (.t 27)),
 sG 29 24 true (.bin .eql .bool (.t 26) (.t 28)),
 sD 30 (.pick (.t 24) (.t 29) (.c (.bool false))),
 sD 31 (.mv (.t 30)),
 sG 32 31 true (.fa 1 (.t 5)),
 sG 33 31 true (.ld none (.t 32)),
 sG 34 31 true (.fa 1 (.t 6)),
 sG 35 31 true (.ld none (.t 34)),
 sG 36 31 true (.call 25 [(.t 33), (.t 35)]),
 sD 37 (.pick (.t 31) (.t 36) (.c (.bool false))),
 sD 38 (.mv (.t 37)),
 sG 39 38 true (.call 26 []),
 sD 40 (.pick (.t 38) (.t 39) (.c (.bool false))),
 sD 4 (.mv (.t 40))])
 .ret))))
def fn5 : IFun := ⟨41, [(.tmp 4)], an5.erase⟩
theorem ok5 : okFun Tryz.prog 5 fn5 = true := by kernel_rfl
theorem oka5 : okA fn5.ntmps fn5.results an5 = true := by kernel_rfl
def sh5 (C : CallA) (a0 b1 : AV) (h : H) (R : AV → H → Prop) : Prop :=
 boxA h (AV.cells a0) 46 fun a2 h =>
 boxA h (AV.cells b1) 46 fun b3 h =>
 valA (ldA h (some 2) a2) h fun t7 h =>
 valA (ldA h (some 2) b3) h fun t9 h =>
 C 20 [t7] h fun t8 h =>
 againK (valA (ldA h (some 2) b3) h (fun v _ => v = t9)) <|
 C 20 [t9] h fun t10 h =>
 memA (stA h 2 a2 t8) .undef fun _ h =>
 memA (stA h 2 b3 t10) .undef fun _ h =>
 valA (ldA h (some 2) a2) h fun t11 h =>
 valA (ldA h (some 2) b3) h fun t12 h =>
 valA (ldA h (some 2) a2) h fun t14 h =>
 valA (ldA h (some 2) b3) h fun t15 h =>
 C 21 [t11, t12] h fun t13 h =>
 againK (valA (ldA h (some 2) a2) h (fun v _ => v = t14)) <|
 againK (valA (ldA h (some 2) b3) h (fun v _ => v = t15)) <|
 C 22 [t14, t15] h fun t16 h =>
 boxA h [(.bool false), .nilsl] 46 fun x5 h =>
 boxA h [(.bool false), .nilsl] 46 fun y6 h =>
 memA (stA h 2 x5 t13) .undef fun _ h =>
 memA (stA h 2 y6 t16) .undef fun _ h =>
 valA (ldA h (some 2) a2) h fun t17 h =>
 valA (ldA h (some 2) b3) h fun t18 h =>
 valA (ldA h (some 2) a2) h fun t20 h =>
 valA (ldA h (some 2) b3) h fun t21 h =>
 C 23 [t17, t18] h fun t19 h =>
 againK (valA (ldA h (some 2) a2) h (fun v _ => v = t20)) <|
 againK (valA (ldA h (some 2) b3) h (fun v _ => v = t21)) <|
 C 24 [t20, t21] h fun t22 h =>
 valA (binOp .eql .bool t19 t22) h fun t23 h =>
 whenA t23 true (fun K => valA (faA 0 x5) h K) h fun t25 h =>
 whenA t23 true (fun K => valA (ldA h none t25) h K) h fun t26 h =>
 whenA t23 true (fun K => valA (faA 0 y6) h K) h fun t27 h =>
 whenA t23 true (fun K => valA (ldA h none t27) h K) h fun t28 h =>
 whenA t23 true (fun K => valA (binOp .eql .bool t26 t28) h K) h fun t29 h =>
 valA (pickA t23 t29 (.bool false)) h fun t30 h =>
 whenA t30 true (fun K => valA (faA 1 x5) h K) h fun t32 h =>
 whenA t30 true (fun K => valA (ldA h none t32) h K) h fun t33 h =>
 whenA t30 true (fun K => valA (faA 1 y6) h K) h fun t34 h =>
 whenA t30 true (fun K => valA (ldA h none t34) h K) h fun t35 h =>
 whenA t30 true (fun K => C 25 [t33, t35] h K) h fun t36 h =>
 valA (pickA t30 t36 (.bool false)) h fun t37 h =>
 whenA t37 true (fun K => C 26 [] h K) h fun t39 h =>
 valA (pickA t37 t39 (.bool false)) h fun t40 h =>
 R t40 h
theorem she5 (C : CallA) (a0 b1 : AV) (h : H) (R : AV → H → Prop) : wpA C an5 (argE [a0, b1]) h (outA [(.tmp 4)] R) = sh5 C a0 b1 h R := by kernel_rfl
/-! bellows/bellowslaw05.short -/
def an20 : ACode :=
 (.seq (.reg 0 [] [] [sD 1 (.bx none 46 (.t 0)),
 sD 2 (.al none 46 [(.bool false), .nilsl])])
 (.seq (.seq (.reg 0 [] [] [sD 3 (.fa 1 (.t 1)),
 sD 4 (.ld none (.t 3)),
 sD 5 (.len false (.t 4)),
 sD 6 (.bin .gtr .num (.t 5) (.c (.int .i64 60)))])
 (.cond (.t 6) (.reg 0 [] [] [sD 7 (.fa 1 (.t 1)),
 sD 8 (.ld none (.t 7)),
 sD 9 (.sli (.row 1) (.t 8) none (some (.c (.int .i64 60))) none),
 sD 10 (.fa 1 (.t 1)),
 sN (.st 1 (.t 10) (.t 9))])
 .skip))
 (.seq (.reg 0 [] [] [sD 11 (.ld (some 2) (.t 1)),
 sN (.st 2 (.t 2) (.t 11))])
 .ret)))
def fn20 : IFun := ⟨12, [(.cell 2 (some 2))], an20.erase⟩
theorem ok20 : okFun Tryz.prog 20 fn20 = true := by kernel_rfl
theorem oka20 : okA fn20.ntmps fn20.results an20 = true := by kernel_rfl
def sh20 (C : CallA) (t0 : AV) (h : H) (R : AV → H → Prop) : Prop :=
 boxA h (AV.cells t0) 46 fun t1 h =>
 boxA h [(.bool false), .nilsl] 46 fun t2 h =>
 joinA (fun (h : H) =>
 valA (ldA h (some 2) t1) h fun t11 h =>
 memA (stA h 2 t2 t11) .undef fun _ h =>
 valA (ldA h (some 2) t2) h fun res _ => R res h) fun J =>
 valA (faA 1 t1) h fun t3 h =>
 valA (ldA h none t3) h fun t4 h =>
 valA (lenA false t4) h fun t5 h =>
 valA (binOp .gtr .num t5 (.int .i64 60)) h fun t6 h =>
 condA t6
 (valA (faA 1 t1) h fun t7 h =>
 valA (ldA h none t7) h fun t8 h =>
 valA (sliceOp (.row 1) t8 none (some (.int .i64 60)) none) h fun t9 h =>
 valA (faA 1 t1) h fun t10 h =>
 memA (stA h 1 t10 t9) .undef fun _ h =>
 J h)
 (J h)
theorem she20 (C : CallA) (t0 : AV) (h : H) (R : AV → H → Prop) : wpA C an20 (argE [t0]) h (outA [(.cell 2 (some 2))] R) = sh20 C t0 h R := by kernel_rfl
/-! bellows/verify.Join -/
def an21 : ACode :=
 (.seq (.reg 0 [] [] [sD 2 (.bx none 46 (.t 0)),
 sD 3 (.bx none 46 (.t 1)),
 sD 4 (.al none 46 [(.bool false), .nilsl])])
 (.seq (.reg 0 [] [] [sD 6 (.fa 1 (.t 2)),
 sD 7 (.ld none (.t 6)),
 sD 8 (.fa 1 (.t 3)),
 sD 9 (.ld none (.t 8)),
 sD 10 (.mksl none 36 [.nilsl, .nilsl] 2 [(0, 1, (.t 7)), (1, 1, (.t 9))]),
 sD 11 (.call 63 [(.t 10)]),
 sD 5 (.mv (.t 11))])
 (.seq (.reg 0 [] [] [sD 12 (.mv (.t 5)),
 sD 13 (.call 64 [(.t 12)])])
 (.seq (.reg 0 [0, 1, 2, 3, 4, 5, 6, 7, 8, 9] [[], [0], [0, 1], [1, 0, 2], [2, 0, 1, 3], [3, 4, 1, 0, 2], [], [1, 0, 2, 6], [6, 7, 2, 0, 1, 4, 3, 5], [5, 3, 4, 1, 0, 2, 7, 6, 8]] [sD 14 (.fa 0 (.t 2)),
 sD 15 (.ld none (.t 14)),
 sD 16 (.mv (.t 15)),
 sG 17 16 false (.fa 0 (.t 3)),
 sG 18 16 false (.ld none (.t 17)),
 sD 19 (.pick (.t 16) (.c (.bool true)) (.t 18)),
 sD 20 (.mv (.t 5)),
 ⟨(some 21), none, (.call 65 [(.t 20)]), [⟨(some (16, false)), (.ld none (.t 17)), 18⟩]⟩,
 sD 22 (.build [(.bool false), .nilsl] [(0, 1, (.t 19)), (1, 1, (.t 21))]),
 sN (.st 2 (.t 4) (.t 22))])
 .ret))))
def fn21 : IFun := ⟨23, [(.cell 4 (some 2))], an21.erase⟩
theorem ok21 : okFun Tryz.prog 21 fn21 = true := by kernel_rfl
theorem oka21 : okA fn21.ntmps fn21.results an21 = true := by kernel_rfl
def sh21 (C : CallA) (a0 b1 : AV) (h : H) (R : AV → H → Prop) : Prop :=
 boxA h (AV.cells a0) 46 fun a2 h =>
 boxA h (AV.cells b1) 46 fun b3 h =>
 boxA h [(.bool false), .nilsl] 46 fun t4 h =>
 valA (faA 1 a2) h fun t6 h =>
 valA (ldA h none t6) h fun t7 h =>
 valA (faA 1 b3) h fun t8 h =>
 valA (ldA h none t8) h fun t9 h =>
 mkslA h 36 2 (fillV [.nilsl, .nilsl] [(0, 1, t7), (1, 1, t9)]) fun t10 h =>
 C 63 [t10] h fun t11 h =>
 C 64 [t11] h fun t13 h =>
 valA (faA 0 a2) h fun t14 h =>
 valA (ldA h none t14) h fun t15 h =>
 whenA t15 false (fun K => valA (faA 0 b3) h K) h fun t17 h =>
 whenA t15 false (fun K => valA (ldA h none t17) h K) h fun t18 h =>
 valA (pickA t15 (.bool true) t18) h fun t19 h =>
 C 65 [t11] h fun t21 h =>
 againK (whenP t15 false (valA (ldA h none t17) h (fun v _ => v = t18))) <|
 valA (buildA (fillV [(.bool false), .nilsl] [(0, 1, t19), (1, 1, t21)])) h fun t22 h =>
 memA (stA h 2 t4 t22) .undef fun _ h =>
 valA (ldA h (some 2) t4) h fun res _ => R res h
theorem she21 (C : CallA) (a0 b1 : AV) (h : H) (R : AV → H → Prop) : wpA C an21 (argE [a0, b1]) h (outA [(.cell 4 (some 2))] R) = sh21 C a0 b1 h R := by kernel_rfl
/-! bellows/bellowsref05.Join -/
def an22 : ACode :=
 (.seq (.reg 0 [] [] [sD 2 (.bx none 46 (.t 0)),
 sD 3 (.bx none 46 (.t 1)),
 sD 4 (.al none 46 [(.bool false), .nilsl])])
 (.seq (.reg 0 [] [] [sD 5 (.mv (.c .nilsl))])
 (.seq (.seq (.reg 1 [1, 2, 4, 5, 0, 3, 6, 7, 8] [[], [], [1], [1, 2, 0], [], [4], [4, 5, 0, 2, 1, 3], [3, 1, 2, 0, 5, 4, 6], []] [sD 13 (.fa 1 (.t 2)),
 sD 14 (.ld none (.t 13)),
 sD 16 (.fa 1 (.t 3)),
 sD 17 (.ld none (.t 16)),
 sD 12 (.mksl (some 0) 3 [] 0 []),
 ⟨(some 15), none, (.app 3 1 8 [(.int .i64 0)] (.t 12) (.t 14)), [⟨none, (.ld none (.t 16)), 17⟩]⟩,
 sD 18 (.app 3 1 8 [(.int .i64 0)] (.t 15) (.t 17)),
 sD 19 (.len false (.t 18)),
 sD 20 (.mv (.c (.int .i64 0)))])
 (.block 0 (.loop [5, 20] 1835068 (.seq (.reg 0 [] [] [sD 21 (.bin .lss .num (.t 20) (.t 19))])
 (.seq (.cond (.t 21) .skip
 (.exit 0))
 (.seq (.block 1 (.seq (.reg 0 [] [] [sD 22 (.ia none 1 (.t 18) (.t 20)),
 sD 23 (.ld none (.t 22)),
 sD 7 (.mv (.t 23))])
 (.seq (.seq (.reg 0 [] [] [sD 24 (.mv (.t 5)),
 sD 25 (.mv (.t 7)),
 sD 26 (.call 66 [(.t 24), (.t 25)])])
 (.cond (.t 26) (.exit 1)
 .skip))
 (.seq (.reg 0 [] [] [sD 8 (.mv (.c .nilsl))])
 (.seq (.reg 0 [] [] [sD 9 (.mv (.c (.bool false)))])
 (.seq (.seq (.reg 0 [] [] [sD 27 (.mv (.t 5)),
 sD 28 (.len false (.t 27)),
 sD 29 (.mv (.c (.int .i64 0)))])
 (.block 2 (.loop [8, 9, 29] 941360028 (.seq (.reg 0 [] [] [sD 30 (.bin .lss .num (.t 29) (.t 28))])
 (.seq (.cond (.t 30) .skip
 (.exit 2))
 (.seq (.block 3 (.seq (.reg 0 [] [] [sD 31 (.ia none 1 (.t 27) (.t 29)),
 sD 32 (.ld none (.t 31)),
 sD 11 (.mv (.t 32))])
 (.seq (.seq (.reg 0 [] [] [sD 33 (.mv (.t 9)),
 sD 34 (.un .not (.t 33)),
 sD 35 (.mv (.t 34)),
 sG 36 35 true (.mv (.t 7)),
 sG 37 35 true (.mv (.t 11)),
 sG 38 35 true (.bin .lss .num (.t 36) (.t 37)),
 sD 39 (.pick (.t 35) (.t 38) (.c (.bool false)))])
 (.cond (.t 39) (.seq (.reg 0 [] [] [sD 40 (.mv (.t 8)),
 sD 41 (.mv (.t 7)),
 sD 42 (.mksl none 3 [(.int .i64 0)] 1 [(0, 1, (.t 41))]),
 sD 43 (.app 3 1 8 [(.int .i64 0)] (.t 40) (.t 42)),
 sD 8 (.mv (.t 43))])
 (.reg 0 [] [] [sD 9 (.mv (.c (.bool true)))]))
 .skip))
 (.reg 0 [] [] [sD 44 (.mv (.t 8)),
 sD 45 (.mv (.t 11)),
 sD 46 (.mksl none 3 [(.int .i64 0)] 1 [(0, 1, (.t 45))]),
 sD 47 (.app 3 1 8 [(.int .i64 0)] (.t 44) (.t 46)),
 sD 8 (.mv (.t 47))]))))
 (.reg 0 [] [] [sD 48 (.bin .add .num (.t 29) (.c (.int .i64 1))),
 sD 29 (.mv (.t 48))])))))))
 (.seq (.seq (.reg 0 [] [] [sD 49 (.mv (.t 9)),
 sD 50 (.un .not (.t 49))])
 (.cond (.t 50) (.reg 0 [] [] [sD 51 (.mv (.t 8)),
 sD 52 (.mv (.t 7)),
 sD 53 (.mksl none 3 [(.int .i64 0)] 1 [(0, 1, (.t 52))]),
 sD 54 (.app 3 1 8 [(.int .i64 0)] (.t 51) (.t 53)),
 sD 8 (.mv (.t 54))])
 .skip))
 (.reg 0 [] [] [sD 55 (.mv (.t 8)),
 sD 5 (.mv (.t 55))]))))))))
 (.reg 0 [] [] [sD 56 (.bin .add .num (.t 20) (.c (.int .i64 1))),
 sD 20 (.mv (.t 56))])))))))
 (.seq (.reg 0 [] [] [sD 57 (.fa 0 (.t 2)),
 sD 58 (.ld none (.t 57)),
 sD 59 (.mv (.t 58)),
 sG 60 59 false (.fa 0 (.t 3)),
 sG 61 59 false (.ld none (.t 60)),
 sD 62 (.pick (.t 59) (.c (.bool true)) (.t 61)),
 sD 63 (.mv (.t 5)),
 sD 64 (.build [(.bool false), .nilsl] [(0, 1, (.t 62)), (1, 1, (.t 63))]),
 sN (.st 2 (.t 4) (.t 64))])
 .ret))))
def fn22 : IFun := ⟨65, [(.cell 4 (some 2))], an22.erase⟩
theorem ok22 : okFun Tryz.prog 22 fn22 = true := by kernel_rfl
theorem oka22 : okA fn22.ntmps fn22.results an22 = true := by kernel_rfl
def sh22 (C : CallA) (a0 b1 : AV) (h : H) (R : AV → H → Prop) : Prop :=
 boxA h (AV.cells a0) 46 fun a2 h =>
 boxA h (AV.cells b1) 46 fun b3 h =>
 boxA h [(.bool false), .nilsl] 46 fun t4 h =>
 joinA (fun (l5' : AV) (h : H) =>
 valA (faA 0 a2) h fun t57 h =>
 valA (ldA h none t57) h fun t58 h =>
 whenA t58 false (fun K => valA (faA 0 b3) h K) h fun t60 h =>
 whenA t58 false (fun K => valA (ldA h none t60) h K) h fun t61 h =>
 valA (pickA t58 (.bool true) t61) h fun t62 h =>
 valA (buildA (fillV [(.bool false), .nilsl] [(0, 1, t62), (1, 1, l5')])) h fun t64 h =>
 memA (stA h 2 t4 t64) .undef fun _ h =>
 valA (ldA h (some 2) t4) h fun res _ => R res h) fun J =>
 valA (faA 1 a2) h fun t13 h =>
 valA (ldA h none t13) h fun t14 h =>
 valA (faA 1 b3) h fun t16 h =>
 valA (ldA h none t16) h fun t17 h =>
 mkslA h 3 0 (fillV [] []) fun t12 h =>
 appendA h 3 1 8 t12 t14 fun t15 h =>
 againK (valA (ldA h none t16) h (fun v _ => v = t17)) <|
 appendA h 3 1 8 t15 t17 fun t18 h =>
 valA (lenA false t18) h fun t19 h =>
 loopA (fun N l h => argA l 0 fun l5 => argA l 1 fun t20 => 
 valA (binOp .lss .num t20 t19) h fun t21 h =>
 condA t21
 (joinA (fun (l5'_0 : AV) (h : H) =>
 valA (binOp .add .num t20 (.int .i64 1)) h fun t56 h =>
 N [l5'_0, t56] h) fun J_39 =>
 valA (iaA 1 t18 t20) h fun t22 h =>
 valA (ldA h none t22) h fun t23 h =>
 C 66 [l5, t23] h fun t26 h =>
 condA t26
 (J_39 l5 h)
 (joinA (fun (next8'_40 : AV) (done9'_41 : AV) (h : H) =>
 joinA (fun (next8'_65 : AV) (h : H) =>
 J_39 next8'_65 h) fun J_72 =>
 valA (unOp .not done9'_41) h fun t50 h =>
 condA t50
 (mkslA h 3 1 (fillV [(.int .i64 0)] [(0, 1, t23)]) fun t53 h =>
 appendA h 3 1 8 next8'_40 t53 fun t54 h =>
 J_72 t54 h)
 (J_72 next8'_40 h)) fun J_73 =>
 valA (lenA false l5) h fun t28 h =>
 loopA (fun N_74 l h => argA l 0 fun next8 => argA l 1 fun done9 => argA l 2 fun t29 => 
 valA (binOp .lss .num t29 t28) h fun t30 h =>
 condA t30
 (valA (iaA 1 l5 t29) h fun t31 h =>
 valA (ldA h none t31) h fun t32 h =>
 joinA (fun (next8'_75 : AV) (done9'_76 : AV) (h : H) =>
 mkslA h 3 1 (fillV [(.int .i64 0)] [(0, 1, t32)]) fun t46 h =>
 appendA h 3 1 8 next8'_75 t46 fun t47 h =>
 valA (binOp .add .num t29 (.int .i64 1)) h fun t48 h =>
 N_74 [t47, done9'_76, t48] h) fun J_88 =>
 valA (unOp .not done9) h fun t34 h =>
 whenA t34 true (fun K => K t23 h) h fun t36 h =>
 whenA t34 true (fun K => K t32 h) h fun t37 h =>
 whenA t34 true (fun K => valA (binOp .lss .num t36 t37) h K) h fun t38 h =>
 valA (pickA t34 t38 (.bool false)) h fun t39 h =>
 condA t39
 (mkslA h 3 1 (fillV [(.int .i64 0)] [(0, 1, t23)]) fun t42 h =>
 appendA h 3 1 8 next8 t42 fun t43 h =>
 J_88 t43 (.bool true) h)
 (J_88 next8 done9 h))
 (J_73 next8 done9 h)) [.nilsl, (.bool false), (.int .i64 0)] h))
 (J l5 h)) [.nilsl, (.int .i64 0)] h
theorem she22 (C : CallA) (a0 b1 : AV) (h : H) (R : AV → H → Prop) : wpA C an22 (argE [a0, b1]) h (outA [(.cell 4 (some 2))] R) = sh22 C a0 b1 h R := by kernel_rfl
end Go.Proofs.YtdljelicbnjfjaaGreat.X
