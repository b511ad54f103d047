/- The plain programs of functions, printed; that they are the model's; what must hold ahead of each. -/
import Derived.Test.YtdljelicbnjfjaaGreatProg
import Derived.Test.YtdljelicbnjfjaaGreatXo
set_option maxRecDepth 100000
set_option linter.unusedVariables false
namespace Go.Proofs.YtdljelicbnjfjaaGreat.X
open Go
/-! bellows/verify.Sub -/
def an23 : ACode :=
 (.seq (.reg 0 [] [] [sD 2 (.bx none 46 (.t 0)),
 sD 3 (.bx none 46 (.t 1)),
 sD 4 (.mv (.c (.bool false)))])
 (.seq (.reg 0 [] [] [sD 5 (.fa 0 (.t 3)),
 sD 6 (.ld none (.t 5)),
 sD 7 (.mv (.t 6)),
 sG 8 7 false (.fa 0 (.t 2)),
 sG 9 7 false (.ld none (.t 8)),
 sG 10 7 false (.un .not (.t 9)),
 sD 11 (.pick (.t 7) (.c (.bool true)) (.t 10)),
 sD 12 (.mv (.t 11)),
 sG 13 12 true (.fa 1 (.t 2)),
 sG 14 12 true (.ld none (.t 13)),
 sG 15 12 true (.mkf 68 [] [(.t 3)]),
 sG 16 12 true (.call 67 [(.t 14), (.t 15)]),
 sG 17 12 true (.un .not (.t 16)),
 sD 18 (.pick (.t 12) (.t 17) (.c (.bool false))),
 sD 4 (.mv (.t 18))])
 .ret))
def fn23 : IFun := ⟨19, [(.tmp 4)], an23.erase⟩
theorem ok23 : okFun Tryz.prog 23 fn23 = true := by kernel_rfl
theorem oka23 : okA fn23.ntmps fn23.results an23 = true := by kernel_rfl
def sh23 (C : CallA) (a0 b1 : AV) (h : H) (R : AV → H → Prop) : Prop :=
 boxA h (AV.cells a0) 46 fun a2 h =>
 boxA h (AV.cells b1) 46 fun b3 h =>
 valA (faA 0 b3) h fun t5 h =>
 valA (ldA h none t5) h fun t6 h =>
 whenA t6 false (fun K => valA (faA 0 a2) h K) h fun t8 h =>
 whenA t6 false (fun K => valA (ldA h none t8) h K) h fun t9 h =>
 whenA t6 false (fun K => valA (unOp .not t9) h K) h fun t10 h =>
 valA (pickA t6 (.bool true) t10) h fun t11 h =>
 whenA t11 true (fun K => valA (faA 1 a2) h K) h fun t13 h =>
 whenA t11 true (fun K => valA (ldA h none t13) h K) h fun t14 h =>
 whenA t11 true (fun K => K (.fn 68 [] [b3]) h) h fun t15 h =>
 whenA t11 true (fun K => C 67 [t14, t15] h K) h fun t16 h =>
 whenA t11 true (fun K => valA (unOp .not t16) h K) h fun t17 h =>
 valA (pickA t11 t17 (.bool false)) h fun t18 h =>
 R t18 h
theorem she23 (C : CallA) (a0 b1 : AV) (h : H) (R : AV → H → Prop) : wpA C an23 (argE [a0, b1]) h (outA [(.tmp 4)] R) = sh23 C a0 b1 h R := by kernel_rfl
/-! bellows/bellowslaw05.alike -/
def an25 : ACode :=
 (.seq (.reg 0 [] [] [sD 4 (.mv (.c (.bool false)))])
 (.seq (.seq (.reg 0 [] [] [sD 6 (.mv (.t 0)),
 sD 7 (.len false (.t 6)),
 sD 8 (.mv (.t 1)),
 sD 9 (.len false (.t 8)),
 sD 10 (.bin .neq .num (.t 7) (.t 9))])
 (.cond (.t 10) (.seq (.reg 0 [] [] [sD 4 (.mv (.c (.bool false)))])
 .ret)
 .skip))
 (.seq (.seq (.reg 0 [] [] [sD 11 (.mv (.t 0)),
 sD 12 (.len false (.t 11)),
 sD 13 (.mv (.c (.int .i64 0)))])
 (.block 0 (.loop [13] 12291 (.seq (.reg 0 [] [] [sD 14 (.bin .lss .num (.t 13) (.t 12))])
 (.seq (.cond (.t 14) .skip
 (.exit 0))
 (.seq (.block 1 (.seq (.reg 0 [] [] [sD 15 (.mv (.t 13)),
 sD 5 (.mv (.t 15))])
 (.seq (.reg 0 [0, 1, 2, 3, 4, 5, 6, 7, 8] [[], [], [1, 0], [0, 1, 2], [], [], [5, 4], [4, 5, 6], [6, 5, 4, 7, 2, 1, 0, 3]] [sD 16 (.mv (.t 0)),
 sD 17 (.mv (.t 5)),
 sD 18 (.ia none 1 (.t 16) (.t 17)),
 sD 19 (.ld none (.t 18)),
 sD 20 (.mv (.t 1)),
 sD 21 (.mv (.t 5)),
 sD 22 (.ia none 1 (.t 20) (.t 21)),
 sD 23 (.ld none (.t 22)),
 sD 24 (.bin .neq .num (.t 19) (.t 23))])
 (.cond (.t 24) (.seq (.reg 0 [] [] [sD 4 (.mv (.c (.bool false)))])
 .ret)
 .skip))))
 (.reg 0 [] [] [sD 25 (.bin .add .num (.t 13) (.c (.int .i64 1))),
 sD 13 (.mv (.t 25))])))))))
 (.seq (.reg 0 [] [] [sD 4 (.mv (.c (.bool true)))])
 .ret))))
def fn25 : IFun := ⟨26, [(.tmp 4)], an25.erase⟩
theorem ok25 : okFun Tryz.prog 25 fn25 = true := by kernel_rfl
theorem oka25 : okA fn25.ntmps fn25.results an25 = true := by kernel_rfl
def sh25 (C : CallA) (a0 b1 : AV) (h : H) (R : AV → H → Prop) : Prop :=
 valA (lenA false a0) h fun t7 h =>
 valA (lenA false b1) h fun t9 h =>
 valA (binOp .neq .num t7 t9) h fun t10 h =>
 condA t10
 (R (.bool false) h)
 (joinA (fun (h : H) =>
 R (.bool true) h) fun J =>
 valA (lenA false a0) h fun t12 h =>
 loopA (fun N l h => argA l 0 fun t13 => 
 valA (binOp .lss .num t13 t12) h fun t14 h =>
 condA t14
 (valA (iaA 1 a0 t13) h fun t18 h =>
 valA (ldA h none t18) h fun t19 h =>
 valA (iaA 1 b1 t13) h fun t22 h =>
 valA (ldA h none t22) h fun t23 h =>
 valA (binOp .neq .num t19 t23) h fun t24 h =>
 condA t24
 (R (.bool false) h)
 (valA (binOp .add .num t13 (.int .i64 1)) h fun t25 h =>
 N [t25] h))
 (J h)) [(.int .i64 0)] h)
theorem she25 (C : CallA) (a0 b1 : AV) (h : H) (R : AV → H → Prop) : wpA C an25 (argE [a0, b1]) h (outA [(.tmp 4)] R) = sh25 C a0 b1 h R := by kernel_rfl
/-! slices.Concat[[]int,int] -/
def an63 : ACode :=
 (.seq (.reg 0 [] [] [sD 2 (.mv (.c .nilsl))])
 (.seq (.reg 0 [] [] [sD 3 (.mv (.c (.int .i64 0)))])
 (.seq (.seq (.reg 0 [] [] [sD 9 (.mv (.t 0)),
 sD 10 (.len false (.t 9)),
 sD 11 (.mv (.c (.int .i64 0)))])
 (.block 0 (.loop [3, 11] 3593 (.seq (.reg 0 [] [] [sD 12 (.bin .lss .num (.t 11) (.t 10))])
 (.seq (.cond (.t 12) .skip
 (.exit 0))
 (.seq (.block 1 (.seq (.reg 0 [] [] [sD 13 (.ia none 1 (.t 9) (.t 11)),
 sD 14 (.ld none (.t 13)),
 sD 5 (.mv (.t 14))])
 (.seq (.reg 0 [] [] [sD 15 (.mv (.t 3)),
 sD 16 (.mv (.t 5)),
 sD 17 (.len false (.t 16)),
 sD 18 (.bin .add .num (.t 15) (.t 17)),
 sD 3 (.mv (.t 18))])
 (.seq (.reg 0 [] [] [sD 19 (.mv (.t 3)),
 sD 20 (.bin .lss .num (.t 19) (.c (.int .i64 0)))])
 (.cond (.t 20) (.reg 0 [] [] [sD 21 (.ext (.c .undef) 0),
 sN (.ext (.c .undef) 0)])
 .skip)))))
 (.reg 0 [] [] [sD 22 (.bin .add .num (.t 11) (.c (.int .i64 1))),
 sD 11 (.mv (.t 22))])))))))
 (.seq (.reg 0 [] [] [sD 23 (.mv (.t 3)),
 sD 24 (.call 113 [(.c .nilsl), (.t 23)]),
 sD 6 (.mv (.t 24))])
 (.seq (.seq (.reg 0 [] [] [sD 25 (.mv (.t 0)),
 sD 26 (.len false (.t 25)),
 sD 27 (.mv (.c (.int .i64 0)))])
 (.block 2 (.loop [6, 27] 234881088 (.seq (.reg 0 [] [] [sD 28 (.bin .lss .num (.t 27) (.t 26))])
 (.seq (.cond (.t 28) .skip
 (.exit 2))
 (.seq (.block 3 (.seq (.reg 0 [] [] [sD 29 (.ia none 1 (.t 25) (.t 27)),
 sD 30 (.ld none (.t 29)),
 sD 8 (.mv (.t 30))])
 (.reg 0 [] [] [sD 31 (.mv (.t 6)),
 sD 32 (.mv (.t 8)),
 sD 33 (.app 3 1 8 [(.int .i64 0)] (.t 31) (.t 32)),
 sD 6 (.mv (.t 33))])))
 (.reg 0 [] [] [sD 34 (.bin .add .num (.t 27) (.c (.int .i64 1))),
 sD 27 (.mv (.t 34))])))))))
 (.seq (.reg 0 [] [] [sD 35 (.mv (.t 6)),
 sD 2 (.mv (.t 35))])
 .ret))))))
def fn63 : IFun := ⟨36, [(.tmp 2)], an63.erase⟩
theorem ok63 : okFun Tryz.prog 63 fn63 = true := by kernel_rfl
theorem oka63 : okA fn63.ntmps fn63.results an63 = true := by kernel_rfl
def sh63 (C : CallA) (slices0 : AV) (h : H) (R : AV → H → Prop) : Prop :=
 joinA (fun (size3' : AV) (h : H) =>
 C 113 [.nilsl, size3'] h fun t24 h =>
 joinA (fun (newslice6' : AV) (h : H) =>
 R newslice6' h) fun J =>
 valA (lenA false slices0) h fun t26 h =>
 loopA (fun N l h => argA l 0 fun newslice6 => argA l 1 fun t27 => 
 valA (binOp .lss .num t27 t26) h fun t28 h =>
 condA t28
 (valA (iaA 1 slices0 t27) h fun t29 h =>
 valA (ldA h none t29) h fun t30 h =>
 appendA h 3 1 8 newslice6 t30 fun t33 h =>
 valA (binOp .add .num t27 (.int .i64 1)) h fun t34 h =>
 N [t33, t34] h)
 (J newslice6 h)) [t24, (.int .i64 0)] h) fun J_0 =>
 valA (lenA false slices0) h fun t10 h =>
 loopA (fun N_1 l h => argA l 0 fun size3 => argA l 1 fun t11 => 
 valA (binOp .lss .num t11 t10) h fun t12 h =>
 condA t12
 (joinA (fun (size3'_2 : AV) (h : H) =>
 valA (binOp .add .num t11 (.int .i64 1)) h fun t22 h =>
 N_1 [size3'_2, t22] h) fun J_13 =>
 valA (iaA 1 slices0 t11) h fun t13 h =>
 valA (ldA h none t13) h fun t14 h =>
 valA (lenA false t14) h fun t17 h =>
 valA (binOp .add .num size3 t17) h fun t18 h =>
 valA (binOp .lss .num t18 (.int .i64 0)) h fun t20 h =>
 condA t20
 (valA (extA .undef 0) h fun t21 h =>
 valA (extA .undef 0) h fun _ h =>
 J_13 t18 h)
 (J_13 t18 h))
 (J_0 size3 h)) [(.int .i64 0), (.int .i64 0)] h
theorem she63 (C : CallA) (slices0 : AV) (h : H) (R : AV → H → Prop) : wpA C an63 (argE [slices0]) h (outA [(.tmp 2)] R) = sh63 C slices0 h R := by kernel_rfl
/-! slices.Compact[[]int,int] -/
def an65 : ACode :=
 (.seq (.reg 0 [] [] [sD 2 (.mv (.c .nilsl))])
 (.seq (.seq (.reg 0 [] [] [sD 6 (.mv (.t 0)),
 sD 7 (.len false (.t 6)),
 sD 8 (.bin .lss .num (.t 7) (.c (.int .i64 2)))])
 (.cond (.t 8) (.seq (.reg 0 [] [] [sD 9 (.mv (.t 0)),
 sD 2 (.mv (.t 9))])
 .ret)
 .skip))
 (.seq (.seq (.reg 0 [] [] [sD 3 (.mv (.c (.int .i64 1)))])
 (.block 0 (.loop [3] 9 (.seq (.seq (.reg 0 [] [] [sD 10 (.mv (.t 3)),
 sD 11 (.mv (.t 0)),
 sD 12 (.len false (.t 11)),
 sD 13 (.bin .lss .num (.t 10) (.t 12))])
 (.cond (.t 13) .skip
 (.exit 0)))
 (.seq (.block 1 (.seq (.reg 0 [0, 1, 2, 3, 4, 5, 6, 7, 8, 9] [[], [], [1, 0], [0, 1, 2], [], [], [5], [5, 6, 4], [4, 6, 5, 7], [7, 5, 6, 4, 8, 2, 1, 0, 3]] [sD 16 (.mv (.t 0)),
 sD 17 (.mv (.t 3)),
 sD 18 (.ia none 1 (.t 16) (.t 17)),
 sD 19 (.ld none (.t 18)),
 sD 20 (.mv (.t 0)),
 sD 21 (.mv (.t 3)),
 sD 22 (.bin .sub .num (.t 21) (.c (.int .i64 1))),
 sD 23 (.ia none 1 (.t 20) (.t 22)),
 sD 24 (.ld none (.t 23)),
 sD 25 (.bin .eql .num (.t 19) (.t 24))])
 (.cond (.t 25) (.seq (.reg 0 [] [] [sD 26 (.mv (.t 0)),
 sD 27 (.mv (.t 3)),
 sD 28 (.sli (.row 1) (.t 26) (some (.t 27)) none none),
 sD 4 (.mv (.t 28))])
 (.seq (.seq (.reg 0 [] [] [sD 5 (.mv (.c (.int .i64 1)))])
 (.block 2 (.loop [3, 5] 57 (.seq (.seq (.reg 0 [] [] [sD 29 (.mv (.t 5)),
 sD 30 (.mv (.t 4)),
 sD 31 (.len false (.t 30)),
 sD 32 (.bin .lss .num (.t 29) (.t 31))])
 (.cond (.t 32) .skip
 (.exit 2)))
 (.seq (.block 3 (.seq (.reg 0 [0, 1, 2, 3, 4, 5, 6, 7, 8, 9] [[], [], [1, 0], [0, 1, 2], [], [], [5], [5, 6, 4], [4, 6, 5, 7], [7, 5, 6, 4, 8, 2, 1, 0, 3]] [sD 35 (.mv (.t 4)),
 sD 36 (.mv (.t 5)),
 sD 37 (.ia none 1 (.t 35) (.t 36)),
 sD 38 (.ld none (.t 37)),
 sD 39 (.mv (.t 4)),
 sD 40 (.mv (.t 5)),
 sD 41 (.bin .sub .num (.t 40) (.c (.int .i64 1))),
 sD 42 (.ia none 1 (.t 39) (.t 41)),
 sD 43 (.ld none (.t 42)),
 sD 44 (.bin .neq .num (.t 38) (.t 43))])
 (.cond (.t 44) (.seq (.reg 0 [] [] [sD 45 (.mv (.t 0)),
 sD 46 (.mv (.t 3)),
 sD 47 (.mv (.t 4)),
 sD 48 (.mv (.t 5)),
 sD 49 (.ia none 1 (.t 47) (.t 48)),
 sD 50 (.ld none (.t 49)),
 sD 51 (.ia none 1 (.t 45) (.t 46)),
 sN (.st 1 (.t 51) (.t 50))])
 (.reg 0 [] [] [sD 52 (.mv (.t 3)),
 sD 53 (.bin .add .num (.t 52) (.c (.int .i64 1))),
 sD 3 (.mv (.t 53))]))
 .skip)))
 (.reg 0 [] [] [sD 33 (.mv (.t 5)),
 sD 34 (.bin .add .num (.t 33) (.c (.int .i64 1))),
 sD 5 (.mv (.t 34))]))))))
 (.seq (.reg 0 [] [] [sD 54 (.mv (.t 0)),
 sD 55 (.mv (.t 3)),
 sD 56 (.sli (.row 1) (.t 54) (some (.t 55)) none none),
 sN (.clear [(.int .i64 0)] (.t 56))])
 (.seq (.reg 0 [] [] [sD 57 (.mv (.t 0)),
 sD 58 (.mv (.t 3)),
 sD 59 (.sli (.row 1) (.t 57) none (some (.t 58)) none),
 sD 2 (.mv (.t 59))])
 .ret))))
 .skip)))
 (.reg 0 [] [] [sD 14 (.mv (.t 3)),
 sD 15 (.bin .add .num (.t 14) (.c (.int .i64 1))),
 sD 3 (.mv (.t 15))]))))))
 (.seq (.reg 0 [] [] [sD 60 (.mv (.t 0)),
 sD 2 (.mv (.t 60))])
 .ret))))
def fn65 : IFun := ⟨61, [(.tmp 2)], an65.erase⟩
theorem ok65 : okFun Tryz.prog 65 fn65 = true := by kernel_rfl
theorem oka65 : okA fn65.ntmps fn65.results an65 = true := by kernel_rfl
def sh65 (C : CallA) (s0 : AV) (h : H) (R : AV → H → Prop) : Prop :=
 valA (lenA false s0) h fun t7 h =>
 valA (binOp .lss .num t7 (.int .i64 2)) h fun t8 h =>
 condA t8
 (R s0 h)
 (joinA (fun (h : H) =>
 R s0 h) fun J =>
 loopA (fun N l h => argA l 0 fun k3 => 
 valA (lenA false s0) h fun t12 h =>
 valA (binOp .lss .num k3 t12) h fun t13 h =>
 condA t13
 (joinA (fun (k3'_1 : AV) (h : H) =>
 valA (binOp .add .num k3'_1 (.int .i64 1)) h fun t15 h =>
 N [t15] h) fun J_48 =>
 valA (iaA 1 s0 k3) h fun t18 h =>
 valA (ldA h none t18) h fun t19 h =>
 valA (binOp .sub .num k3 (.int .i64 1)) h fun t22 h =>
 valA (iaA 1 s0 t22) h fun t23 h =>
 valA (ldA h none t23) h fun t24 h =>
 valA (binOp .eql .num t19 t24) h fun t25 h =>
 condA t25
 (valA (sliceOp (.row 1) s0 (some k3) none none) h fun t28 h =>
 joinA (fun (k3'_49 : AV) (h : H) =>
 valA (sliceOp (.row 1) s0 (some k3'_49) none none) h fun t56 h =>
 clearA h [(.int .i64 0)] t56 fun _ h =>
 valA (sliceOp (.row 1) s0 none (some k3'_49) none) h fun t59 h =>
 R t59 h) fun J_76 =>
 loopA (fun N_77 l h => argA l 0 fun k3_78 => argA l 1 fun k25 => 
 valA (lenA false t28) h fun t31 h =>
 valA (binOp .lss .num k25 t31) h fun t32 h =>
 condA t32
 (joinA (fun (k3'_79 : AV) (h : H) =>
 valA (binOp .add .num k25 (.int .i64 1)) h fun t34 h =>
 N_77 [k3'_79, t34] h) fun J_99 =>
 valA (iaA 1 t28 k25) h fun t37 h =>
 valA (ldA h none t37) h fun t38 h =>
 valA (binOp .sub .num k25 (.int .i64 1)) h fun t41 h =>
 valA (iaA 1 t28 t41) h fun t42 h =>
 valA (ldA h none t42) h fun t43 h =>
 valA (binOp .neq .num t38 t43) h fun t44 h =>
 condA t44
 (valA (iaA 1 t28 k25) h fun t49 h =>
 valA (ldA h none t49) h fun t50 h =>
 valA (iaA 1 s0 k3_78) h fun t51 h =>
 memA (stA h 1 t51 t50) .undef fun _ h =>
 valA (binOp .add .num k3_78 (.int .i64 1)) h fun t53 h =>
 J_99 t53 h)
 (J_99 k3_78 h))
 (J_76 k3_78 h)) [k3, (.int .i64 1)] h)
 (J_48 k3 h))
 (J h)) [(.int .i64 1)] h)
theorem she65 (C : CallA) (s0 : AV) (h : H) (R : AV → H → Prop) : wpA C an65 (argE [s0]) h (outA [(.tmp 2)] R) = sh65 C s0 h R := by kernel_rfl
end Go.Proofs.YtdljelicbnjfjaaGreat.X
