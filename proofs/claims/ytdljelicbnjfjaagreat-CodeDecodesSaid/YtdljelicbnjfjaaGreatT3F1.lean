/- The plain programs of functions, printed; that they are the model's; what must hold ahead of each. -/
import Derived.Test.YtdljelicbnjfjaaGreatProg
import Derived.Test.YtdljelicbnjfjaaGreatXo
set_option maxRecDepth 100000
set_option linter.unusedVariables false
namespace Go.Proofs.YtdljelicbnjfjaaGreat.X
open Go
/-! slices.Equal[[]int,int] -/
def an52 : ACode :=
 (.seq (.reg 0 [] [] [sD 4 (.mv (.c (.bool false)))])
 (.seq (.seq (.reg 0 [] [] [sD 6 (.mv (.t 0)),
 sD 7 (.len false (.t 6)),
 sD 8 (.mv (.t 1)),
 sD 9 (.len false (.t 8)),
 sD 10 (.bin .neq .num (.t 7) (.t 9))])
 (.cond (.t 10) (.seq (.reg 0 [] [] [sD 4 (.mv (.c (.bool false)))])
 .ret)
 .skip))
 (.seq (.seq (.reg 0 [] [] [sD 11 (.mv (.t 0)),
 sD 12 (.len false (.t 11)),
 sD 13 (.mv (.c (.int .i64 0)))])
 (.block 0 (.loop [13] 12291 (.seq (.reg 0 [] [] [sD 14 (.bin .lss .num (.t 13) (.t 12))])
 (.seq (.cond (.t 14) .skip
 (.exit 0))
 (.seq (.block 1 (.seq (.reg 0 [] [] [sD 15 (.mv (.t 13)),
 sD 5 (.mv (.t 15))])
 (.seq (.reg 0 [0, 1, 2, 3, 4, 5, 6, 7, 8] [[], [], [1, 0], [0, 1, 2], [], [], [5, 4], [4, 5, 6], [6, 5, 4, 7, 2, 1, 0, 3]] [sD 16 (.mv (.t 0)),
 sD 17 (.mv (.t 5)),
 sD 18 (.ia none 1 (.t 16) (.t 17)),
 sD 19 (.ld none (.t 18)),
 sD 20 (.mv (.t 1)),
 sD 21 (.mv (.t 5)),
 sD 22 (.ia none 1 (.t 20) (.t 21)),
 sD 23 (.ld none (.t 22)),
 sD 24 (.bin .neq .num (.t 19) (.t 23))])
 (.cond (.t 24) (.seq (.reg 0 [] [] [sD 4 (.mv (.c (.bool false)))])
 .ret)
 .skip))))
 (.reg 0 [] [] [sD 25 (.bin .add .num (.t 13) (.c (.int .i64 1))),
 sD 13 (.mv (.t 25))])))))))
 (.seq (.reg 0 [] [] [sD 4 (.mv (.c (.bool true)))])
 .ret))))
def fn52 : IFun := ⟨26, [(.tmp 4)], an52.erase⟩
theorem ok52 : okFun Tryz.prog 52 fn52 = true := by kernel_rfl
theorem oka52 : okA fn52.ntmps fn52.results an52 = true := by kernel_rfl
def sh52 (C : CallA) (s10 s21 : AV) (h : H) (R : AV → H → Prop) : Prop :=
 valA (lenA false s10) h fun t7 h =>
 valA (lenA false s21) h fun t9 h =>
 valA (binOp .neq .num t7 t9) h fun t10 h =>
 condA t10
 (R (.bool false) h)
 (joinA (fun (h : H) =>
 R (.bool true) h) fun J =>
 valA (lenA false s10) h fun t12 h =>
 loopA (fun N l h => argA l 0 fun t13 => 
 valA (binOp .lss .num t13 t12) h fun t14 h =>
 condA t14
 (valA (iaA 1 s10 t13) h fun t18 h =>
 valA (ldA h none t18) h fun t19 h =>
 valA (iaA 1 s21 t13) h fun t22 h =>
 valA (ldA h none t22) h fun t23 h =>
 valA (binOp .neq .num t19 t23) h fun t24 h =>
 condA t24
 (R (.bool false) h)
 (valA (binOp .add .num t13 (.int .i64 1)) h fun t25 h =>
 N [t25] h))
 (J h)) [(.int .i64 0)] h)
theorem she52 (C : CallA) (s10 s21 : AV) (h : H) (R : AV → H → Prop) : wpA C an52 (argE [s10, s21]) h (outA [(.tmp 4)] R) = sh52 C s10 s21 h R := by kernel_rfl
/-! slices.EqualFunc[[]bellows/api.Shape,[]bellows/api.Shape,bellows/api.Shape,bellows/api.Shape] -/
def an53 : ACode :=
 (.seq (.reg 0 [] [] [sD 6 (.mv (.c (.bool false)))])
 (.seq (.seq (.reg 0 [] [] [sD 10 (.mv (.t 0)),
 sD 11 (.len false (.t 10)),
 sD 12 (.mv (.t 1)),
 sD 13 (.len false (.t 12)),
 sD 14 (.bin .neq .num (.t 11) (.t 13))])
 (.cond (.t 14) (.seq (.reg 0 [] [] [sD 6 (.mv (.c (.bool false)))])
 .ret)
 .skip))
 (.seq (.seq (.reg 0 [] [] [sD 15 (.mv (.t 0)),
 sD 16 (.len false (.t 15)),
 sD 17 (.mv (.c (.int .i64 0)))])
 (.block 0 (.loop [17] 229382 (.seq (.reg 0 [] [] [sD 18 (.bin .lss .num (.t 17) (.t 16))])
 (.seq (.cond (.t 18) .skip
 (.exit 0))
 (.seq (.block 1 (.seq (.reg 0 [] [] [sD 19 (.mv (.t 17)),
 sD 20 (.ia none 3 (.t 15) (.t 17)),
 sD 21 (.ld (some 3) (.t 20)),
 sD 8 (.al none 61 [(.int .i64 0), .nilsl, (.str [])]),
 sD 7 (.mv (.t 19)),
 sN (.st 3 (.t 8) (.t 21))])
 (.seq (.reg 0 [] [] [sD 22 (.mv (.t 1)),
 sD 23 (.mv (.t 7)),
 sD 24 (.ia none 3 (.t 22) (.t 23)),
 sD 25 (.ld (some 3) (.t 24)),
 sD 9 (.al none 61 [(.int .i64 0), .nilsl, (.str [])]),
 sN (.st 3 (.t 9) (.t 25))])
 (.seq (.reg 0 [] [] [sD 26 (.mv (.t 2)),
 sD 27 (.ld (some 3) (.t 8)),
 sD 28 (.ld (some 3) (.t 9)),
 sD 29 (.callv (.t 26) [(.t 27), (.t 28)]),
 sD 30 (.un .not (.t 29))])
 (.cond (.t 30) (.seq (.reg 0 [] [] [sD 6 (.mv (.c (.bool false)))])
 .ret)
 .skip)))))
 (.reg 0 [] [] [sD 31 (.bin .add .num (.t 17) (.c (.int .i64 1))),
 sD 17 (.mv (.t 31))])))))))
 (.seq (.reg 0 [] [] [sD 6 (.mv (.c (.bool true)))])
 .ret))))
def fn53 : IFun := ⟨32, [(.tmp 6)], an53.erase⟩
theorem ok53 : okFun Tryz.prog 53 fn53 = true := by kernel_rfl
theorem oka53 : okA fn53.ntmps fn53.results an53 = true := by kernel_rfl
def sh53 (C : CallA) (s10 s21 eq2 : AV) (h : H) (R : AV → H → Prop) : Prop :=
 valA (lenA false s10) h fun t11 h =>
 valA (lenA false s21) h fun t13 h =>
 valA (binOp .neq .num t11 t13) h fun t14 h =>
 condA t14
 (R (.bool false) h)
 (joinA (fun (h : H) =>
 R (.bool true) h) fun J =>
 valA (lenA false s10) h fun t16 h =>
 loopA (fun N l h => argA l 0 fun t17 => 
 valA (binOp .lss .num t17 t16) h fun t18 h =>
 condA t18
 (valA (iaA 3 s10 t17) h fun t20 h =>
 valA (ldA h (some 3) t20) h fun t21 h =>
 boxA h [(.int .i64 0), .nilsl, (.str [])] 61 fun v18 h =>
 memA (stA h 3 v18 t21) .undef fun _ h =>
 valA (iaA 3 s21 t17) h fun t24 h =>
 valA (ldA h (some 3) t24) h fun t25 h =>
 boxA h [(.int .i64 0), .nilsl, (.str [])] 61 fun v29 h =>
 memA (stA h 3 v29 t25) .undef fun _ h =>
 valA (ldA h (some 3) v18) h fun t27 h =>
 valA (ldA h (some 3) v29) h fun t28 h =>
 callvA C eq2 [t27, t28] h fun t29 h =>
 valA (unOp .not t29) h fun t30 h =>
 condA t30
 (R (.bool false) h)
 (valA (binOp .add .num t17 (.int .i64 1)) h fun t31 h =>
 N [t31] h))
 (J h)) [(.int .i64 0)] h)
theorem she53 (C : CallA) (s10 s21 eq2 : AV) (h : H) (R : AV → H → Prop) : wpA C an53 (argE [s10, s21, eq2]) h (outA [(.tmp 6)] R) = sh53 C s10 s21 eq2 h R := by kernel_rfl
/-! bellows/code.Same$2 -/
def an54 : ACode :=
 (.seq (.reg 0 [] [] [sD 2 (.bx none 61 (.t 0)),
 sD 3 (.bx none 61 (.t 1)),
 sD 4 (.mv (.c (.bool false)))])
 (.seq (.reg 0 [] [] [sD 5 (.fa 0 (.t 2)),
 sD 6 (.ld none (.t 5)),
 sD 7 (.fa 0 (.t 3)),
 sD 8 (.ld none (.t 7)),
 sD 9 (.bin .eql .num (.t 6) (.t 8)),
 sD 10 (.mv (.t 9)),
 sG 11 10 true (.fa 2 (.t 2)),
 sG 12 10 true (.ld none (.t 11)),
 sG 13 10 true (.fa 2 (.t 3)),
 sG 14 10 true (.ld none (.t 13)),
 sG 15 10 true (.bin .eql .num (.t 12) (.t 14)),
 sD 16 (.pick (.t 10) (.t 15) (.c (.bool false))),
 sD 17 (.mv (.t 16)),
 sG 18 17 true (.fa 1 (.t 2)),
 sG 19 17 true (.ld none (.t 18)),
 sG 20 17 true (.fa 1 (.t 3)),
 sG 21 17 true (.ld none (.t 20)),
 sG 22 17 true (.call 52 [(.t 19), (.t 21)]),
 sD 23 (.pick (.t 17) (.t 22) (.c (.bool false))),
 sD 4 (.mv (.t 23))])
 .ret))
def fn54 : IFun := ⟨24, [(.tmp 4)], an54.erase⟩
theorem ok54 : okFun Tryz.prog 54 fn54 = true := by kernel_rfl
theorem oka54 : okA fn54.ntmps fn54.results an54 = true := by kernel_rfl
def sh54 (C : CallA) (x0 y1 : AV) (h : H) (R : AV → H → Prop) : Prop :=
 boxA h (AV.cells x0) 61 fun x2 h =>
 boxA h (AV.cells y1) 61 fun y3 h =>
 valA (faA 0 x2) h fun t5 h =>
 valA (ldA h none t5) h fun t6 h =>
 valA (faA 0 y3) h fun t7 h =>
 valA (ldA h none t7) h fun t8 h =>
 valA (binOp .eql .num t6 t8) h fun t9 h =>
 whenA t9 true (fun K => valA (faA 2 x2) h K) h fun t11 h =>
 whenA t9 true (fun K => valA (ldA h none t11) h K) h fun t12 h =>
 whenA t9 true (fun K => valA (faA 2 y3) h K) h fun t13 h =>
 whenA t9 true (fun K => valA (ldA h none t13) h K) h fun t14 h =>
 whenA t9 true (fun K => valA (binOp .eql .num t12 t14) h K) h fun t15 h =>
 valA (pickA t9 t15 (.bool false)) h fun t16 h =>
 whenA t16 true (fun K => valA (faA 1 x2) h K) h fun t18 h =>
 whenA t16 true (fun K => valA (ldA h none t18) h K) h fun t19 h =>
 whenA t16 true (fun K => valA (faA 1 y3) h K) h fun t20 h =>
 whenA t16 true (fun K => valA (ldA h none t20) h K) h fun t21 h =>
 whenA t16 true (fun K => C 52 [t19, t21] h K) h fun t22 h =>
 valA (pickA t16 t22 (.bool false)) h fun t23 h =>
 R t23 h
theorem she54 (C : CallA) (x0 y1 : AV) (h : H) (R : AV → H → Prop) : wpA C an54 (argE [x0, y1]) h (outA [(.tmp 4)] R) = sh54 C x0 y1 h R := by kernel_rfl
/-! slices.Equal[[]string,string] -/
def an55 : ACode :=
 (.seq (.reg 0 [] [] [sD 4 (.mv (.c (.bool false)))])
 (.seq (.seq (.reg 0 [] [] [sD 6 (.mv (.t 0)),
 sD 7 (.len false (.t 6)),
 sD 8 (.mv (.t 1)),
 sD 9 (.len false (.t 8)),
 sD 10 (.bin .neq .num (.t 7) (.t 9))])
 (.cond (.t 10) (.seq (.reg 0 [] [] [sD 4 (.mv (.c (.bool false)))])
 .ret)
 .skip))
 (.seq (.seq (.reg 0 [] [] [sD 11 (.mv (.t 0)),
 sD 12 (.len false (.t 11)),
 sD 13 (.mv (.c (.int .i64 0)))])
 (.block 0 (.loop [13] 12291 (.seq (.reg 0 [] [] [sD 14 (.bin .lss .num (.t 13) (.t 12))])
 (.seq (.cond (.t 14) .skip
 (.exit 0))
 (.seq (.block 1 (.seq (.reg 0 [] [] [sD 15 (.mv (.t 13)),
 sD 5 (.mv (.t 15))])
 (.seq (.reg 0 [0, 1, 2, 3, 4, 5, 6, 7, 8] [[], [], [1, 0], [0, 1, 2], [], [], [5, 4], [4, 5, 6], [6, 5, 4, 7, 2, 1, 0, 3]] [sD 16 (.mv (.t 0)),
 sD 17 (.mv (.t 5)),
 sD 18 (.ia none 1 (.t 16) (.t 17)),
 sD 19 (.ld none (.t 18)),
 sD 20 (.mv (.t 1)),
 sD 21 (.mv (.t 5)),
 sD 22 (.ia none 1 (.t 20) (.t 21)),
 sD 23 (.ld none (.t 22)),
 sD 24 (.bin .neq .num (.t 19) (.t 23))])
 (.cond (.t 24) (.seq (.reg 0 [] [] [sD 4 (.mv (.c (.bool false)))])
 .ret)
 .skip))))
 (.reg 0 [] [] [sD 25 (.bin .add .num (.t 13) (.c (.int .i64 1))),
 sD 13 (.mv (.t 25))])))))))
 (.seq (.reg 0 [] [] [sD 4 (.mv (.c (.bool true)))])
 .ret))))
def fn55 : IFun := ⟨26, [(.tmp 4)], an55.erase⟩
theorem ok55 : okFun Tryz.prog 55 fn55 = true := by kernel_rfl
theorem oka55 : okA fn55.ntmps fn55.results an55 = true := by kernel_rfl
def sh55 (C : CallA) (s10 s21 : AV) (h : H) (R : AV → H → Prop) : Prop :=
 valA (lenA false s10) h fun t7 h =>
 valA (lenA false s21) h fun t9 h =>
 valA (binOp .neq .num t7 t9) h fun t10 h =>
 condA t10
 (R (.bool false) h)
 (joinA (fun (h : H) =>
 R (.bool true) h) fun J =>
 valA (lenA false s10) h fun t12 h =>
 loopA (fun N l h => argA l 0 fun t13 => 
 valA (binOp .lss .num t13 t12) h fun t14 h =>
 condA t14
 (valA (iaA 1 s10 t13) h fun t18 h =>
 valA (ldA h none t18) h fun t19 h =>
 valA (iaA 1 s21 t13) h fun t22 h =>
 valA (ldA h none t22) h fun t23 h =>
 valA (binOp .neq .num t19 t23) h fun t24 h =>
 condA t24
 (R (.bool false) h)
 (valA (binOp .add .num t13 (.int .i64 1)) h fun t25 h =>
 N [t25] h))
 (J h)) [(.int .i64 0)] h)
theorem she55 (C : CallA) (s10 s21 : AV) (h : H) (R : AV → H → Prop) : wpA C an55 (argE [s10, s21]) h (outA [(.tmp 4)] R) = sh55 C s10 s21 h R := by kernel_rfl
/-! slices.EqualFunc[[]bellows/api.Func,[]bellows/api.Func,bellows/api.Func,bellows/api.Func] -/
def an56 : ACode :=
 (.seq (.reg 0 [] [] [sD 6 (.mv (.c (.bool false)))])
 (.seq (.seq (.reg 0 [] [] [sD 10 (.mv (.t 0)),
 sD 11 (.len false (.t 10)),
 sD 12 (.mv (.t 1)),
 sD 13 (.len false (.t 12)),
 sD 14 (.bin .neq .num (.t 11) (.t 13))])
 (.cond (.t 14) (.seq (.reg 0 [] [] [sD 6 (.mv (.c (.bool false)))])
 .ret)
 .skip))
 (.seq (.seq (.reg 0 [] [] [sD 15 (.mv (.t 0)),
 sD 16 (.len false (.t 15)),
 sD 17 (.mv (.c (.int .i64 0)))])
 (.block 0 (.loop [17] 229382 (.seq (.reg 0 [] [] [sD 18 (.bin .lss .num (.t 17) (.t 16))])
 (.seq (.cond (.t 18) .skip
 (.exit 0))
 (.seq (.block 1 (.seq (.reg 0 [] [] [sD 19 (.mv (.t 17)),
 sD 20 (.ia none 4 (.t 15) (.t 17)),
 sD 21 (.ld (some 4) (.t 20)),
 sD 8 (.al none 39 [.nilsl, (.int .i64 0), (.int .i64 0), .nilsl]),
 sD 7 (.mv (.t 19)),
 sN (.st 4 (.t 8) (.t 21))])
 (.seq (.reg 0 [] [] [sD 22 (.mv (.t 1)),
 sD 23 (.mv (.t 7)),
 sD 24 (.ia none 4 (.t 22) (.t 23)),
 sD 25 (.ld (some 4) (.t 24)),
 sD 9 (.al none 39 [.nilsl, (.int .i64 0), (.int .i64 0), .nilsl]),
 sN (.st 4 (.t 9) (.t 25))])
 (.seq (.reg 0 [] [] [sD 26 (.mv (.t 2)),
 sD 27 (.ld (some 4) (.t 8)),
 sD 28 (.ld (some 4) (.t 9)),
 sD 29 (.callv (.t 26) [(.t 27), (.t 28)]),
 sD 30 (.un .not (.t 29))])
 (.cond (.t 30) (.seq (.reg 0 [] [] [sD 6 (.mv (.c (.bool false)))])
 .ret)
 .skip)))))
 (.reg 0 [] [] [sD 31 (.bin .add .num (.t 17) (.c (.int .i64 1))),
 sD 17 (.mv (.t 31))])))))))
 (.seq (.reg 0 [] [] [sD 6 (.mv (.c (.bool true)))])
 .ret))))
def fn56 : IFun := ⟨32, [(.tmp 6)], an56.erase⟩
theorem ok56 : okFun Tryz.prog 56 fn56 = true := by kernel_rfl
theorem oka56 : okA fn56.ntmps fn56.results an56 = true := by kernel_rfl
def sh56 (C : CallA) (s10 s21 eq2 : AV) (h : H) (R : AV → H → Prop) : Prop :=
 valA (lenA false s10) h fun t11 h =>
 valA (lenA false s21) h fun t13 h =>
 valA (binOp .neq .num t11 t13) h fun t14 h =>
 condA t14
 (R (.bool false) h)
 (joinA (fun (h : H) =>
 R (.bool true) h) fun J =>
 valA (lenA false s10) h fun t16 h =>
 loopA (fun N l h => argA l 0 fun t17 => 
 valA (binOp .lss .num t17 t16) h fun t18 h =>
 condA t18
 (valA (iaA 4 s10 t17) h fun t20 h =>
 valA (ldA h (some 4) t20) h fun t21 h =>
 boxA h [.nilsl, (.int .i64 0), (.int .i64 0), .nilsl] 39 fun v18 h =>
 memA (stA h 4 v18 t21) .undef fun _ h =>
 valA (iaA 4 s21 t17) h fun t24 h =>
 valA (ldA h (some 4) t24) h fun t25 h =>
 boxA h [.nilsl, (.int .i64 0), (.int .i64 0), .nilsl] 39 fun v29 h =>
 memA (stA h 4 v29 t25) .undef fun _ h =>
 valA (ldA h (some 4) v18) h fun t27 h =>
 valA (ldA h (some 4) v29) h fun t28 h =>
 callvA C eq2 [t27, t28] h fun t29 h =>
 valA (unOp .not t29) h fun t30 h =>
 condA t30
 (R (.bool false) h)
 (valA (binOp .add .num t17 (.int .i64 1)) h fun t31 h =>
 N [t31] h))
 (J h)) [(.int .i64 0)] h)
theorem she56 (C : CallA) (s10 s21 eq2 : AV) (h : H) (R : AV → H → Prop) : wpA C an56 (argE [s10, s21, eq2]) h (outA [(.tmp 6)] R) = sh56 C s10 s21 eq2 h R := by kernel_rfl
/-! bellows/code.alike -/
def an57 : ACode :=
 (.seq (.reg 0 [] [] [sD 2 (.bx none 39 (.t 0)),
 sD 3 (.bx none 39 (.t 1)),
 sD 4 (.mv (.c (.bool false)))])
 (.seq (.reg 0 [] [] [sD 5 (.fa 0 (.t 2)),
 sD 6 (.ld none (.t 5)),
 sD 7 (.fa 0 (.t 3)),
 sD 8 (.ld none (.t 7)),
 sD 9 (.call 52 [(.t 6), (.t 8)]),
 sD 10 (.mv (.t 9)),
 sG 11 10 true (.fa 1 (.t 2)),
 sG 12 10 true (.ld none (.t 11)),
 sG 13 10 true (.fa 1 (.t 3)),
 sG 14 10 true (.ld none (.t 13)),
 sG 15 10 true (.bin .eql .num (.t 12) (.t 14)),
 sD 16 (.pick (.t 10) (.t 15) (.c (.bool false))),
 sD 17 (.mv (.t 16)),
 sG 18 17 true (.fa 2 (.t 2)),
 sG 19 17 true (.ld none (.t 18)),
 sG 20 17 true (.fa 2 (.t 3)),
 sG 21 17 true (.ld none (.t 20)),
 sG 22 17 true (.bin .eql .num (.t 19) (.t 21)),
 sD 23 (.pick (.t 17) (.t 22) (.c (.bool false))),
 sD 24 (.mv (.t 23)),
 sG 25 24 true (.fa 3 (.t 2)),
 sG 26 24 true (.ld none (.t 25)),
 sG 27 24 true (.fa 3 (.t 3)),
 sG 28 24 true (.ld none (.t 27)),
 sG 29 24 true (.call 96 [(.t 26), (.t 28), (.c (.fn 97 [] []))]),
 sD 30 (.pick (.t 24) (.t 29) (.c (.bool false))),
 sD 4 (.mv (.t 30))])
 .ret))
def fn57 : IFun := ⟨31, [(.tmp 4)], an57.erase⟩
theorem ok57 : okFun Tryz.prog 57 fn57 = true := by kernel_rfl
theorem oka57 : okA fn57.ntmps fn57.results an57 = true := by kernel_rfl
def sh57 (C : CallA) (f0 g1 : AV) (h : H) (R : AV → H → Prop) : Prop :=
 boxA h (AV.cells f0) 39 fun f2 h =>
 boxA h (AV.cells g1) 39 fun g3 h =>
 valA (faA 0 f2) h fun t5 h =>
 valA (ldA h none t5) h fun t6 h =>
 valA (faA 0 g3) h fun t7 h =>
 valA (ldA h none t7) h fun t8 h =>
 C 52 [t6, t8] h fun t9 h =>
 whenA t9 true (fun K => valA (faA 1 f2) h K) h fun t11 h =>
 whenA t9 true (fun K => valA (ldA h none t11) h K) h fun t12 h =>
 whenA t9 true (fun K => valA (faA 1 g3) h K) h fun t13 h =>
 whenA t9 true (fun K => valA (ldA h none t13) h K) h fun t14 h =>
 whenA t9 true (fun K => valA (binOp .eql .num t12 t14) h K) h fun t15 h =>
 valA (pickA t9 t15 (.bool false)) h fun t16 h =>
 whenA t16 true (fun K => valA (faA 2 f2) h K) h fun t18 h =>
 whenA t16 true (fun K => valA (ldA h none t18) h K) h fun t19 h =>
 whenA t16 true (fun K => valA (faA 2 g3) h K) h fun t20 h =>
 whenA t16 true (fun K => valA (ldA h none t20) h K) h fun t21 h =>
 whenA t16 true (fun K => valA (binOp .eql .num t19 t21) h K) h fun t22 h =>
 valA (pickA t16 t22 (.bool false)) h fun t23 h =>
 whenA t23 true (fun K => valA (faA 3 f2) h K) h fun t25 h =>
 whenA t23 true (fun K => valA (ldA h none t25) h K) h fun t26 h =>
 whenA t23 true (fun K => valA (faA 3 g3) h K) h fun t27 h =>
 whenA t23 true (fun K => valA (ldA h none t27) h K) h fun t28 h =>
 whenA t23 true (fun K => C 96 [t26, t28, (.fn 97 [] [])] h K) h fun t29 h =>
 valA (pickA t23 t29 (.bool false)) h fun t30 h =>
 R t30 h
theorem she57 (C : CallA) (f0 g1 : AV) (h : H) (R : AV → H → Prop) : wpA C an57 (argE [f0, g1]) h (outA [(.tmp 4)] R) = sh57 C f0 g1 h R := by kernel_rfl
/-! bellows/code.Encode -/
def an58 : ACode :=
 (.seq (.reg 0 [] [] [sD 1 (.bx none 28 (.t 0)),
 sD 2 (.mv (.c .nilsl)),
 sD 3 (.mv (.c (.int .i64 0)))])
 (.seq (.seq (.reg 0 [] [] [sD 6 (.ld (some 7) (.t 1)),
 sD 7 (.call 43 [(.t 6)]),
 sD 4 (.mv (.t 7))])
 (.seq (.reg 0 [] [] [sD 8 (.mv (.t 4)),
 sD 9 (.bin .neq .num (.t 8) (.c (.int .i64 0)))])
 (.cond (.t 9) (.seq (.reg 0 [] [] [sD 10 (.mv (.t 4)),
 sD 2 (.mv (.c .nilsl)),
 sD 3 (.mv (.t 10))])
 .ret)
 .skip)))
 (.seq (.reg 0 [] [] [sD 11 (.mksl none 5 [(.int .u8 0), (.int .u8 0), (.int .u8 0), (.int .u8 0)] 4 [(0, 1, (.c (.int .u8 66))), (1, 1, (.c (.int .u8 69))), (2, 1, (.c (.int .u8 76))), (3, 1, (.c (.int .u8 49)))]),
 sD 12 (.cv none .keep (.t 11)),
 sD 13 (.build [.nilsl] [(0, 1, (.t 12))]),
 sD 14 (.bx none 121 (.t 13)),
 sD 5 (.mv (.t 14))])
 (.seq (.reg 0 [] [] [sD 15 (.mv (.t 5)),
 sD 16 (.fa 0 (.t 1)),
 sD 17 (.ld none (.t 16)),
 sD 18 (.mv (.t 5)),
 sD 19 (.mkf 101 [(.t 18)] []),
 sD 20 (.call 100 [(.t 15), (.t 17), (.t 19)])])
 (.seq (.reg 0 [] [] [sD 21 (.mv (.t 5)),
 sD 22 (.fa 1 (.t 1)),
 sD 23 (.ld none (.t 22)),
 sD 24 (.mv (.t 5)),
 sD 25 (.mkf 103 [(.t 24)] []),
 sD 26 (.call 102 [(.t 21), (.t 23), (.t 25)])])
 (.seq (.reg 0 [] [] [sD 27 (.mv (.t 5)),
 sD 28 (.fa 2 (.t 1)),
 sD 29 (.ld none (.t 28)),
 sD 30 (.mv (.t 5)),
 sD 31 (.mkf 105 [(.t 30)] []),
 sD 32 (.call 104 [(.t 27), (.t 29), (.t 31)])])
 (.seq (.reg 0 [] [] [sD 33 (.mv (.t 5)),
 sD 34 (.fa 3 (.t 1)),
 sD 35 (.ld none (.t 34)),
 sD 36 (.mv (.t 5)),
 sD 37 (.mkf 105 [(.t 36)] []),
 sD 38 (.call 104 [(.t 33), (.t 35), (.t 37)])])
 (.seq (.reg 0 [] [] [sD 39 (.mv (.t 5)),
 sD 40 (.fa 4 (.t 1)),
 sD 41 (.ld none (.t 40)),
 sD 42 (.mv (.t 5)),
 sD 43 (.mkf 107 [(.t 42)] []),
 sD 44 (.call 106 [(.t 39), (.t 41), (.t 43)])])
 (.seq (.reg 0 [] [] [sD 45 (.mv (.t 5)),
 sD 46 (.fa 5 (.t 1)),
 sD 47 (.ld none (.t 46)),
 sD 48 (.call 108 [(.t 45), (.t 47)])])
 (.seq (.reg 0 [] [] [sD 49 (.mv (.t 5)),
 sD 50 (.fa 6 (.t 1)),
 sD 51 (.ld none (.t 50)),
 sD 52 (.call 108 [(.t 49), (.t 51)])])
 (.seq (.reg 0 [] [] [sD 53 (.mv (.t 5)),
 sD 54 (.nilc (.t 53)),
 sD 55 (.fa 0 (.t 54)),
 sD 56 (.ld none (.t 55)),
 sD 2 (.mv (.t 56)),
 sD 3 (.mv (.c (.int .i64 0)))])
 .ret)))))))))))
def fn58 : IFun := ⟨57, [(.tmp 2), (.tmp 3)], an58.erase⟩
theorem ok58 : okFun Tryz.prog 58 fn58 = true := by kernel_rfl
theorem oka58 : okA fn58.ntmps fn58.results an58 = true := by kernel_rfl
def sh58 (C : CallA) (m0 : AV) (h : H) (R : AV → H → Prop) : Prop :=
 boxA h (AV.cells m0) 28 fun m1 h =>
 valA (ldA h (some 7) m1) h fun t6 h =>
 C 43 [t6] h fun t7 h =>
 valA (binOp .neq .num t7 (.int .i64 0)) h fun t9 h =>
 condA t9
 (R (.tup [.nilsl, t7]) h)
 (mkslA h 5 4 (fillV [(.int .u8 0), (.int .u8 0), (.int .u8 0), (.int .u8 0)] [(0, 1, (.int .u8 66)), (1, 1, (.int .u8 69)), (2, 1, (.int .u8 76)), (3, 1, (.int .u8 49))]) fun t11 h =>
 valA (keepA h t11) h fun t12 h =>
 valA (buildA (fillV [.nilsl] [(0, 1, t12)])) h fun t13 h =>
 boxA h (AV.cells t13) 121 fun t14 h =>
 valA (faA 0 m1) h fun t16 h =>
 valA (ldA h none t16) h fun t17 h =>
 C 100 [t14, t17, (.fn 101 [t14] [])] h fun t20 h =>
 valA (faA 1 m1) h fun t22 h =>
 valA (ldA h none t22) h fun t23 h =>
 C 102 [t14, t23, (.fn 103 [t14] [])] h fun t26 h =>
 valA (faA 2 m1) h fun t28 h =>
 valA (ldA h none t28) h fun t29 h =>
 C 104 [t14, t29, (.fn 105 [t14] [])] h fun t32 h =>
 valA (faA 3 m1) h fun t34 h =>
 valA (ldA h none t34) h fun t35 h =>
 C 104 [t14, t35, (.fn 105 [t14] [])] h fun t38 h =>
 valA (faA 4 m1) h fun t40 h =>
 valA (ldA h none t40) h fun t41 h =>
 C 106 [t14, t41, (.fn 107 [t14] [])] h fun t44 h =>
 valA (faA 5 m1) h fun t46 h =>
 valA (ldA h none t46) h fun t47 h =>
 C 108 [t14, t47] h fun t48 h =>
 valA (faA 6 m1) h fun t50 h =>
 valA (ldA h none t50) h fun t51 h =>
 C 108 [t14, t51] h fun t52 h =>
 valA (nilcA t14) h fun t54 h =>
 valA (faA 0 t54) h fun t55 h =>
 valA (ldA h none t55) h fun t56 h =>
 R (.tup [t56, (.int .i64 0)]) h)
theorem she58 (C : CallA) (m0 : AV) (h : H) (R : AV → H → Prop) : wpA C an58 (argE [m0]) h (outA [(.tmp 2), (.tmp 3)] R) = sh58 C m0 h R := by kernel_rfl
/-! bellows/code.Uses -/
def an59 : ACode :=
 (.seq (.reg 0 [] [] [sD 2 (.mv (.c (.str [])))])
 (.seq (.seq (.reg 0 [] [] [sD 3 (.mv (.t 0))])
 (.block 0 (.seq (.reg 0 [] [] [sD 5 (.bin .eql .num (.t 3) (.c (.int .i64 1))),
 sD 4 (.mv (.t 5))])
 (.cond (.t 4) (.seq (.reg 0 [] [] [sD 2 (.mv (.c (.str [68, 78])))])
 .ret)
 (.seq (.reg 0 [] [] [sD 7 (.bin .eql .num (.t 3) (.c (.int .i64 2))),
 sD 6 (.mv (.t 7))])
 (.cond (.t 6) (.seq (.reg 0 [] [] [sD 2 (.mv (.c (.str [68, 65, 108])))])
 .ret)
 (.seq (.seq (.reg 0 [] [] [sD 9 (.bin .eql .num (.t 3) (.c (.int .i64 3))),
 sD 8 (.mv (.t 9))])
 (.cond (.t 8) .skip
 (.reg 0 [] [] [sD 10 (.bin .eql .num (.t 3) (.c (.int .i64 11))),
 sD 8 (.mv (.t 10))])))
 (.cond (.t 8) (.seq (.reg 0 [] [] [sD 2 (.mv (.c (.str [68, 65])))])
 .ret)
 (.seq (.reg 0 [] [] [sD 12 (.bin .eql .num (.t 3) (.c (.int .i64 4))),
 sD 11 (.mv (.t 12))])
 (.cond (.t 11) (.seq (.reg 0 [] [] [sD 2 (.mv (.c (.str [68, 65, 66, 78])))])
 .ret)
 (.seq (.reg 0 [] [] [sD 14 (.bin .eql .num (.t 3) (.c (.int .i64 5))),
 sD 13 (.mv (.t 14))])
 (.cond (.t 13) (.seq (.reg 0 [] [] [sD 2 (.mv (.c (.str [68, 65, 76, 108])))])
 .ret)
 (.seq (.seq (.reg 0 [] [] [sD 16 (.bin .eql .num (.t 3) (.c (.int .i64 6))),
 sD 15 (.mv (.t 16))])
 (.cond (.t 15) .skip
 (.seq (.reg 0 [] [] [sD 17 (.bin .eql .num (.t 3) (.c (.int .i64 9))),
 sD 15 (.mv (.t 17))])
 (.cond (.t 15) .skip
 (.seq (.reg 0 [] [] [sD 18 (.bin .eql .num (.t 3) (.c (.int .i64 12))),
 sD 15 (.mv (.t 18))])
 (.cond (.t 15) .skip
 (.reg 0 [] [] [sD 19 (.bin .eql .num (.t 3) (.c (.int .i64 14))),
 sD 15 (.mv (.t 19))])))))))
 (.cond (.t 15) (.seq (.reg 0 [] [] [sD 2 (.mv (.c (.str [68, 65, 66])))])
 .ret)
 (.seq (.seq (.reg 0 [] [] [sD 21 (.bin .eql .num (.t 3) (.c (.int .i64 7))),
 sD 20 (.mv (.t 21))])
 (.cond (.t 20) .skip
 (.seq (.reg 0 [] [] [sD 22 (.bin .eql .num (.t 3) (.c (.int .i64 10))),
 sD 20 (.mv (.t 22))])
 (.cond (.t 20) .skip
 (.reg 0 [] [] [sD 23 (.bin .eql .num (.t 3) (.c (.int .i64 19))),
 sD 20 (.mv (.t 23))])))))
 (.cond (.t 20) (.seq (.reg 0 [] [] [sD 2 (.mv (.c (.str [65, 66, 67])))])
 .ret)
 (.seq (.reg 0 [] [] [sD 25 (.bin .eql .num (.t 3) (.c (.int .i64 8))),
 sD 24 (.mv (.t 25))])
 (.cond (.t 24) (.seq (.reg 0 [] [] [sD 2 (.mv (.c (.str [68, 65, 66, 67, 108])))])
 .ret)
 (.seq (.reg 0 [] [] [sD 27 (.bin .eql .num (.t 3) (.c (.int .i64 13))),
 sD 26 (.mv (.t 27))])
 (.cond (.t 26) (.seq (.reg 0 [] [] [sD 2 (.mv (.c (.str [68, 65, 66, 108])))])
 .ret)
 (.seq (.reg 0 [] [] [sD 29 (.bin .eql .num (.t 3) (.c (.int .i64 15))),
 sD 28 (.mv (.t 29))])
 (.cond (.t 28) (.seq (.reg 0 [] [] [sD 2 (.mv (.c (.str [68])))])
 .ret)
 (.seq (.seq (.reg 0 [] [] [sD 31 (.bin .eql .num (.t 3) (.c (.int .i64 16))),
 sD 30 (.mv (.t 31))])
 (.cond (.t 30) .skip
 (.seq (.reg 0 [] [] [sD 32 (.bin .eql .num (.t 3) (.c (.int .i64 18))),
 sD 30 (.mv (.t 32))])
 (.cond (.t 30) .skip
 (.seq (.reg 0 [] [] [sD 33 (.bin .eql .num (.t 3) (.c (.int .i64 22))),
 sD 30 (.mv (.t 33))])
 (.cond (.t 30) .skip
 (.reg 0 [] [] [sD 34 (.bin .eql .num (.t 3) (.c (.int .i64 23))),
 sD 30 (.mv (.t 34))])))))))
 (.cond (.t 30) (.seq (.reg 0 [] [] [sD 2 (.mv (.c (.str [65])))])
 .ret)
 (.seq (.reg 0 [] [] [sD 36 (.bin .eql .num (.t 3) (.c (.int .i64 17))),
 sD 35 (.mv (.t 36))])
 (.cond (.t 35) (.seq (.reg 0 [] [] [sD 2 (.mv (.c (.str [68, 65, 66, 67, 76, 108])))])
 .ret)
 (.seq (.reg 0 [] [] [sD 38 (.bin .eql .num (.t 3) (.c (.int .i64 20))),
 sD 37 (.mv (.t 38))])
 (.cond (.t 37) (.seq (.reg 0 [] [] [sD 2 (.mv (.c (.str [65, 76, 77, 66])))])
 .ret)
 (.seq (.reg 0 [] [] [sD 40 (.bin .eql .num (.t 3) (.c (.int .i64 21))),
 sD 39 (.mv (.t 40))])
 (.cond (.t 39) (.seq (.reg 0 [] [] [sD 2 (.mv (.c (.str [65, 76])))])
 .ret)
 .skip))))))))))))))))))))))))))))))
 (.seq (.reg 0 [] [] [sD 2 (.mv (.c (.str [])))])
 .ret)))
def fn59 : IFun := ⟨41, [(.tmp 2)], an59.erase⟩
theorem ok59 : okFun Tryz.prog 59 fn59 = true := by kernel_rfl
theorem oka59 : okA fn59.ntmps fn59.results an59 = true := by kernel_rfl
def sh59 (C : CallA) (op0 : AV) (h : H) (R : AV → H → Prop) : Prop :=
 valA (binOp .eql .num op0 (.int .i64 1)) h fun t5 h =>
 condA t5
 (R (.str [68, 78]) h)
 (valA (binOp .eql .num op0 (.int .i64 2)) h fun t7 h =>
 condA t7
 (R (.str [68, 65, 108]) h)
 (joinA (fun (t8' : AV) (h : H) =>
 condA t8'
 (R (.str [68, 65]) h)
 (valA (binOp .eql .num op0 (.int .i64 4)) h fun t12 h =>
 condA t12
 (R (.str [68, 65, 66, 78]) h)
 (valA (binOp .eql .num op0 (.int .i64 5)) h fun t14 h =>
 condA t14
 (R (.str [68, 65, 76, 108]) h)
 (joinA (fun (t15' : AV) (h : H) =>
 condA t15'
 (R (.str [68, 65, 66]) h)
 (joinA (fun (t20' : AV) (h : H) =>
 condA t20'
 (R (.str [65, 66, 67]) h)
 (valA (binOp .eql .num op0 (.int .i64 8)) h fun t25 h =>
 condA t25
 (R (.str [68, 65, 66, 67, 108]) h)
 (valA (binOp .eql .num op0 (.int .i64 13)) h fun t27 h =>
 condA t27
 (R (.str [68, 65, 66, 108]) h)
 (valA (binOp .eql .num op0 (.int .i64 15)) h fun t29 h =>
 condA t29
 (R (.str [68]) h)
 (joinA (fun (t30' : AV) (h : H) =>
 condA t30'
 (R (.str [65]) h)
 (valA (binOp .eql .num op0 (.int .i64 17)) h fun t36 h =>
 condA t36
 (R (.str [68, 65, 66, 67, 76, 108]) h)
 (valA (binOp .eql .num op0 (.int .i64 20)) h fun t38 h =>
 condA t38
 (R (.str [65, 76, 77, 66]) h)
 (valA (binOp .eql .num op0 (.int .i64 21)) h fun t40 h =>
 condA t40
 (R (.str [65, 76]) h)
 (R (.str []) h))))) fun J =>
 valA (binOp .eql .num op0 (.int .i64 16)) h fun t31 h =>
 condA t31
 (J t31 h)
 (valA (binOp .eql .num op0 (.int .i64 18)) h fun t32 h =>
 condA t32
 (J t32 h)
 (valA (binOp .eql .num op0 (.int .i64 22)) h fun t33 h =>
 condA t33
 (J t33 h)
 (valA (binOp .eql .num op0 (.int .i64 23)) h fun t34 h =>
 J t34 h)))))))) fun J_0 =>
 valA (binOp .eql .num op0 (.int .i64 7)) h fun t21 h =>
 condA t21
 (J_0 t21 h)
 (valA (binOp .eql .num op0 (.int .i64 10)) h fun t22 h =>
 condA t22
 (J_0 t22 h)
 (valA (binOp .eql .num op0 (.int .i64 19)) h fun t23 h =>
 J_0 t23 h)))) fun J_1 =>
 valA (binOp .eql .num op0 (.int .i64 6)) h fun t16 h =>
 condA t16
 (J_1 t16 h)
 (valA (binOp .eql .num op0 (.int .i64 9)) h fun t17 h =>
 condA t17
 (J_1 t17 h)
 (valA (binOp .eql .num op0 (.int .i64 12)) h fun t18 h =>
 condA t18
 (J_1 t18 h)
 (valA (binOp .eql .num op0 (.int .i64 14)) h fun t19 h =>
 J_1 t19 h))))))) fun J_2 =>
 valA (binOp .eql .num op0 (.int .i64 3)) h fun t9 h =>
 condA t9
 (J_2 t9 h)
 (valA (binOp .eql .num op0 (.int .i64 11)) h fun t10 h =>
 J_2 t10 h)))
theorem she59 (C : CallA) (op0 : AV) (h : H) (R : AV → H → Prop) : wpA C an59 (argE [op0]) h (outA [(.tmp 2)] R) = sh59 C op0 h R := by kernel_rfl
/-! bellows/code.Plain -/
def an60 : ACode :=
 (.seq (.reg 0 [] [] [sD 1 (.bx none 55 (.t 0)),
 sD 2 (.mv (.c (.bool false)))])
 (.seq (.reg 0 [] [] [sD 8 (.ld (some 9) (.t 1)),
 sD 3 (.al none 55 [(.int .i64 0), (.int .i64 0), (.int .i64 0), (.int .i64 0), (.int .i64 0), (.int .i64 0), .nilsl, .nilsl, .nilsl]),
 sN (.st 9 (.t 3) (.t 8))])
 (.seq (.reg 0 [] [] [sD 9 (.fa 0 (.t 1)),
 sD 10 (.ld none (.t 9)),
 sD 11 (.call 59 [(.t 10)]),
 sD 4 (.mv (.t 11))])
 (.seq (.seq (.reg 0 [] [] [sD 12 (.mv (.t 4)),
 sD 13 (.cv none (.s2b 5) (.t 12)),
 sD 14 (.len false (.t 13)),
 sD 15 (.mv (.c (.int .i64 0)))])
 (.block 0 (.loop [15] 57368 (.seq (.reg 0 [] [] [sD 16 (.bin .lss .num (.t 15) (.t 14))])
 (.seq (.cond (.t 16) .skip
 (.exit 0))
 (.seq (.block 1 (.seq (.reg 0 [] [] [sD 17 (.ia none 1 (.t 13) (.t 15)),
 sD 18 (.ld none (.t 17)),
 sD 6 (.mv (.t 18))])
 (.seq (.reg 0 [] [] [sD 19 (.mv (.t 6)),
 sD 20 (.bin .eql .num (.t 19) (.c (.int .u8 78)))])
 (.cond (.t 20) (.reg 0 [] [] [sD 21 (.fa 5 (.t 3)),
 sN (.st 1 (.t 21) (.c (.int .i64 0)))])
 (.seq (.reg 0 [] [] [sD 22 (.mv (.t 6)),
 sD 23 (.call 109 [(.t 3), (.t 22)]),
 sD 7 (.mv (.t 23))])
 (.seq (.reg 0 [] [] [sD 24 (.mv (.t 7)),
 sD 25 (.bin .neq .ptr (.t 24) (.c .nilp))])
 (.cond (.t 25) (.reg 0 [] [] [sD 26 (.mv (.t 7)),
 sD 27 (.nilc (.t 26)),
 sN (.st 1 (.t 27) (.c (.int .i64 0)))])
 (.reg 0 [] [] [sD 28 (.mv (.t 6)),
 sD 29 (.call 110 [(.t 3), (.t 28)]),
 sD 30 (.nilc (.t 29)),
 sN (.st 1 (.t 30) (.c .nilsl))]))))))))
 (.reg 0 [] [] [sD 31 (.bin .add .num (.t 15) (.c (.int .i64 1))),
 sD 15 (.mv (.t 31))])))))))
 (.seq (.reg 0 [] [] [sD 32 (.mv (.t 4)),
 sD 33 (.bin .neq .num (.t 32) (.c (.str []))),
 sD 34 (.mv (.t 33)),
 sG 35 34 true (.fa 1 (.t 3)),
 sG 36 34 true (.ld none (.t 35)),
 sG 37 34 true (.bin .eql .num (.t 36) (.c (.int .i64 0))),
 sD 38 (.pick (.t 34) (.t 37) (.c (.bool false))),
 sD 39 (.mv (.t 38)),
 sG 40 39 true (.fa 2 (.t 3)),
 sG 41 39 true (.ld none (.t 40)),
 sG 42 39 true (.bin .eql .num (.t 41) (.c (.int .i64 0))),
 sD 43 (.pick (.t 39) (.t 42) (.c (.bool false))),
 sD 44 (.mv (.t 43)),
 sG 45 44 true (.fa 3 (.t 3)),
 sG 46 44 true (.ld none (.t 45)),
 sG 47 44 true (.bin .eql .num (.t 46) (.c (.int .i64 0))),
 sD 48 (.pick (.t 44) (.t 47) (.c (.bool false))),
 sD 49 (.mv (.t 48)),
 sG 50 49 true (.fa 4 (.t 3)),
 sG 51 49 true (.ld none (.t 50)),
 sG 52 49 true (.bin .eql .num (.t 51) (.c (.int .i64 0))),
 sD 53 (.pick (.t 49) (.t 52) (.c (.bool false))),
 sD 54 (.mv (.t 53)),
 sG 55 54 true (.fa 5 (.t 3)),
 sG 56 54 true (.ld none (.t 55)),
 sG 57 54 true (.bin .eql .num (.t 56) (.c (.int .i64 0))),
 sD 58 (.pick (.t 54) (.t 57) (.c (.bool false))),
 sD 59 (.mv (.t 58)),
 sG 60 59 true (.fa 6 (.t 3)),
 sG 61 59 true (.ld none (.t 60)),
 sG 62 59 true (.len false (.t 61)),
 sG 63 59 true (.bin .eql .num (.t 62) (.c (.int .i64 0))),
 sD 64 (.pick (.t 59) (.t 63) (.c (.bool false))),
 sD 65 (.mv (.t 64)),
 sG 66 65 true (.fa 7 (.t 3)),
 sG 67 65 true (.ld none (.t 66)),
 sG 68 65 true (.len false (.t 67)),
 sG 69 65 true (.bin .eql .num (.t 68) (.c (.int .i64 0))),
 sD 70 (.pick (.t 65) (.t 69) (.c (.bool false))),
 sD 71 (.mv (.t 70)),
 sG 72 71 true (.fa 8 (.t 3)),
 sG 73 71 true (.ld none (.t 72)),
 sG 74 71 true (.len false (.t 73)),
 sG 75 71 true (.bin .eql .num (.t 74) (.c (.int .i64 0))),
 sD 76 (.pick (.t 71) (.t 75) (.c (.bool false))),
 sD 2 (.mv (.t 76))])
 .ret)))))
def fn60 : IFun := ⟨77, [(.tmp 2)], an60.erase⟩
theorem ok60 : okFun Tryz.prog 60 fn60 = true := by kernel_rfl
theorem oka60 : okA fn60.ntmps fn60.results an60 = true := by kernel_rfl
def sh60 (C : CallA) (x0 : AV) (h : H) (R : AV → H → Prop) : Prop :=
 boxA h (AV.cells x0) 55 fun x1 h =>
 valA (ldA h (some 9) x1) h fun t8 h =>
 boxA h [(.int .i64 0), (.int .i64 0), (.int .i64 0), (.int .i64 0), (.int .i64 0), (.int .i64 0), .nilsl, .nilsl, .nilsl] 55 fun y3 h =>
 memA (stA h 9 y3 t8) .undef fun _ h =>
 valA (faA 0 x1) h fun t9 h =>
 valA (ldA h none t9) h fun t10 h =>
 C 59 [t10] h fun t11 h =>
 joinA (fun (h : H) =>
 valA (binOp .neq .num t11 (.str [])) h fun t33 h =>
 whenA t33 true (fun K => valA (faA 1 y3) h K) h fun t35 h =>
 whenA t33 true (fun K => valA (ldA h none t35) h K) h fun t36 h =>
 whenA t33 true (fun K => valA (binOp .eql .num t36 (.int .i64 0)) h K) h fun t37 h =>
 valA (pickA t33 t37 (.bool false)) h fun t38 h =>
 whenA t38 true (fun K => valA (faA 2 y3) h K) h fun t40 h =>
 whenA t38 true (fun K => valA (ldA h none t40) h K) h fun t41 h =>
 whenA t38 true (fun K => valA (binOp .eql .num t41 (.int .i64 0)) h K) h fun t42 h =>
 valA (pickA t38 t42 (.bool false)) h fun t43 h =>
 whenA t43 true (fun K => valA (faA 3 y3) h K) h fun t45 h =>
 whenA t43 true (fun K => valA (ldA h none t45) h K) h fun t46 h =>
 whenA t43 true (fun K => valA (binOp .eql .num t46 (.int .i64 0)) h K) h fun t47 h =>
 valA (pickA t43 t47 (.bool false)) h fun t48 h =>
 whenA t48 true (fun K => valA (faA 4 y3) h K) h fun t50 h =>
 whenA t48 true (fun K => valA (ldA h none t50) h K) h fun t51 h =>
 whenA t48 true (fun K => valA (binOp .eql .num t51 (.int .i64 0)) h K) h fun t52 h =>
 valA (pickA t48 t52 (.bool false)) h fun t53 h =>
 whenA t53 true (fun K => valA (faA 5 y3) h K) h fun t55 h =>
 whenA t53 true (fun K => valA (ldA h none t55) h K) h fun t56 h =>
 whenA t53 true (fun K => valA (binOp .eql .num t56 (.int .i64 0)) h K) h fun t57 h =>
 valA (pickA t53 t57 (.bool false)) h fun t58 h =>
 whenA t58 true (fun K => valA (faA 6 y3) h K) h fun t60 h =>
 whenA t58 true (fun K => valA (ldA h none t60) h K) h fun t61 h =>
 whenA t58 true (fun K => valA (lenA false t61) h K) h fun t62 h =>
 whenA t58 true (fun K => valA (binOp .eql .num t62 (.int .i64 0)) h K) h fun t63 h =>
 valA (pickA t58 t63 (.bool false)) h fun t64 h =>
 whenA t64 true (fun K => valA (faA 7 y3) h K) h fun t66 h =>
 whenA t64 true (fun K => valA (ldA h none t66) h K) h fun t67 h =>
 whenA t64 true (fun K => valA (lenA false t67) h K) h fun t68 h =>
 whenA t64 true (fun K => valA (binOp .eql .num t68 (.int .i64 0)) h K) h fun t69 h =>
 valA (pickA t64 t69 (.bool false)) h fun t70 h =>
 whenA t70 true (fun K => valA (faA 8 y3) h K) h fun t72 h =>
 whenA t70 true (fun K => valA (ldA h none t72) h K) h fun t73 h =>
 whenA t70 true (fun K => valA (lenA false t73) h K) h fun t74 h =>
 whenA t70 true (fun K => valA (binOp .eql .num t74 (.int .i64 0)) h K) h fun t75 h =>
 valA (pickA t70 t75 (.bool false)) h fun t76 h =>
 R t76 h) fun J =>
 s2bA h 5 t11 fun t13 h =>
 valA (lenA false t13) h fun t14 h =>
 loopA (fun N l h => argA l 0 fun t15 => 
 valA (binOp .lss .num t15 t14) h fun t16 h =>
 condA t16
 (joinA (fun (h : H) =>
 valA (binOp .add .num t15 (.int .i64 1)) h fun t31 h =>
 N [t31] h) fun J_16 =>
 valA (iaA 1 t13 t15) h fun t17 h =>
 valA (ldA h none t17) h fun t18 h =>
 valA (binOp .eql .num t18 (.int .u8 78)) h fun t20 h =>
 condA t20
 (valA (faA 5 y3) h fun t21 h =>
 memA (stA h 1 t21 (.int .i64 0)) .undef fun _ h =>
 J_16 h)
 (C 109 [y3, t18] h fun t23 h =>
 valA (binOp .neq .ptr t23 .nilp) h fun t25 h =>
 condA t25
 (valA (nilcA t23) h fun t27 h =>
 memA (stA h 1 t27 (.int .i64 0)) .undef fun _ h =>
 J_16 h)
 (C 110 [y3, t18] h fun t29 h =>
 valA (nilcA t29) h fun t30 h =>
 memA (stA h 1 t30 .nilsl) .undef fun _ h =>
 J_16 h)))
 (J h)) [(.int .i64 0)] h
theorem she60 (C : CallA) (x0 : AV) (h : H) (R : AV → H → Prop) : wpA C an60 (argE [x0]) h (outA [(.tmp 2)] R) = sh60 C x0 h R := by kernel_rfl
/-! bellows/bellowsref04.big -/
def an61 : ACode :=
 (.seq (.reg 0 [] [] [sD 1 (.bx none 28 (.t 0)),
 sD 2 (.mv (.c (.bool false)))])
 (.seq (.seq (.reg 0 [] [] [sD 18 (.fa 0 (.t 1)),
 sD 19 (.ld none (.t 18)),
 sD 20 (.len false (.t 19)),
 sD 21 (.bin .gtr .num (.t 20) (.c (.int .i64 1024))),
 sD 22 (.mv (.t 21)),
 sG 23 22 false (.fa 1 (.t 1)),
 sG 24 22 false (.ld none (.t 23)),
 sG 25 22 false (.len false (.t 24)),
 sG 26 22 false (.bin .gtr .num (.t 25) (.c (.int .i64 512))),
 sD 27 (.pick (.t 22) (.c (.bool true)) (.t 26)),
 sD 28 (.mv (.t 27)),
 sG 29 28 false (.fa 2 (.t 1)),
 sG 30 28 false (.ld none (.t 29)),
 sG 31 28 false (.len false (.t 30)),
 sG 32 28 false (.bin .gtr .num (.t 31) (.c (.int .i64 256))),
 sD 33 (.pick (.t 28) (.c (.bool true)) (.t 32)),
 sD 34 (.mv (.t 33)),
 sG 35 34 false (.fa 3 (.t 1)),
 sG 36 34 false (.ld none (.t 35)),
 sG 37 34 false (.len false (.t 36)),
 sG 38 34 false (.bin .gtr .num (.t 37) (.c (.int .i64 256))),
 sD 39 (.pick (.t 34) (.c (.bool true)) (.t 38)),
 sD 40 (.mv (.t 39)),
 sG 41 40 false (.fa 4 (.t 1)),
 sG 42 40 false (.ld none (.t 41)),
 sG 43 40 false (.len false (.t 42)),
 sG 44 40 false (.bin .gtr .num (.t 43) (.c (.int .i64 1024))),
 sD 45 (.pick (.t 40) (.c (.bool true)) (.t 44))])
 (.cond (.t 45) (.seq (.reg 0 [] [] [sD 2 (.mv (.c (.bool true)))])
 .ret)
 .skip))
 (.seq (.seq (.reg 0 [] [] [sD 46 (.fa 0 (.t 1)),
 sD 47 (.ld none (.t 46)),
 sD 48 (.len false (.t 47)),
 sD 49 (.mv (.c (.int .i64 0)))])
 (.block 0 (.loop [49] 985162418487298 (.seq (.reg 0 [] [] [sD 50 (.bin .lss .num (.t 49) (.t 48))])
 (.seq (.cond (.t 50) .skip
 (.exit 0))
 (.seq (.block 1 (.seq (.reg 0 [] [] [sD 51 (.ia none 2 (.t 47) (.t 49)),
 sD 52 (.ld (some 2) (.t 51)),
 sD 4 (.al none 46 [(.bool false), .nilsl]),
 sN (.st 2 (.t 4) (.t 52))])
 (.seq (.reg 0 [] [] [sD 53 (.fa 1 (.t 4)),
 sD 54 (.ld none (.t 53)),
 sD 55 (.len false (.t 54)),
 sD 56 (.bin .gtr .num (.t 55) (.c (.int .i64 512)))])
 (.cond (.t 56) (.seq (.reg 0 [] [] [sD 2 (.mv (.c (.bool true)))])
 .ret)
 .skip))))
 (.reg 0 [] [] [sD 57 (.bin .add .num (.t 49) (.c (.int .i64 1))),
 sD 49 (.mv (.t 57))])))))))
 (.seq (.seq (.reg 0 [] [] [sD 58 (.fa 1 (.t 1)),
 sD 59 (.ld none (.t 58)),
 sD 60 (.len false (.t 59)),
 sD 61 (.mv (.c (.int .i64 0)))])
 (.block 2 (.loop [61] 4035225266123964418 (.seq (.reg 0 [] [] [sD 62 (.bin .lss .num (.t 61) (.t 60))])
 (.seq (.cond (.t 62) .skip
 (.exit 2))
 (.seq (.block 3 (.seq (.reg 0 [] [] [sD 63 (.ia none 3 (.t 59) (.t 61)),
 sD 64 (.ld (some 3) (.t 63)),
 sD 6 (.al none 61 [(.int .i64 0), .nilsl, (.str [])]),
 sN (.st 3 (.t 6) (.t 64))])
 (.seq (.reg 0 [] [] [sD 65 (.fa 1 (.t 6)),
 sD 66 (.ld none (.t 65)),
 sD 67 (.len false (.t 66)),
 sD 68 (.bin .gtr .num (.t 67) (.c (.int .i64 200))),
 sD 69 (.mv (.t 68)),
 sG 70 69 false (.fa 2 (.t 6)),
 sG 71 69 false (.ld none (.t 70)),
 sG 72 69 false (.len true (.t 71)),
 sG 73 69 false (.bin .gtr .num (.t 72) (.c (.int .i64 16384))),
 sD 74 (.pick (.t 69) (.c (.bool true)) (.t 73))])
 (.cond (.t 74) (.seq (.reg 0 [] [] [sD 2 (.mv (.c (.bool true)))])
 .ret)
 .skip))))
 (.reg 0 [] [] [sD 75 (.bin .add .num (.t 61) (.c (.int .i64 1))),
 sD 61 (.mv (.t 75))])))))))
 (.seq (.seq (.reg 0 [] [] [sD 76 (.fa 2 (.t 1)),
 sD 77 (.ld none (.t 76)),
 sD 78 (.len false (.t 77)),
 sD 79 (.mv (.c (.int .i64 0)))])
 (.block 4 (.loop [79] 1057810092162800527867906 (.seq (.reg 0 [] [] [sD 80 (.bin .lss .num (.t 79) (.t 78))])
 (.seq (.cond (.t 80) .skip
 (.exit 4))
 (.seq (.block 5 (.seq (.reg 0 [] [] [sD 81 (.ia none 1 (.t 77) (.t 79)),
 sD 82 (.ld none (.t 81)),
 sD 8 (.mv (.t 82))])
 (.seq (.reg 0 [] [] [sD 83 (.mv (.t 8)),
 sD 84 (.len true (.t 83)),
 sD 85 (.bin .gtr .num (.t 84) (.c (.int .i64 16384)))])
 (.cond (.t 85) (.seq (.reg 0 [] [] [sD 2 (.mv (.c (.bool true)))])
 .ret)
 .skip))))
 (.reg 0 [] [] [sD 86 (.bin .add .num (.t 79) (.c (.int .i64 1))),
 sD 79 (.mv (.t 86))])))))))
 (.seq (.seq (.reg 0 [] [] [sD 87 (.fa 3 (.t 1)),
 sD 88 (.ld none (.t 87)),
 sD 89 (.len false (.t 88)),
 sD 90 (.mv (.c (.int .i64 0)))])
 (.block 6 (.loop [90] 2166395068749415481073467394 (.seq (.reg 0 [] [] [sD 91 (.bin .lss .num (.t 90) (.t 89))])
 (.seq (.cond (.t 91) .skip
 (.exit 6))
 (.seq (.block 7 (.seq (.reg 0 [] [] [sD 92 (.ia none 1 (.t 88) (.t 90)),
 sD 93 (.ld none (.t 92)),
 sD 10 (.mv (.t 93))])
 (.seq (.reg 0 [] [] [sD 94 (.mv (.t 10)),
 sD 95 (.len true (.t 94)),
 sD 96 (.bin .gtr .num (.t 95) (.c (.int .i64 16384)))])
 (.cond (.t 96) (.seq (.reg 0 [] [] [sD 2 (.mv (.c (.bool true)))])
 .ret)
 .skip))))
 (.reg 0 [] [] [sD 97 (.bin .add .num (.t 90) (.c (.int .i64 1))),
 sD 90 (.mv (.t 97))])))))))
 (.seq (.reg 0 [] [] [sD 11 (.mv (.c (.int .i64 0)))])
 (.seq (.seq (.reg 0 [] [] [sD 98 (.fa 4 (.t 1)),
 sD 99 (.ld none (.t 98)),
 sD 100 (.len false (.t 99)),
 sD 101 (.mv (.c (.int .i64 0)))])
 (.block 8 (.loop [11, 101] 4436777100798802905238461220864 (.seq (.reg 0 [] [] [sD 102 (.bin .lss .num (.t 101) (.t 100))])
 (.seq (.cond (.t 102) .skip
 (.exit 8))
 (.seq (.block 9 (.seq (.reg 0 [] [] [sD 103 (.ia none 4 (.t 99) (.t 101)),
 sD 104 (.ld (some 4) (.t 103)),
 sD 13 (.al none 39 [.nilsl, (.int .i64 0), (.int .i64 0), .nilsl]),
 sN (.st 4 (.t 13) (.t 104))])
 (.seq (.seq (.reg 0 [] [] [sD 105 (.fa 2 (.t 13)),
 sD 106 (.ld none (.t 105)),
 sD 107 (.bin .gtr .num (.t 106) (.c (.int .i64 200))),
 sD 108 (.mv (.t 107)),
 sG 109 108 false (.fa 0 (.t 13)),
 sG 110 108 false (.ld none (.t 109)),
 sG 111 108 false (.len false (.t 110)),
 sG 112 108 false (.bin .gtr .num (.t 111) (.c (.int .i64 200))),
 sD 113 (.pick (.t 108) (.c (.bool true)) (.t 112)),
 sD 114 (.mv (.t 113)),
 sG 115 114 false (.fa 3 (.t 13)),
 sG 116 114 false (.ld none (.t 115)),
 sG 117 114 false (.len false (.t 116)),
 sG 118 114 false (.bin .gtr .num (.t 117) (.c (.int .i64 2000))),
 sD 119 (.pick (.t 114) (.c (.bool true)) (.t 118))])
 (.cond (.t 119) (.seq (.reg 0 [] [] [sD 2 (.mv (.c (.bool true)))])
 .ret)
 .skip))
 (.seq (.reg 0 [] [] [sD 120 (.fa 3 (.t 13)),
 sD 121 (.ld none (.t 120)),
 sD 122 (.len false (.t 121)),
 sD 123 (.mv (.c (.int .i64 0)))])
 (.block 10 (.loop [11, 123] 18609196377765923019456204082386044928 (.seq (.reg 0 [] [] [sD 124 (.bin .lss .num (.t 123) (.t 122))])
 (.seq (.cond (.t 124) .skip
 (.exit 10))
 (.seq (.block 11 (.seq (.reg 0 [] [] [sD 125 (.ia none 2 (.t 121) (.t 123)),
 sD 126 (.ld (some 2) (.t 125)),
 sD 15 (.al none 42 [.nilsl, .nilsl]),
 sN (.st 2 (.t 15) (.t 126))])
 (.seq (.reg 0 [] [] [sD 127 (.mv (.t 11)),
 sD 128 (.fa 1 (.t 15)),
 sD 129 (.ld none (.t 128)),
 sD 130 (.len false (.t 129)),
 sD 131 (.bin .add .num (.t 127) (.t 130)),
 sD 11 (.mv (.t 131))])
 (.seq (.seq (.reg 0 [] [] [sD 132 (.mv (.t 11)),
 sD 133 (.bin .gtr .num (.t 132) (.c (.int .i64 20000))),
 sD 134 (.mv (.t 133)),
 sG 135 134 false (.fa 0 (.t 15)),
 sG 136 134 false (.ld none (.t 135)),
 sG 137 134 false (.len false (.t 136)),
 sG 138 134 false (.bin .gtr .num (.t 137) (.c (.int .i64 200))),
 sD 139 (.pick (.t 134) (.c (.bool true)) (.t 138))])
 (.cond (.t 139) (.seq (.reg 0 [] [] [sD 2 (.mv (.c (.bool true)))])
 .ret)
 .skip))
 (.seq (.reg 0 [] [] [sD 140 (.fa 1 (.t 15)),
 sD 141 (.ld none (.t 140)),
 sD 142 (.len false (.t 141)),
 sD 143 (.mv (.c (.int .i64 0)))])
 (.block 12 (.loop [143] 19513170657910673014766772944771398703777792 (.seq (.reg 0 [] [] [sD 144 (.bin .lss .num (.t 143) (.t 142))])
 (.seq (.cond (.t 144) .skip
 (.exit 12))
 (.seq (.block 13 (.seq (.reg 0 [] [] [sD 145 (.ia none 9 (.t 141) (.t 143)),
 sD 146 (.ld (some 9) (.t 145)),
 sD 17 (.al none 55 [(.int .i64 0), (.int .i64 0), (.int .i64 0), (.int .i64 0), (.int .i64 0), (.int .i64 0), .nilsl, .nilsl, .nilsl]),
 sN (.st 9 (.t 17) (.t 146))])
 (.seq (.reg 0 [] [] [sD 147 (.fa 6 (.t 17)),
 sD 148 (.ld none (.t 147)),
 sD 149 (.len false (.t 148)),
 sD 150 (.bin .gtr .num (.t 149) (.c (.int .i64 1024))),
 sD 151 (.mv (.t 150)),
 sG 152 151 false (.fa 7 (.t 17)),
 sG 153 151 false (.ld none (.t 152)),
 sG 154 151 false (.len false (.t 153)),
 sG 155 151 false (.bin .gtr .num (.t 154) (.c (.int .i64 1024))),
 sD 156 (.pick (.t 151) (.c (.bool true)) (.t 155)),
 sD 157 (.mv (.t 156)),
 sG 158 157 false (.fa 8 (.t 17)),
 sG 159 157 false (.ld none (.t 158)),
 sG 160 157 false (.len false (.t 159)),
 sG 161 157 false (.bin .gtr .num (.t 160) (.c (.int .i64 200))),
 sD 162 (.pick (.t 157) (.c (.bool true)) (.t 161))])
 (.cond (.t 162) (.seq (.reg 0 [] [] [sD 2 (.mv (.c (.bool true)))])
 .ret)
 .skip))))
 (.reg 0 [] [] [sD 163 (.bin .add .num (.t 143) (.c (.int .i64 1))),
 sD 143 (.mv (.t 163))])))))))))))
 (.reg 0 [] [] [sD 164 (.bin .add .num (.t 123) (.c (.int .i64 1))),
 sD 123 (.mv (.t 164))]))))))))))
 (.reg 0 [] [] [sD 165 (.bin .add .num (.t 101) (.c (.int .i64 1))),
 sD 101 (.mv (.t 165))])))))))
 (.seq (.reg 0 [] [] [sD 2 (.mv (.c (.bool false)))])
 .ret)))))))))
def fn61 : IFun := ⟨166, [(.tmp 2)], an61.erase⟩
theorem ok61 : okFun Tryz.prog 61 fn61 = true := by kernel_rfl
theorem oka61 : okA fn61.ntmps fn61.results an61 = true := by kernel_rfl
def sh61 (C : CallA) (m0 : AV) (h : H) (R : AV → H → Prop) : Prop :=
 boxA h (AV.cells m0) 28 fun m1 h =>
 valA (faA 0 m1) h fun t18 h =>
 valA (ldA h none t18) h fun t19 h =>
 valA (lenA false t19) h fun t20 h =>
 valA (binOp .gtr .num t20 (.int .i64 1024)) h fun t21 h =>
 whenA t21 false (fun K => valA (faA 1 m1) h K) h fun t23 h =>
 whenA t21 false (fun K => valA (ldA h none t23) h K) h fun t24 h =>
 whenA t21 false (fun K => valA (lenA false t24) h K) h fun t25 h =>
 whenA t21 false (fun K => valA (binOp .gtr .num t25 (.int .i64 512)) h K) h fun t26 h =>
 valA (pickA t21 (.bool true) t26) h fun t27 h =>
 whenA t27 false (fun K => valA (faA 2 m1) h K) h fun t29 h =>
 whenA t27 false (fun K => valA (ldA h none t29) h K) h fun t30 h =>
 whenA t27 false (fun K => valA (lenA false t30) h K) h fun t31 h =>
 whenA t27 false (fun K => valA (binOp .gtr .num t31 (.int .i64 256)) h K) h fun t32 h =>
 valA (pickA t27 (.bool true) t32) h fun t33 h =>
 whenA t33 false (fun K => valA (faA 3 m1) h K) h fun t35 h =>
 whenA t33 false (fun K => valA (ldA h none t35) h K) h fun t36 h =>
 whenA t33 false (fun K => valA (lenA false t36) h K) h fun t37 h =>
 whenA t33 false (fun K => valA (binOp .gtr .num t37 (.int .i64 256)) h K) h fun t38 h =>
 valA (pickA t33 (.bool true) t38) h fun t39 h =>
 whenA t39 false (fun K => valA (faA 4 m1) h K) h fun t41 h =>
 whenA t39 false (fun K => valA (ldA h none t41) h K) h fun t42 h =>
 whenA t39 false (fun K => valA (lenA false t42) h K) h fun t43 h =>
 whenA t39 false (fun K => valA (binOp .gtr .num t43 (.int .i64 1024)) h K) h fun t44 h =>
 valA (pickA t39 (.bool true) t44) h fun t45 h =>
 condA t45
 (R (.bool true) h)
 (joinA (fun (h : H) =>
 joinA (fun (h : H) =>
 joinA (fun (h : H) =>
 joinA (fun (h : H) =>
 joinA (fun (h : H) =>
 R (.bool false) h) fun J =>
 valA (faA 4 m1) h fun t98 h =>
 valA (ldA h none t98) h fun t99 h =>
 valA (lenA false t99) h fun t100 h =>
 loopA (fun N l h => argA l 0 fun n11 => argA l 1 fun t101 => 
 valA (binOp .lss .num t101 t100) h fun t102 h =>
 condA t102
 (joinA (fun (n11'_5 : AV) (h : H) =>
 valA (binOp .add .num t101 (.int .i64 1)) h fun t165 h =>
 N [n11'_5, t165] h) fun J_71 =>
 valA (iaA 4 t99 t101) h fun t103 h =>
 valA (ldA h (some 4) t103) h fun t104 h =>
 boxA h [.nilsl, (.int .i64 0), (.int .i64 0), .nilsl] 39 fun f13 h =>
 memA (stA h 4 f13 t104) .undef fun _ h =>
 valA (faA 2 f13) h fun t105 h =>
 valA (ldA h none t105) h fun t106 h =>
 valA (binOp .gtr .num t106 (.int .i64 200)) h fun t107 h =>
 whenA t107 false (fun K => valA (faA 0 f13) h K) h fun t109 h =>
 whenA t107 false (fun K => valA (ldA h none t109) h K) h fun t110 h =>
 whenA t107 false (fun K => valA (lenA false t110) h K) h fun t111 h =>
 whenA t107 false (fun K => valA (binOp .gtr .num t111 (.int .i64 200)) h K) h fun t112 h =>
 valA (pickA t107 (.bool true) t112) h fun t113 h =>
 whenA t113 false (fun K => valA (faA 3 f13) h K) h fun t115 h =>
 whenA t113 false (fun K => valA (ldA h none t115) h K) h fun t116 h =>
 whenA t113 false (fun K => valA (lenA false t116) h K) h fun t117 h =>
 whenA t113 false (fun K => valA (binOp .gtr .num t117 (.int .i64 2000)) h K) h fun t118 h =>
 valA (pickA t113 (.bool true) t118) h fun t119 h =>
 condA t119
 (R (.bool true) h)
 (valA (faA 3 f13) h fun t120 h =>
 valA (ldA h none t120) h fun t121 h =>
 valA (lenA false t121) h fun t122 h =>
 loopA (fun N_72 l h => argA l 0 fun n11_73 => argA l 1 fun t123 => 
 valA (binOp .lss .num t123 t122) h fun t124 h =>
 condA t124
 (joinA (fun (n11'_75 : AV) (h : H) =>
 valA (binOp .add .num t123 (.int .i64 1)) h fun t164 h =>
 N_72 [n11'_75, t164] h) fun J_117 =>
 valA (iaA 2 t121 t123) h fun t125 h =>
 valA (ldA h (some 2) t125) h fun t126 h =>
 boxA h [.nilsl, .nilsl] 42 fun b15 h =>
 memA (stA h 2 b15 t126) .undef fun _ h =>
 valA (faA 1 b15) h fun t128 h =>
 valA (ldA h none t128) h fun t129 h =>
 valA (lenA false t129) h fun t130 h =>
 valA (binOp .add .num n11_73 t130) h fun t131 h =>
 valA (binOp .gtr .num t131 (.int .i64 20000)) h fun t133 h =>
 whenA t133 false (fun K => valA (faA 0 b15) h K) h fun t135 h =>
 whenA t133 false (fun K => valA (ldA h none t135) h K) h fun t136 h =>
 whenA t133 false (fun K => valA (lenA false t136) h K) h fun t137 h =>
 whenA t133 false (fun K => valA (binOp .gtr .num t137 (.int .i64 200)) h K) h fun t138 h =>
 valA (pickA t133 (.bool true) t138) h fun t139 h =>
 condA t139
 (R (.bool true) h)
 (valA (faA 1 b15) h fun t140 h =>
 valA (ldA h none t140) h fun t141 h =>
 valA (lenA false t141) h fun t142 h =>
 loopA (fun N_118 l h => argA l 0 fun t143 => 
 valA (binOp .lss .num t143 t142) h fun t144 h =>
 condA t144
 (valA (iaA 9 t141 t143) h fun t145 h =>
 valA (ldA h (some 9) t145) h fun t146 h =>
 boxA h [(.int .i64 0), (.int .i64 0), (.int .i64 0), (.int .i64 0), (.int .i64 0), (.int .i64 0), .nilsl, .nilsl, .nilsl] 55 fun x17 h =>
 memA (stA h 9 x17 t146) .undef fun _ h =>
 valA (faA 6 x17) h fun t147 h =>
 valA (ldA h none t147) h fun t148 h =>
 valA (lenA false t148) h fun t149 h =>
 valA (binOp .gtr .num t149 (.int .i64 1024)) h fun t150 h =>
 whenA t150 false (fun K => valA (faA 7 x17) h K) h fun t152 h =>
 whenA t150 false (fun K => valA (ldA h none t152) h K) h fun t153 h =>
 whenA t150 false (fun K => valA (lenA false t153) h K) h fun t154 h =>
 whenA t150 false (fun K => valA (binOp .gtr .num t154 (.int .i64 1024)) h K) h fun t155 h =>
 valA (pickA t150 (.bool true) t155) h fun t156 h =>
 whenA t156 false (fun K => valA (faA 8 x17) h K) h fun t158 h =>
 whenA t156 false (fun K => valA (ldA h none t158) h K) h fun t159 h =>
 whenA t156 false (fun K => valA (lenA false t159) h K) h fun t160 h =>
 whenA t156 false (fun K => valA (binOp .gtr .num t160 (.int .i64 200)) h K) h fun t161 h =>
 valA (pickA t156 (.bool true) t161) h fun t162 h =>
 condA t162
 (R (.bool true) h)
 (valA (binOp .add .num t143 (.int .i64 1)) h fun t163 h =>
 N_118 [t163] h))
 (J_117 t131 h)) [(.int .i64 0)] h))
 (J_71 n11_73 h)) [n11, (.int .i64 0)] h))
 (J h)) [(.int .i64 0), (.int .i64 0)] h) fun J_119 =>
 valA (faA 3 m1) h fun t87 h =>
 valA (ldA h none t87) h fun t88 h =>
 valA (lenA false t88) h fun t89 h =>
 loopA (fun N_120 l h => argA l 0 fun t90 => 
 valA (binOp .lss .num t90 t89) h fun t91 h =>
 condA t91
 (valA (iaA 1 t88 t90) h fun t92 h =>
 valA (ldA h none t92) h fun t93 h =>
 valA (lenA true t93) h fun t95 h =>
 valA (binOp .gtr .num t95 (.int .i64 16384)) h fun t96 h =>
 condA t96
 (R (.bool true) h)
 (valA (binOp .add .num t90 (.int .i64 1)) h fun t97 h =>
 N_120 [t97] h))
 (J_119 h)) [(.int .i64 0)] h) fun J_121 =>
 valA (faA 2 m1) h fun t76 h =>
 valA (ldA h none t76) h fun t77 h =>
 valA (lenA false t77) h fun t78 h =>
 loopA (fun N_122 l h => argA l 0 fun t79 => 
 valA (binOp .lss .num t79 t78) h fun t80 h =>
 condA t80
 (valA (iaA 1 t77 t79) h fun t81 h =>
 valA (ldA h none t81) h fun t82 h =>
 valA (lenA true t82) h fun t84 h =>
 valA (binOp .gtr .num t84 (.int .i64 16384)) h fun t85 h =>
 condA t85
 (R (.bool true) h)
 (valA (binOp .add .num t79 (.int .i64 1)) h fun t86 h =>
 N_122 [t86] h))
 (J_121 h)) [(.int .i64 0)] h) fun J_123 =>
 valA (faA 1 m1) h fun t58 h =>
 valA (ldA h none t58) h fun t59 h =>
 valA (lenA false t59) h fun t60 h =>
 loopA (fun N_124 l h => argA l 0 fun t61 => 
 valA (binOp .lss .num t61 t60) h fun t62 h =>
 condA t62
 (valA (iaA 3 t59 t61) h fun t63 h =>
 valA (ldA h (some 3) t63) h fun t64 h =>
 boxA h [(.int .i64 0), .nilsl, (.str [])] 61 fun s6 h =>
 memA (stA h 3 s6 t64) .undef fun _ h =>
 valA (faA 1 s6) h fun t65 h =>
 valA (ldA h none t65) h fun t66 h =>
 valA (lenA false t66) h fun t67 h =>
 valA (binOp .gtr .num t67 (.int .i64 200)) h fun t68 h =>
 whenA t68 false (fun K => valA (faA 2 s6) h K) h fun t70 h =>
 whenA t68 false (fun K => valA (ldA h none t70) h K) h fun t71 h =>
 whenA t68 false (fun K => valA (lenA true t71) h K) h fun t72 h =>
 whenA t68 false (fun K => valA (binOp .gtr .num t72 (.int .i64 16384)) h K) h fun t73 h =>
 valA (pickA t68 (.bool true) t73) h fun t74 h =>
 condA t74
 (R (.bool true) h)
 (valA (binOp .add .num t61 (.int .i64 1)) h fun t75 h =>
 N_124 [t75] h))
 (J_123 h)) [(.int .i64 0)] h) fun J_125 =>
 valA (faA 0 m1) h fun t46 h =>
 valA (ldA h none t46) h fun t47 h =>
 valA (lenA false t47) h fun t48 h =>
 loopA (fun N_126 l h => argA l 0 fun t49 => 
 valA (binOp .lss .num t49 t48) h fun t50 h =>
 condA t50
 (valA (iaA 2 t47 t49) h fun t51 h =>
 valA (ldA h (some 2) t51) h fun t52 h =>
 boxA h [(.bool false), .nilsl] 46 fun t4 h =>
 memA (stA h 2 t4 t52) .undef fun _ h =>
 valA (faA 1 t4) h fun t53 h =>
 valA (ldA h none t53) h fun t54 h =>
 valA (lenA false t54) h fun t55 h =>
 valA (binOp .gtr .num t55 (.int .i64 512)) h fun t56 h =>
 condA t56
 (R (.bool true) h)
 (valA (binOp .add .num t49 (.int .i64 1)) h fun t57 h =>
 N_126 [t57] h))
 (J_125 h)) [(.int .i64 0)] h)
theorem she61 (C : CallA) (m0 : AV) (h : H) (R : AV → H → Prop) : wpA C an61 (argE [m0]) h (outA [(.tmp 2)] R) = sh61 C m0 h R := by kernel_rfl
/-! bellows/bellowsref04.Plain -/
def an62 : ACode :=
 (.seq (.reg 0 [] [] [sD 1 (.bx none 55 (.t 0)),
 sD 2 (.mv (.c (.bool false)))])
 (.seq (.reg 0 [] [] [sD 4 (.fa 0 (.t 1)),
 sD 5 (.ld none (.t 4)),
 sD 6 (.call 111 [(.t 5)]),
 sD 3 (.mv (.t 6))])
 (.seq (.seq (.reg 0 [] [] [sD 7 (.mv (.t 3)),
 sD 8 (.bin .eql .num (.t 7) (.c (.str []))),
 sD 9 (.mv (.t 8)),
 sG 10 9 false (.mv (.t 3)),
 sG 11 9 false (.call 112 [(.t 10), (.c (.int .u8 68))]),
 sG 12 9 false (.un .not (.t 11)),
 sG 13 9 false (.mv (.t 12)),
 sG 14 13 true (.fa 1 (.t 1)),
 sG 15 13 true (.ld none (.t 14)),
 sG 16 13 true (.bin .neq .num (.t 15) (.c (.int .i64 0))),
 sG 17 9 false (.pick (.t 13) (.t 16) (.c (.bool false))),
 sD 18 (.pick (.t 9) (.c (.bool true)) (.t 17)),
 sD 19 (.mv (.t 18)),
 sG 20 19 false (.mv (.t 3)),
 sG 21 19 false (.call 112 [(.t 20), (.c (.int .u8 65))]),
 sG 22 19 false (.un .not (.t 21)),
 sG 23 19 false (.mv (.t 22)),
 sG 24 23 true (.fa 2 (.t 1)),
 sG 25 23 true (.ld none (.t 24)),
 sG 26 23 true (.bin .neq .num (.t 25) (.c (.int .i64 0))),
 sG 27 19 false (.pick (.t 23) (.t 26) (.c (.bool false))),
 sD 28 (.pick (.t 19) (.c (.bool true)) (.t 27)),
 sD 29 (.mv (.t 28)),
 sG 30 29 false (.mv (.t 3)),
 sG 31 29 false (.call 112 [(.t 30), (.c (.int .u8 66))]),
 sG 32 29 false (.un .not (.t 31)),
 sG 33 29 false (.mv (.t 32)),
 sG 34 33 true (.fa 3 (.t 1)),
 sG 35 33 true (.ld none (.t 34)),
 sG 36 33 true (.bin .neq .num (.t 35) (.c (.int .i64 0))),
 sG 37 29 false (.pick (.t 33) (.t 36) (.c (.bool false))),
 sD 38 (.pick (.t 29) (.c (.bool true)) (.t 37)),
 sD 39 (.mv (.t 38)),
 sG 40 39 false (.mv (.t 3)),
 sG 41 39 false (.call 112 [(.t 40), (.c (.int .u8 67))]),
 sG 42 39 false (.un .not (.t 41)),
 sG 43 39 false (.mv (.t 42)),
 sG 44 43 true (.fa 4 (.t 1)),
 sG 45 43 true (.ld none (.t 44)),
 sG 46 43 true (.bin .neq .num (.t 45) (.c (.int .i64 0))),
 sG 47 39 false (.pick (.t 43) (.t 46) (.c (.bool false))),
 sD 48 (.pick (.t 39) (.c (.bool true)) (.t 47)),
 sD 49 (.mv (.t 48)),
 sG 50 49 false (.mv (.t 3)),
 sG 51 49 false (.call 112 [(.t 50), (.c (.int .u8 78))]),
 sG 52 49 false (.un .not (.t 51)),
 sG 53 49 false (.mv (.t 52)),
 sG 54 53 true (.fa 5 (.t 1)),
 sG 55 53 true (.ld none (.t 54)),
 sG 56 53 true (.bin .neq .num (.t 55) (.c (.int .i64 0))),
 sG 57 49 false (.pick (.t 53) (.t 56) (.c (.bool false))),
 sD 58 (.pick (.t 49) (.c (.bool true)) (.t 57))])
 (.cond (.t 58) (.seq (.reg 0 [] [] [sD 2 (.mv (.c (.bool false)))])
 .ret)
 .skip))
 (.seq (.reg 0 [] [] [sD 59 (.mv (.t 3)),
 sD 60 (.call 112 [(.t 59), (.c (.int .u8 76))]),
 sD 61 (.mv (.t 60)),
 sG 62 61 false (.fa 6 (.t 1)),
 sG 63 61 false (.ld none (.t 62)),
 sG 64 61 false (.len false (.t 63)),
 sG 65 61 false (.bin .eql .num (.t 64) (.c (.int .i64 0))),
 sD 66 (.pick (.t 61) (.c (.bool true)) (.t 65)),
 sD 67 (.mv (.t 66)),
 sG 68 67 true (.mv (.t 3)),
 sG 69 67 true (.call 112 [(.t 68), (.c (.int .u8 77))]),
 sG 70 67 true (.mv (.t 69)),
 sG 71 70 false (.fa 7 (.t 1)),
 sG 72 70 false (.ld none (.t 71)),
 sG 73 70 false (.len false (.t 72)),
 sG 74 70 false (.bin .eql .num (.t 73) (.c (.int .i64 0))),
 sG 75 67 true (.pick (.t 70) (.c (.bool true)) (.t 74)),
 sD 76 (.pick (.t 67) (.t 75) (.c (.bool false))),
 sD 77 (.mv (.t 76)),
 sG 78 77 true (.mv (.t 3)),
 sG 79 77 true (.call 112 [(.t 78), (.c (.int .u8 108))]),
 sG 80 77 true (.mv (.t 79)),
 sG 81 80 false (.fa 8 (.t 1)),
 sG 82 80 false (.ld none (.t 81)),
 sG 83 80 false (.len false (.t 82)),
 sG 84 80 false (.bin .eql .num (.t 83) (.c (.int .i64 0))),
 sG 85 77 true (.pick (.t 80) (.c (.bool true)) (.t 84)),
 sD 86 (.pick (.t 77) (.t 85) (.c (.bool false))),
 sD 2 (.mv (.t 86))])
 .ret))))
def fn62 : IFun := ⟨87, [(.tmp 2)], an62.erase⟩
theorem ok62 : okFun Tryz.prog 62 fn62 = true := by kernel_rfl
theorem oka62 : okA fn62.ntmps fn62.results an62 = true := by kernel_rfl
def sh62 (C : CallA) (x0 : AV) (h : H) (R : AV → H → Prop) : Prop :=
 boxA h (AV.cells x0) 55 fun x1 h =>
 valA (faA 0 x1) h fun t4 h =>
 valA (ldA h none t4) h fun t5 h =>
 C 111 [t5] h fun t6 h =>
 valA (binOp .eql .num t6 (.str [])) h fun t8 h =>
 whenA t8 false (fun K => K t6 h) h fun t10 h =>
 whenA t8 false (fun K => C 112 [t10, (.int .u8 68)] h K) h fun t11 h =>
 whenA t8 false (fun K => valA (unOp .not t11) h K) h fun t12 h =>
 whenA t8 false (fun K => K t12 h) h fun t13 h =>
 whenA t13 true (fun K => valA (faA 1 x1) h K) h fun t14 h =>
 whenA t13 true (fun K => valA (ldA h none t14) h K) h fun t15 h =>
 whenA t13 true (fun K => valA (binOp .neq .num t15 (.int .i64 0)) h K) h fun t16 h =>
 whenA t8 false (fun K => valA (pickA t13 t16 (.bool false)) h K) h fun t17 h =>
 valA (pickA t8 (.bool true) t17) h fun t18 h =>
 whenA t18 false (fun K => K t6 h) h fun t20 h =>
 whenA t18 false (fun K => C 112 [t20, (.int .u8 65)] h K) h fun t21 h =>
 whenA t18 false (fun K => valA (unOp .not t21) h K) h fun t22 h =>
 whenA t18 false (fun K => K t22 h) h fun t23 h =>
 whenA t23 true (fun K => valA (faA 2 x1) h K) h fun t24 h =>
 whenA t23 true (fun K => valA (ldA h none t24) h K) h fun t25 h =>
 whenA t23 true (fun K => valA (binOp .neq .num t25 (.int .i64 0)) h K) h fun t26 h =>
 whenA t18 false (fun K => valA (pickA t23 t26 (.bool false)) h K) h fun t27 h =>
 valA (pickA t18 (.bool true) t27) h fun t28 h =>
 whenA t28 false (fun K => K t6 h) h fun t30 h =>
 whenA t28 false (fun K => C 112 [t30, (.int .u8 66)] h K) h fun t31 h =>
 whenA t28 false (fun K => valA (unOp .not t31) h K) h fun t32 h =>
 whenA t28 false (fun K => K t32 h) h fun t33 h =>
 whenA t33 true (fun K => valA (faA 3 x1) h K) h fun t34 h =>
 whenA t33 true (fun K => valA (ldA h none t34) h K) h fun t35 h =>
 whenA t33 true (fun K => valA (binOp .neq .num t35 (.int .i64 0)) h K) h fun t36 h =>
 whenA t28 false (fun K => valA (pickA t33 t36 (.bool false)) h K) h fun t37 h =>
 valA (pickA t28 (.bool true) t37) h fun t38 h =>
 whenA t38 false (fun K => K t6 h) h fun t40 h =>
 whenA t38 false (fun K => C 112 [t40, (.int .u8 67)] h K) h fun t41 h =>
 whenA t38 false (fun K => valA (unOp .not t41) h K) h fun t42 h =>
 whenA t38 false (fun K => K t42 h) h fun t43 h =>
 whenA t43 true (fun K => valA (faA 4 x1) h K) h fun t44 h =>
 whenA t43 true (fun K => valA (ldA h none t44) h K) h fun t45 h =>
 whenA t43 true (fun K => valA (binOp .neq .num t45 (.int .i64 0)) h K) h fun t46 h =>
 whenA t38 false (fun K => valA (pickA t43 t46 (.bool false)) h K) h fun t47 h =>
 valA (pickA t38 (.bool true) t47) h fun t48 h =>
 whenA t48 false (fun K => K t6 h) h fun t50 h =>
 whenA t48 false (fun K => C 112 [t50, (.int .u8 78)] h K) h fun t51 h =>
 whenA t48 false (fun K => valA (unOp .not t51) h K) h fun t52 h =>
 whenA t48 false (fun K => K t52 h) h fun t53 h =>
 whenA t53 true (fun K => valA (faA 5 x1) h K) h fun t54 h =>
 whenA t53 true (fun K => valA (ldA h none t54) h K) h fun t55 h =>
 whenA t53 true (fun K => valA (binOp .neq .num t55 (.int .i64 0)) h K) h fun t56 h =>
 whenA t48 false (fun K => valA (pickA t53 t56 (.bool false)) h K) h fun t57 h =>
 valA (pickA t48 (.bool true) t57) h fun t58 h =>
 condA t58
 (R (.bool false) h)
 (C 112 [t6, (.int .u8 76)] h fun t60 h =>
 whenA t60 false (fun K => valA (faA 6 x1) h K) h fun t62 h =>
 whenA t60 false (fun K => valA (ldA h none t62) h K) h fun t63 h =>
 whenA t60 false (fun K => valA (lenA false t63) h K) h fun t64 h =>
 whenA t60 false (fun K => valA (binOp .eql .num t64 (.int .i64 0)) h K) h fun t65 h =>
 valA (pickA t60 (.bool true) t65) h fun t66 h =>
 whenA t66 true (fun K => K t6 h) h fun t68 h =>
 whenA t66 true (fun K => C 112 [t68, (.int .u8 77)] h K) h fun t69 h =>
 whenA t66 true (fun K => K t69 h) h fun t70 h =>
 whenA t70 false (fun K => valA (faA 7 x1) h K) h fun t71 h =>
 whenA t70 false (fun K => valA (ldA h none t71) h K) h fun t72 h =>
 whenA t70 false (fun K => valA (lenA false t72) h K) h fun t73 h =>
 whenA t70 false (fun K => valA (binOp .eql .num t73 (.int .i64 0)) h K) h fun t74 h =>
 whenA t66 true (fun K => valA (pickA t70 (.bool true) t74) h K) h fun t75 h =>
 valA (pickA t66 t75 (.bool false)) h fun t76 h =>
 whenA t76 true (fun K => K t6 h) h fun t78 h =>
 whenA t76 true (fun K => C 112 [t78, (.int .u8 108)] h K) h fun t79 h =>
 whenA t76 true (fun K => K t79 h) h fun t80 h =>
 whenA t80 false (fun K => valA (faA 8 x1) h K) h fun t81 h =>
 whenA t80 false (fun K => valA (ldA h none t81) h K) h fun t82 h =>
 whenA t80 false (fun K => valA (lenA false t82) h K) h fun t83 h =>
 whenA t80 false (fun K => valA (binOp .eql .num t83 (.int .i64 0)) h K) h fun t84 h =>
 whenA t76 true (fun K => valA (pickA t80 (.bool true) t84) h K) h fun t85 h =>
 valA (pickA t76 t85 (.bool false)) h fun t86 h =>
 R t86 h)
theorem she62 (C : CallA) (x0 : AV) (h : H) (R : AV → H → Prop) : wpA C an62 (argE [x0]) h (outA [(.tmp 2)] R) = sh62 C x0 h R := by kernel_rfl
/-! (*bellows/code.reader).count -/
def an82 : ACode :=
 (.seq (.reg 0 [] [] [sD 2 (.mv (.c (.int .i64 0)))])
 (.seq (.reg 0 [] [] [sD 4 (.mv (.t 0)),
 sD 5 (.call 42 [(.t 4)]),
 sD 3 (.mv (.t 5))])
 (.seq (.seq (.reg 0 [0, 1, 2, 3, 4, 5, 6, 7, 8, 9, 10, 11, 12, 13, 14, 15] [[], [0], [0, 1], [1, 0, 2], [1, 0, 2], [2, 0, 1, 4], [4, 1, 0, 2, 5], [5, 2, 0, 1, 4, 6], [6, 4, 1, 0, 2, 5, 7], [1, 0, 2], [2, 0, 1, 9], [9, 1, 0, 2, 10], [10, 2, 0, 1, 9, 11], [11, 9, 10, 12, 7, 5, 2, 0, 1, 4, 6, 8], [8, 6, 4, 5, 7, 12, 10, 9, 11, 13, 2, 0, 1, 3], [3, 13, 11, 9, 10, 12, 7, 5, 4, 6, 8, 14, 1, 0, 2]] [sD 6 (.mv (.t 3)),
 sD 7 (.bin .lss .num (.t 6) (.c (.int .i64 0))),
 sD 8 (.mv (.t 7)),
 sG 9 8 false (.mv (.t 3)),
 sG 10 8 false (.mv (.t 0)),
 sG 11 8 false (.nilc (.t 10)),
 sG 12 8 false (.fa 0 (.t 11)),
 sG 13 8 false (.ld none (.t 12)),
 sG 14 8 false (.len false (.t 13)),
 sG 15 8 false (.mv (.t 0)),
 sG 16 8 false (.nilc (.t 15)),
 sG 17 8 false (.fa 1 (.t 16)),
 sG 18 8 false (.ld none (.t 17)),
 sG 19 8 false (.bin .sub .num (.t 14) (.t 18)),
 sG 20 8 false (.bin .gtr .num (.t 9) (.t 19)),
 sD 21 (.pick (.t 8) (.c (.bool true)) (.t 20))])
 (.cond (.t 21) (.reg 0 [] [] [sD 22 (.mv (.t 0)),
 sD 23 (.nilc (.t 22)),
 sD 24 (.fa 2 (.t 23)),
 sN (.st 1 (.t 24) (.c (.bool true)))])
 .skip))
 (.seq (.seq (.reg 0 [] [] [sD 25 (.mv (.t 0)),
 sD 26 (.nilc (.t 25)),
 sD 27 (.fa 2 (.t 26)),
 sD 28 (.ld none (.t 27))])
 (.cond (.t 28) (.seq (.reg 0 [] [] [sD 2 (.mv (.c (.int .i64 0)))])
 .ret)
 .skip))
 (.seq (.reg 0 [] [] [sD 29 (.mv (.t 3)),
 sD 2 (.mv (.t 29))])
 .ret)))))
def fn82 : IFun := ⟨30, [(.tmp 2)], an82.erase⟩
theorem ok82 : okFun Tryz.prog 82 fn82 = true := by kernel_rfl
theorem oka82 : okA fn82.ntmps fn82.results an82 = true := by kernel_rfl
def sh82 (C : CallA) (r0 : AV) (h : H) (R : AV → H → Prop) : Prop :=
 C 42 [r0] h fun t5 h =>
 joinA (fun (h : H) =>
 valA (nilcA r0) h fun t26 h =>
 valA (faA 2 t26) h fun t27 h =>
 valA (ldA h none t27) h fun t28 h =>
 condA t28
 (R (.int .i64 0) h)
 (R t5 h)) fun J =>
 valA (binOp .lss .num t5 (.int .i64 0)) h fun t7 h =>
 whenA t7 false (fun K => K t5 h) h fun t9 h =>
 whenA t7 false (fun K => K r0 h) h fun t10 h =>
 whenA t7 false (fun K => valA (nilcA t10) h K) h fun t11 h =>
 whenA t7 false (fun K => valA (faA 0 t11) h K) h fun t12 h =>
 whenA t7 false (fun K => valA (ldA h none t12) h K) h fun t13 h =>
 whenA t7 false (fun K => valA (lenA false t13) h K) h fun t14 h =>
 whenA t7 false (fun K => K r0 h) h fun t15 h =>
 whenA t7 false (fun K => valA (nilcA t15) h K) h fun t16 h =>
 whenA t7 false (fun K => valA (faA 1 t16) h K) h fun t17 h =>
 whenA t7 false (fun K => valA (ldA h none t17) h K) h fun t18 h =>
 whenA t7 false (fun K => valA (binOp .sub .num t14 t18) h K) h fun t19 h =>
 whenA t7 false (fun K => valA (binOp .gtr .num t9 t19) h K) h fun t20 h =>
 valA (pickA t7 (.bool true) t20) h fun t21 h =>
 condA t21
 (valA (nilcA r0) h fun t23 h =>
 valA (faA 2 t23) h fun t24 h =>
 memA (stA h 1 t24 (.bool true)) .undef fun _ h =>
 J h)
 (J h)
theorem she82 (C : CallA) (r0 : AV) (h : H) (R : AV → H → Prop) : wpA C an82 (argE [r0]) h (outA [(.tmp 2)] R) = sh82 C r0 h R := by kernel_rfl
/-! (*bellows/code.reader).nums -/
def an83 : ACode :=
 (.seq (.reg 0 [] [] [sD 2 (.mv (.c .nilsl))])
 (.seq (.reg 0 [] [] [sD 3 (.mv (.t 0)),
 sD 4 (.mv (.t 0)),
 sD 5 (.mkf 42 [(.t 4)] []),
 sD 6 (.call 128 [(.t 3), (.t 5)]),
 sD 2 (.mv (.t 6))])
 .ret))
def fn83 : IFun := ⟨7, [(.tmp 2)], an83.erase⟩
theorem ok83 : okFun Tryz.prog 83 fn83 = true := by kernel_rfl
theorem oka83 : okA fn83.ntmps fn83.results an83 = true := by kernel_rfl
def sh83 (C : CallA) (r0 : AV) (h : H) (R : AV → H → Prop) : Prop :=
 C 128 [r0, (.fn 42 [r0] [])] h fun t6 h =>
 R t6 h
theorem she83 (C : CallA) (r0 : AV) (h : H) (R : AV → H → Prop) : wpA C an83 (argE [r0]) h (outA [(.tmp 2)] R) = sh83 C r0 h R := by kernel_rfl
/-! bellows/code.some[bellows/api.Block] -/
def an84 : ACode :=
 (.seq (.reg 0 [] [] [sD 4 (.mv (.c .nilsl))])
 (.seq (.reg 0 [] [] [sD 5 (.mv (.c .nilsl))])
 (.seq (.seq (.reg 0 [] [] [sD 6 (.mv (.t 0)),
 sD 7 (.call 82 [(.t 6)]),
 sD 8 (.mv (.c (.int .i64 0)))])
 (.block 0 (.loop [5, 8] 419 (.seq (.reg 0 [] [] [sD 9 (.bin .lss .num (.t 8) (.t 7))])
 (.seq (.cond (.t 9) .skip
 (.exit 0))
 (.seq (.block 1 (.seq (.seq (.reg 0 [] [] [sD 10 (.mv (.t 0)),
 sD 11 (.nilc (.t 10)),
 sD 12 (.fa 2 (.t 11)),
 sD 13 (.ld none (.t 12))])
 (.cond (.t 13) (.seq (.reg 0 [] [] [sD 4 (.mv (.c .nilsl))])
 .ret)
 .skip))
 (.reg 0 [] [] [sD 14 (.mv (.t 5)),
 sD 15 (.mv (.t 1)),
 sD 16 (.callv (.t 15) []),
 sD 17 (.mksl none 42 [.nilsl, .nilsl] 1 [(0, 2, (.t 16))]),
 sD 18 (.app 42 2 48 [.nilsl, .nilsl] (.t 14) (.t 17)),
 sD 5 (.mv (.t 18))])))
 (.reg 0 [] [] [sD 19 (.bin .add .num (.t 8) (.c (.int .i64 1))),
 sD 8 (.mv (.t 19))])))))))
 (.seq (.reg 0 [] [] [sD 20 (.mv (.t 5)),
 sD 4 (.mv (.t 20))])
 .ret))))
def fn84 : IFun := ⟨21, [(.tmp 4)], an84.erase⟩
theorem ok84 : okFun Tryz.prog 84 fn84 = true := by kernel_rfl
theorem oka84 : okA fn84.ntmps fn84.results an84 = true := by kernel_rfl
def sh84 (C : CallA) (r0 each1 : AV) (h : H) (R : AV → H → Prop) : Prop :=
 joinA (fun (l5' : AV) (h : H) =>
 R l5' h) fun J =>
 C 82 [r0] h fun t7 h =>
 loopA (fun N l h => argA l 0 fun l5 => argA l 1 fun t8 => 
 valA (binOp .lss .num t8 t7) h fun t9 h =>
 condA t9
 (valA (nilcA r0) h fun t11 h =>
 valA (faA 2 t11) h fun t12 h =>
 valA (ldA h none t12) h fun t13 h =>
 condA t13
 (R .nilsl h)
 (callvA C each1 [] h fun t16 h =>
 mkslA h 42 1 (fillV [.nilsl, .nilsl] [(0, 2, t16)]) fun t17 h =>
 appendA h 42 2 48 l5 t17 fun t18 h =>
 valA (binOp .add .num t8 (.int .i64 1)) h fun t19 h =>
 N [t18, t19] h))
 (J l5 h)) [.nilsl, (.int .i64 0)] h
theorem she84 (C : CallA) (r0 each1 : AV) (h : H) (R : AV → H → Prop) : wpA C an84 (argE [r0, each1]) h (outA [(.tmp 4)] R) = sh84 C r0 each1 h R := by kernel_rfl
/-! (*bellows/code.reader).block -/
def an85 : ACode :=
 (.seq (.reg 0 [] [] [sD 2 (.al none 42 [.nilsl, .nilsl])])
 (.seq (.reg 0 [] [] [sD 3 (.mv (.t 0)),
 sD 4 (.call 83 [(.t 3)]),
 sD 5 (.fa 0 (.t 2)),
 sN (.st 1 (.t 5) (.t 4))])
 (.seq (.reg 0 [] [] [sD 6 (.mv (.t 0)),
 sD 7 (.mv (.t 0)),
 sD 8 (.mkf 130 [(.t 7)] []),
 sD 9 (.call 129 [(.t 6), (.t 8)]),
 sD 10 (.fa 1 (.t 2)),
 sN (.st 1 (.t 10) (.t 9))])
 (.seq (.reg 0 [] [] [sD 11 (.ld (some 2) (.t 2)),
 sN (.st 2 (.t 2) (.t 11))])
 .ret))))
def fn85 : IFun := ⟨12, [(.cell 2 (some 2))], an85.erase⟩
theorem ok85 : okFun Tryz.prog 85 fn85 = true := by kernel_rfl
theorem oka85 : okA fn85.ntmps fn85.results an85 = true := by kernel_rfl
def sh85 (C : CallA) (r0 : AV) (h : H) (R : AV → H → Prop) : Prop :=
 boxA h [.nilsl, .nilsl] 42 fun b2 h =>
 C 83 [r0] h fun t4 h =>
 valA (faA 0 b2) h fun t5 h =>
 memA (stA h 1 t5 t4) .undef fun _ h =>
 C 129 [r0, (.fn 130 [r0] [])] h fun t9 h =>
 valA (faA 1 b2) h fun t10 h =>
 memA (stA h 1 t10 t9) .undef fun _ h =>
 valA (ldA h (some 2) b2) h fun t11 h =>
 memA (stA h 2 b2 t11) .undef fun _ h =>
 valA (ldA h (some 2) b2) h fun res _ => R res h
theorem she85 (C : CallA) (r0 : AV) (h : H) (R : AV → H → Prop) : wpA C an85 (argE [r0]) h (outA [(.cell 2 (some 2))] R) = sh85 C r0 h R := by kernel_rfl
/-! (*bellows/code.reader).long -/
def an86 : ACode :=
 (.seq (.reg 0 [] [] [sD 2 (.mv (.c (.int .i64 0)))])
 (.seq (.reg 0 [0, 1, 2, 3, 4, 5, 6, 7, 8, 9, 10, 11, 12, 13, 14, 15] [[], [0], [0, 1], [1, 0, 2], [], [4], [4, 5], [5, 4, 6], [6, 4, 5, 7, 2, 0, 1, 3], [3, 1, 0, 2, 7, 5, 4, 6, 8], [8, 6, 4, 5, 7, 2, 0, 1, 3, 9], [8, 6, 4, 5, 7, 2, 0, 1, 3, 9], [8, 6, 4, 5, 7, 2, 0, 1, 3, 9], [9, 3, 1, 0, 2, 7, 5, 4, 6, 8, 10], [10, 13, 9, 3, 1, 0, 2, 7, 5, 4, 6, 8, 11], [11, 13, 10, 14, 9, 3, 1, 0, 2, 7, 5, 4, 6, 8, 12]] [sD 7 (.mv (.t 0)),
 sD 8 (.nilc (.t 7)),
 sD 9 (.fa 0 (.t 8)),
 sD 10 (.ld none (.t 9)),
 sD 11 (.mv (.t 0)),
 sD 12 (.nilc (.t 11)),
 sD 13 (.fa 1 (.t 12)),
 sD 14 (.ld none (.t 13)),
 sD 15 (.call 131 [(.t 10), (.t 14)]),
 sD 6 (.mv (.t 15)),
 sD 16 (.ext (.t 6) 0),
 sD 17 (.ext (.t 6) 1),
 sD 18 (.ext (.t 6) 2),
 sD 3 (.mv (.t 16)),
 sD 4 (.mv (.t 17)),
 sD 5 (.mv (.t 18))])
 (.seq (.seq (.reg 0 [] [] [sD 19 (.mv (.t 5)),
 sD 20 (.un .not (.t 19))])
 (.cond (.t 20) (.seq (.reg 0 [] [] [sD 21 (.mv (.t 0)),
 sD 22 (.nilc (.t 21)),
 sD 23 (.fa 2 (.t 22)),
 sN (.st 1 (.t 23) (.c (.bool true)))])
 (.seq (.reg 0 [] [] [sD 2 (.mv (.c (.int .i64 0)))])
 .ret))
 .skip))
 (.seq (.reg 0 [] [] [sD 24 (.mv (.t 0)),
 sD 25 (.mv (.t 4)),
 sD 26 (.nilc (.t 24)),
 sD 27 (.fa 1 (.t 26)),
 sN (.st 1 (.t 27) (.t 25))])
 (.seq (.reg 0 [] [] [sD 28 (.mv (.t 3)),
 sD 2 (.mv (.t 28))])
 .ret)))))
def fn86 : IFun := ⟨29, [(.tmp 2)], an86.erase⟩
theorem ok86 : okFun Tryz.prog 86 fn86 = true := by kernel_rfl
theorem oka86 : okA fn86.ntmps fn86.results an86 = true := by kernel_rfl
def sh86 (C : CallA) (r0 : AV) (h : H) (R : AV → H → Prop) : Prop :=
 valA (nilcA r0) h fun t8 h =>
 valA (faA 0 t8) h fun t9 h =>
 valA (ldA h none t9) h fun t10 h =>
 valA (nilcA r0) h fun t12 h =>
 valA (faA 1 t12) h fun t13 h =>
 valA (ldA h none t13) h fun t14 h =>
 C 131 [t10, t14] h fun t15 h =>
 valA (extA t15 0) h fun t16 h =>
 valA (extA t15 1) h fun t17 h =>
 valA (extA t15 2) h fun t18 h =>
 valA (unOp .not t18) h fun t20 h =>
 condA t20
 (valA (nilcA r0) h fun t22 h =>
 valA (faA 2 t22) h fun t23 h =>
 memA (stA h 1 t23 (.bool true)) .undef fun _ h =>
 R (.int .i64 0) h)
 (valA (nilcA r0) h fun t26 h =>
 valA (faA 1 t26) h fun t27 h =>
 memA (stA h 1 t27 t17) .undef fun _ h =>
 R t16 h)
theorem she86 (C : CallA) (r0 : AV) (h : H) (R : AV → H → Prop) : wpA C an86 (argE [r0]) h (outA [(.tmp 2)] R) = sh86 C r0 h R := by kernel_rfl
/-! bellows/code.big -/
def an87 : ACode :=
 (.seq (.reg 0 [] [] [sD 1 (.bx none 28 (.t 0)),
 sD 2 (.mv (.c (.bool false)))])
 (.seq (.seq (.reg 0 [] [] [sD 14 (.fa 0 (.t 1)),
 sD 15 (.ld none (.t 14)),
 sD 16 (.mksl none 23 [.nilsl] 1 [(0, 1, (.t 15))]),
 sD 17 (.call 132 [(.c (.int .i64 1024)), (.t 16)]),
 sD 18 (.mv (.t 17)),
 sG 19 18 false (.fa 1 (.t 1)),
 sG 20 18 false (.ld none (.t 19)),
 sG 21 18 false (.mksl none 24 [.nilsl] 1 [(0, 1, (.t 20))]),
 sG 22 18 false (.call 133 [(.c (.int .i64 512)), (.t 21)]),
 sD 23 (.pick (.t 18) (.c (.bool true)) (.t 22)),
 sD 24 (.mv (.t 23)),
 sG 25 24 false (.fa 2 (.t 1)),
 sG 26 24 false (.ld none (.t 25)),
 sG 27 24 false (.fa 3 (.t 1)),
 sG 28 24 false (.ld none (.t 27)),
 sG 29 24 false (.mksl none 25 [.nilsl, .nilsl] 2 [(0, 1, (.t 26)), (1, 1, (.t 28))]),
 sG 30 24 false (.call 134 [(.c (.int .i64 256)), (.t 29)]),
 sD 31 (.pick (.t 24) (.c (.bool true)) (.t 30)),
 sD 32 (.mv (.t 31)),
 sG 33 32 false (.fa 4 (.t 1)),
 sG 34 32 false (.ld none (.t 33)),
 sG 35 32 false (.mksl none 26 [.nilsl] 1 [(0, 1, (.t 34))]),
 sG 36 32 false (.call 135 [(.c (.int .i64 1024)), (.t 35)]),
 sD 37 (.pick (.t 32) (.c (.bool true)) (.t 36)),
 sD 38 (.mv (.t 37)),
 sG 39 38 false (.fa 2 (.t 1)),
 sG 40 38 false (.ld none (.t 39)),
 sG 41 38 false (.call 136 [(.t 40)]),
 sD 42 (.pick (.t 38) (.c (.bool true)) (.t 41)),
 sD 43 (.mv (.t 42)),
 sG 44 43 false (.fa 3 (.t 1)),
 sG 45 43 false (.ld none (.t 44)),
 sG 46 43 false (.call 136 [(.t 45)]),
 sD 47 (.pick (.t 43) (.c (.bool true)) (.t 46))])
 (.cond (.t 47) (.seq (.reg 0 [] [] [sD 2 (.mv (.c (.bool true)))])
 .ret)
 .skip))
 (.seq (.seq (.reg 0 [] [] [sD 48 (.fa 0 (.t 1)),
 sD 49 (.ld none (.t 48)),
 sD 50 (.len false (.t 49)),
 sD 51 (.mv (.c (.int .i64 0)))])
 (.block 0 (.loop [51] 3940649673949186 (.seq (.reg 0 [] [] [sD 52 (.bin .lss .num (.t 51) (.t 50))])
 (.seq (.cond (.t 52) .skip
 (.exit 0))
 (.seq (.block 1 (.seq (.reg 0 [] [] [sD 53 (.ia none 2 (.t 49) (.t 51)),
 sD 54 (.ld (some 2) (.t 53)),
 sD 4 (.al none 46 [(.bool false), .nilsl]),
 sN (.st 2 (.t 4) (.t 54))])
 (.seq (.reg 0 [] [] [sD 55 (.fa 1 (.t 4)),
 sD 56 (.ld none (.t 55)),
 sD 57 (.mksl none 36 [.nilsl] 1 [(0, 1, (.t 56))]),
 sD 58 (.call 137 [(.c (.int .i64 512)), (.t 57)])])
 (.cond (.t 58) (.seq (.reg 0 [] [] [sD 2 (.mv (.c (.bool true)))])
 .ret)
 .skip))))
 (.reg 0 [] [] [sD 59 (.bin .add .num (.t 51) (.c (.int .i64 1))),
 sD 51 (.mv (.t 59))])))))))
 (.seq (.seq (.reg 0 [] [] [sD 60 (.fa 1 (.t 1)),
 sD 61 (.ld none (.t 60)),
 sD 62 (.len false (.t 61)),
 sD 63 (.mv (.c (.int .i64 0)))])
 (.block 2 (.loop [63] 16140901064495857666 (.seq (.reg 0 [] [] [sD 64 (.bin .lss .num (.t 63) (.t 62))])
 (.seq (.cond (.t 64) .skip
 (.exit 2))
 (.seq (.block 3 (.seq (.reg 0 [] [] [sD 65 (.ia none 3 (.t 61) (.t 63)),
 sD 66 (.ld (some 3) (.t 65)),
 sD 6 (.al none 61 [(.int .i64 0), .nilsl, (.str [])]),
 sN (.st 3 (.t 6) (.t 66))])
 (.seq (.reg 0 [] [] [sD 67 (.fa 1 (.t 6)),
 sD 68 (.ld none (.t 67)),
 sD 69 (.mksl none 36 [.nilsl] 1 [(0, 1, (.t 68))]),
 sD 70 (.call 137 [(.c (.int .i64 200)), (.t 69)]),
 sD 71 (.mv (.t 70)),
 sG 72 71 false (.fa 2 (.t 6)),
 sG 73 71 false (.ld none (.t 72)),
 sG 74 71 false (.mksl none 9 [(.str [])] 1 [(0, 1, (.t 73))]),
 sG 75 71 false (.call 136 [(.t 74)]),
 sD 76 (.pick (.t 71) (.c (.bool true)) (.t 75))])
 (.cond (.t 76) (.seq (.reg 0 [] [] [sD 2 (.mv (.c (.bool true)))])
 .ret)
 .skip))))
 (.reg 0 [] [] [sD 77 (.bin .add .num (.t 63) (.c (.int .i64 1))),
 sD 63 (.mv (.t 77))])))))))
 (.seq (.reg 0 [] [] [sD 7 (.mv (.c (.int .i64 20000)))])
 (.seq (.seq (.reg 0 [] [] [sD 78 (.fa 4 (.t 1)),
 sD 79 (.ld none (.t 78)),
 sD 80 (.len false (.t 79)),
 sD 81 (.mv (.c (.int .i64 0)))])
 (.block 4 (.loop [7, 81] 4231240368651202111471744 (.seq (.reg 0 [] [] [sD 82 (.bin .lss .num (.t 81) (.t 80))])
 (.seq (.cond (.t 82) .skip
 (.exit 4))
 (.seq (.block 5 (.seq (.reg 0 [] [] [sD 83 (.ia none 4 (.t 79) (.t 81)),
 sD 84 (.ld (some 4) (.t 83)),
 sD 9 (.al none 39 [.nilsl, (.int .i64 0), (.int .i64 0), .nilsl]),
 sN (.st 4 (.t 9) (.t 84))])
 (.seq (.seq (.reg 0 [] [] [sD 85 (.fa 2 (.t 9)),
 sD 86 (.ld none (.t 85)),
 sD 87 (.bin .gtr .num (.t 86) (.c (.int .i64 200))),
 sD 88 (.mv (.t 87)),
 sG 89 88 false (.fa 0 (.t 9)),
 sG 90 88 false (.ld none (.t 89)),
 sG 91 88 false (.mksl none 36 [.nilsl] 1 [(0, 1, (.t 90))]),
 sG 92 88 false (.call 137 [(.c (.int .i64 200)), (.t 91)]),
 sD 93 (.pick (.t 88) (.c (.bool true)) (.t 92)),
 sD 94 (.mv (.t 93)),
 sG 95 94 false (.fa 3 (.t 9)),
 sG 96 94 false (.ld none (.t 95)),
 sG 97 94 false (.mksl none 37 [.nilsl] 1 [(0, 1, (.t 96))]),
 sG 98 94 false (.call 138 [(.c (.int .i64 2000)), (.t 97)]),
 sD 99 (.pick (.t 94) (.c (.bool true)) (.t 98))])
 (.cond (.t 99) (.seq (.reg 0 [] [] [sD 2 (.mv (.c (.bool true)))])
 .ret)
 .skip))
 (.seq (.reg 0 [] [] [sD 100 (.fa 3 (.t 9)),
 sD 101 (.ld none (.t 100)),
 sD 102 (.len false (.t 101)),
 sD 103 (.mv (.c (.int .i64 0)))])
 (.block 6 (.loop [7, 103] 17747112634435580272155956347008 (.seq (.reg 0 [] [] [sD 104 (.bin .lss .num (.t 103) (.t 102))])
 (.seq (.cond (.t 104) .skip
 (.exit 6))
 (.seq (.block 7 (.seq (.reg 0 [] [] [sD 105 (.ia none 2 (.t 101) (.t 103)),
 sD 106 (.ld (some 2) (.t 105)),
 sD 11 (.al none 42 [.nilsl, .nilsl]),
 sN (.st 2 (.t 11) (.t 106))])
 (.seq (.seq (.reg 0 [] [] [sD 107 (.mv (.t 7)),
 sD 108 (.fa 1 (.t 11)),
 sD 109 (.ld none (.t 108)),
 sD 110 (.len false (.t 109)),
 sD 111 (.bin .sub .num (.t 107) (.t 110)),
 sD 7 (.mv (.t 111))])
 (.seq (.reg 0 [] [] [sD 112 (.mv (.t 7)),
 sD 113 (.bin .lss .num (.t 112) (.c (.int .i64 0))),
 sD 114 (.mv (.t 113)),
 sG 115 114 false (.fa 0 (.t 11)),
 sG 116 114 false (.ld none (.t 115)),
 sG 117 114 false (.mksl none 36 [.nilsl] 1 [(0, 1, (.t 116))]),
 sG 118 114 false (.call 137 [(.c (.int .i64 200)), (.t 117)]),
 sD 119 (.pick (.t 114) (.c (.bool true)) (.t 118))])
 (.cond (.t 119) (.seq (.reg 0 [] [] [sD 2 (.mv (.c (.bool true)))])
 .ret)
 .skip)))
 (.seq (.reg 0 [] [] [sD 120 (.fa 1 (.t 11)),
 sD 121 (.ld none (.t 120)),
 sD 122 (.len false (.t 121)),
 sD 123 (.mv (.c (.int .i64 0)))])
 (.block 8 (.loop [123] 18609209688101456656233570999881171072 (.seq (.reg 0 [] [] [sD 124 (.bin .lss .num (.t 123) (.t 122))])
 (.seq (.cond (.t 124) .skip
 (.exit 8))
 (.seq (.block 9 (.seq (.reg 0 [] [] [sD 125 (.ia none 9 (.t 121) (.t 123)),
 sD 126 (.ld (some 9) (.t 125)),
 sD 13 (.al none 55 [(.int .i64 0), (.int .i64 0), (.int .i64 0), (.int .i64 0), (.int .i64 0), (.int .i64 0), .nilsl, .nilsl, .nilsl]),
 sN (.st 9 (.t 13) (.t 126))])
 (.seq (.reg 0 [] [] [sD 127 (.fa 6 (.t 13)),
 sD 128 (.ld none (.t 127)),
 sD 129 (.fa 7 (.t 13)),
 sD 130 (.ld none (.t 129)),
 sD 131 (.mksl none 36 [.nilsl, .nilsl] 2 [(0, 1, (.t 128)), (1, 1, (.t 130))]),
 sD 132 (.call 137 [(.c (.int .i64 1024)), (.t 131)]),
 sD 133 (.mv (.t 132)),
 sG 134 133 false (.fa 8 (.t 13)),
 sG 135 133 false (.ld none (.t 134)),
 sG 136 133 false (.mksl none 36 [.nilsl] 1 [(0, 1, (.t 135))]),
 sG 137 133 false (.call 137 [(.c (.int .i64 200)), (.t 136)]),
 sD 138 (.pick (.t 133) (.c (.bool true)) (.t 137))])
 (.cond (.t 138) (.seq (.reg 0 [] [] [sD 2 (.mv (.c (.bool true)))])
 .ret)
 .skip))))
 (.reg 0 [] [] [sD 139 (.bin .add .num (.t 123) (.c (.int .i64 1))),
 sD 123 (.mv (.t 139))]))))))))))
 (.reg 0 [] [] [sD 140 (.bin .add .num (.t 103) (.c (.int .i64 1))),
 sD 103 (.mv (.t 140))]))))))))))
 (.reg 0 [] [] [sD 141 (.bin .add .num (.t 81) (.c (.int .i64 1))),
 sD 81 (.mv (.t 141))])))))))
 (.seq (.reg 0 [] [] [sD 2 (.mv (.c (.bool false)))])
 .ret)))))))
def fn87 : IFun := ⟨142, [(.tmp 2)], an87.erase⟩
theorem ok87 : okFun Tryz.prog 87 fn87 = true := by kernel_rfl
theorem oka87 : okA fn87.ntmps fn87.results an87 = true := by kernel_rfl
def sh87 (C : CallA) (m0 : AV) (h : H) (R : AV → H → Prop) : Prop :=
 boxA h (AV.cells m0) 28 fun m1 h =>
 valA (faA 0 m1) h fun t14 h =>
 valA (ldA h none t14) h fun t15 h =>
 mkslA h 23 1 (fillV [.nilsl] [(0, 1, t15)]) fun t16 h =>
 C 132 [(.int .i64 1024), t16] h fun t17 h =>
 whenA t17 false (fun K => valA (faA 1 m1) h K) h fun t19 h =>
 whenA t17 false (fun K => valA (ldA h none t19) h K) h fun t20 h =>
 whenA t17 false (fun K => mkslA h 24 1 (fillV [.nilsl] [(0, 1, t20)]) K) h fun t21 h =>
 whenA t17 false (fun K => C 133 [(.int .i64 512), t21] h K) h fun t22 h =>
 valA (pickA t17 (.bool true) t22) h fun t23 h =>
 whenA t23 false (fun K => valA (faA 2 m1) h K) h fun t25 h =>
 whenA t23 false (fun K => valA (ldA h none t25) h K) h fun t26 h =>
 whenA t23 false (fun K => valA (faA 3 m1) h K) h fun t27 h =>
 whenA t23 false (fun K => valA (ldA h none t27) h K) h fun t28 h =>
 whenA t23 false (fun K => mkslA h 25 2 (fillV [.nilsl, .nilsl] [(0, 1, t26), (1, 1, t28)]) K) h fun t29 h =>
 whenA t23 false (fun K => C 134 [(.int .i64 256), t29] h K) h fun t30 h =>
 valA (pickA t23 (.bool true) t30) h fun t31 h =>
 whenA t31 false (fun K => valA (faA 4 m1) h K) h fun t33 h =>
 whenA t31 false (fun K => valA (ldA h none t33) h K) h fun t34 h =>
 whenA t31 false (fun K => mkslA h 26 1 (fillV [.nilsl] [(0, 1, t34)]) K) h fun t35 h =>
 whenA t31 false (fun K => C 135 [(.int .i64 1024), t35] h K) h fun t36 h =>
 valA (pickA t31 (.bool true) t36) h fun t37 h =>
 whenA t37 false (fun K => valA (faA 2 m1) h K) h fun t39 h =>
 whenA t37 false (fun K => valA (ldA h none t39) h K) h fun t40 h =>
 whenA t37 false (fun K => C 136 [t40] h K) h fun t41 h =>
 valA (pickA t37 (.bool true) t41) h fun t42 h =>
 whenA t42 false (fun K => valA (faA 3 m1) h K) h fun t44 h =>
 whenA t42 false (fun K => valA (ldA h none t44) h K) h fun t45 h =>
 whenA t42 false (fun K => C 136 [t45] h K) h fun t46 h =>
 valA (pickA t42 (.bool true) t46) h fun t47 h =>
 condA t47
 (R (.bool true) h)
 (joinA (fun (h : H) =>
 joinA (fun (h : H) =>
 joinA (fun (h : H) =>
 R (.bool false) h) fun J =>
 valA (faA 4 m1) h fun t78 h =>
 valA (ldA h none t78) h fun t79 h =>
 valA (lenA false t79) h fun t80 h =>
 loopA (fun N l h => argA l 0 fun left7 => argA l 1 fun t81 => 
 valA (binOp .lss .num t81 t80) h fun t82 h =>
 condA t82
 (joinA (fun (left7'_3 : AV) (h : H) =>
 valA (binOp .add .num t81 (.int .i64 1)) h fun t141 h =>
 N [left7'_3, t141] h) fun J_65 =>
 valA (iaA 4 t79 t81) h fun t83 h =>
 valA (ldA h (some 4) t83) h fun t84 h =>
 boxA h [.nilsl, (.int .i64 0), (.int .i64 0), .nilsl] 39 fun f9 h =>
 memA (stA h 4 f9 t84) .undef fun _ h =>
 valA (faA 2 f9) h fun t85 h =>
 valA (ldA h none t85) h fun t86 h =>
 valA (binOp .gtr .num t86 (.int .i64 200)) h fun t87 h =>
 whenA t87 false (fun K => valA (faA 0 f9) h K) h fun t89 h =>
 whenA t87 false (fun K => valA (ldA h none t89) h K) h fun t90 h =>
 whenA t87 false (fun K => mkslA h 36 1 (fillV [.nilsl] [(0, 1, t90)]) K) h fun t91 h =>
 whenA t87 false (fun K => C 137 [(.int .i64 200), t91] h K) h fun t92 h =>
 valA (pickA t87 (.bool true) t92) h fun t93 h =>
 whenA t93 false (fun K => valA (faA 3 f9) h K) h fun t95 h =>
 whenA t93 false (fun K => valA (ldA h none t95) h K) h fun t96 h =>
 whenA t93 false (fun K => mkslA h 37 1 (fillV [.nilsl] [(0, 1, t96)]) K) h fun t97 h =>
 whenA t93 false (fun K => C 138 [(.int .i64 2000), t97] h K) h fun t98 h =>
 valA (pickA t93 (.bool true) t98) h fun t99 h =>
 condA t99
 (R (.bool true) h)
 (valA (faA 3 f9) h fun t100 h =>
 valA (ldA h none t100) h fun t101 h =>
 valA (lenA false t101) h fun t102 h =>
 loopA (fun N_66 l h => argA l 0 fun left7_67 => argA l 1 fun t103 => 
 valA (binOp .lss .num t103 t102) h fun t104 h =>
 condA t104
 (joinA (fun (left7'_69 : AV) (h : H) =>
 valA (binOp .add .num t103 (.int .i64 1)) h fun t140 h =>
 N_66 [left7'_69, t140] h) fun J_107 =>
 valA (iaA 2 t101 t103) h fun t105 h =>
 valA (ldA h (some 2) t105) h fun t106 h =>
 boxA h [.nilsl, .nilsl] 42 fun b11 h =>
 memA (stA h 2 b11 t106) .undef fun _ h =>
 valA (faA 1 b11) h fun t108 h =>
 valA (ldA h none t108) h fun t109 h =>
 valA (lenA false t109) h fun t110 h =>
 valA (binOp .sub .num left7_67 t110) h fun t111 h =>
 valA (binOp .lss .num t111 (.int .i64 0)) h fun t113 h =>
 whenA t113 false (fun K => valA (faA 0 b11) h K) h fun t115 h =>
 whenA t113 false (fun K => valA (ldA h none t115) h K) h fun t116 h =>
 whenA t113 false (fun K => mkslA h 36 1 (fillV [.nilsl] [(0, 1, t116)]) K) h fun t117 h =>
 whenA t113 false (fun K => C 137 [(.int .i64 200), t117] h K) h fun t118 h =>
 valA (pickA t113 (.bool true) t118) h fun t119 h =>
 condA t119
 (R (.bool true) h)
 (valA (faA 1 b11) h fun t120 h =>
 valA (ldA h none t120) h fun t121 h =>
 valA (lenA false t121) h fun t122 h =>
 loopA (fun N_108 l h => argA l 0 fun t123 => 
 valA (binOp .lss .num t123 t122) h fun t124 h =>
 condA t124
 (valA (iaA 9 t121 t123) h fun t125 h =>
 valA (ldA h (some 9) t125) h fun t126 h =>
 boxA h [(.int .i64 0), (.int .i64 0), (.int .i64 0), (.int .i64 0), (.int .i64 0), (.int .i64 0), .nilsl, .nilsl, .nilsl] 55 fun x13 h =>
 memA (stA h 9 x13 t126) .undef fun _ h =>
 valA (faA 6 x13) h fun t127 h =>
 valA (ldA h none t127) h fun t128 h =>
 valA (faA 7 x13) h fun t129 h =>
 valA (ldA h none t129) h fun t130 h =>
 mkslA h 36 2 (fillV [.nilsl, .nilsl] [(0, 1, t128), (1, 1, t130)]) fun t131 h =>
 C 137 [(.int .i64 1024), t131] h fun t132 h =>
 whenA t132 false (fun K => valA (faA 8 x13) h K) h fun t134 h =>
 whenA t132 false (fun K => valA (ldA h none t134) h K) h fun t135 h =>
 whenA t132 false (fun K => mkslA h 36 1 (fillV [.nilsl] [(0, 1, t135)]) K) h fun t136 h =>
 whenA t132 false (fun K => C 137 [(.int .i64 200), t136] h K) h fun t137 h =>
 valA (pickA t132 (.bool true) t137) h fun t138 h =>
 condA t138
 (R (.bool true) h)
 (valA (binOp .add .num t123 (.int .i64 1)) h fun t139 h =>
 N_108 [t139] h))
 (J_107 t111 h)) [(.int .i64 0)] h))
 (J_65 left7_67 h)) [left7, (.int .i64 0)] h))
 (J h)) [(.int .i64 20000), (.int .i64 0)] h) fun J_109 =>
 valA (faA 1 m1) h fun t60 h =>
 valA (ldA h none t60) h fun t61 h =>
 valA (lenA false t61) h fun t62 h =>
 loopA (fun N_110 l h => argA l 0 fun t63 => 
 valA (binOp .lss .num t63 t62) h fun t64 h =>
 condA t64
 (valA (iaA 3 t61 t63) h fun t65 h =>
 valA (ldA h (some 3) t65) h fun t66 h =>
 boxA h [(.int .i64 0), .nilsl, (.str [])] 61 fun s6 h =>
 memA (stA h 3 s6 t66) .undef fun _ h =>
 valA (faA 1 s6) h fun t67 h =>
 valA (ldA h none t67) h fun t68 h =>
 mkslA h 36 1 (fillV [.nilsl] [(0, 1, t68)]) fun t69 h =>
 C 137 [(.int .i64 200), t69] h fun t70 h =>
 whenA t70 false (fun K => valA (faA 2 s6) h K) h fun t72 h =>
 whenA t70 false (fun K => valA (ldA h none t72) h K) h fun t73 h =>
 whenA t70 false (fun K => mkslA h 9 1 (fillV [(.str [])] [(0, 1, t73)]) K) h fun t74 h =>
 whenA t70 false (fun K => C 136 [t74] h K) h fun t75 h =>
 valA (pickA t70 (.bool true) t75) h fun t76 h =>
 condA t76
 (R (.bool true) h)
 (valA (binOp .add .num t63 (.int .i64 1)) h fun t77 h =>
 N_110 [t77] h))
 (J_109 h)) [(.int .i64 0)] h) fun J_111 =>
 valA (faA 0 m1) h fun t48 h =>
 valA (ldA h none t48) h fun t49 h =>
 valA (lenA false t49) h fun t50 h =>
 loopA (fun N_112 l h => argA l 0 fun t51 => 
 valA (binOp .lss .num t51 t50) h fun t52 h =>
 condA t52
 (valA (iaA 2 t49 t51) h fun t53 h =>
 valA (ldA h (some 2) t53) h fun t54 h =>
 boxA h [(.bool false), .nilsl] 46 fun t4 h =>
 memA (stA h 2 t4 t54) .undef fun _ h =>
 valA (faA 1 t4) h fun t55 h =>
 valA (ldA h none t55) h fun t56 h =>
 mkslA h 36 1 (fillV [.nilsl] [(0, 1, t56)]) fun t57 h =>
 C 137 [(.int .i64 512), t57] h fun t58 h =>
 condA t58
 (R (.bool true) h)
 (valA (binOp .add .num t51 (.int .i64 1)) h fun t59 h =>
 N_112 [t59] h))
 (J_111 h)) [(.int .i64 0)] h)
theorem she87 (C : CallA) (m0 : AV) (h : H) (R : AV → H → Prop) : wpA C an87 (argE [m0]) h (outA [(.tmp 2)] R) = sh87 C m0 h R := by kernel_rfl
/-! slices.ContainsFunc[[]bellows/api.Instr,bellows/api.Instr] -/
def an88 : ACode :=
 (.seq (.reg 0 [] [] [sD 4 (.mv (.c (.bool false)))])
 (.seq (.reg 0 [] [] [sD 5 (.mv (.t 0)),
 sD 6 (.mv (.t 1)),
 sD 7 (.call 139 [(.t 5), (.t 6)]),
 sD 8 (.bin .geq .num (.t 7) (.c (.int .i64 0))),
 sD 4 (.mv (.t 8))])
 .ret))
def fn88 : IFun := ⟨9, [(.tmp 4)], an88.erase⟩
theorem ok88 : okFun Tryz.prog 88 fn88 = true := by kernel_rfl
theorem oka88 : okA fn88.ntmps fn88.results an88 = true := by kernel_rfl
def sh88 (C : CallA) (s0 f1 : AV) (h : H) (R : AV → H → Prop) : Prop :=
 C 139 [s0, f1] h fun t7 h =>
 valA (binOp .geq .num t7 (.int .i64 0)) h fun t8 h =>
 R t8 h
theorem she88 (C : CallA) (s0 f1 : AV) (h : H) (R : AV → H → Prop) : wpA C an88 (argE [s0, f1]) h (outA [(.tmp 4)] R) = sh88 C s0 f1 h R := by kernel_rfl
/-! bellows/code.Check$1 -/
def an89 : ACode :=
 (.seq (.reg 0 [] [] [sD 1 (.bx none 55 (.t 0)),
 sD 2 (.mv (.c (.bool false)))])
 (.seq (.reg 0 [] [] [sD 3 (.ld (some 9) (.t 1)),
 sD 4 (.call 60 [(.t 3)]),
 sD 5 (.un .not (.t 4)),
 sD 2 (.mv (.t 5))])
 .ret))
def fn89 : IFun := ⟨6, [(.tmp 2)], an89.erase⟩
theorem ok89 : okFun Tryz.prog 89 fn89 = true := by kernel_rfl
theorem oka89 : okA fn89.ntmps fn89.results an89 = true := by kernel_rfl
def sh89 (C : CallA) (x0 : AV) (h : H) (R : AV → H → Prop) : Prop :=
 boxA h (AV.cells x0) 55 fun x1 h =>
 valA (ldA h (some 9) x1) h fun t3 h =>
 C 60 [t3] h fun t4 h =>
 valA (unOp .not t4) h fun t5 h =>
 R t5 h
theorem she89 (C : CallA) (x0 : AV) (h : H) (R : AV → H → Prop) : wpA C an89 (argE [x0]) h (outA [(.tmp 2)] R) = sh89 C x0 h R := by kernel_rfl
/-! bellows/bellowsref01.Get -/
def an90 : ACode :=
 (.seq (.reg 0 [] [] [sD 4 (.mv (.c (.int .i64 0))),
 sD 5 (.mv (.c (.int .i64 0))),
 sD 6 (.mv (.c (.bool false)))])
 (.seq (.seq (.reg 0 [] [] [sD 11 (.mv (.t 1)),
 sD 12 (.bin .lss .num (.t 11) (.c (.int .i64 0))),
 sD 13 (.mv (.t 12)),
 sG 14 13 false (.mv (.t 1)),
 sG 15 13 false (.mv (.t 0)),
 sG 16 13 false (.len false (.t 15)),
 sG 17 13 false (.bin .geq .num (.t 14) (.t 16)),
 sD 18 (.pick (.t 13) (.c (.bool true)) (.t 17))])
 (.cond (.t 18) (.seq (.reg 0 [] [] [sD 4 (.mv (.c (.int .i64 0))),
 sD 5 (.mv (.c (.int .i64 0))),
 sD 6 (.mv (.c (.bool false)))])
 .ret)
 .skip))
 (.seq (.reg 0 [] [] [sD 7 (.mv (.c (.int .u64 0)))])
 (.seq (.reg 0 [] [] [sD 8 (.mv (.c (.int .u64 1)))])
 (.seq (.seq (.reg 0 [] [] [sD 19 (.mv (.t 1)),
 sD 9 (.mv (.t 19))])
 (.block 0 (.loop [7, 8, 9] 899 (.seq (.seq (.reg 0 [] [] [sD 20 (.mv (.t 9)),
 sD 21 (.mv (.t 0)),
 sD 22 (.len false (.t 21)),
 sD 23 (.bin .lss .num (.t 20) (.t 22)),
 sD 24 (.mv (.t 23)),
 sG 25 24 true (.mv (.t 9)),
 sG 26 24 true (.mv (.t 1)),
 sG 27 24 true (.bin .add .num (.t 26) (.c (.int .i64 10))),
 sG 28 24 true (.bin .lss .num (.t 25) (.t 27)),
 sD 29 (.pick (.t 24) (.t 28) (.c (.bool false)))])
 (.cond (.t 29) .skip
 (.exit 0)))
 (.seq (.block 1 (.seq (.reg 0 [] [] [sD 32 (.mv (.t 7)),
 sD 33 (.mv (.t 0)),
 sD 34 (.mv (.t 9)),
 sD 35 (.ia none 1 (.t 33) (.t 34)),
 sD 36 (.ld none (.t 35)),
 sD 37 (.bin .rem .num (.t 36) (.c (.int .u8 128))),
 sD 38 (.cv none (.toInt .u64) (.t 37)),
 sD 39 (.mv (.t 8)),
 sD 40 (.bin .mul .num (.t 38) (.t 39)),
 sD 41 (.bin .add .num (.t 32) (.t 40)),
 sD 7 (.mv (.t 41))])
 (.seq (.reg 0 [] [] [sD 42 (.mv (.t 8)),
 sD 43 (.bin .mul .num (.t 42) (.c (.int .u64 128))),
 sD 8 (.mv (.t 43))])
 (.seq (.seq (.reg 0 [] [] [sD 44 (.mv (.t 0)),
 sD 45 (.mv (.t 9)),
 sD 46 (.ia none 1 (.t 44) (.t 45)),
 sD 47 (.ld none (.t 46)),
 sD 48 (.bin .geq .num (.t 47) (.c (.int .u8 128)))])
 (.cond (.t 48) (.exit 1)
 .skip))
 (.seq (.reg 0 [] [] [sD 49 (.mv (.t 7)),
 sD 50 (.bin .quo .num (.t 49) (.c (.int .u64 2))),
 sD 51 (.cv none (.toInt .i64) (.t 50)),
 sD 10 (.mv (.t 51))])
 (.seq (.seq (.reg 0 [] [] [sD 52 (.mv (.t 7)),
 sD 53 (.bin .rem .num (.t 52) (.c (.int .u64 2))),
 sD 54 (.bin .eql .num (.t 53) (.c (.int .u64 1)))])
 (.cond (.t 54) (.reg 0 [] [] [sD 55 (.mv (.t 10)),
 sD 56 (.un .neg (.t 55)),
 sD 57 (.bin .sub .num (.t 56) (.c (.int .i64 1))),
 sD 10 (.mv (.t 57))])
 .skip))
 (.seq (.seq (.reg 0 [0, 3, 4, 5, 6, 7, 8, 1, 2, 9] [[], [0], [0, 1], [], [], [], [5], [5, 6, 4, 3], [3, 4, 6, 5, 7], [7, 5, 6, 4, 3, 8, 1, 0, 2]] [sD 58 (.mv (.t 10)),
 sD 61 (.mv (.t 0)),
 sD 62 (.mv (.t 1)),
 sD 63 (.mv (.t 9)),
 sD 64 (.bin .add .num (.t 63) (.c (.int .i64 1))),
 sD 65 (.sli (.row 1) (.t 61) (some (.t 62)) (some (.t 64)) none),
 sD 66 (.cv none .b2s (.t 65)),
 ⟨(some 59), none, (.call 140 [(.t 58)]), [⟨none, (.cv none .b2s (.t 65)), 66⟩]⟩,
 sD 60 (.cv none .b2s (.t 59)),
 sD 67 (.bin .eql .num (.t 60) (.t 66))])
 (.cond (.t 67) (.seq (.reg 0 [] [] [sD 68 (.mv (.t 10)),
 sD 69 (.mv (.t 9)),
 sD 70 (.bin .add .num (.t 69) (.c (.int .i64 1))),
 sD 4 (.mv (.t 68)),
 sD 5 (.mv (.t 70)),
 sD 6 (.mv (.c (.bool true)))])
 .ret)
 .skip))
 (.seq (.reg 0 [] [] [sD 4 (.mv (.c (.int .i64 0))),
 sD 5 (.mv (.c (.int .i64 0))),
 sD 6 (.mv (.c (.bool false)))])
 .ret))))))))
 (.reg 0 [] [] [sD 30 (.mv (.t 9)),
 sD 31 (.bin .add .num (.t 30) (.c (.int .i64 1))),
 sD 9 (.mv (.t 31))]))))))
 (.seq (.reg 0 [] [] [sD 4 (.mv (.c (.int .i64 0))),
 sD 5 (.mv (.c (.int .i64 0))),
 sD 6 (.mv (.c (.bool false)))])
 .ret))))))
def fn90 : IFun := ⟨71, [(.tmp 4), (.tmp 5), (.tmp 6)], an90.erase⟩
theorem ok90 : okFun Tryz.prog 90 fn90 = true := by kernel_rfl
theorem oka90 : okA fn90.ntmps fn90.results an90 = true := by kernel_rfl
def sh90 (C : CallA) (b0 at1 : AV) (h : H) (R : AV → H → Prop) : Prop :=
 valA (binOp .lss .num at1 (.int .i64 0)) h fun t12 h =>
 whenA t12 false (fun K => K at1 h) h fun t14 h =>
 whenA t12 false (fun K => K b0 h) h fun t15 h =>
 whenA t12 false (fun K => valA (lenA false t15) h K) h fun t16 h =>
 whenA t12 false (fun K => valA (binOp .geq .num t14 t16) h K) h fun t17 h =>
 valA (pickA t12 (.bool true) t17) h fun t18 h =>
 condA t18
 (R (.tup [(.int .i64 0), (.int .i64 0), (.bool false)]) h)
 (joinA (fun (h : H) =>
 R (.tup [(.int .i64 0), (.int .i64 0), (.bool false)]) h) fun J =>
 loopA (fun N l h => argA l 0 fun x7 => argA l 1 fun unit8 => argA l 2 fun i9 => 
 valA (lenA false b0) h fun t22 h =>
 valA (binOp .lss .num i9 t22) h fun t23 h =>
 whenA t23 true (fun K => K i9 h) h fun t25 h =>
 whenA t23 true (fun K => K at1 h) h fun t26 h =>
 whenA t23 true (fun K => valA (binOp .add .num t26 (.int .i64 10)) h K) h fun t27 h =>
 whenA t23 true (fun K => valA (binOp .lss .num t25 t27) h K) h fun t28 h =>
 valA (pickA t23 t28 (.bool false)) h fun t29 h =>
 condA t29
 (valA (iaA 1 b0 i9) h fun t35 h =>
 valA (ldA h none t35) h fun t36 h =>
 valA (binOp .rem .num t36 (.int .u8 128)) h fun t37 h =>
 valA (cvA .u64 t37) h fun t38 h =>
 valA (binOp .mul .num t38 unit8) h fun t40 h =>
 valA (binOp .add .num x7 t40) h fun t41 h =>
 valA (binOp .mul .num unit8 (.int .u64 128)) h fun t43 h =>
 valA (iaA 1 b0 i9) h fun t46 h =>
 valA (ldA h none t46) h fun t47 h =>
 valA (binOp .geq .num t47 (.int .u8 128)) h fun t48 h =>
 condA t48
 (valA (binOp .add .num i9 (.int .i64 1)) h fun t31 h =>
 N [t41, t43, t31] h)
 (valA (binOp .quo .num t41 (.int .u64 2)) h fun t50 h =>
 valA (cvA .i64 t50) h fun t51 h =>
 joinA (fun (n10'_0 : AV) (h : H) =>
 valA (binOp .add .num i9 (.int .i64 1)) h fun t64 h =>
 valA (sliceOp (.row 1) b0 (some at1) (some t64) none) h fun t65 h =>
 valA (b2sA h t65) h fun t66 h =>
 C 140 [n10'_0] h fun t59 h =>
 againK (valA (b2sA h t65) h (fun v _ => v = t66)) <|
 valA (b2sA h t59) h fun t60 h =>
 valA (binOp .eql .num t60 t66) h fun t67 h =>
 condA t67
 (valA (binOp .add .num i9 (.int .i64 1)) h fun t70 h =>
 R (.tup [n10'_0, t70, (.bool true)]) h)
 (R (.tup [(.int .i64 0), (.int .i64 0), (.bool false)]) h)) fun J_7 =>
 valA (binOp .rem .num t41 (.int .u64 2)) h fun t53 h =>
 valA (binOp .eql .num t53 (.int .u64 1)) h fun t54 h =>
 condA t54
 (valA (unOp .neg t51) h fun t56 h =>
 valA (binOp .sub .num t56 (.int .i64 1)) h fun t57 h =>
 J_7 t57 h)
 (J_7 t51 h)))
 (J h)) [(.int .u64 0), (.int .u64 1), at1] h)
theorem she90 (C : CallA) (b0 at1 : AV) (h : H) (R : AV → H → Prop) : wpA C an90 (argE [b0, at1]) h (outA [(.tmp 4), (.tmp 5), (.tmp 6)] R) = sh90 C b0 at1 h R := by kernel_rfl
/-! (*bellows/bellowsref04.taker).instr -/
def an91 : ACode :=
 (.seq (.reg 0 [] [] [sD 2 (.al none 55 [(.int .i64 0), (.int .i64 0), (.int .i64 0), (.int .i64 0), (.int .i64 0), (.int .i64 0), .nilsl, .nilsl, .nilsl])])
 (.seq (.reg 0 [] [] [sD 6 (.mv (.t 0)),
 sD 7 (.call 45 [(.t 6)]),
 sD 8 (.build [(.int .i64 0), (.int .i64 0), (.int .i64 0), (.int .i64 0), (.int .i64 0), (.int .i64 0), .nilsl, .nilsl, .nilsl] [(0, 1, (.t 7))]),
 sD 3 (.al none 55 [(.int .i64 0), (.int .i64 0), (.int .i64 0), (.int .i64 0), (.int .i64 0), (.int .i64 0), .nilsl, .nilsl, .nilsl]),
 sN (.st 9 (.t 3) (.t 8))])
 (.seq (.reg 0 [] [] [sD 9 (.fa 0 (.t 3)),
 sD 10 (.ld none (.t 9)),
 sD 11 (.call 111 [(.t 10)]),
 sD 4 (.mv (.t 11))])
 (.seq (.seq (.reg 0 [] [] [sD 12 (.mv (.t 4)),
 sD 13 (.bin .eql .num (.t 12) (.c (.str [])))])
 (.cond (.t 13) (.reg 0 [] [] [sD 14 (.mv (.t 0)),
 sD 15 (.nilc (.t 14)),
 sD 16 (.fa 2 (.t 15)),
 sN (.st 1 (.t 16) (.c (.bool true)))])
 .skip))
 (.seq (.seq (.reg 0 [] [] [sD 5 (.mv (.c (.int .i64 0)))])
 (.block 0 (.loop [5] 61 (.seq (.seq (.reg 0 [] [] [sD 17 (.mv (.t 5)),
 sD 18 (.mv (.t 4)),
 sD 19 (.len true (.t 18)),
 sD 20 (.bin .lss .num (.t 17) (.t 19))])
 (.cond (.t 20) .skip
 (.exit 0)))
 (.seq (.block 1 (.seq (.reg 0 [] [] [sD 23 (.mv (.t 4)),
 sD 24 (.mv (.t 5)),
 sD 25 (.ix none (.t 23) (.t 24))])
 (.block 2 (.seq (.reg 0 [] [] [sD 30 (.bin .eql .num (.t 25) (.c (.int .u8 68))),
 sD 29 (.mv (.t 30))])
 (.cond (.t 29) (.reg 0 [] [] [sD 31 (.mv (.t 0)),
 sD 32 (.call 45 [(.t 31)]),
 sD 33 (.fa 1 (.t 3)),
 sN (.st 1 (.t 33) (.t 32))])
 (.seq (.reg 0 [] [] [sD 35 (.bin .eql .num (.t 25) (.c (.int .u8 65))),
 sD 34 (.mv (.t 35))])
 (.cond (.t 34) (.reg 0 [] [] [sD 36 (.mv (.t 0)),
 sD 37 (.call 45 [(.t 36)]),
 sD 38 (.fa 2 (.t 3)),
 sN (.st 1 (.t 38) (.t 37))])
 (.seq (.reg 0 [] [] [sD 40 (.bin .eql .num (.t 25) (.c (.int .u8 66))),
 sD 39 (.mv (.t 40))])
 (.cond (.t 39) (.reg 0 [] [] [sD 41 (.mv (.t 0)),
 sD 42 (.call 45 [(.t 41)]),
 sD 43 (.fa 3 (.t 3)),
 sN (.st 1 (.t 43) (.t 42))])
 (.seq (.reg 0 [] [] [sD 45 (.bin .eql .num (.t 25) (.c (.int .u8 67))),
 sD 44 (.mv (.t 45))])
 (.cond (.t 44) (.reg 0 [] [] [sD 46 (.mv (.t 0)),
 sD 47 (.call 45 [(.t 46)]),
 sD 48 (.fa 4 (.t 3)),
 sN (.st 1 (.t 48) (.t 47))])
 (.seq (.reg 0 [] [] [sD 50 (.bin .eql .num (.t 25) (.c (.int .u8 78))),
 sD 49 (.mv (.t 50))])
 (.cond (.t 49) (.reg 0 [] [] [sD 51 (.mv (.t 0)),
 sD 52 (.call 45 [(.t 51)]),
 sD 53 (.fa 5 (.t 3)),
 sN (.st 1 (.t 53) (.t 52))])
 (.seq (.reg 0 [] [] [sD 55 (.bin .eql .num (.t 25) (.c (.int .u8 76))),
 sD 54 (.mv (.t 55))])
 (.cond (.t 54) (.reg 0 [] [] [sD 56 (.mv (.t 0)),
 sD 57 (.call 46 [(.t 56)]),
 sD 58 (.fa 6 (.t 3)),
 sN (.st 1 (.t 58) (.t 57))])
 (.seq (.reg 0 [] [] [sD 60 (.bin .eql .num (.t 25) (.c (.int .u8 77))),
 sD 59 (.mv (.t 60))])
 (.cond (.t 59) (.reg 0 [] [] [sD 61 (.mv (.t 0)),
 sD 62 (.call 46 [(.t 61)]),
 sD 63 (.fa 7 (.t 3)),
 sN (.st 1 (.t 63) (.t 62))])
 (.reg 0 [] [] [sD 26 (.mv (.t 0)),
 sD 27 (.call 46 [(.t 26)]),
 sD 28 (.fa 8 (.t 3)),
 sN (.st 1 (.t 28) (.t 27))]))))))))))))))))))
 (.reg 0 [] [] [sD 21 (.mv (.t 5)),
 sD 22 (.bin .add .num (.t 21) (.c (.int .i64 1))),
 sD 5 (.mv (.t 22))]))))))
 (.seq (.reg 0 [] [] [sD 64 (.ld (some 9) (.t 3)),
 sN (.st 9 (.t 2) (.t 64))])
 .ret))))))
def fn91 : IFun := ⟨65, [(.cell 2 (some 9))], an91.erase⟩
theorem ok91 : okFun Tryz.prog 91 fn91 = true := by kernel_rfl
theorem oka91 : okA fn91.ntmps fn91.results an91 = true := by kernel_rfl
def sh91 (C : CallA) (t0 : AV) (h : H) (R : AV → H → Prop) : Prop :=
 boxA h [(.int .i64 0), (.int .i64 0), (.int .i64 0), (.int .i64 0), (.int .i64 0), (.int .i64 0), .nilsl, .nilsl, .nilsl] 55 fun t2 h =>
 C 45 [t0] h fun t7 h =>
 valA (buildA (fillV [(.int .i64 0), (.int .i64 0), (.int .i64 0), (.int .i64 0), (.int .i64 0), (.int .i64 0), .nilsl, .nilsl, .nilsl] [(0, 1, t7)])) h fun t8 h =>
 boxA h [(.int .i64 0), (.int .i64 0), (.int .i64 0), (.int .i64 0), (.int .i64 0), (.int .i64 0), .nilsl, .nilsl, .nilsl] 55 fun x3 h =>
 memA (stA h 9 x3 t8) .undef fun _ h =>
 valA (faA 0 x3) h fun t9 h =>
 valA (ldA h none t9) h fun t10 h =>
 C 111 [t10] h fun t11 h =>
 joinA (fun (h : H) =>
 joinA (fun (h : H) =>
 valA (ldA h (some 9) x3) h fun t64 h =>
 memA (stA h 9 t2 t64) .undef fun _ h =>
 valA (ldA h (some 9) t2) h fun res _ => R res h) fun J =>
 loopA (fun N l h => argA l 0 fun i5 => 
 valA (lenA true t11) h fun t19 h =>
 valA (binOp .lss .num i5 t19) h fun t20 h =>
 condA t20
 (joinA (fun (h : H) =>
 valA (binOp .add .num i5 (.int .i64 1)) h fun t22 h =>
 N [t22] h) fun J_41 =>
 valA (ixStrA t11 i5) h fun t25 h =>
 valA (binOp .eql .num t25 (.int .u8 68)) h fun t30 h =>
 condA t30
 (C 45 [t0] h fun t32 h =>
 valA (faA 1 x3) h fun t33 h =>
 memA (stA h 1 t33 t32) .undef fun _ h =>
 J_41 h)
 (valA (binOp .eql .num t25 (.int .u8 65)) h fun t35 h =>
 condA t35
 (C 45 [t0] h fun t37 h =>
 valA (faA 2 x3) h fun t38 h =>
 memA (stA h 1 t38 t37) .undef fun _ h =>
 J_41 h)
 (valA (binOp .eql .num t25 (.int .u8 66)) h fun t40 h =>
 condA t40
 (C 45 [t0] h fun t42 h =>
 valA (faA 3 x3) h fun t43 h =>
 memA (stA h 1 t43 t42) .undef fun _ h =>
 J_41 h)
 (valA (binOp .eql .num t25 (.int .u8 67)) h fun t45 h =>
 condA t45
 (C 45 [t0] h fun t47 h =>
 valA (faA 4 x3) h fun t48 h =>
 memA (stA h 1 t48 t47) .undef fun _ h =>
 J_41 h)
 (valA (binOp .eql .num t25 (.int .u8 78)) h fun t50 h =>
 condA t50
 (C 45 [t0] h fun t52 h =>
 valA (faA 5 x3) h fun t53 h =>
 memA (stA h 1 t53 t52) .undef fun _ h =>
 J_41 h)
 (valA (binOp .eql .num t25 (.int .u8 76)) h fun t55 h =>
 condA t55
 (C 46 [t0] h fun t57 h =>
 valA (faA 6 x3) h fun t58 h =>
 memA (stA h 1 t58 t57) .undef fun _ h =>
 J_41 h)
 (valA (binOp .eql .num t25 (.int .u8 77)) h fun t60 h =>
 condA t60
 (C 46 [t0] h fun t62 h =>
 valA (faA 7 x3) h fun t63 h =>
 memA (stA h 1 t63 t62) .undef fun _ h =>
 J_41 h)
 (C 46 [t0] h fun t27 h =>
 valA (faA 8 x3) h fun t28 h =>
 memA (stA h 1 t28 t27) .undef fun _ h =>
 J_41 h))))))))
 (J h)) [(.int .i64 0)] h) fun J_42 =>
 valA (binOp .eql .num t11 (.str [])) h fun t13 h =>
 condA t13
 (valA (nilcA t0) h fun t15 h =>
 valA (faA 2 t15) h fun t16 h =>
 memA (stA h 1 t16 (.bool true)) .undef fun _ h =>
 J_42 h)
 (J_42 h)
theorem she91 (C : CallA) (t0 : AV) (h : H) (R : AV → H → Prop) : wpA C an91 (argE [t0]) h (outA [(.cell 2 (some 9))] R) = sh91 C t0 h R := by kernel_rfl
end Go.Proofs.YtdljelicbnjfjaaGreat.X
