/- The plain programs of functions, printed; that they are the model's; what must hold ahead of each. -/
import Derived.Test.YtdljelicbnjfjaaGreatProg
import Derived.Test.YtdljelicbnjfjaaGreatXo
set_option maxRecDepth 100000
set_option linter.unusedVariables false
namespace Go.Proofs.YtdljelicbnjfjaaGreat.X
open Go
/-! bellows/bellowsref04.num -/
def an92 : ACode :=
 (.seq (.reg 0 [] [] [sD 4 (.mv (.c .nilsl))])
 (.seq (.reg 0 [] [] [sD 5 (.mv (.t 0)),
 sD 6 (.mv (.t 1)),
 sD 7 (.call 140 [(.t 6)]),
 sD 8 (.app 5 1 1 [(.int .u8 0)] (.t 5) (.t 7)),
 sD 4 (.mv (.t 8))])
 .ret))
def fn92 : IFun := ⟨9, [(.tmp 4)], an92.erase⟩
theorem ok92 : okFun Tryz.prog 92 fn92 = true := by kernel_rfl
theorem oka92 : okA fn92.ntmps fn92.results an92 = true := by kernel_rfl
def sh92 (C : CallA) (b0 n1 : AV) (h : H) (R : AV → H → Prop) : Prop :=
 C 140 [n1] h fun t7 h =>
 appendA h 5 1 1 b0 t7 fun t8 h =>
 R t8 h
theorem she92 (C : CallA) (b0 n1 : AV) (h : H) (R : AV → H → Prop) : wpA C an92 (argE [b0, n1]) h (outA [(.tmp 4)] R) = sh92 C b0 n1 h R := by kernel_rfl
/-! bellows/bellowsref04.nums -/
def an93 : ACode :=
 (.seq (.reg 0 [] [] [sD 4 (.mv (.c .nilsl))])
 (.seq (.reg 0 [] [] [sD 7 (.mv (.t 0)),
 sD 8 (.mv (.t 1)),
 sD 9 (.len false (.t 8)),
 sD 10 (.call 92 [(.t 7), (.t 9)]),
 sD 0 (.mv (.t 10))])
 (.seq (.seq (.reg 0 [] [] [sD 11 (.mv (.t 1)),
 sD 12 (.len false (.t 11)),
 sD 13 (.mv (.c (.int .i64 0)))])
 (.block 0 (.loop [0, 13] 14337 (.seq (.reg 0 [] [] [sD 14 (.bin .lss .num (.t 13) (.t 12))])
 (.seq (.cond (.t 14) .skip
 (.exit 0))
 (.seq (.block 1 (.seq (.reg 0 [] [] [sD 15 (.ia none 1 (.t 11) (.t 13)),
 sD 16 (.ld none (.t 15)),
 sD 6 (.mv (.t 16))])
 (.reg 0 [] [] [sD 17 (.mv (.t 0)),
 sD 18 (.mv (.t 6)),
 sD 19 (.call 92 [(.t 17), (.t 18)]),
 sD 0 (.mv (.t 19))])))
 (.reg 0 [] [] [sD 20 (.bin .add .num (.t 13) (.c (.int .i64 1))),
 sD 13 (.mv (.t 20))])))))))
 (.seq (.reg 0 [] [] [sD 21 (.mv (.t 0)),
 sD 4 (.mv (.t 21))])
 .ret))))
def fn93 : IFun := ⟨22, [(.tmp 4)], an93.erase⟩
theorem ok93 : okFun Tryz.prog 93 fn93 = true := by kernel_rfl
theorem oka93 : okA fn93.ntmps fn93.results an93 = true := by kernel_rfl
def sh93 (C : CallA) (b0 l1 : AV) (h : H) (R : AV → H → Prop) : Prop :=
 valA (lenA false l1) h fun t9 h =>
 C 92 [b0, t9] h fun t10 h =>
 joinA (fun (b0' : AV) (h : H) =>
 R b0' h) fun J =>
 valA (lenA false l1) h fun t12 h =>
 loopA (fun N l h => argA l 0 fun b0_0 => argA l 1 fun t13 => 
 valA (binOp .lss .num t13 t12) h fun t14 h =>
 condA t14
 (valA (iaA 1 l1 t13) h fun t15 h =>
 valA (ldA h none t15) h fun t16 h =>
 C 92 [b0_0, t16] h fun t19 h =>
 valA (binOp .add .num t13 (.int .i64 1)) h fun t20 h =>
 N [t19, t20] h)
 (J b0_0 h)) [t10, (.int .i64 0)] h
theorem she93 (C : CallA) (b0 l1 : AV) (h : H) (R : AV → H → Prop) : wpA C an93 (argE [b0, l1]) h (outA [(.tmp 4)] R) = sh93 C b0 l1 h R := by kernel_rfl
/-! bellows/bellowsref04.text -/
def an94 : ACode :=
 (.seq (.reg 0 [] [] [sD 4 (.mv (.c .nilsl))])
 (.seq (.reg 0 [] [] [sD 5 (.mv (.t 0)),
 sD 6 (.mv (.t 1)),
 sD 7 (.len true (.t 6)),
 sD 8 (.call 92 [(.t 5), (.t 7)]),
 sD 9 (.mv (.t 1)),
 sD 10 (.cv none (.s2b 5) (.t 9)),
 sD 11 (.app 5 1 1 [(.int .u8 0)] (.t 8) (.t 10)),
 sD 4 (.mv (.t 11))])
 .ret))
def fn94 : IFun := ⟨12, [(.tmp 4)], an94.erase⟩
theorem ok94 : okFun Tryz.prog 94 fn94 = true := by kernel_rfl
theorem oka94 : okA fn94.ntmps fn94.results an94 = true := by kernel_rfl
def sh94 (C : CallA) (b0 s1 : AV) (h : H) (R : AV → H → Prop) : Prop :=
 valA (lenA true s1) h fun t7 h =>
 C 92 [b0, t7] h fun t8 h =>
 s2bA h 5 s1 fun t10 h =>
 appendA h 5 1 1 t8 t10 fun t11 h =>
 R t11 h
theorem she94 (C : CallA) (b0 s1 : AV) (h : H) (R : AV → H → Prop) : wpA C an94 (argE [b0, s1]) h (outA [(.tmp 4)] R) = sh94 C b0 s1 h R := by kernel_rfl
/-! bellows/bellowsref04.Instr -/
def an95 : ACode :=
 (.seq (.reg 0 [] [] [sD 3 (.bx none 55 (.t 1)),
 sD 4 (.mv (.c .nilsl))])
 (.seq (.reg 0 [] [] [sD 7 (.mv (.t 0)),
 sD 8 (.fa 0 (.t 3)),
 sD 9 (.ld none (.t 8)),
 sD 10 (.call 92 [(.t 7), (.t 9)]),
 sD 0 (.mv (.t 10))])
 (.seq (.reg 0 [] [] [sD 11 (.fa 0 (.t 3)),
 sD 12 (.ld none (.t 11)),
 sD 13 (.call 111 [(.t 12)]),
 sD 5 (.mv (.t 13))])
 (.seq (.seq (.reg 0 [] [] [sD 6 (.mv (.c (.int .i64 0)))])
 (.block 0 (.loop [0, 6] 105 (.seq (.seq (.reg 0 [] [] [sD 14 (.mv (.t 6)),
 sD 15 (.mv (.t 5)),
 sD 16 (.len true (.t 15)),
 sD 17 (.bin .lss .num (.t 14) (.t 16))])
 (.cond (.t 17) .skip
 (.exit 0)))
 (.seq (.block 1 (.seq (.reg 0 [] [] [sD 20 (.mv (.t 5)),
 sD 21 (.mv (.t 6)),
 sD 22 (.ix none (.t 20) (.t 21))])
 (.block 2 (.seq (.reg 0 [] [] [sD 28 (.bin .eql .num (.t 22) (.c (.int .u8 68))),
 sD 27 (.mv (.t 28))])
 (.cond (.t 27) (.reg 0 [] [] [sD 29 (.mv (.t 0)),
 sD 30 (.fa 1 (.t 3)),
 sD 31 (.ld none (.t 30)),
 sD 32 (.call 92 [(.t 29), (.t 31)]),
 sD 0 (.mv (.t 32))])
 (.seq (.reg 0 [] [] [sD 34 (.bin .eql .num (.t 22) (.c (.int .u8 65))),
 sD 33 (.mv (.t 34))])
 (.cond (.t 33) (.reg 0 [] [] [sD 35 (.mv (.t 0)),
 sD 36 (.fa 2 (.t 3)),
 sD 37 (.ld none (.t 36)),
 sD 38 (.call 92 [(.t 35), (.t 37)]),
 sD 0 (.mv (.t 38))])
 (.seq (.reg 0 [] [] [sD 40 (.bin .eql .num (.t 22) (.c (.int .u8 66))),
 sD 39 (.mv (.t 40))])
 (.cond (.t 39) (.reg 0 [] [] [sD 41 (.mv (.t 0)),
 sD 42 (.fa 3 (.t 3)),
 sD 43 (.ld none (.t 42)),
 sD 44 (.call 92 [(.t 41), (.t 43)]),
 sD 0 (.mv (.t 44))])
 (.seq (.reg 0 [] [] [sD 46 (.bin .eql .num (.t 22) (.c (.int .u8 67))),
 sD 45 (.mv (.t 46))])
 (.cond (.t 45) (.reg 0 [] [] [sD 47 (.mv (.t 0)),
 sD 48 (.fa 4 (.t 3)),
 sD 49 (.ld none (.t 48)),
 sD 50 (.call 92 [(.t 47), (.t 49)]),
 sD 0 (.mv (.t 50))])
 (.seq (.reg 0 [] [] [sD 52 (.bin .eql .num (.t 22) (.c (.int .u8 78))),
 sD 51 (.mv (.t 52))])
 (.cond (.t 51) (.reg 0 [] [] [sD 53 (.mv (.t 0)),
 sD 54 (.fa 5 (.t 3)),
 sD 55 (.ld none (.t 54)),
 sD 56 (.call 140 [(.t 55)]),
 sD 57 (.app 5 1 1 [(.int .u8 0)] (.t 53) (.t 56)),
 sD 0 (.mv (.t 57))])
 (.seq (.reg 0 [] [] [sD 59 (.bin .eql .num (.t 22) (.c (.int .u8 76))),
 sD 58 (.mv (.t 59))])
 (.cond (.t 58) (.reg 0 [] [] [sD 60 (.mv (.t 0)),
 sD 61 (.fa 6 (.t 3)),
 sD 62 (.ld none (.t 61)),
 sD 63 (.call 93 [(.t 60), (.t 62)]),
 sD 0 (.mv (.t 63))])
 (.seq (.reg 0 [] [] [sD 65 (.bin .eql .num (.t 22) (.c (.int .u8 77))),
 sD 64 (.mv (.t 65))])
 (.cond (.t 64) (.reg 0 [] [] [sD 66 (.mv (.t 0)),
 sD 67 (.fa 7 (.t 3)),
 sD 68 (.ld none (.t 67)),
 sD 69 (.call 93 [(.t 66), (.t 68)]),
 sD 0 (.mv (.t 69))])
 (.reg 0 [] [] [sD 23 (.mv (.t 0)),
 sD 24 (.fa 8 (.t 3)),
 sD 25 (.ld none (.t 24)),
 sD 26 (.call 93 [(.t 23), (.t 25)]),
 sD 0 (.mv (.t 26))]))))))))))))))))))
 (.reg 0 [] [] [sD 18 (.mv (.t 6)),
 sD 19 (.bin .add .num (.t 18) (.c (.int .i64 1))),
 sD 6 (.mv (.t 19))]))))))
 (.seq (.reg 0 [] [] [sD 70 (.mv (.t 0)),
 sD 4 (.mv (.t 70))])
 .ret)))))
def fn95 : IFun := ⟨71, [(.tmp 4)], an95.erase⟩
theorem ok95 : okFun Tryz.prog 95 fn95 = true := by kernel_rfl
theorem oka95 : okA fn95.ntmps fn95.results an95 = true := by kernel_rfl
def sh95 (C : CallA) (b0 x1 : AV) (h : H) (R : AV → H → Prop) : Prop :=
 boxA h (AV.cells x1) 55 fun x3 h =>
 valA (faA 0 x3) h fun t8 h =>
 valA (ldA h none t8) h fun t9 h =>
 C 92 [b0, t9] h fun t10 h =>
 valA (faA 0 x3) h fun t11 h =>
 valA (ldA h none t11) h fun t12 h =>
 C 111 [t12] h fun t13 h =>
 joinA (fun (b0' : AV) (h : H) =>
 R b0' h) fun J =>
 loopA (fun N l h => argA l 0 fun b0_0 => argA l 1 fun i6 => 
 valA (lenA true t13) h fun t16 h =>
 valA (binOp .lss .num i6 t16) h fun t17 h =>
 condA t17
 (joinA (fun (b0'_1 : AV) (h : H) =>
 valA (binOp .add .num i6 (.int .i64 1)) h fun t19 h =>
 N [b0'_1, t19] h) fun J_52 =>
 valA (ixStrA t13 i6) h fun t22 h =>
 valA (binOp .eql .num t22 (.int .u8 68)) h fun t28 h =>
 condA t28
 (valA (faA 1 x3) h fun t30 h =>
 valA (ldA h none t30) h fun t31 h =>
 C 92 [b0_0, t31] h fun t32 h =>
 J_52 t32 h)
 (valA (binOp .eql .num t22 (.int .u8 65)) h fun t34 h =>
 condA t34
 (valA (faA 2 x3) h fun t36 h =>
 valA (ldA h none t36) h fun t37 h =>
 C 92 [b0_0, t37] h fun t38 h =>
 J_52 t38 h)
 (valA (binOp .eql .num t22 (.int .u8 66)) h fun t40 h =>
 condA t40
 (valA (faA 3 x3) h fun t42 h =>
 valA (ldA h none t42) h fun t43 h =>
 C 92 [b0_0, t43] h fun t44 h =>
 J_52 t44 h)
 (valA (binOp .eql .num t22 (.int .u8 67)) h fun t46 h =>
 condA t46
 (valA (faA 4 x3) h fun t48 h =>
 valA (ldA h none t48) h fun t49 h =>
 C 92 [b0_0, t49] h fun t50 h =>
 J_52 t50 h)
 (valA (binOp .eql .num t22 (.int .u8 78)) h fun t52 h =>
 condA t52
 (valA (faA 5 x3) h fun t54 h =>
 valA (ldA h none t54) h fun t55 h =>
 C 140 [t55] h fun t56 h =>
 appendA h 5 1 1 b0_0 t56 fun t57 h =>
 J_52 t57 h)
 (valA (binOp .eql .num t22 (.int .u8 76)) h fun t59 h =>
 condA t59
 (valA (faA 6 x3) h fun t61 h =>
 valA (ldA h none t61) h fun t62 h =>
 C 93 [b0_0, t62] h fun t63 h =>
 J_52 t63 h)
 (valA (binOp .eql .num t22 (.int .u8 77)) h fun t65 h =>
 condA t65
 (valA (faA 7 x3) h fun t67 h =>
 valA (ldA h none t67) h fun t68 h =>
 C 93 [b0_0, t68] h fun t69 h =>
 J_52 t69 h)
 (valA (faA 8 x3) h fun t24 h =>
 valA (ldA h none t24) h fun t25 h =>
 C 93 [b0_0, t25] h fun t26 h =>
 J_52 t26 h))))))))
 (J b0_0 h)) [t10, (.int .i64 0)] h
theorem she95 (C : CallA) (b0 x1 : AV) (h : H) (R : AV → H → Prop) : wpA C an95 (argE [b0, x1]) h (outA [(.tmp 4)] R) = sh95 C b0 x1 h R := by kernel_rfl
/-! slices.EqualFunc[[]bellows/api.Block,[]bellows/api.Block,bellows/api.Block,bellows/api.Block] -/
def an96 : ACode :=
 (.seq (.reg 0 [] [] [sD 6 (.mv (.c (.bool false)))])
 (.seq (.seq (.reg 0 [] [] [sD 10 (.mv (.t 0)),
 sD 11 (.len false (.t 10)),
 sD 12 (.mv (.t 1)),
 sD 13 (.len false (.t 12)),
 sD 14 (.bin .neq .num (.t 11) (.t 13))])
 (.cond (.t 14) (.seq (.reg 0 [] [] [sD 6 (.mv (.c (.bool false)))])
 .ret)
 .skip))
 (.seq (.seq (.reg 0 [] [] [sD 15 (.mv (.t 0)),
 sD 16 (.len false (.t 15)),
 sD 17 (.mv (.c (.int .i64 0)))])
 (.block 0 (.loop [17] 229382 (.seq (.reg 0 [] [] [sD 18 (.bin .lss .num (.t 17) (.t 16))])
 (.seq (.cond (.t 18) .skip
 (.exit 0))
 (.seq (.block 1 (.seq (.reg 0 [] [] [sD 19 (.mv (.t 17)),
 sD 20 (.ia none 2 (.t 15) (.t 17)),
 sD 21 (.ld (some 2) (.t 20)),
 sD 8 (.al none 42 [.nilsl, .nilsl]),
 sD 7 (.mv (.t 19)),
 sN (.st 2 (.t 8) (.t 21))])
 (.seq (.reg 0 [] [] [sD 22 (.mv (.t 1)),
 sD 23 (.mv (.t 7)),
 sD 24 (.ia none 2 (.t 22) (.t 23)),
 sD 25 (.ld (some 2) (.t 24)),
 sD 9 (.al none 42 [.nilsl, .nilsl]),
 sN (.st 2 (.t 9) (.t 25))])
 (.seq (.reg 0 [] [] [sD 26 (.mv (.t 2)),
 sD 27 (.ld (some 2) (.t 8)),
 sD 28 (.ld (some 2) (.t 9)),
 sD 29 (.callv (.t 26) [(.t 27), (.t 28)]),
 sD 30 (.un .not (.t 29))])
 (.cond (.t 30) (.seq (.reg 0 [] [] [sD 6 (.mv (.c (.bool false)))])
 .ret)
 .skip)))))
 (.reg 0 [] [] [sD 31 (.bin .add .num (.t 17) (.c (.int .i64 1))),
 sD 17 (.mv (.t 31))])))))))
 (.seq (.reg 0 [] [] [sD 6 (.mv (.c (.bool true)))])
 .ret))))
def fn96 : IFun := ⟨32, [(.tmp 6)], an96.erase⟩
theorem ok96 : okFun Tryz.prog 96 fn96 = true := by kernel_rfl
theorem oka96 : okA fn96.ntmps fn96.results an96 = true := by kernel_rfl
def sh96 (C : CallA) (s10 s21 eq2 : AV) (h : H) (R : AV → H → Prop) : Prop :=
 valA (lenA false s10) h fun t11 h =>
 valA (lenA false s21) h fun t13 h =>
 valA (binOp .neq .num t11 t13) h fun t14 h =>
 condA t14
 (R (.bool false) h)
 (joinA (fun (h : H) =>
 R (.bool true) h) fun J =>
 valA (lenA false s10) h fun t16 h =>
 loopA (fun N l h => argA l 0 fun t17 => 
 valA (binOp .lss .num t17 t16) h fun t18 h =>
 condA t18
 (valA (iaA 2 s10 t17) h fun t20 h =>
 valA (ldA h (some 2) t20) h fun t21 h =>
 boxA h [.nilsl, .nilsl] 42 fun v18 h =>
 memA (stA h 2 v18 t21) .undef fun _ h =>
 valA (iaA 2 s21 t17) h fun t24 h =>
 valA (ldA h (some 2) t24) h fun t25 h =>
 boxA h [.nilsl, .nilsl] 42 fun v29 h =>
 memA (stA h 2 v29 t25) .undef fun _ h =>
 valA (ldA h (some 2) v18) h fun t27 h =>
 valA (ldA h (some 2) v29) h fun t28 h =>
 callvA C eq2 [t27, t28] h fun t29 h =>
 valA (unOp .not t29) h fun t30 h =>
 condA t30
 (R (.bool false) h)
 (valA (binOp .add .num t17 (.int .i64 1)) h fun t31 h =>
 N [t31] h))
 (J h)) [(.int .i64 0)] h)
theorem she96 (C : CallA) (s10 s21 eq2 : AV) (h : H) (R : AV → H → Prop) : wpA C an96 (argE [s10, s21, eq2]) h (outA [(.tmp 6)] R) = sh96 C s10 s21 eq2 h R := by kernel_rfl
/-! bellows/code.alike$1 -/
def an97 : ACode :=
 (.seq (.reg 0 [] [] [sD 2 (.bx none 42 (.t 0)),
 sD 3 (.bx none 42 (.t 1)),
 sD 4 (.mv (.c (.bool false)))])
 (.seq (.reg 0 [] [] [sD 5 (.fa 0 (.t 2)),
 sD 6 (.ld none (.t 5)),
 sD 7 (.fa 0 (.t 3)),
 sD 8 (.ld none (.t 7)),
 sD 9 (.call 52 [(.t 6), (.t 8)]),
 sD 10 (.mv (.t 9)),
 sG 11 10 true (.fa 1 (.t 2)),
 sG 12 10 true (.ld none (.t 11)),
 sG 13 10 true (.fa 1 (.t 3)),
 sG 14 10 true (.ld none (.t 13)),
 sG 15 10 true (.call 98 [(.t 12), (.t 14), (.c (.fn 99 [] []))]),
 sD 16 (.pick (.t 10) (.t 15) (.c (.bool false))),
 sD 4 (.mv (.t 16))])
 .ret))
def fn97 : IFun := ⟨17, [(.tmp 4)], an97.erase⟩
theorem ok97 : okFun Tryz.prog 97 fn97 = true := by kernel_rfl
theorem oka97 : okA fn97.ntmps fn97.results an97 = true := by kernel_rfl
def sh97 (C : CallA) (x0 y1 : AV) (h : H) (R : AV → H → Prop) : Prop :=
 boxA h (AV.cells x0) 42 fun x2 h =>
 boxA h (AV.cells y1) 42 fun y3 h =>
 valA (faA 0 x2) h fun t5 h =>
 valA (ldA h none t5) h fun t6 h =>
 valA (faA 0 y3) h fun t7 h =>
 valA (ldA h none t7) h fun t8 h =>
 C 52 [t6, t8] h fun t9 h =>
 whenA t9 true (fun K => valA (faA 1 x2) h K) h fun t11 h =>
 whenA t9 true (fun K => valA (ldA h none t11) h K) h fun t12 h =>
 whenA t9 true (fun K => valA (faA 1 y3) h K) h fun t13 h =>
 whenA t9 true (fun K => valA (ldA h none t13) h K) h fun t14 h =>
 whenA t9 true (fun K => C 98 [t12, t14, (.fn 99 [] [])] h K) h fun t15 h =>
 valA (pickA t9 t15 (.bool false)) h fun t16 h =>
 R t16 h
theorem she97 (C : CallA) (x0 y1 : AV) (h : H) (R : AV → H → Prop) : wpA C an97 (argE [x0, y1]) h (outA [(.tmp 4)] R) = sh97 C x0 y1 h R := by kernel_rfl
/-! slices.EqualFunc[[]bellows/api.Instr,[]bellows/api.Instr,bellows/api.Instr,bellows/api.Instr] -/
def an98 : ACode :=
 (.seq (.reg 0 [] [] [sD 6 (.mv (.c (.bool false)))])
 (.seq (.seq (.reg 0 [] [] [sD 10 (.mv (.t 0)),
 sD 11 (.len false (.t 10)),
 sD 12 (.mv (.t 1)),
 sD 13 (.len false (.t 12)),
 sD 14 (.bin .neq .num (.t 11) (.t 13))])
 (.cond (.t 14) (.seq (.reg 0 [] [] [sD 6 (.mv (.c (.bool false)))])
 .ret)
 .skip))
 (.seq (.seq (.reg 0 [] [] [sD 15 (.mv (.t 0)),
 sD 16 (.len false (.t 15)),
 sD 17 (.mv (.c (.int .i64 0)))])
 (.block 0 (.loop [17] 229382 (.seq (.reg 0 [] [] [sD 18 (.bin .lss .num (.t 17) (.t 16))])
 (.seq (.cond (.t 18) .skip
 (.exit 0))
 (.seq (.block 1 (.seq (.reg 0 [] [] [sD 19 (.mv (.t 17)),
 sD 20 (.ia none 9 (.t 15) (.t 17)),
 sD 21 (.ld (some 9) (.t 20)),
 sD 8 (.al none 55 [(.int .i64 0), (.int .i64 0), (.int .i64 0), (.int .i64 0), (.int .i64 0), (.int .i64 0), .nilsl, .nilsl, .nilsl]),
 sD 7 (.mv (.t 19)),
 sN (.st 9 (.t 8) (.t 21))])
 (.seq (.reg 0 [] [] [sD 22 (.mv (.t 1)),
 sD 23 (.mv (.t 7)),
 sD 24 (.ia none 9 (.t 22) (.t 23)),
 sD 25 (.ld (some 9) (.t 24)),
 sD 9 (.al none 55 [(.int .i64 0), (.int .i64 0), (.int .i64 0), (.int .i64 0), (.int .i64 0), (.int .i64 0), .nilsl, .nilsl, .nilsl]),
 sN (.st 9 (.t 9) (.t 25))])
 (.seq (.reg 0 [] [] [sD 26 (.mv (.t 2)),
 sD 27 (.ld (some 9) (.t 8)),
 sD 28 (.ld (some 9) (.t 9)),
 sD 29 (.callv (.t 26) [(.t 27), (.t 28)]),
 sD 30 (.un .not (.t 29))])
 (.cond (.t 30) (.seq (.reg 0 [] [] [sD 6 (.mv (.c (.bool false)))])
 .ret)
 .skip)))))
 (.reg 0 [] [] [sD 31 (.bin .add .num (.t 17) (.c (.int .i64 1))),
 sD 17 (.mv (.t 31))])))))))
 (.seq (.reg 0 [] [] [sD 6 (.mv (.c (.bool true)))])
 .ret))))
def fn98 : IFun := ⟨32, [(.tmp 6)], an98.erase⟩
theorem ok98 : okFun Tryz.prog 98 fn98 = true := by kernel_rfl
theorem oka98 : okA fn98.ntmps fn98.results an98 = true := by kernel_rfl
def sh98 (C : CallA) (s10 s21 eq2 : AV) (h : H) (R : AV → H → Prop) : Prop :=
 valA (lenA false s10) h fun t11 h =>
 valA (lenA false s21) h fun t13 h =>
 valA (binOp .neq .num t11 t13) h fun t14 h =>
 condA t14
 (R (.bool false) h)
 (joinA (fun (h : H) =>
 R (.bool true) h) fun J =>
 valA (lenA false s10) h fun t16 h =>
 loopA (fun N l h => argA l 0 fun t17 => 
 valA (binOp .lss .num t17 t16) h fun t18 h =>
 condA t18
 (valA (iaA 9 s10 t17) h fun t20 h =>
 valA (ldA h (some 9) t20) h fun t21 h =>
 boxA h [(.int .i64 0), (.int .i64 0), (.int .i64 0), (.int .i64 0), (.int .i64 0), (.int .i64 0), .nilsl, .nilsl, .nilsl] 55 fun v18 h =>
 memA (stA h 9 v18 t21) .undef fun _ h =>
 valA (iaA 9 s21 t17) h fun t24 h =>
 valA (ldA h (some 9) t24) h fun t25 h =>
 boxA h [(.int .i64 0), (.int .i64 0), (.int .i64 0), (.int .i64 0), (.int .i64 0), (.int .i64 0), .nilsl, .nilsl, .nilsl] 55 fun v29 h =>
 memA (stA h 9 v29 t25) .undef fun _ h =>
 valA (ldA h (some 9) v18) h fun t27 h =>
 valA (ldA h (some 9) v29) h fun t28 h =>
 callvA C eq2 [t27, t28] h fun t29 h =>
 valA (unOp .not t29) h fun t30 h =>
 condA t30
 (R (.bool false) h)
 (valA (binOp .add .num t17 (.int .i64 1)) h fun t31 h =>
 N [t31] h))
 (J h)) [(.int .i64 0)] h)
theorem she98 (C : CallA) (s10 s21 eq2 : AV) (h : H) (R : AV → H → Prop) : wpA C an98 (argE [s10, s21, eq2]) h (outA [(.tmp 6)] R) = sh98 C s10 s21 eq2 h R := by kernel_rfl
/-! bellows/code.equal -/
def an99 : ACode :=
 (.seq (.reg 0 [] [] [sD 2 (.bx none 55 (.t 0)),
 sD 3 (.bx none 55 (.t 1)),
 sD 4 (.mv (.c (.bool false)))])
 (.seq (.reg 0 [] [] [sD 5 (.fa 0 (.t 2)),
 sD 6 (.ld none (.t 5)),
 sD 7 (.fa 0 (.t 3)),
 sD 8 (.ld none (.t 7)),
 sD 9 (.bin .eql .num (.t 6) (.t 8)),
 sD 10 (.mv (.t 9)),
 sG 11 10 true (.fa 1 (.t 2)),
 sG 12 10 true (.ld none (.t 11)),
 sG 13 10 true (.fa 1 (.t 3)),
 sG 14 10 true (.ld none (.t 13)),
 sG 15 10 true (.bin .eql .num (.t 12) (.t 14)),
 sD 16 (.pick (.t 10) (.t 15) (.c (.bool false))),
 sD 17 (.mv (.t 16)),
 sG 18 17 true (.fa 2 (.t 2)),
 sG 19 17 true (.ld none (.t 18)),
 sG 20 17 true (.fa 2 (.t 3)),
 sG 21 17 true (.ld none (.t 20)),
 sG 22 17 true (.bin .eql .num (.t 19) (.t 21)),
 sD 23 (.pick (.t 17) (.t 22) (.c (.bool false))),
 sD 24 (.mv (.t 23)),
 sG 25 24 true (.fa 3 (.t 2)),
 sG 26 24 true (.ld none (.t 25)),
 sG 27 24 true (.fa 3 (.t 3)),
 sG 28 24 true (.ld none (.t 27)),
 sG 29 24 true (.bin .eql .num (.t 26) (.t 28)),
 sD 30 (.pick (.t 24) (.t 29) (.c (.bool false))),
 sD 31 (.mv (.t 30)),
 sG 32 31 true (.fa 4 (.t 2)),
 sG 33 31 true (.ld none (.t 32)),
 sG 34 31 true (.fa 4 (.t 3)),
 sG 35 31 true (.ld none (.t 34)),
 sG 36 31 true (.bin .eql .num (.t 33) (.t 35)),
 sD 37 (.pick (.t 31) (.t 36) (.c (.bool false))),
 sD 38 (.mv (.t 37)),
 sG 39 38 true (.fa 5 (.t 2)),
 sG 40 38 true (.ld none (.t 39)),
 sG 41 38 true (.fa 5 (.t 3)),
 sG 42 38 true (.ld none (.t 41)),
 sG 43 38 true (.bin .eql .num (.t 40) (.t 42)),
 sD 44 (.pick (.t 38) (.t 43) (.c (.bool false))),
 sD 45 (.mv (.t 44)),
 sG 46 45 true (.fa 6 (.t 2)),
 sG 47 45 true (.ld none (.t 46)),
 sG 48 45 true (.fa 6 (.t 3)),
 sG 49 45 true (.ld none (.t 48)),
 sG 50 45 true (.call 52 [(.t 47), (.t 49)]),
 sD 51 (.pick (.t 45) (.t 50) (.c (.bool false))),
 sD 52 (.mv (.t 51)),
 sG 53 52 true (.fa 7 (.t 2)),
 sG 54 52 true (.ld none (.t 53)),
 sG 55 52 true (.fa 7 (.t 3)),
 sG 56 52 true (.ld none (.t 55)),
 sG 57 52 true (.call 52 [(.t 54), (.t 56)]),
 sD 58 (.pick (.t 52) (.t 57) (.c (.bool false))),
 sD 59 (.mv (.t 58)),
 sG 60 59 true (.fa 8 (.t 2)),
 sG 61 59 true (.ld none (.t 60)),
 sG 62 59 true (.fa 8 (.t 3)),
 sG 63 59 true (.ld none (.t 62)),
 sG 64 59 true (.call 52 [(.t 61), (.t 63)]),
 sD 65 (.pick (.t 59) (.t 64) (.c (.bool false))),
 sD 4 (.mv (.t 65))])
 .ret))
def fn99 : IFun := ⟨66, [(.tmp 4)], an99.erase⟩
theorem ok99 : okFun Tryz.prog 99 fn99 = true := by kernel_rfl
theorem oka99 : okA fn99.ntmps fn99.results an99 = true := by kernel_rfl
def sh99 (C : CallA) (x0 y1 : AV) (h : H) (R : AV → H → Prop) : Prop :=
 boxA h (AV.cells x0) 55 fun x2 h =>
 boxA h (AV.cells y1) 55 fun y3 h =>
 valA (faA 0 x2) h fun t5 h =>
 valA (ldA h none t5) h fun t6 h =>
 valA (faA 0 y3) h fun t7 h =>
 valA (ldA h none t7) h fun t8 h =>
 valA (binOp .eql .num t6 t8) h fun t9 h =>
 whenA t9 true (fun K => valA (faA 1 x2) h K) h fun t11 h =>
 whenA t9 true (fun K => valA (ldA h none t11) h K) h fun t12 h =>
 whenA t9 true (fun K => valA (faA 1 y3) h K) h fun t13 h =>
 whenA t9 true (fun K => valA (ldA h none t13) h K) h fun t14 h =>
 whenA t9 true (fun K => valA (binOp .eql .num t12 t14) h K) h fun t15 h =>
 valA (pickA t9 t15 (.bool false)) h fun t16 h =>
 whenA t16 true (fun K => valA (faA 2 x2) h K) h fun t18 h =>
 whenA t16 true (fun K => valA (ldA h none t18) h K) h fun t19 h =>
 whenA t16 true (fun K => valA (faA 2 y3) h K) h fun t20 h =>
 whenA t16 true (fun K => valA (ldA h none t20) h K) h fun t21 h =>
 whenA t16 true (fun K => valA (binOp .eql .num t19 t21) h K) h fun t22 h =>
 valA (pickA t16 t22 (.bool false)) h fun t23 h =>
 whenA t23 true (fun K => valA (faA 3 x2) h K) h fun t25 h =>
 whenA t23 true (fun K => valA (ldA h none t25) h K) h fun t26 h =>
 whenA t23 true (fun K => valA (faA 3 y3) h K) h fun t27 h =>
 whenA t23 true (fun K => valA (ldA h none t27) h K) h fun t28 h =>
 whenA t23 true (fun K => valA (binOp .eql .num t26 t28) h K) h fun t29 h =>
 valA (pickA t23 t29 (.bool false)) h fun t30 h =>
 whenA t30 true (fun K => valA (faA 4 x2) h K) h fun t32 h =>
 whenA t30 true (fun K => valA (ldA h none t32) h K) h fun t33 h =>
 whenA t30 true (fun K => valA (faA 4 y3) h K) h fun t34 h =>
 whenA t30 true (fun K => valA (ldA h none t34) h K) h fun t35 h =>
 whenA t30 true (fun K => valA (binOp .eql .num t33 t35) h K) h fun t36 h =>
 valA (pickA t30 t36 (.bool false)) h fun t37 h =>
 whenA t37 true (fun K => valA (faA 5 x2) h K) h fun t39 h =>
 whenA t37 true (fun K => valA (ldA h none t39) h K) h fun t40 h =>
 whenA t37 true (fun K => valA (faA 5 y3) h K) h fun t41 h =>
 whenA t37 true (fun K => valA (ldA h none t41) h K) h fun t42 h =>
 whenA t37 true (fun K => valA (binOp .eql .num t40 t42) h K) h fun t43 h =>
 valA (pickA t37 t43 (.bool false)) h fun t44 h =>
 whenA t44 true (fun K => valA (faA 6 x2) h K) h fun t46 h =>
 whenA t44 true (fun K => valA (ldA h none t46) h K) h fun t47 h =>
 whenA t44 true (fun K => valA (faA 6 y3) h K) h fun t48 h =>
 whenA t44 true (fun K => valA (ldA h none t48) h K) h fun t49 h =>
 whenA t44 true (fun K => C 52 [t47, t49] h K) h fun t50 h =>
 valA (pickA t44 t50 (.bool false)) h fun t51 h =>
 whenA t51 true (fun K => valA (faA 7 x2) h K) h fun t53 h =>
 whenA t51 true (fun K => valA (ldA h none t53) h K) h fun t54 h =>
 whenA t51 true (fun K => valA (faA 7 y3) h K) h fun t55 h =>
 whenA t51 true (fun K => valA (ldA h none t55) h K) h fun t56 h =>
 whenA t51 true (fun K => C 52 [t54, t56] h K) h fun t57 h =>
 valA (pickA t51 t57 (.bool false)) h fun t58 h =>
 whenA t58 true (fun K => valA (faA 8 x2) h K) h fun t60 h =>
 whenA t58 true (fun K => valA (ldA h none t60) h K) h fun t61 h =>
 whenA t58 true (fun K => valA (faA 8 y3) h K) h fun t62 h =>
 whenA t58 true (fun K => valA (ldA h none t62) h K) h fun t63 h =>
 whenA t58 true (fun K => C 52 [t61, t63] h K) h fun t64 h =>
 valA (pickA t58 t64 (.bool false)) h fun t65 h =>
 R t65 h
theorem she99 (C : CallA) (x0 y1 : AV) (h : H) (R : AV → H → Prop) : wpA C an99 (argE [x0, y1]) h (outA [(.tmp 4)] R) = sh99 C x0 y1 h R := by kernel_rfl
/-! bellows/code.many[bellows/api.Type] -/
def an100 : ACode :=
 (.seq (.reg 0 [] [] [sD 8 (.mv (.t 0)),
 sD 9 (.mv (.t 1)),
 sD 10 (.len false (.t 9)),
 sD 11 (.call 108 [(.t 8), (.t 10)])])
 (.seq (.reg 0 [] [] [sD 12 (.mv (.t 1)),
 sD 13 (.len false (.t 12)),
 sD 14 (.mv (.c (.int .i64 0)))])
 (.block 0 (.loop [14] 28676 (.seq (.reg 0 [] [] [sD 15 (.bin .lss .num (.t 14) (.t 13))])
 (.seq (.cond (.t 15) .skip
 (.exit 0))
 (.seq (.block 1 (.seq (.reg 0 [] [] [sD 16 (.ia none 2 (.t 12) (.t 14)),
 sD 17 (.ld (some 2) (.t 16)),
 sD 7 (.al none 46 [(.bool false), .nilsl]),
 sN (.st 2 (.t 7) (.t 17))])
 (.reg 0 [] [] [sD 18 (.mv (.t 2)),
 sD 19 (.ld (some 2) (.t 7)),
 sD 20 (.callv (.t 18) [(.t 19)])])))
 (.reg 0 [] [] [sD 21 (.bin .add .num (.t 14) (.c (.int .i64 1))),
 sD 14 (.mv (.t 21))]))))))))
def fn100 : IFun := ⟨22, [], an100.erase⟩
theorem ok100 : okFun Tryz.prog 100 fn100 = true := by kernel_rfl
theorem oka100 : okA fn100.ntmps fn100.results an100 = true := by kernel_rfl
def sh100 (C : CallA) (w0 l1 each2 : AV) (h : H) (R : AV → H → Prop) : Prop :=
 valA (lenA false l1) h fun t10 h =>
 C 108 [w0, t10] h fun t11 h =>
 valA (lenA false l1) h fun t13 h =>
 loopA (fun N l h => argA l 0 fun t14 => 
 valA (binOp .lss .num t14 t13) h fun t15 h =>
 condA t15
 (valA (iaA 2 l1 t14) h fun t16 h =>
 valA (ldA h (some 2) t16) h fun t17 h =>
 boxA h [(.bool false), .nilsl] 46 fun x7 h =>
 memA (stA h 2 x7 t17) .undef fun _ h =>
 valA (ldA h (some 2) x7) h fun t19 h =>
 callvA C each2 [t19] h fun t20 h =>
 valA (binOp .add .num t14 (.int .i64 1)) h fun t21 h =>
 N [t21] h)
 (R (.tup []) h)) [(.int .i64 0)] h
theorem she100 (C : CallA) (w0 l1 each2 : AV) (h : H) (R : AV → H → Prop) : wpA C an100 (argE [w0, l1, each2]) h (outA [] R) = sh100 C w0 l1 each2 h R := by kernel_rfl
/-! (*bellows/code.writer).kind -/
def an101 : ACode :=
 (.seq (.reg 0 [] [] [sD 3 (.bx none 46 (.t 1))])
 (.seq (.reg 0 [] [] [sD 4 (.mv (.c (.int .i64 0)))])
 (.seq (.seq (.reg 0 [] [] [sD 5 (.fa 0 (.t 3)),
 sD 6 (.ld none (.t 5))])
 (.cond (.t 6) (.reg 0 [] [] [sD 4 (.mv (.c (.int .i64 1)))])
 .skip))
 (.seq (.reg 0 [] [] [sD 7 (.mv (.t 0)),
 sD 8 (.mv (.t 4)),
 sD 9 (.call 108 [(.t 7), (.t 8)])])
 (.reg 0 [] [] [sD 10 (.mv (.t 0)),
 sD 11 (.fa 1 (.t 3)),
 sD 12 (.ld none (.t 11)),
 sD 13 (.call 141 [(.t 10), (.t 12)])])))))
def fn101 : IFun := ⟨14, [], an101.erase⟩
theorem ok101 : okFun Tryz.prog 101 fn101 = true := by kernel_rfl
theorem oka101 : okA fn101.ntmps fn101.results an101 = true := by kernel_rfl
def sh101 (C : CallA) (w0 t1 : AV) (h : H) (R : AV → H → Prop) : Prop :=
 boxA h (AV.cells t1) 46 fun t3 h =>
 joinA (fun (n4' : AV) (h : H) =>
 C 108 [w0, n4'] h fun t9 h =>
 valA (faA 1 t3) h fun t11 h =>
 valA (ldA h none t11) h fun t12 h =>
 C 141 [w0, t12] h fun t13 h =>
 R (.tup []) h) fun J =>
 valA (faA 0 t3) h fun t5 h =>
 valA (ldA h none t5) h fun t6 h =>
 condA t6
 (J (.int .i64 1) h)
 (J (.int .i64 0) h)
theorem she101 (C : CallA) (w0 t1 : AV) (h : H) (R : AV → H → Prop) : wpA C an101 (argE [w0, t1]) h (outA [] R) = sh101 C w0 t1 h R := by kernel_rfl
/-! bellows/code.many[bellows/api.Shape] -/
def an102 : ACode :=
 (.seq (.reg 0 [] [] [sD 8 (.mv (.t 0)),
 sD 9 (.mv (.t 1)),
 sD 10 (.len false (.t 9)),
 sD 11 (.call 108 [(.t 8), (.t 10)])])
 (.seq (.reg 0 [] [] [sD 12 (.mv (.t 1)),
 sD 13 (.len false (.t 12)),
 sD 14 (.mv (.c (.int .i64 0)))])
 (.block 0 (.loop [14] 28676 (.seq (.reg 0 [] [] [sD 15 (.bin .lss .num (.t 14) (.t 13))])
 (.seq (.cond (.t 15) .skip
 (.exit 0))
 (.seq (.block 1 (.seq (.reg 0 [] [] [sD 16 (.ia none 3 (.t 12) (.t 14)),
 sD 17 (.ld (some 3) (.t 16)),
 sD 7 (.al none 61 [(.int .i64 0), .nilsl, (.str [])]),
 sN (.st 3 (.t 7) (.t 17))])
 (.reg 0 [] [] [sD 18 (.mv (.t 2)),
 sD 19 (.ld (some 3) (.t 7)),
 sD 20 (.callv (.t 18) [(.t 19)])])))
 (.reg 0 [] [] [sD 21 (.bin .add .num (.t 14) (.c (.int .i64 1))),
 sD 14 (.mv (.t 21))]))))))))
def fn102 : IFun := ⟨22, [], an102.erase⟩
theorem ok102 : okFun Tryz.prog 102 fn102 = true := by kernel_rfl
theorem oka102 : okA fn102.ntmps fn102.results an102 = true := by kernel_rfl
def sh102 (C : CallA) (w0 l1 each2 : AV) (h : H) (R : AV → H → Prop) : Prop :=
 valA (lenA false l1) h fun t10 h =>
 C 108 [w0, t10] h fun t11 h =>
 valA (lenA false l1) h fun t13 h =>
 loopA (fun N l h => argA l 0 fun t14 => 
 valA (binOp .lss .num t14 t13) h fun t15 h =>
 condA t15
 (valA (iaA 3 l1 t14) h fun t16 h =>
 valA (ldA h (some 3) t16) h fun t17 h =>
 boxA h [(.int .i64 0), .nilsl, (.str [])] 61 fun x7 h =>
 memA (stA h 3 x7 t17) .undef fun _ h =>
 valA (ldA h (some 3) x7) h fun t19 h =>
 callvA C each2 [t19] h fun t20 h =>
 valA (binOp .add .num t14 (.int .i64 1)) h fun t21 h =>
 N [t21] h)
 (R (.tup []) h)) [(.int .i64 0)] h
theorem she102 (C : CallA) (w0 l1 each2 : AV) (h : H) (R : AV → H → Prop) : wpA C an102 (argE [w0, l1, each2]) h (outA [] R) = sh102 C w0 l1 each2 h R := by kernel_rfl
/-! (*bellows/code.writer).shape -/
def an103 : ACode :=
 (.seq (.reg 0 [] [] [sD 3 (.bx none 61 (.t 1))])
 (.seq (.reg 0 [] [] [sD 4 (.mv (.t 0)),
 sD 5 (.fa 0 (.t 3)),
 sD 6 (.ld none (.t 5)),
 sD 7 (.call 108 [(.t 4), (.t 6)])])
 (.seq (.reg 0 [] [] [sD 8 (.mv (.t 0)),
 sD 9 (.fa 1 (.t 3)),
 sD 10 (.ld none (.t 9)),
 sD 11 (.call 141 [(.t 8), (.t 10)])])
 (.reg 0 [] [] [sD 12 (.mv (.t 0)),
 sD 13 (.fa 2 (.t 3)),
 sD 14 (.ld none (.t 13)),
 sD 15 (.call 105 [(.t 12), (.t 14)])]))))
def fn103 : IFun := ⟨16, [], an103.erase⟩
theorem ok103 : okFun Tryz.prog 103 fn103 = true := by kernel_rfl
theorem oka103 : okA fn103.ntmps fn103.results an103 = true := by kernel_rfl
def sh103 (C : CallA) (w0 s1 : AV) (h : H) (R : AV → H → Prop) : Prop :=
 boxA h (AV.cells s1) 61 fun s3 h =>
 valA (faA 0 s3) h fun t5 h =>
 valA (ldA h none t5) h fun t6 h =>
 C 108 [w0, t6] h fun t7 h =>
 valA (faA 1 s3) h fun t9 h =>
 valA (ldA h none t9) h fun t10 h =>
 C 141 [w0, t10] h fun t11 h =>
 valA (faA 2 s3) h fun t13 h =>
 valA (ldA h none t13) h fun t14 h =>
 C 105 [w0, t14] h fun t15 h =>
 R (.tup []) h
theorem she103 (C : CallA) (w0 s1 : AV) (h : H) (R : AV → H → Prop) : wpA C an103 (argE [w0, s1]) h (outA [] R) = sh103 C w0 s1 h R := by kernel_rfl
/-! bellows/code.many[string] -/
def an104 : ACode :=
 (.seq (.reg 0 [] [] [sD 8 (.mv (.t 0)),
 sD 9 (.mv (.t 1)),
 sD 10 (.len false (.t 9)),
 sD 11 (.call 108 [(.t 8), (.t 10)])])
 (.seq (.reg 0 [] [] [sD 12 (.mv (.t 1)),
 sD 13 (.len false (.t 12)),
 sD 14 (.mv (.c (.int .i64 0)))])
 (.block 0 (.loop [14] 28676 (.seq (.reg 0 [] [] [sD 15 (.bin .lss .num (.t 14) (.t 13))])
 (.seq (.cond (.t 15) .skip
 (.exit 0))
 (.seq (.block 1 (.seq (.reg 0 [] [] [sD 16 (.ia none 1 (.t 12) (.t 14)),
 sD 17 (.ld none (.t 16)),
 sD 7 (.mv (.t 17))])
 (.reg 0 [] [] [sD 18 (.mv (.t 2)),
 sD 19 (.mv (.t 7)),
 sD 20 (.callv (.t 18) [(.t 19)])])))
 (.reg 0 [] [] [sD 21 (.bin .add .num (.t 14) (.c (.int .i64 1))),
 sD 14 (.mv (.t 21))]))))))))
def fn104 : IFun := ⟨22, [], an104.erase⟩
theorem ok104 : okFun Tryz.prog 104 fn104 = true := by kernel_rfl
theorem oka104 : okA fn104.ntmps fn104.results an104 = true := by kernel_rfl
def sh104 (C : CallA) (w0 l1 each2 : AV) (h : H) (R : AV → H → Prop) : Prop :=
 valA (lenA false l1) h fun t10 h =>
 C 108 [w0, t10] h fun t11 h =>
 valA (lenA false l1) h fun t13 h =>
 loopA (fun N l h => argA l 0 fun t14 => 
 valA (binOp .lss .num t14 t13) h fun t15 h =>
 condA t15
 (valA (iaA 1 l1 t14) h fun t16 h =>
 valA (ldA h none t16) h fun t17 h =>
 callvA C each2 [t17] h fun t20 h =>
 valA (binOp .add .num t14 (.int .i64 1)) h fun t21 h =>
 N [t21] h)
 (R (.tup []) h)) [(.int .i64 0)] h
theorem she104 (C : CallA) (w0 l1 each2 : AV) (h : H) (R : AV → H → Prop) : wpA C an104 (argE [w0, l1, each2]) h (outA [] R) = sh104 C w0 l1 each2 h R := by kernel_rfl
/-! (*bellows/code.writer).text -/
def an105 : ACode :=
 (.seq (.reg 0 [] [] [sD 4 (.mv (.t 0)),
 sD 5 (.mv (.t 1)),
 sD 6 (.len true (.t 5)),
 sD 7 (.call 108 [(.t 4), (.t 6)])])
 (.reg 0 [] [] [sD 8 (.mv (.t 0)),
 sD 9 (.mv (.t 0)),
 sD 10 (.nilc (.t 9)),
 sD 11 (.fa 0 (.t 10)),
 sD 12 (.ld none (.t 11)),
 sD 13 (.mv (.t 1)),
 sD 14 (.app 5 1 1 [(.int .u8 0)] (.t 12) (.t 13)),
 sD 15 (.nilc (.t 8)),
 sD 16 (.fa 0 (.t 15)),
 sN (.st 1 (.t 16) (.t 14))]))
def fn105 : IFun := ⟨17, [], an105.erase⟩
theorem ok105 : okFun Tryz.prog 105 fn105 = true := by kernel_rfl
theorem oka105 : okA fn105.ntmps fn105.results an105 = true := by kernel_rfl
def sh105 (C : CallA) (w0 s1 : AV) (h : H) (R : AV → H → Prop) : Prop :=
 valA (lenA true s1) h fun t6 h =>
 C 108 [w0, t6] h fun t7 h =>
 valA (nilcA w0) h fun t10 h =>
 valA (faA 0 t10) h fun t11 h =>
 valA (ldA h none t11) h fun t12 h =>
 appendA h 5 1 1 t12 s1 fun t14 h =>
 valA (nilcA w0) h fun t15 h =>
 valA (faA 0 t15) h fun t16 h =>
 memA (stA h 1 t16 t14) .undef fun _ h =>
 R (.tup []) h
theorem she105 (C : CallA) (w0 s1 : AV) (h : H) (R : AV → H → Prop) : wpA C an105 (argE [w0, s1]) h (outA [] R) = sh105 C w0 s1 h R := by kernel_rfl
/-! bellows/code.many[bellows/api.Func] -/
def an106 : ACode :=
 (.seq (.reg 0 [] [] [sD 8 (.mv (.t 0)),
 sD 9 (.mv (.t 1)),
 sD 10 (.len false (.t 9)),
 sD 11 (.call 108 [(.t 8), (.t 10)])])
 (.seq (.reg 0 [] [] [sD 12 (.mv (.t 1)),
 sD 13 (.len false (.t 12)),
 sD 14 (.mv (.c (.int .i64 0)))])
 (.block 0 (.loop [14] 28676 (.seq (.reg 0 [] [] [sD 15 (.bin .lss .num (.t 14) (.t 13))])
 (.seq (.cond (.t 15) .skip
 (.exit 0))
 (.seq (.block 1 (.seq (.reg 0 [] [] [sD 16 (.ia none 4 (.t 12) (.t 14)),
 sD 17 (.ld (some 4) (.t 16)),
 sD 7 (.al none 39 [.nilsl, (.int .i64 0), (.int .i64 0), .nilsl]),
 sN (.st 4 (.t 7) (.t 17))])
 (.reg 0 [] [] [sD 18 (.mv (.t 2)),
 sD 19 (.ld (some 4) (.t 7)),
 sD 20 (.callv (.t 18) [(.t 19)])])))
 (.reg 0 [] [] [sD 21 (.bin .add .num (.t 14) (.c (.int .i64 1))),
 sD 14 (.mv (.t 21))]))))))))
def fn106 : IFun := ⟨22, [], an106.erase⟩
theorem ok106 : okFun Tryz.prog 106 fn106 = true := by kernel_rfl
theorem oka106 : okA fn106.ntmps fn106.results an106 = true := by kernel_rfl
def sh106 (C : CallA) (w0 l1 each2 : AV) (h : H) (R : AV → H → Prop) : Prop :=
 valA (lenA false l1) h fun t10 h =>
 C 108 [w0, t10] h fun t11 h =>
 valA (lenA false l1) h fun t13 h =>
 loopA (fun N l h => argA l 0 fun t14 => 
 valA (binOp .lss .num t14 t13) h fun t15 h =>
 condA t15
 (valA (iaA 4 l1 t14) h fun t16 h =>
 valA (ldA h (some 4) t16) h fun t17 h =>
 boxA h [.nilsl, (.int .i64 0), (.int .i64 0), .nilsl] 39 fun x7 h =>
 memA (stA h 4 x7 t17) .undef fun _ h =>
 valA (ldA h (some 4) x7) h fun t19 h =>
 callvA C each2 [t19] h fun t20 h =>
 valA (binOp .add .num t14 (.int .i64 1)) h fun t21 h =>
 N [t21] h)
 (R (.tup []) h)) [(.int .i64 0)] h
theorem she106 (C : CallA) (w0 l1 each2 : AV) (h : H) (R : AV → H → Prop) : wpA C an106 (argE [w0, l1, each2]) h (outA [] R) = sh106 C w0 l1 each2 h R := by kernel_rfl
/-! (*bellows/code.writer).function -/
def an107 : ACode :=
 (.seq (.reg 0 [] [] [sD 3 (.bx none 39 (.t 1))])
 (.seq (.reg 0 [] [] [sD 4 (.mv (.t 0)),
 sD 5 (.fa 0 (.t 3)),
 sD 6 (.ld none (.t 5)),
 sD 7 (.call 141 [(.t 4), (.t 6)])])
 (.seq (.reg 0 [] [] [sD 8 (.mv (.t 0)),
 sD 9 (.fa 1 (.t 3)),
 sD 10 (.ld none (.t 9)),
 sD 11 (.call 108 [(.t 8), (.t 10)])])
 (.seq (.reg 0 [] [] [sD 12 (.mv (.t 0)),
 sD 13 (.fa 2 (.t 3)),
 sD 14 (.ld none (.t 13)),
 sD 15 (.call 108 [(.t 12), (.t 14)])])
 (.reg 0 [] [] [sD 16 (.mv (.t 0)),
 sD 17 (.fa 3 (.t 3)),
 sD 18 (.ld none (.t 17)),
 sD 19 (.mv (.t 0)),
 sD 20 (.mkf 143 [(.t 19)] []),
 sD 21 (.call 142 [(.t 16), (.t 18), (.t 20)])])))))
def fn107 : IFun := ⟨22, [], an107.erase⟩
theorem ok107 : okFun Tryz.prog 107 fn107 = true := by kernel_rfl
theorem oka107 : okA fn107.ntmps fn107.results an107 = true := by kernel_rfl
def sh107 (C : CallA) (w0 f1 : AV) (h : H) (R : AV → H → Prop) : Prop :=
 boxA h (AV.cells f1) 39 fun f3 h =>
 valA (faA 0 f3) h fun t5 h =>
 valA (ldA h none t5) h fun t6 h =>
 C 141 [w0, t6] h fun t7 h =>
 valA (faA 1 f3) h fun t9 h =>
 valA (ldA h none t9) h fun t10 h =>
 C 108 [w0, t10] h fun t11 h =>
 valA (faA 2 f3) h fun t13 h =>
 valA (ldA h none t13) h fun t14 h =>
 C 108 [w0, t14] h fun t15 h =>
 valA (faA 3 f3) h fun t17 h =>
 valA (ldA h none t17) h fun t18 h =>
 C 142 [w0, t18, (.fn 143 [w0] [])] h fun t21 h =>
 R (.tup []) h
theorem she107 (C : CallA) (w0 f1 : AV) (h : H) (R : AV → H → Prop) : wpA C an107 (argE [w0, f1]) h (outA [] R) = sh107 C w0 f1 h R := by kernel_rfl
/-! (*bellows/code.writer).num -/
def an108 : ACode :=
 (.reg 0 [0, 1, 2, 3, 4, 5, 6, 7, 8, 9, 10] [[], [], [1], [1, 2], [2, 1, 3], [], [5], [5, 6, 3, 1, 2, 4], [7, 6, 5, 4, 3, 2, 1, 0], [0, 1, 2, 3, 4, 5, 6, 7, 8], [8, 7, 6, 5, 4, 3, 2, 1, 0, 9]] [sD 4 (.mv (.t 0)),
 sD 5 (.mv (.t 0)),
 sD 6 (.nilc (.t 5)),
 sD 7 (.fa 0 (.t 6)),
 sD 8 (.ld none (.t 7)),
 sD 9 (.mv (.t 1)),
 ⟨(some 10), none, (.call 144 [(.t 9)]), [⟨none, (.ld none (.t 7)), 8⟩]⟩,
 sD 11 (.app 5 1 1 [(.int .u8 0)] (.t 8) (.t 10)),
 sD 12 (.nilc (.t 4)),
 sD 13 (.fa 0 (.t 12)),
 sN (.st 1 (.t 13) (.t 11))])
def fn108 : IFun := ⟨14, [], an108.erase⟩
theorem ok108 : okFun Tryz.prog 108 fn108 = true := by kernel_rfl
theorem oka108 : okA fn108.ntmps fn108.results an108 = true := by kernel_rfl
def sh108 (C : CallA) (w0 n1 : AV) (h : H) (R : AV → H → Prop) : Prop :=
 valA (nilcA w0) h fun t6 h =>
 valA (faA 0 t6) h fun t7 h =>
 valA (ldA h none t7) h fun t8 h =>
 C 144 [n1] h fun t10 h =>
 againK (valA (ldA h none t7) h (fun v _ => v = t8)) <|
 appendA h 5 1 1 t8 t10 fun t11 h =>
 valA (nilcA w0) h fun t12 h =>
 valA (faA 0 t12) h fun t13 h =>
 memA (stA h 1 t13 t11) .undef fun _ h =>
 R (.tup []) h
theorem she108 (C : CallA) (w0 n1 : AV) (h : H) (R : AV → H → Prop) : wpA C an108 (argE [w0, n1]) h (outA [] R) = sh108 C w0 n1 h R := by kernel_rfl
/-! bellows/code.number -/
def an109 : ACode :=
 (.seq (.reg 0 [] [] [sD 4 (.mv (.c .nilp))])
 (.seq (.seq (.reg 0 [] [] [sD 5 (.mv (.t 1))])
 (.block 0 (.seq (.reg 0 [] [] [sD 7 (.bin .eql .num (.t 5) (.c (.int .u8 68))),
 sD 6 (.mv (.t 7))])
 (.cond (.t 6) (.seq (.reg 0 [] [] [sD 8 (.mv (.t 0)),
 sD 9 (.nilc (.t 8)),
 sD 10 (.fa 1 (.t 9)),
 sD 4 (.mv (.t 10))])
 .ret)
 (.seq (.reg 0 [] [] [sD 12 (.bin .eql .num (.t 5) (.c (.int .u8 65))),
 sD 11 (.mv (.t 12))])
 (.cond (.t 11) (.seq (.reg 0 [] [] [sD 13 (.mv (.t 0)),
 sD 14 (.nilc (.t 13)),
 sD 15 (.fa 2 (.t 14)),
 sD 4 (.mv (.t 15))])
 .ret)
 (.seq (.reg 0 [] [] [sD 17 (.bin .eql .num (.t 5) (.c (.int .u8 66))),
 sD 16 (.mv (.t 17))])
 (.cond (.t 16) (.seq (.reg 0 [] [] [sD 18 (.mv (.t 0)),
 sD 19 (.nilc (.t 18)),
 sD 20 (.fa 3 (.t 19)),
 sD 4 (.mv (.t 20))])
 .ret)
 (.seq (.reg 0 [] [] [sD 22 (.bin .eql .num (.t 5) (.c (.int .u8 67))),
 sD 21 (.mv (.t 22))])
 (.cond (.t 21) (.seq (.reg 0 [] [] [sD 23 (.mv (.t 0)),
 sD 24 (.nilc (.t 23)),
 sD 25 (.fa 4 (.t 24)),
 sD 4 (.mv (.t 25))])
 .ret)
 .skip))))))))))
 (.seq (.reg 0 [] [] [sD 4 (.mv (.c .nilp))])
 .ret)))
def fn109 : IFun := ⟨26, [(.tmp 4)], an109.erase⟩
theorem ok109 : okFun Tryz.prog 109 fn109 = true := by kernel_rfl
theorem oka109 : okA fn109.ntmps fn109.results an109 = true := by kernel_rfl
def sh109 (C : CallA) (x0 c1 : AV) (h : H) (R : AV → H → Prop) : Prop :=
 valA (binOp .eql .num c1 (.int .u8 68)) h fun t7 h =>
 condA t7
 (valA (nilcA x0) h fun t9 h =>
 valA (faA 1 t9) h fun t10 h =>
 R t10 h)
 (valA (binOp .eql .num c1 (.int .u8 65)) h fun t12 h =>
 condA t12
 (valA (nilcA x0) h fun t14 h =>
 valA (faA 2 t14) h fun t15 h =>
 R t15 h)
 (valA (binOp .eql .num c1 (.int .u8 66)) h fun t17 h =>
 condA t17
 (valA (nilcA x0) h fun t19 h =>
 valA (faA 3 t19) h fun t20 h =>
 R t20 h)
 (valA (binOp .eql .num c1 (.int .u8 67)) h fun t22 h =>
 condA t22
 (valA (nilcA x0) h fun t24 h =>
 valA (faA 4 t24) h fun t25 h =>
 R t25 h)
 (R .nilp h))))
theorem she109 (C : CallA) (x0 c1 : AV) (h : H) (R : AV → H → Prop) : wpA C an109 (argE [x0, c1]) h (outA [(.tmp 4)] R) = sh109 C x0 c1 h R := by kernel_rfl
/-! bellows/code.list -/
def an110 : ACode :=
 (.seq (.reg 0 [] [] [sD 4 (.mv (.c .nilp))])
 (.seq (.seq (.reg 0 [] [] [sD 5 (.mv (.t 1))])
 (.block 0 (.seq (.reg 0 [] [] [sD 7 (.bin .eql .num (.t 5) (.c (.int .u8 76))),
 sD 6 (.mv (.t 7))])
 (.cond (.t 6) (.seq (.reg 0 [] [] [sD 8 (.mv (.t 0)),
 sD 9 (.nilc (.t 8)),
 sD 10 (.fa 6 (.t 9)),
 sD 4 (.mv (.t 10))])
 .ret)
 (.seq (.reg 0 [] [] [sD 12 (.bin .eql .num (.t 5) (.c (.int .u8 77))),
 sD 11 (.mv (.t 12))])
 (.cond (.t 11) (.seq (.reg 0 [] [] [sD 13 (.mv (.t 0)),
 sD 14 (.nilc (.t 13)),
 sD 15 (.fa 7 (.t 14)),
 sD 4 (.mv (.t 15))])
 .ret)
 .skip))))))
 (.seq (.reg 0 [] [] [sD 16 (.mv (.t 0)),
 sD 17 (.nilc (.t 16)),
 sD 18 (.fa 8 (.t 17)),
 sD 4 (.mv (.t 18))])
 .ret)))
def fn110 : IFun := ⟨19, [(.tmp 4)], an110.erase⟩
theorem ok110 : okFun Tryz.prog 110 fn110 = true := by kernel_rfl
theorem oka110 : okA fn110.ntmps fn110.results an110 = true := by kernel_rfl
def sh110 (C : CallA) (x0 c1 : AV) (h : H) (R : AV → H → Prop) : Prop :=
 valA (binOp .eql .num c1 (.int .u8 76)) h fun t7 h =>
 condA t7
 (valA (nilcA x0) h fun t9 h =>
 valA (faA 6 t9) h fun t10 h =>
 R t10 h)
 (valA (binOp .eql .num c1 (.int .u8 77)) h fun t12 h =>
 condA t12
 (valA (nilcA x0) h fun t14 h =>
 valA (faA 7 t14) h fun t15 h =>
 R t15 h)
 (valA (nilcA x0) h fun t17 h =>
 valA (faA 8 t17) h fun t18 h =>
 R t18 h))
theorem she110 (C : CallA) (x0 c1 : AV) (h : H) (R : AV → H → Prop) : wpA C an110 (argE [x0, c1]) h (outA [(.tmp 4)] R) = sh110 C x0 c1 h R := by kernel_rfl
/-! bellows/bellowsref04.Uses -/
def an111 : ACode :=
 (.seq (.reg 0 [] [] [sD 2 (.mv (.c (.str [])))])
 (.seq (.reg 0 [] [] [sD 4 (.mksl none 9 [(.str []), (.str []), (.str []), (.str []), (.str []), (.str []), (.str []), (.str []), (.str []), (.str []), (.str []), (.str []), (.str []), (.str []), (.str []), (.str []), (.str []), (.str []), (.str []), (.str []), (.str []), (.str []), (.str []), (.str [])] 24 [(0, 1, (.c (.str []))), (1, 1, (.c (.str [68, 78]))), (2, 1, (.c (.str [68, 65, 108]))), (3, 1, (.c (.str [68, 65]))), (4, 1, (.c (.str [68, 65, 66, 78]))), (5, 1, (.c (.str [68, 65, 76, 108]))), (6, 1, (.c (.str [68, 65, 66]))), (7, 1, (.c (.str [65, 66, 67]))), (8, 1, (.c (.str [68, 65, 66, 67, 108]))), (9, 1, (.c (.str [68, 65, 66]))), (10, 1, (.c (.str [65, 66, 67]))), (11, 1, (.c (.str [68, 65]))), (12, 1, (.c (.str [68, 65, 66]))), (13, 1, (.c (.str [68, 65, 66, 108]))), (14, 1, (.c (.str [68, 65, 66]))), (15, 1, (.c (.str [68]))), (16, 1, (.c (.str [65]))), (17, 1, (.c (.str [68, 65, 66, 67, 76, 108]))), (18, 1, (.c (.str [65]))), (19, 1, (.c (.str [65, 66, 67]))), (20, 1, (.c (.str [65, 76, 77, 66]))), (21, 1, (.c (.str [65, 76]))), (22, 1, (.c (.str [65]))), (23, 1, (.c (.str [65])))]),
 sD 3 (.mv (.t 4))])
 (.seq (.seq (.reg 0 [] [] [sD 5 (.mv (.t 0)),
 sD 6 (.bin .lss .num (.t 5) (.c (.int .i64 0))),
 sD 7 (.mv (.t 6)),
 sG 8 7 false (.mv (.t 0)),
 sG 9 7 false (.mv (.t 3)),
 sG 10 7 false (.len false (.t 9)),
 sG 11 7 false (.bin .geq .num (.t 8) (.t 10)),
 sD 12 (.pick (.t 7) (.c (.bool true)) (.t 11))])
 (.cond (.t 12) (.seq (.reg 0 [] [] [sD 2 (.mv (.c (.str [])))])
 .ret)
 .skip))
 (.seq (.reg 0 [] [] [sD 13 (.mv (.t 3)),
 sD 14 (.mv (.t 0)),
 sD 15 (.ia none 1 (.t 13) (.t 14)),
 sD 16 (.ld none (.t 15)),
 sD 2 (.mv (.t 16))])
 .ret))))
def fn111 : IFun := ⟨17, [(.tmp 2)], an111.erase⟩
theorem ok111 : okFun Tryz.prog 111 fn111 = true := by kernel_rfl
theorem oka111 : okA fn111.ntmps fn111.results an111 = true := by kernel_rfl
def sh111 (C : CallA) (op0 : AV) (h : H) (R : AV → H → Prop) : Prop :=
 mkslA h 9 24 (fillV [(.str []), (.str []), (.str []), (.str []), (.str []), (.str []), (.str []), (.str []), (.str []), (.str []), (.str []), (.str []), (.str []), (.str []), (.str []), (.str []), (.str []), (.str []), (.str []), (.str []), (.str []), (.str []), (.str []), (.str [])] [(0, 1, (.str [])), (1, 1, (.str [68, 78])), (2, 1, (.str [68, 65, 108])), (3, 1, (.str [68, 65])), (4, 1, (.str [68, 65, 66, 78])), (5, 1, (.str [68, 65, 76, 108])), (6, 1, (.str [68, 65, 66])), (7, 1, (.str [65, 66, 67])), (8, 1, (.str [68, 65, 66, 67, 108])), (9, 1, (.str [68, 65, 66])), (10, 1, (.str [65, 66, 67])), (11, 1, (.str [68, 65])), (12, 1, (.str [68, 65, 66])), (13, 1, (.str [68, 65, 66, 108])), (14, 1, (.str [68, 65, 66])), (15, 1, (.str [68])), (16, 1, (.str [65])), (17, 1, (.str [68, 65, 66, 67, 76, 108])), (18, 1, (.str [65])), (19, 1, (.str [65, 66, 67])), (20, 1, (.str [65, 76, 77, 66])), (21, 1, (.str [65, 76])), (22, 1, (.str [65])), (23, 1, (.str [65]))]) fun t4 h =>
 valA (binOp .lss .num op0 (.int .i64 0)) h fun t6 h =>
 whenA t6 false (fun K => K op0 h) h fun t8 h =>
 whenA t6 false (fun K => K t4 h) h fun t9 h =>
 whenA t6 false (fun K => valA (lenA false t9) h K) h fun t10 h =>
 whenA t6 false (fun K => valA (binOp .geq .num t8 t10) h K) h fun t11 h =>
 valA (pickA t6 (.bool true) t11) h fun t12 h =>
 condA t12
 (R (.str []) h)
 (valA (iaA 1 t4 op0) h fun t15 h =>
 valA (ldA h none t15) h fun t16 h =>
 R t16 h)
theorem she111 (C : CallA) (op0 : AV) (h : H) (R : AV → H → Prop) : wpA C an111 (argE [op0]) h (outA [(.tmp 2)] R) = sh111 C op0 h R := by kernel_rfl
/-! bellows/bellowsref04.has -/
def an112 : ACode :=
 (.seq (.reg 0 [] [] [sD 4 (.mv (.c (.bool false)))])
 (.seq (.seq (.reg 0 [] [] [sD 5 (.mv (.c (.int .i64 0)))])
 (.block 0 (.loop [5] 35 (.seq (.seq (.reg 0 [] [] [sD 6 (.mv (.t 5)),
 sD 7 (.mv (.t 0)),
 sD 8 (.len true (.t 7)),
 sD 9 (.bin .lss .num (.t 6) (.t 8))])
 (.cond (.t 9) .skip
 (.exit 0)))
 (.seq (.block 1 (.seq (.reg 0 [] [] [sD 12 (.mv (.t 0)),
 sD 13 (.mv (.t 5)),
 sD 14 (.ix none (.t 12) (.t 13)),
 sD 15 (.mv (.t 1)),
 sD 16 (.bin .eql .num (.t 14) (.t 15))])
 (.cond (.t 16) (.seq (.reg 0 [] [] [sD 4 (.mv (.c (.bool true)))])
 .ret)
 .skip)))
 (.reg 0 [] [] [sD 10 (.mv (.t 5)),
 sD 11 (.bin .add .num (.t 10) (.c (.int .i64 1))),
 sD 5 (.mv (.t 11))]))))))
 (.seq (.reg 0 [] [] [sD 4 (.mv (.c (.bool false)))])
 .ret)))
def fn112 : IFun := ⟨17, [(.tmp 4)], an112.erase⟩
theorem ok112 : okFun Tryz.prog 112 fn112 = true := by kernel_rfl
theorem oka112 : okA fn112.ntmps fn112.results an112 = true := by kernel_rfl
def sh112 (C : CallA) (s0 c1 : AV) (h : H) (R : AV → H → Prop) : Prop :=
 joinA (fun (h : H) =>
 R (.bool false) h) fun J =>
 loopA (fun N l h => argA l 0 fun i5 => 
 valA (lenA true s0) h fun t8 h =>
 valA (binOp .lss .num i5 t8) h fun t9 h =>
 condA t9
 (valA (ixStrA s0 i5) h fun t14 h =>
 valA (binOp .eql .num t14 c1) h fun t16 h =>
 condA t16
 (R (.bool true) h)
 (valA (binOp .add .num i5 (.int .i64 1)) h fun t11 h =>
 N [t11] h))
 (J h)) [(.int .i64 0)] h
theorem she112 (C : CallA) (s0 c1 : AV) (h : H) (R : AV → H → Prop) : wpA C an112 (argE [s0, c1]) h (outA [(.tmp 4)] R) = sh112 C s0 c1 h R := by kernel_rfl
/-! bellows/code.some[int] -/
def an128 : ACode :=
 (.seq (.reg 0 [] [] [sD 4 (.mv (.c .nilsl))])
 (.seq (.reg 0 [] [] [sD 5 (.mv (.c .nilsl))])
 (.seq (.seq (.reg 0 [] [] [sD 6 (.mv (.t 0)),
 sD 7 (.call 82 [(.t 6)]),
 sD 8 (.mv (.c (.int .i64 0)))])
 (.block 0 (.loop [5, 8] 419 (.seq (.reg 0 [] [] [sD 9 (.bin .lss .num (.t 8) (.t 7))])
 (.seq (.cond (.t 9) .skip
 (.exit 0))
 (.seq (.block 1 (.seq (.seq (.reg 0 [] [] [sD 10 (.mv (.t 0)),
 sD 11 (.nilc (.t 10)),
 sD 12 (.fa 2 (.t 11)),
 sD 13 (.ld none (.t 12))])
 (.cond (.t 13) (.seq (.reg 0 [] [] [sD 4 (.mv (.c .nilsl))])
 .ret)
 .skip))
 (.reg 0 [] [] [sD 14 (.mv (.t 5)),
 sD 15 (.mv (.t 1)),
 sD 16 (.callv (.t 15) []),
 sD 17 (.mksl none 3 [(.int .i64 0)] 1 [(0, 1, (.t 16))]),
 sD 18 (.app 3 1 8 [(.int .i64 0)] (.t 14) (.t 17)),
 sD 5 (.mv (.t 18))])))
 (.reg 0 [] [] [sD 19 (.bin .add .num (.t 8) (.c (.int .i64 1))),
 sD 8 (.mv (.t 19))])))))))
 (.seq (.reg 0 [] [] [sD 20 (.mv (.t 5)),
 sD 4 (.mv (.t 20))])
 .ret))))
def fn128 : IFun := ⟨21, [(.tmp 4)], an128.erase⟩
theorem ok128 : okFun Tryz.prog 128 fn128 = true := by kernel_rfl
theorem oka128 : okA fn128.ntmps fn128.results an128 = true := by kernel_rfl
def sh128 (C : CallA) (r0 each1 : AV) (h : H) (R : AV → H → Prop) : Prop :=
 joinA (fun (l5' : AV) (h : H) =>
 R l5' h) fun J =>
 C 82 [r0] h fun t7 h =>
 loopA (fun N l h => argA l 0 fun l5 => argA l 1 fun t8 => 
 valA (binOp .lss .num t8 t7) h fun t9 h =>
 condA t9
 (valA (nilcA r0) h fun t11 h =>
 valA (faA 2 t11) h fun t12 h =>
 valA (ldA h none t12) h fun t13 h =>
 condA t13
 (R .nilsl h)
 (callvA C each1 [] h fun t16 h =>
 mkslA h 3 1 (fillV [(.int .i64 0)] [(0, 1, t16)]) fun t17 h =>
 appendA h 3 1 8 l5 t17 fun t18 h =>
 valA (binOp .add .num t8 (.int .i64 1)) h fun t19 h =>
 N [t18, t19] h))
 (J l5 h)) [.nilsl, (.int .i64 0)] h
theorem she128 (C : CallA) (r0 each1 : AV) (h : H) (R : AV → H → Prop) : wpA C an128 (argE [r0, each1]) h (outA [(.tmp 4)] R) = sh128 C r0 each1 h R := by kernel_rfl
/-! bellows/code.some[bellows/api.Instr] -/
def an129 : ACode :=
 (.seq (.reg 0 [] [] [sD 4 (.mv (.c .nilsl))])
 (.seq (.reg 0 [] [] [sD 5 (.mv (.c .nilsl))])
 (.seq (.seq (.reg 0 [] [] [sD 6 (.mv (.t 0)),
 sD 7 (.call 82 [(.t 6)]),
 sD 8 (.mv (.c (.int .i64 0)))])
 (.block 0 (.loop [5, 8] 419 (.seq (.reg 0 [] [] [sD 9 (.bin .lss .num (.t 8) (.t 7))])
 (.seq (.cond (.t 9) .skip
 (.exit 0))
 (.seq (.block 1 (.seq (.seq (.reg 0 [] [] [sD 10 (.mv (.t 0)),
 sD 11 (.nilc (.t 10)),
 sD 12 (.fa 2 (.t 11)),
 sD 13 (.ld none (.t 12))])
 (.cond (.t 13) (.seq (.reg 0 [] [] [sD 4 (.mv (.c .nilsl))])
 .ret)
 .skip))
 (.reg 0 [] [] [sD 14 (.mv (.t 5)),
 sD 15 (.mv (.t 1)),
 sD 16 (.callv (.t 15) []),
 sD 17 (.mksl none 55 [(.int .i64 0), (.int .i64 0), (.int .i64 0), (.int .i64 0), (.int .i64 0), (.int .i64 0), .nilsl, .nilsl, .nilsl] 1 [(0, 9, (.t 16))]),
 sD 18 (.app 55 9 120 [(.int .i64 0), (.int .i64 0), (.int .i64 0), (.int .i64 0), (.int .i64 0), (.int .i64 0), .nilsl, .nilsl, .nilsl] (.t 14) (.t 17)),
 sD 5 (.mv (.t 18))])))
 (.reg 0 [] [] [sD 19 (.bin .add .num (.t 8) (.c (.int .i64 1))),
 sD 8 (.mv (.t 19))])))))))
 (.seq (.reg 0 [] [] [sD 20 (.mv (.t 5)),
 sD 4 (.mv (.t 20))])
 .ret))))
def fn129 : IFun := ⟨21, [(.tmp 4)], an129.erase⟩
theorem ok129 : okFun Tryz.prog 129 fn129 = true := by kernel_rfl
theorem oka129 : okA fn129.ntmps fn129.results an129 = true := by kernel_rfl
def sh129 (C : CallA) (r0 each1 : AV) (h : H) (R : AV → H → Prop) : Prop :=
 joinA (fun (l5' : AV) (h : H) =>
 R l5' h) fun J =>
 C 82 [r0] h fun t7 h =>
 loopA (fun N l h => argA l 0 fun l5 => argA l 1 fun t8 => 
 valA (binOp .lss .num t8 t7) h fun t9 h =>
 condA t9
 (valA (nilcA r0) h fun t11 h =>
 valA (faA 2 t11) h fun t12 h =>
 valA (ldA h none t12) h fun t13 h =>
 condA t13
 (R .nilsl h)
 (callvA C each1 [] h fun t16 h =>
 mkslA h 55 1 (fillV [(.int .i64 0), (.int .i64 0), (.int .i64 0), (.int .i64 0), (.int .i64 0), (.int .i64 0), .nilsl, .nilsl, .nilsl] [(0, 9, t16)]) fun t17 h =>
 appendA h 55 9 120 l5 t17 fun t18 h =>
 valA (binOp .add .num t8 (.int .i64 1)) h fun t19 h =>
 N [t18, t19] h))
 (J l5 h)) [.nilsl, (.int .i64 0)] h
theorem she129 (C : CallA) (r0 each1 : AV) (h : H) (R : AV → H → Prop) : wpA C an129 (argE [r0, each1]) h (outA [(.tmp 4)] R) = sh129 C r0 each1 h R := by kernel_rfl
/-! (*bellows/code.reader).instr -/
def an130 : ACode :=
 (.seq (.reg 0 [] [] [sD 2 (.al none 55 [(.int .i64 0), (.int .i64 0), (.int .i64 0), (.int .i64 0), (.int .i64 0), (.int .i64 0), .nilsl, .nilsl, .nilsl])])
 (.seq (.reg 0 [] [] [sD 7 (.mv (.t 0)),
 sD 8 (.call 42 [(.t 7)]),
 sD 9 (.fa 0 (.t 2)),
 sN (.st 1 (.t 9) (.t 8))])
 (.seq (.reg 0 [] [] [sD 10 (.fa 0 (.t 2)),
 sD 11 (.ld none (.t 10)),
 sD 12 (.call 59 [(.t 11)]),
 sD 3 (.mv (.t 12))])
 (.seq (.reg 0 [] [] [sD 13 (.mv (.t 0)),
 sD 14 (.mv (.t 0)),
 sD 15 (.nilc (.t 14)),
 sD 16 (.fa 2 (.t 15)),
 sD 17 (.ld none (.t 16)),
 sD 18 (.mv (.t 17)),
 sG 19 18 false (.mv (.t 3)),
 sG 20 18 false (.bin .eql .num (.t 19) (.c (.str []))),
 sD 21 (.pick (.t 18) (.c (.bool true)) (.t 20)),
 sD 22 (.nilc (.t 13)),
 sD 23 (.fa 2 (.t 22)),
 sN (.st 1 (.t 23) (.t 21))])
 (.seq (.seq (.reg 0 [] [] [sD 24 (.mv (.t 3)),
 sD 25 (.cv none (.s2b 5) (.t 24)),
 sD 26 (.len false (.t 25)),
 sD 27 (.mv (.c (.int .i64 0)))])
 (.block 0 (.loop [27] 234881029 (.seq (.reg 0 [] [] [sD 28 (.bin .lss .num (.t 27) (.t 26))])
 (.seq (.cond (.t 28) .skip
 (.exit 0))
 (.seq (.block 1 (.seq (.reg 0 [] [] [sD 29 (.ia none 1 (.t 25) (.t 27)),
 sD 30 (.ld none (.t 29)),
 sD 5 (.mv (.t 30))])
 (.seq (.reg 0 [] [] [sD 31 (.mv (.t 5)),
 sD 32 (.bin .eql .num (.t 31) (.c (.int .u8 78)))])
 (.cond (.t 32) (.reg 0 [] [] [sD 33 (.mv (.t 0)),
 sD 34 (.call 86 [(.t 33)]),
 sD 35 (.fa 5 (.t 2)),
 sN (.st 1 (.t 35) (.t 34))])
 (.seq (.reg 0 [] [] [sD 36 (.mv (.t 5)),
 sD 37 (.call 109 [(.t 2), (.t 36)]),
 sD 6 (.mv (.t 37))])
 (.seq (.reg 0 [] [] [sD 38 (.mv (.t 6)),
 sD 39 (.bin .neq .ptr (.t 38) (.c .nilp))])
 (.cond (.t 39) (.reg 0 [] [] [sD 40 (.mv (.t 6)),
 sD 41 (.mv (.t 0)),
 sD 42 (.call 42 [(.t 41)]),
 sD 43 (.nilc (.t 40)),
 sN (.st 1 (.t 43) (.t 42))])
 (.reg 0 [] [] [sD 44 (.mv (.t 5)),
 sD 45 (.call 110 [(.t 2), (.t 44)]),
 sD 46 (.mv (.t 0)),
 sD 47 (.call 83 [(.t 46)]),
 sD 48 (.nilc (.t 45)),
 sN (.st 1 (.t 48) (.t 47))]))))))))
 (.reg 0 [] [] [sD 49 (.bin .add .num (.t 27) (.c (.int .i64 1))),
 sD 27 (.mv (.t 49))])))))))
 (.seq (.reg 0 [] [] [sD 50 (.ld (some 9) (.t 2)),
 sN (.st 9 (.t 2) (.t 50))])
 .ret))))))
def fn130 : IFun := ⟨51, [(.cell 2 (some 9))], an130.erase⟩
theorem ok130 : okFun Tryz.prog 130 fn130 = true := by kernel_rfl
theorem oka130 : okA fn130.ntmps fn130.results an130 = true := by kernel_rfl
def sh130 (C : CallA) (r0 : AV) (h : H) (R : AV → H → Prop) : Prop :=
 boxA h [(.int .i64 0), (.int .i64 0), (.int .i64 0), (.int .i64 0), (.int .i64 0), (.int .i64 0), .nilsl, .nilsl, .nilsl] 55 fun x2 h =>
 C 42 [r0] h fun t8 h =>
 valA (faA 0 x2) h fun t9 h =>
 memA (stA h 1 t9 t8) .undef fun _ h =>
 valA (faA 0 x2) h fun t10 h =>
 valA (ldA h none t10) h fun t11 h =>
 C 59 [t11] h fun t12 h =>
 valA (nilcA r0) h fun t15 h =>
 valA (faA 2 t15) h fun t16 h =>
 valA (ldA h none t16) h fun t17 h =>
 whenA t17 false (fun K => K t12 h) h fun t19 h =>
 whenA t17 false (fun K => valA (binOp .eql .num t19 (.str [])) h K) h fun t20 h =>
 valA (pickA t17 (.bool true) t20) h fun t21 h =>
 valA (nilcA r0) h fun t22 h =>
 valA (faA 2 t22) h fun t23 h =>
 memA (stA h 1 t23 t21) .undef fun _ h =>
 joinA (fun (h : H) =>
 valA (ldA h (some 9) x2) h fun t50 h =>
 memA (stA h 9 x2 t50) .undef fun _ h =>
 valA (ldA h (some 9) x2) h fun res _ => R res h) fun J =>
 s2bA h 5 t12 fun t25 h =>
 valA (lenA false t25) h fun t26 h =>
 loopA (fun N l h => argA l 0 fun t27 => 
 valA (binOp .lss .num t27 t26) h fun t28 h =>
 condA t28
 (joinA (fun (h : H) =>
 valA (binOp .add .num t27 (.int .i64 1)) h fun t49 h =>
 N [t49] h) fun J_22 =>
 valA (iaA 1 t25 t27) h fun t29 h =>
 valA (ldA h none t29) h fun t30 h =>
 valA (binOp .eql .num t30 (.int .u8 78)) h fun t32 h =>
 condA t32
 (C 86 [r0] h fun t34 h =>
 valA (faA 5 x2) h fun t35 h =>
 memA (stA h 1 t35 t34) .undef fun _ h =>
 J_22 h)
 (C 109 [x2, t30] h fun t37 h =>
 valA (binOp .neq .ptr t37 .nilp) h fun t39 h =>
 condA t39
 (C 42 [r0] h fun t42 h =>
 valA (nilcA t37) h fun t43 h =>
 memA (stA h 1 t43 t42) .undef fun _ h =>
 J_22 h)
 (C 110 [x2, t30] h fun t45 h =>
 C 83 [r0] h fun t47 h =>
 valA (nilcA t45) h fun t48 h =>
 memA (stA h 1 t48 t47) .undef fun _ h =>
 J_22 h)))
 (J h)) [(.int .i64 0)] h
theorem she130 (C : CallA) (r0 : AV) (h : H) (R : AV → H → Prop) : wpA C an130 (argE [r0]) h (outA [(.cell 2 (some 9))] R) = sh130 C r0 h R := by kernel_rfl
/-! bellows/word.Get -/
def an131 : ACode :=
 (.seq (.reg 0 [] [] [sD 4 (.mv (.c (.int .i64 0))),
 sD 5 (.mv (.c (.int .i64 0))),
 sD 6 (.mv (.c (.bool false)))])
 (.seq (.seq (.reg 0 [] [] [sD 11 (.mv (.t 1)),
 sD 12 (.bin .lss .num (.t 11) (.c (.int .i64 0))),
 sD 13 (.mv (.t 12)),
 sG 14 13 false (.mv (.t 1)),
 sG 15 13 false (.mv (.t 0)),
 sG 16 13 false (.len false (.t 15)),
 sG 17 13 false (.bin .geq .num (.t 14) (.t 16)),
 sD 18 (.pick (.t 13) (.c (.bool true)) (.t 17))])
 (.cond (.t 18) (.seq (.reg 0 [] [] [sD 4 (.mv (.c (.int .i64 0))),
 sD 5 (.mv (.c (.int .i64 0))),
 sD 6 (.mv (.c (.bool false)))])
 .ret)
 .skip))
 (.seq (.reg 0 [] [] [sD 7 (.mv (.c (.int .u64 0)))])
 (.seq (.seq (.reg 0 [] [] [sD 19 (.mv (.t 0)),
 sD 20 (.len false (.t 19)),
 sD 21 (.mv (.t 1)),
 sD 22 (.bin .sub .num (.t 20) (.t 21)),
 sD 23 (.mn [(.c (.int .i64 10)), (.t 22)]),
 sD 24 (.mv (.c (.int .i64 0)))])
 (.block 0 (.loop [7, 24] 25165955 (.seq (.reg 0 [] [] [sD 25 (.bin .lss .num (.t 24) (.t 23))])
 (.seq (.cond (.t 25) .skip
 (.exit 0))
 (.seq (.block 1 (.seq (.reg 0 [] [] [sD 26 (.mv (.t 24)),
 sD 8 (.mv (.t 26))])
 (.seq (.reg 0 [] [] [sD 27 (.mv (.t 0)),
 sD 28 (.mv (.t 1)),
 sD 29 (.mv (.t 8)),
 sD 30 (.bin .add .num (.t 28) (.t 29)),
 sD 31 (.ia none 1 (.t 27) (.t 30)),
 sD 32 (.ld none (.t 31)),
 sD 9 (.mv (.t 32))])
 (.seq (.seq (.reg 0 [] [] [sD 33 (.mv (.t 8)),
 sD 34 (.bin .eql .num (.t 33) (.c (.int .i64 9))),
 sD 35 (.mv (.t 34)),
 sG 36 35 true (.mv (.t 9)),
 sG 37 35 true (.bin .gtr .num (.t 36) (.c (.int .u8 1))),
 sD 38 (.pick (.t 35) (.t 37) (.c (.bool false)))])
 (.cond (.t 38) (.seq (.reg 0 [] [] [sD 4 (.mv (.c (.int .i64 0))),
 sD 5 (.mv (.c (.int .i64 0))),
 sD 6 (.mv (.c (.bool false)))])
 .ret)
 .skip))
 (.seq (.reg 0 [] [] [sD 39 (.mv (.t 7)),
 sD 40 (.mv (.t 9)),
 sD 41 (.bin .and .num (.t 40) (.c (.int .u8 127))),
 sD 42 (.cv none (.toInt .u64) (.t 41)),
 sD 43 (.mv (.t 8)),
 sD 44 (.bin .mul .num (.c (.int .i64 7)) (.t 43)),
 sD 45 (.bin .shl .num (.t 42) (.t 44)),
 sD 46 (.bin .or .num (.t 39) (.t 45)),
 sD 7 (.mv (.t 46))])
 (.seq (.reg 0 [] [] [sD 47 (.mv (.t 9)),
 sD 48 (.bin .lss .num (.t 47) (.c (.int .u8 128)))])
 (.cond (.t 48) (.seq (.seq (.reg 0 [] [] [sD 49 (.mv (.t 9)),
 sD 50 (.bin .eql .num (.t 49) (.c (.int .u8 0))),
 sD 51 (.mv (.t 50)),
 sG 52 51 true (.mv (.t 8)),
 sG 53 51 true (.bin .gtr .num (.t 52) (.c (.int .i64 0))),
 sD 54 (.pick (.t 51) (.t 53) (.c (.bool false)))])
 (.cond (.t 54) (.seq (.reg 0 [] [] [sD 4 (.mv (.c (.int .i64 0))),
 sD 5 (.mv (.c (.int .i64 0))),
 sD 6 (.mv (.c (.bool false)))])
 .ret)
 .skip))
 (.seq (.reg 0 [] [] [sD 55 (.mv (.t 7)),
 sD 56 (.bin .shr .num (.t 55) (.c (.int .u64 1))),
 sD 57 (.cv none (.toInt .i64) (.t 56)),
 sD 10 (.mv (.t 57))])
 (.seq (.seq (.reg 0 [] [] [sD 58 (.mv (.t 7)),
 sD 59 (.bin .and .num (.t 58) (.c (.int .u64 1))),
 sD 60 (.bin .eql .num (.t 59) (.c (.int .u64 1)))])
 (.cond (.t 60) (.reg 0 [] [] [sD 61 (.mv (.t 10)),
 sD 62 (.un .xor (.t 61)),
 sD 10 (.mv (.t 62))])
 .skip))
 (.seq (.reg 0 [] [] [sD 63 (.mv (.t 10)),
 sD 64 (.mv (.t 1)),
 sD 65 (.mv (.t 8)),
 sD 66 (.bin .add .num (.t 64) (.t 65)),
 sD 67 (.bin .add .num (.t 66) (.c (.int .i64 1))),
 sD 4 (.mv (.t 63)),
 sD 5 (.mv (.t 67)),
 sD 6 (.mv (.c (.bool true)))])
 .ret))))
 .skip)))))))
 (.reg 0 [] [] [sD 68 (.bin .add .num (.t 24) (.c (.int .i64 1))),
 sD 24 (.mv (.t 68))])))))))
 (.seq (.reg 0 [] [] [sD 4 (.mv (.c (.int .i64 0))),
 sD 5 (.mv (.c (.int .i64 0))),
 sD 6 (.mv (.c (.bool false)))])
 .ret)))))
def fn131 : IFun := ⟨69, [(.tmp 4), (.tmp 5), (.tmp 6)], an131.erase⟩
theorem ok131 : okFun Tryz.prog 131 fn131 = true := by kernel_rfl
theorem oka131 : okA fn131.ntmps fn131.results an131 = true := by kernel_rfl
def sh131 (C : CallA) (b0 at1 : AV) (h : H) (R : AV → H → Prop) : Prop :=
 valA (binOp .lss .num at1 (.int .i64 0)) h fun t12 h =>
 whenA t12 false (fun K => K at1 h) h fun t14 h =>
 whenA t12 false (fun K => K b0 h) h fun t15 h =>
 whenA t12 false (fun K => valA (lenA false t15) h K) h fun t16 h =>
 whenA t12 false (fun K => valA (binOp .geq .num t14 t16) h K) h fun t17 h =>
 valA (pickA t12 (.bool true) t17) h fun t18 h =>
 condA t18
 (R (.tup [(.int .i64 0), (.int .i64 0), (.bool false)]) h)
 (joinA (fun (h : H) =>
 R (.tup [(.int .i64 0), (.int .i64 0), (.bool false)]) h) fun J =>
 valA (lenA false b0) h fun t20 h =>
 valA (binOp .sub .num t20 at1) h fun t22 h =>
 valA (mnA [(.int .i64 10), t22]) h fun t23 h =>
 loopA (fun N l h => argA l 0 fun x7 => argA l 1 fun t24 => 
 valA (binOp .lss .num t24 t23) h fun t25 h =>
 condA t25
 (valA (binOp .add .num at1 t24) h fun t30 h =>
 valA (iaA 1 b0 t30) h fun t31 h =>
 valA (ldA h none t31) h fun t32 h =>
 valA (binOp .eql .num t24 (.int .i64 9)) h fun t34 h =>
 whenA t34 true (fun K => K t32 h) h fun t36 h =>
 whenA t34 true (fun K => valA (binOp .gtr .num t36 (.int .u8 1)) h K) h fun t37 h =>
 valA (pickA t34 t37 (.bool false)) h fun t38 h =>
 condA t38
 (R (.tup [(.int .i64 0), (.int .i64 0), (.bool false)]) h)
 (valA (binOp .and .num t32 (.int .u8 127)) h fun t41 h =>
 valA (cvA .u64 t41) h fun t42 h =>
 valA (binOp .mul .num (.int .i64 7) t24) h fun t44 h =>
 valA (binOp .shl .num t42 t44) h fun t45 h =>
 valA (binOp .or .num x7 t45) h fun t46 h =>
 valA (binOp .lss .num t32 (.int .u8 128)) h fun t48 h =>
 condA t48
 (valA (binOp .eql .num t32 (.int .u8 0)) h fun t50 h =>
 whenA t50 true (fun K => K t24 h) h fun t52 h =>
 whenA t50 true (fun K => valA (binOp .gtr .num t52 (.int .i64 0)) h K) h fun t53 h =>
 valA (pickA t50 t53 (.bool false)) h fun t54 h =>
 condA t54
 (R (.tup [(.int .i64 0), (.int .i64 0), (.bool false)]) h)
 (valA (binOp .shr .num t46 (.int .u64 1)) h fun t56 h =>
 valA (cvA .i64 t56) h fun t57 h =>
 joinA (fun (n10'_0 : AV) (h : H) =>
 valA (binOp .add .num at1 t24) h fun t66 h =>
 valA (binOp .add .num t66 (.int .i64 1)) h fun t67 h =>
 R (.tup [n10'_0, t67, (.bool true)]) h) fun J_6 =>
 valA (binOp .and .num t46 (.int .u64 1)) h fun t59 h =>
 valA (binOp .eql .num t59 (.int .u64 1)) h fun t60 h =>
 condA t60
 (valA (unOp .xor t57) h fun t62 h =>
 J_6 t62 h)
 (J_6 t57 h)))
 (valA (binOp .add .num t24 (.int .i64 1)) h fun t68 h =>
 N [t46, t68] h)))
 (J h)) [(.int .u64 0), (.int .i64 0)] h)
theorem she131 (C : CallA) (b0 at1 : AV) (h : H) (R : AV → H → Prop) : wpA C an131 (argE [b0, at1]) h (outA [(.tmp 4), (.tmp 5), (.tmp 6)] R) = sh131 C b0 at1 h R := by kernel_rfl
/-! bellows/code.over[bellows/api.Type] -/
def an132 : ACode :=
 (.seq (.reg 0 [] [] [sD 2 (.bx none 3 (.t 0)),
 sD 4 (.mv (.c (.bool false)))])
 (.seq (.reg 0 [] [] [sD 5 (.mv (.t 1)),
 sD 6 (.mkf 185 [] [(.t 2)]),
 sD 7 (.call 184 [(.t 5), (.t 6)]),
 sD 4 (.mv (.t 7))])
 .ret))
def fn132 : IFun := ⟨8, [(.tmp 4)], an132.erase⟩
theorem ok132 : okFun Tryz.prog 132 fn132 = true := by kernel_rfl
theorem oka132 : okA fn132.ntmps fn132.results an132 = true := by kernel_rfl
def sh132 (C : CallA) (most0 lists1 : AV) (h : H) (R : AV → H → Prop) : Prop :=
 boxA h (AV.cells most0) 3 fun most2 h =>
 C 184 [lists1, (.fn 185 [] [most2])] h fun t7 h =>
 R t7 h
theorem she132 (C : CallA) (most0 lists1 : AV) (h : H) (R : AV → H → Prop) : wpA C an132 (argE [most0, lists1]) h (outA [(.tmp 4)] R) = sh132 C most0 lists1 h R := by kernel_rfl
/-! bellows/code.over[bellows/api.Shape] -/
def an133 : ACode :=
 (.seq (.reg 0 [] [] [sD 2 (.bx none 3 (.t 0)),
 sD 4 (.mv (.c (.bool false)))])
 (.seq (.reg 0 [] [] [sD 5 (.mv (.t 1)),
 sD 6 (.mkf 187 [] [(.t 2)]),
 sD 7 (.call 186 [(.t 5), (.t 6)]),
 sD 4 (.mv (.t 7))])
 .ret))
def fn133 : IFun := ⟨8, [(.tmp 4)], an133.erase⟩
theorem ok133 : okFun Tryz.prog 133 fn133 = true := by kernel_rfl
theorem oka133 : okA fn133.ntmps fn133.results an133 = true := by kernel_rfl
def sh133 (C : CallA) (most0 lists1 : AV) (h : H) (R : AV → H → Prop) : Prop :=
 boxA h (AV.cells most0) 3 fun most2 h =>
 C 186 [lists1, (.fn 187 [] [most2])] h fun t7 h =>
 R t7 h
theorem she133 (C : CallA) (most0 lists1 : AV) (h : H) (R : AV → H → Prop) : wpA C an133 (argE [most0, lists1]) h (outA [(.tmp 4)] R) = sh133 C most0 lists1 h R := by kernel_rfl
/-! bellows/code.over[string] -/
def an134 : ACode :=
 (.seq (.reg 0 [] [] [sD 2 (.bx none 3 (.t 0)),
 sD 4 (.mv (.c (.bool false)))])
 (.seq (.reg 0 [] [] [sD 5 (.mv (.t 1)),
 sD 6 (.mkf 189 [] [(.t 2)]),
 sD 7 (.call 188 [(.t 5), (.t 6)]),
 sD 4 (.mv (.t 7))])
 .ret))
def fn134 : IFun := ⟨8, [(.tmp 4)], an134.erase⟩
theorem ok134 : okFun Tryz.prog 134 fn134 = true := by kernel_rfl
theorem oka134 : okA fn134.ntmps fn134.results an134 = true := by kernel_rfl
def sh134 (C : CallA) (most0 lists1 : AV) (h : H) (R : AV → H → Prop) : Prop :=
 boxA h (AV.cells most0) 3 fun most2 h =>
 C 188 [lists1, (.fn 189 [] [most2])] h fun t7 h =>
 R t7 h
theorem she134 (C : CallA) (most0 lists1 : AV) (h : H) (R : AV → H → Prop) : wpA C an134 (argE [most0, lists1]) h (outA [(.tmp 4)] R) = sh134 C most0 lists1 h R := by kernel_rfl
/-! bellows/code.over[bellows/api.Func] -/
def an135 : ACode :=
 (.seq (.reg 0 [] [] [sD 2 (.bx none 3 (.t 0)),
 sD 4 (.mv (.c (.bool false)))])
 (.seq (.reg 0 [] [] [sD 5 (.mv (.t 1)),
 sD 6 (.mkf 191 [] [(.t 2)]),
 sD 7 (.call 190 [(.t 5), (.t 6)]),
 sD 4 (.mv (.t 7))])
 .ret))
def fn135 : IFun := ⟨8, [(.tmp 4)], an135.erase⟩
theorem ok135 : okFun Tryz.prog 135 fn135 = true := by kernel_rfl
theorem oka135 : okA fn135.ntmps fn135.results an135 = true := by kernel_rfl
def sh135 (C : CallA) (most0 lists1 : AV) (h : H) (R : AV → H → Prop) : Prop :=
 boxA h (AV.cells most0) 3 fun most2 h =>
 C 190 [lists1, (.fn 191 [] [most2])] h fun t7 h =>
 R t7 h
theorem she135 (C : CallA) (most0 lists1 : AV) (h : H) (R : AV → H → Prop) : wpA C an135 (argE [most0, lists1]) h (outA [(.tmp 4)] R) = sh135 C most0 lists1 h R := by kernel_rfl
/-! bellows/code.wide -/
def an136 : ACode :=
 (.seq (.reg 0 [] [] [sD 2 (.mv (.c (.bool false)))])
 (.seq (.reg 0 [] [] [sD 3 (.mv (.t 0)),
 sD 4 (.call 192 [(.t 3), (.c (.fn 193 [] []))]),
 sD 2 (.mv (.t 4))])
 .ret))
def fn136 : IFun := ⟨5, [(.tmp 2)], an136.erase⟩
theorem ok136 : okFun Tryz.prog 136 fn136 = true := by kernel_rfl
theorem oka136 : okA fn136.ntmps fn136.results an136 = true := by kernel_rfl
def sh136 (C : CallA) (texts0 : AV) (h : H) (R : AV → H → Prop) : Prop :=
 C 192 [texts0, (.fn 193 [] [])] h fun t4 h =>
 R t4 h
theorem she136 (C : CallA) (texts0 : AV) (h : H) (R : AV → H → Prop) : wpA C an136 (argE [texts0]) h (outA [(.tmp 2)] R) = sh136 C texts0 h R := by kernel_rfl
/-! bellows/code.over[int] -/
def an137 : ACode :=
 (.seq (.reg 0 [] [] [sD 2 (.bx none 3 (.t 0)),
 sD 4 (.mv (.c (.bool false)))])
 (.seq (.reg 0 [] [] [sD 5 (.mv (.t 1)),
 sD 6 (.mkf 195 [] [(.t 2)]),
 sD 7 (.call 194 [(.t 5), (.t 6)]),
 sD 4 (.mv (.t 7))])
 .ret))
def fn137 : IFun := ⟨8, [(.tmp 4)], an137.erase⟩
theorem ok137 : okFun Tryz.prog 137 fn137 = true := by kernel_rfl
theorem oka137 : okA fn137.ntmps fn137.results an137 = true := by kernel_rfl
def sh137 (C : CallA) (most0 lists1 : AV) (h : H) (R : AV → H → Prop) : Prop :=
 boxA h (AV.cells most0) 3 fun most2 h =>
 C 194 [lists1, (.fn 195 [] [most2])] h fun t7 h =>
 R t7 h
theorem she137 (C : CallA) (most0 lists1 : AV) (h : H) (R : AV → H → Prop) : wpA C an137 (argE [most0, lists1]) h (outA [(.tmp 4)] R) = sh137 C most0 lists1 h R := by kernel_rfl
/-! bellows/code.over[bellows/api.Block] -/
def an138 : ACode :=
 (.seq (.reg 0 [] [] [sD 2 (.bx none 3 (.t 0)),
 sD 4 (.mv (.c (.bool false)))])
 (.seq (.reg 0 [] [] [sD 5 (.mv (.t 1)),
 sD 6 (.mkf 197 [] [(.t 2)]),
 sD 7 (.call 196 [(.t 5), (.t 6)]),
 sD 4 (.mv (.t 7))])
 .ret))
def fn138 : IFun := ⟨8, [(.tmp 4)], an138.erase⟩
theorem ok138 : okFun Tryz.prog 138 fn138 = true := by kernel_rfl
theorem oka138 : okA fn138.ntmps fn138.results an138 = true := by kernel_rfl
def sh138 (C : CallA) (most0 lists1 : AV) (h : H) (R : AV → H → Prop) : Prop :=
 boxA h (AV.cells most0) 3 fun most2 h =>
 C 196 [lists1, (.fn 197 [] [most2])] h fun t7 h =>
 R t7 h
theorem she138 (C : CallA) (most0 lists1 : AV) (h : H) (R : AV → H → Prop) : wpA C an138 (argE [most0, lists1]) h (outA [(.tmp 4)] R) = sh138 C most0 lists1 h R := by kernel_rfl
/-! slices.IndexFunc[[]bellows/api.Instr,bellows/api.Instr] -/
def an139 : ACode :=
 (.seq (.reg 0 [] [] [sD 4 (.mv (.c (.int .i64 0)))])
 (.seq (.seq (.reg 0 [] [] [sD 6 (.mv (.t 0)),
 sD 7 (.len false (.t 6)),
 sD 8 (.mv (.c (.int .i64 0)))])
 (.block 0 (.loop [8] 387 (.seq (.reg 0 [] [] [sD 9 (.bin .lss .num (.t 8) (.t 7))])
 (.seq (.cond (.t 9) .skip
 (.exit 0))
 (.seq (.block 1 (.seq (.reg 0 [] [] [sD 10 (.mv (.t 8)),
 sD 5 (.mv (.t 10))])
 (.seq (.reg 0 [] [] [sD 11 (.mv (.t 1)),
 sD 12 (.mv (.t 0)),
 sD 13 (.mv (.t 5)),
 sD 14 (.ia none 9 (.t 12) (.t 13)),
 sD 15 (.ld (some 9) (.t 14)),
 sD 16 (.callv (.t 11) [(.t 15)])])
 (.cond (.t 16) (.seq (.reg 0 [] [] [sD 17 (.mv (.t 5)),
 sD 4 (.mv (.t 17))])
 .ret)
 .skip))))
 (.reg 0 [] [] [sD 18 (.bin .add .num (.t 8) (.c (.int .i64 1))),
 sD 8 (.mv (.t 18))])))))))
 (.seq (.reg 0 [] [] [sD 4 (.mv (.c (.int .i64 (-1))))])
 .ret)))
def fn139 : IFun := ⟨19, [(.tmp 4)], an139.erase⟩
theorem ok139 : okFun Tryz.prog 139 fn139 = true := by kernel_rfl
theorem oka139 : okA fn139.ntmps fn139.results an139 = true := by kernel_rfl
def sh139 (C : CallA) (s0 f1 : AV) (h : H) (R : AV → H → Prop) : Prop :=
 joinA (fun (h : H) =>
 R (.int .i64 (-1)) h) fun J =>
 valA (lenA false s0) h fun t7 h =>
 loopA (fun N l h => argA l 0 fun t8 => 
 valA (binOp .lss .num t8 t7) h fun t9 h =>
 condA t9
 (valA (iaA 9 s0 t8) h fun t14 h =>
 valA (ldA h (some 9) t14) h fun t15 h =>
 callvA C f1 [t15] h fun t16 h =>
 condA t16
 (R t8 h)
 (valA (binOp .add .num t8 (.int .i64 1)) h fun t18 h =>
 N [t18] h))
 (J h)) [(.int .i64 0)] h
theorem she139 (C : CallA) (s0 f1 : AV) (h : H) (R : AV → H → Prop) : wpA C an139 (argE [s0, f1]) h (outA [(.tmp 4)] R) = sh139 C s0 f1 h R := by kernel_rfl
/-! bellows/bellowsref01.Put -/
def an140 : ACode :=
 (.seq (.reg 0 [] [] [sD 2 (.mv (.c .nilsl))])
 (.seq (.reg 0 [] [] [sD 5 (.mv (.t 0)),
 sD 6 (.cv none (.toInt .u64) (.t 5)),
 sD 7 (.bin .mul .num (.t 6) (.c (.int .u64 2))),
 sD 3 (.mv (.t 7))])
 (.seq (.seq (.reg 0 [] [] [sD 8 (.mv (.t 0)),
 sD 9 (.bin .lss .num (.t 8) (.c (.int .i64 0)))])
 (.cond (.t 9) (.reg 0 [] [] [sD 10 (.mv (.t 0)),
 sD 11 (.bin .add .num (.t 10) (.c (.int .i64 1))),
 sD 12 (.un .neg (.t 11)),
 sD 13 (.cv none (.toInt .u64) (.t 12)),
 sD 14 (.bin .mul .num (.t 13) (.c (.int .u64 2))),
 sD 15 (.bin .add .num (.t 14) (.c (.int .u64 1))),
 sD 3 (.mv (.t 15))])
 .skip))
 (.seq (.reg 0 [] [] [sD 4 (.mv (.c .nilsl))])
 (.seq (.block 0 (.loop [3, 4] 24 (.seq (.seq (.reg 0 [] [] [sD 16 (.mv (.t 3)),
 sD 17 (.bin .gtr .num (.t 16) (.c (.int .u64 127)))])
 (.cond (.t 17) .skip
 (.exit 0)))
 (.block 1 (.seq (.reg 0 [] [] [sD 18 (.mv (.t 4)),
 sD 19 (.mv (.t 3)),
 sD 20 (.bin .rem .num (.t 19) (.c (.int .u64 128))),
 sD 21 (.bin .add .num (.t 20) (.c (.int .u64 128))),
 sD 22 (.cv none (.toInt .u8) (.t 21)),
 sD 23 (.mksl none 5 [(.int .u8 0)] 1 [(0, 1, (.t 22))]),
 sD 24 (.app 5 1 1 [(.int .u8 0)] (.t 18) (.t 23)),
 sD 4 (.mv (.t 24))])
 (.reg 0 [] [] [sD 25 (.mv (.t 3)),
 sD 26 (.bin .quo .num (.t 25) (.c (.int .u64 128))),
 sD 3 (.mv (.t 26))]))))))
 (.seq (.reg 0 [] [] [sD 27 (.mv (.t 4)),
 sD 28 (.mv (.t 3)),
 sD 29 (.cv none (.toInt .u8) (.t 28)),
 sD 30 (.mksl none 5 [(.int .u8 0)] 1 [(0, 1, (.t 29))]),
 sD 31 (.app 5 1 1 [(.int .u8 0)] (.t 27) (.t 30)),
 sD 2 (.mv (.t 31))])
 .ret))))))
def fn140 : IFun := ⟨32, [(.tmp 2)], an140.erase⟩
theorem ok140 : okFun Tryz.prog 140 fn140 = true := by kernel_rfl
theorem oka140 : okA fn140.ntmps fn140.results an140 = true := by kernel_rfl
def sh140 (C : CallA) (n0 : AV) (h : H) (R : AV → H → Prop) : Prop :=
 valA (cvA .u64 n0) h fun t6 h =>
 valA (binOp .mul .num t6 (.int .u64 2)) h fun t7 h =>
 joinA (fun (x3' : AV) (h : H) =>
 joinA (fun (x3'_0 : AV) (out4' : AV) (h : H) =>
 valA (cvA .u8 x3'_0) h fun t29 h =>
 mkslA h 5 1 (fillV [(.int .u8 0)] [(0, 1, t29)]) fun t30 h =>
 appendA h 5 1 1 out4' t30 fun t31 h =>
 R t31 h) fun J =>
 loopA (fun N l h => argA l 0 fun x3 => argA l 1 fun out4 => 
 valA (binOp .gtr .num x3 (.int .u64 127)) h fun t17 h =>
 condA t17
 (valA (binOp .rem .num x3 (.int .u64 128)) h fun t20 h =>
 valA (binOp .add .num t20 (.int .u64 128)) h fun t21 h =>
 valA (cvA .u8 t21) h fun t22 h =>
 mkslA h 5 1 (fillV [(.int .u8 0)] [(0, 1, t22)]) fun t23 h =>
 appendA h 5 1 1 out4 t23 fun t24 h =>
 valA (binOp .quo .num x3 (.int .u64 128)) h fun t26 h =>
 N [t26, t24] h)
 (J x3 out4 h)) [x3', .nilsl] h) fun J_1 =>
 valA (binOp .lss .num n0 (.int .i64 0)) h fun t9 h =>
 condA t9
 (valA (binOp .add .num n0 (.int .i64 1)) h fun t11 h =>
 valA (unOp .neg t11) h fun t12 h =>
 valA (cvA .u64 t12) h fun t13 h =>
 valA (binOp .mul .num t13 (.int .u64 2)) h fun t14 h =>
 valA (binOp .add .num t14 (.int .u64 1)) h fun t15 h =>
 J_1 t15 h)
 (J_1 t7 h)
theorem she140 (C : CallA) (n0 : AV) (h : H) (R : AV → H → Prop) : wpA C an140 (argE [n0]) h (outA [(.tmp 2)] R) = sh140 C n0 h R := by kernel_rfl
/-! (*bellows/code.writer).nums -/
def an141 : ACode :=
 (.reg 0 [] [] [sD 4 (.mv (.t 0)),
 sD 5 (.mv (.t 1)),
 sD 6 (.mv (.t 0)),
 sD 7 (.mkf 108 [(.t 6)] []),
 sD 8 (.call 198 [(.t 4), (.t 5), (.t 7)])])
def fn141 : IFun := ⟨9, [], an141.erase⟩
theorem ok141 : okFun Tryz.prog 141 fn141 = true := by kernel_rfl
theorem oka141 : okA fn141.ntmps fn141.results an141 = true := by kernel_rfl
def sh141 (C : CallA) (w0 l1 : AV) (h : H) (R : AV → H → Prop) : Prop :=
 C 198 [w0, l1, (.fn 108 [w0] [])] h fun t8 h =>
 R (.tup []) h
theorem she141 (C : CallA) (w0 l1 : AV) (h : H) (R : AV → H → Prop) : wpA C an141 (argE [w0, l1]) h (outA [] R) = sh141 C w0 l1 h R := by kernel_rfl
/-! bellows/code.many[bellows/api.Block] -/
def an142 : ACode :=
 (.seq (.reg 0 [] [] [sD 8 (.mv (.t 0)),
 sD 9 (.mv (.t 1)),
 sD 10 (.len false (.t 9)),
 sD 11 (.call 108 [(.t 8), (.t 10)])])
 (.seq (.reg 0 [] [] [sD 12 (.mv (.t 1)),
 sD 13 (.len false (.t 12)),
 sD 14 (.mv (.c (.int .i64 0)))])
 (.block 0 (.loop [14] 28676 (.seq (.reg 0 [] [] [sD 15 (.bin .lss .num (.t 14) (.t 13))])
 (.seq (.cond (.t 15) .skip
 (.exit 0))
 (.seq (.block 1 (.seq (.reg 0 [] [] [sD 16 (.ia none 2 (.t 12) (.t 14)),
 sD 17 (.ld (some 2) (.t 16)),
 sD 7 (.al none 42 [.nilsl, .nilsl]),
 sN (.st 2 (.t 7) (.t 17))])
 (.reg 0 [] [] [sD 18 (.mv (.t 2)),
 sD 19 (.ld (some 2) (.t 7)),
 sD 20 (.callv (.t 18) [(.t 19)])])))
 (.reg 0 [] [] [sD 21 (.bin .add .num (.t 14) (.c (.int .i64 1))),
 sD 14 (.mv (.t 21))]))))))))
def fn142 : IFun := ⟨22, [], an142.erase⟩
theorem ok142 : okFun Tryz.prog 142 fn142 = true := by kernel_rfl
theorem oka142 : okA fn142.ntmps fn142.results an142 = true := by kernel_rfl
def sh142 (C : CallA) (w0 l1 each2 : AV) (h : H) (R : AV → H → Prop) : Prop :=
 valA (lenA false l1) h fun t10 h =>
 C 108 [w0, t10] h fun t11 h =>
 valA (lenA false l1) h fun t13 h =>
 loopA (fun N l h => argA l 0 fun t14 => 
 valA (binOp .lss .num t14 t13) h fun t15 h =>
 condA t15
 (valA (iaA 2 l1 t14) h fun t16 h =>
 valA (ldA h (some 2) t16) h fun t17 h =>
 boxA h [.nilsl, .nilsl] 42 fun x7 h =>
 memA (stA h 2 x7 t17) .undef fun _ h =>
 valA (ldA h (some 2) x7) h fun t19 h =>
 callvA C each2 [t19] h fun t20 h =>
 valA (binOp .add .num t14 (.int .i64 1)) h fun t21 h =>
 N [t21] h)
 (R (.tup []) h)) [(.int .i64 0)] h
theorem she142 (C : CallA) (w0 l1 each2 : AV) (h : H) (R : AV → H → Prop) : wpA C an142 (argE [w0, l1, each2]) h (outA [] R) = sh142 C w0 l1 each2 h R := by kernel_rfl
/-! (*bellows/code.writer).block -/
def an143 : ACode :=
 (.seq (.reg 0 [] [] [sD 3 (.bx none 42 (.t 1))])
 (.seq (.reg 0 [] [] [sD 4 (.mv (.t 0)),
 sD 5 (.fa 0 (.t 3)),
 sD 6 (.ld none (.t 5)),
 sD 7 (.call 141 [(.t 4), (.t 6)])])
 (.reg 0 [] [] [sD 8 (.mv (.t 0)),
 sD 9 (.fa 1 (.t 3)),
 sD 10 (.ld none (.t 9)),
 sD 11 (.mv (.t 0)),
 sD 12 (.mkf 200 [(.t 11)] []),
 sD 13 (.call 199 [(.t 8), (.t 10), (.t 12)])])))
def fn143 : IFun := ⟨14, [], an143.erase⟩
theorem ok143 : okFun Tryz.prog 143 fn143 = true := by kernel_rfl
theorem oka143 : okA fn143.ntmps fn143.results an143 = true := by kernel_rfl
def sh143 (C : CallA) (w0 b1 : AV) (h : H) (R : AV → H → Prop) : Prop :=
 boxA h (AV.cells b1) 42 fun b3 h =>
 valA (faA 0 b3) h fun t5 h =>
 valA (ldA h none t5) h fun t6 h =>
 C 141 [w0, t6] h fun t7 h =>
 valA (faA 1 b3) h fun t9 h =>
 valA (ldA h none t9) h fun t10 h =>
 C 199 [w0, t10, (.fn 200 [w0] [])] h fun t13 h =>
 R (.tup []) h
theorem she143 (C : CallA) (w0 b1 : AV) (h : H) (R : AV → H → Prop) : wpA C an143 (argE [w0, b1]) h (outA [] R) = sh143 C w0 b1 h R := by kernel_rfl
/-! bellows/word.Put -/
def an144 : ACode :=
 (.seq (.reg 0 [] [] [sD 2 (.mv (.c .nilsl))])
 (.seq (.reg 0 [] [] [sD 5 (.mv (.t 0)),
 sD 6 (.cv none (.toInt .u64) (.t 5)),
 sD 7 (.bin .shl .num (.t 6) (.c (.int .u64 1))),
 sD 3 (.mv (.t 7))])
 (.seq (.seq (.reg 0 [] [] [sD 8 (.mv (.t 0)),
 sD 9 (.bin .lss .num (.t 8) (.c (.int .i64 0)))])
 (.cond (.t 9) (.reg 0 [] [] [sD 10 (.mv (.t 3)),
 sD 11 (.un .xor (.t 10)),
 sD 3 (.mv (.t 11))])
 .skip))
 (.seq (.reg 0 [] [] [sD 4 (.mv (.c .nilsl))])
 (.seq (.block 0 (.loop [3, 4] 24 (.seq (.seq (.reg 0 [] [] [sD 12 (.mv (.t 3)),
 sD 13 (.bin .geq .num (.t 12) (.c (.int .u64 128)))])
 (.cond (.t 13) .skip
 (.exit 0)))
 (.seq (.block 1 (.reg 0 [] [] [sD 16 (.mv (.t 4)),
 sD 17 (.mv (.t 3)),
 sD 18 (.cv none (.toInt .u8) (.t 17)),
 sD 19 (.bin .or .num (.t 18) (.c (.int .u8 128))),
 sD 20 (.mksl none 5 [(.int .u8 0)] 1 [(0, 1, (.t 19))]),
 sD 21 (.app 5 1 1 [(.int .u8 0)] (.t 16) (.t 20)),
 sD 4 (.mv (.t 21))]))
 (.reg 0 [] [] [sD 14 (.mv (.t 3)),
 sD 15 (.bin .shr .num (.t 14) (.c (.int .u64 7))),
 sD 3 (.mv (.t 15))])))))
 (.seq (.reg 0 [] [] [sD 22 (.mv (.t 4)),
 sD 23 (.mv (.t 3)),
 sD 24 (.cv none (.toInt .u8) (.t 23)),
 sD 25 (.mksl none 5 [(.int .u8 0)] 1 [(0, 1, (.t 24))]),
 sD 26 (.app 5 1 1 [(.int .u8 0)] (.t 22) (.t 25)),
 sD 2 (.mv (.t 26))])
 .ret))))))
def fn144 : IFun := ⟨27, [(.tmp 2)], an144.erase⟩
theorem ok144 : okFun Tryz.prog 144 fn144 = true := by kernel_rfl
theorem oka144 : okA fn144.ntmps fn144.results an144 = true := by kernel_rfl
def sh144 (C : CallA) (n0 : AV) (h : H) (R : AV → H → Prop) : Prop :=
 valA (cvA .u64 n0) h fun t6 h =>
 valA (binOp .shl .num t6 (.int .u64 1)) h fun t7 h =>
 joinA (fun (x3' : AV) (h : H) =>
 joinA (fun (x3'_0 : AV) (out4' : AV) (h : H) =>
 valA (cvA .u8 x3'_0) h fun t24 h =>
 mkslA h 5 1 (fillV [(.int .u8 0)] [(0, 1, t24)]) fun t25 h =>
 appendA h 5 1 1 out4' t25 fun t26 h =>
 R t26 h) fun J =>
 loopA (fun N l h => argA l 0 fun x3 => argA l 1 fun out4 => 
 valA (binOp .geq .num x3 (.int .u64 128)) h fun t13 h =>
 condA t13
 (valA (cvA .u8 x3) h fun t18 h =>
 valA (binOp .or .num t18 (.int .u8 128)) h fun t19 h =>
 mkslA h 5 1 (fillV [(.int .u8 0)] [(0, 1, t19)]) fun t20 h =>
 appendA h 5 1 1 out4 t20 fun t21 h =>
 valA (binOp .shr .num x3 (.int .u64 7)) h fun t15 h =>
 N [t15, t21] h)
 (J x3 out4 h)) [x3', .nilsl] h) fun J_1 =>
 valA (binOp .lss .num n0 (.int .i64 0)) h fun t9 h =>
 condA t9
 (valA (unOp .xor t7) h fun t11 h =>
 J_1 t11 h)
 (J_1 t7 h)
theorem she144 (C : CallA) (n0 : AV) (h : H) (R : AV → H → Prop) : wpA C an144 (argE [n0]) h (outA [(.tmp 2)] R) = sh144 C n0 h R := by kernel_rfl
/-! slices.ContainsFunc[[][]bellows/api.Type,[]bellows/api.Type] -/
def an184 : ACode :=
 (.seq (.reg 0 [] [] [sD 4 (.mv (.c (.bool false)))])
 (.seq (.reg 0 [] [] [sD 5 (.mv (.t 0)),
 sD 6 (.mv (.t 1)),
 sD 7 (.call 213 [(.t 5), (.t 6)]),
 sD 8 (.bin .geq .num (.t 7) (.c (.int .i64 0))),
 sD 4 (.mv (.t 8))])
 .ret))
def fn184 : IFun := ⟨9, [(.tmp 4)], an184.erase⟩
theorem ok184 : okFun Tryz.prog 184 fn184 = true := by kernel_rfl
theorem oka184 : okA fn184.ntmps fn184.results an184 = true := by kernel_rfl
def sh184 (C : CallA) (s0 f1 : AV) (h : H) (R : AV → H → Prop) : Prop :=
 C 213 [s0, f1] h fun t7 h =>
 valA (binOp .geq .num t7 (.int .i64 0)) h fun t8 h =>
 R t8 h
theorem she184 (C : CallA) (s0 f1 : AV) (h : H) (R : AV → H → Prop) : wpA C an184 (argE [s0, f1]) h (outA [(.tmp 4)] R) = sh184 C s0 f1 h R := by kernel_rfl
/-! bellows/code.over[bellows/api.Type]$1 -/
def an185 : ACode :=
 (.seq (.reg 0 [] [] [sD 3 (.mv (.c (.bool false)))])
 (.seq (.reg 0 [] [] [sD 4 (.mv (.t 0)),
 sD 5 (.len false (.t 4)),
 sD 6 (.ld none (.t 1)),
 sD 7 (.bin .gtr .num (.t 5) (.t 6)),
 sD 3 (.mv (.t 7))])
 .ret))
def fn185 : IFun := ⟨8, [(.tmp 3)], an185.erase⟩
theorem ok185 : okFun Tryz.prog 185 fn185 = true := by kernel_rfl
theorem oka185 : okA fn185.ntmps fn185.results an185 = true := by kernel_rfl
def sh185 (C : CallA) (l0 t1 : AV) (h : H) (R : AV → H → Prop) : Prop :=
 valA (lenA false l0) h fun t5 h =>
 valA (ldA h none t1) h fun t6 h =>
 valA (binOp .gtr .num t5 t6) h fun t7 h =>
 R t7 h
theorem she185 (C : CallA) (l0 t1 : AV) (h : H) (R : AV → H → Prop) : wpA C an185 (argE [l0, t1]) h (outA [(.tmp 3)] R) = sh185 C l0 t1 h R := by kernel_rfl
/-! slices.ContainsFunc[[][]bellows/api.Shape,[]bellows/api.Shape] -/
def an186 : ACode :=
 (.seq (.reg 0 [] [] [sD 4 (.mv (.c (.bool false)))])
 (.seq (.reg 0 [] [] [sD 5 (.mv (.t 0)),
 sD 6 (.mv (.t 1)),
 sD 7 (.call 214 [(.t 5), (.t 6)]),
 sD 8 (.bin .geq .num (.t 7) (.c (.int .i64 0))),
 sD 4 (.mv (.t 8))])
 .ret))
def fn186 : IFun := ⟨9, [(.tmp 4)], an186.erase⟩
theorem ok186 : okFun Tryz.prog 186 fn186 = true := by kernel_rfl
theorem oka186 : okA fn186.ntmps fn186.results an186 = true := by kernel_rfl
def sh186 (C : CallA) (s0 f1 : AV) (h : H) (R : AV → H → Prop) : Prop :=
 C 214 [s0, f1] h fun t7 h =>
 valA (binOp .geq .num t7 (.int .i64 0)) h fun t8 h =>
 R t8 h
theorem she186 (C : CallA) (s0 f1 : AV) (h : H) (R : AV → H → Prop) : wpA C an186 (argE [s0, f1]) h (outA [(.tmp 4)] R) = sh186 C s0 f1 h R := by kernel_rfl
/-! bellows/code.over[bellows/api.Shape]$1 -/
def an187 : ACode :=
 (.seq (.reg 0 [] [] [sD 3 (.mv (.c (.bool false)))])
 (.seq (.reg 0 [] [] [sD 4 (.mv (.t 0)),
 sD 5 (.len false (.t 4)),
 sD 6 (.ld none (.t 1)),
 sD 7 (.bin .gtr .num (.t 5) (.t 6)),
 sD 3 (.mv (.t 7))])
 .ret))
def fn187 : IFun := ⟨8, [(.tmp 3)], an187.erase⟩
theorem ok187 : okFun Tryz.prog 187 fn187 = true := by kernel_rfl
theorem oka187 : okA fn187.ntmps fn187.results an187 = true := by kernel_rfl
def sh187 (C : CallA) (l0 t1 : AV) (h : H) (R : AV → H → Prop) : Prop :=
 valA (lenA false l0) h fun t5 h =>
 valA (ldA h none t1) h fun t6 h =>
 valA (binOp .gtr .num t5 t6) h fun t7 h =>
 R t7 h
theorem she187 (C : CallA) (l0 t1 : AV) (h : H) (R : AV → H → Prop) : wpA C an187 (argE [l0, t1]) h (outA [(.tmp 3)] R) = sh187 C l0 t1 h R := by kernel_rfl
/-! slices.ContainsFunc[[][]string,[]string] -/
def an188 : ACode :=
 (.seq (.reg 0 [] [] [sD 4 (.mv (.c (.bool false)))])
 (.seq (.reg 0 [] [] [sD 5 (.mv (.t 0)),
 sD 6 (.mv (.t 1)),
 sD 7 (.call 215 [(.t 5), (.t 6)]),
 sD 8 (.bin .geq .num (.t 7) (.c (.int .i64 0))),
 sD 4 (.mv (.t 8))])
 .ret))
def fn188 : IFun := ⟨9, [(.tmp 4)], an188.erase⟩
theorem ok188 : okFun Tryz.prog 188 fn188 = true := by kernel_rfl
theorem oka188 : okA fn188.ntmps fn188.results an188 = true := by kernel_rfl
def sh188 (C : CallA) (s0 f1 : AV) (h : H) (R : AV → H → Prop) : Prop :=
 C 215 [s0, f1] h fun t7 h =>
 valA (binOp .geq .num t7 (.int .i64 0)) h fun t8 h =>
 R t8 h
theorem she188 (C : CallA) (s0 f1 : AV) (h : H) (R : AV → H → Prop) : wpA C an188 (argE [s0, f1]) h (outA [(.tmp 4)] R) = sh188 C s0 f1 h R := by kernel_rfl
/-! bellows/code.over[string]$1 -/
def an189 : ACode :=
 (.seq (.reg 0 [] [] [sD 3 (.mv (.c (.bool false)))])
 (.seq (.reg 0 [] [] [sD 4 (.mv (.t 0)),
 sD 5 (.len false (.t 4)),
 sD 6 (.ld none (.t 1)),
 sD 7 (.bin .gtr .num (.t 5) (.t 6)),
 sD 3 (.mv (.t 7))])
 .ret))
def fn189 : IFun := ⟨8, [(.tmp 3)], an189.erase⟩
theorem ok189 : okFun Tryz.prog 189 fn189 = true := by kernel_rfl
theorem oka189 : okA fn189.ntmps fn189.results an189 = true := by kernel_rfl
def sh189 (C : CallA) (l0 t1 : AV) (h : H) (R : AV → H → Prop) : Prop :=
 valA (lenA false l0) h fun t5 h =>
 valA (ldA h none t1) h fun t6 h =>
 valA (binOp .gtr .num t5 t6) h fun t7 h =>
 R t7 h
theorem she189 (C : CallA) (l0 t1 : AV) (h : H) (R : AV → H → Prop) : wpA C an189 (argE [l0, t1]) h (outA [(.tmp 3)] R) = sh189 C l0 t1 h R := by kernel_rfl
/-! slices.ContainsFunc[[][]bellows/api.Func,[]bellows/api.Func] -/
def an190 : ACode :=
 (.seq (.reg 0 [] [] [sD 4 (.mv (.c (.bool false)))])
 (.seq (.reg 0 [] [] [sD 5 (.mv (.t 0)),
 sD 6 (.mv (.t 1)),
 sD 7 (.call 216 [(.t 5), (.t 6)]),
 sD 8 (.bin .geq .num (.t 7) (.c (.int .i64 0))),
 sD 4 (.mv (.t 8))])
 .ret))
def fn190 : IFun := ⟨9, [(.tmp 4)], an190.erase⟩
theorem ok190 : okFun Tryz.prog 190 fn190 = true := by kernel_rfl
theorem oka190 : okA fn190.ntmps fn190.results an190 = true := by kernel_rfl
def sh190 (C : CallA) (s0 f1 : AV) (h : H) (R : AV → H → Prop) : Prop :=
 C 216 [s0, f1] h fun t7 h =>
 valA (binOp .geq .num t7 (.int .i64 0)) h fun t8 h =>
 R t8 h
theorem she190 (C : CallA) (s0 f1 : AV) (h : H) (R : AV → H → Prop) : wpA C an190 (argE [s0, f1]) h (outA [(.tmp 4)] R) = sh190 C s0 f1 h R := by kernel_rfl
/-! bellows/code.over[bellows/api.Func]$1 -/
def an191 : ACode :=
 (.seq (.reg 0 [] [] [sD 3 (.mv (.c (.bool false)))])
 (.seq (.reg 0 [] [] [sD 4 (.mv (.t 0)),
 sD 5 (.len false (.t 4)),
 sD 6 (.ld none (.t 1)),
 sD 7 (.bin .gtr .num (.t 5) (.t 6)),
 sD 3 (.mv (.t 7))])
 .ret))
def fn191 : IFun := ⟨8, [(.tmp 3)], an191.erase⟩
theorem ok191 : okFun Tryz.prog 191 fn191 = true := by kernel_rfl
theorem oka191 : okA fn191.ntmps fn191.results an191 = true := by kernel_rfl
def sh191 (C : CallA) (l0 t1 : AV) (h : H) (R : AV → H → Prop) : Prop :=
 valA (lenA false l0) h fun t5 h =>
 valA (ldA h none t1) h fun t6 h =>
 valA (binOp .gtr .num t5 t6) h fun t7 h =>
 R t7 h
theorem she191 (C : CallA) (l0 t1 : AV) (h : H) (R : AV → H → Prop) : wpA C an191 (argE [l0, t1]) h (outA [(.tmp 3)] R) = sh191 C l0 t1 h R := by kernel_rfl
/-! slices.ContainsFunc[[]string,string] -/
def an192 : ACode :=
 (.seq (.reg 0 [] [] [sD 4 (.mv (.c (.bool false)))])
 (.seq (.reg 0 [] [] [sD 5 (.mv (.t 0)),
 sD 6 (.mv (.t 1)),
 sD 7 (.call 217 [(.t 5), (.t 6)]),
 sD 8 (.bin .geq .num (.t 7) (.c (.int .i64 0))),
 sD 4 (.mv (.t 8))])
 .ret))
def fn192 : IFun := ⟨9, [(.tmp 4)], an192.erase⟩
theorem ok192 : okFun Tryz.prog 192 fn192 = true := by kernel_rfl
theorem oka192 : okA fn192.ntmps fn192.results an192 = true := by kernel_rfl
def sh192 (C : CallA) (s0 f1 : AV) (h : H) (R : AV → H → Prop) : Prop :=
 C 217 [s0, f1] h fun t7 h =>
 valA (binOp .geq .num t7 (.int .i64 0)) h fun t8 h =>
 R t8 h
theorem she192 (C : CallA) (s0 f1 : AV) (h : H) (R : AV → H → Prop) : wpA C an192 (argE [s0, f1]) h (outA [(.tmp 4)] R) = sh192 C s0 f1 h R := by kernel_rfl
/-! bellows/code.wide$1 -/
def an193 : ACode :=
 (.seq (.reg 0 [] [] [sD 2 (.mv (.c (.bool false)))])
 (.seq (.reg 0 [] [] [sD 3 (.mv (.t 0)),
 sD 4 (.len true (.t 3)),
 sD 5 (.bin .gtr .num (.t 4) (.c (.int .i64 16384))),
 sD 2 (.mv (.t 5))])
 .ret))
def fn193 : IFun := ⟨6, [(.tmp 2)], an193.erase⟩
theorem ok193 : okFun Tryz.prog 193 fn193 = true := by kernel_rfl
theorem oka193 : okA fn193.ntmps fn193.results an193 = true := by kernel_rfl
def sh193 (C : CallA) (s0 : AV) (h : H) (R : AV → H → Prop) : Prop :=
 valA (lenA true s0) h fun t4 h =>
 valA (binOp .gtr .num t4 (.int .i64 16384)) h fun t5 h =>
 R t5 h
theorem she193 (C : CallA) (s0 : AV) (h : H) (R : AV → H → Prop) : wpA C an193 (argE [s0]) h (outA [(.tmp 2)] R) = sh193 C s0 h R := by kernel_rfl
/-! slices.ContainsFunc[[][]int,[]int] -/
def an194 : ACode :=
 (.seq (.reg 0 [] [] [sD 4 (.mv (.c (.bool false)))])
 (.seq (.reg 0 [] [] [sD 5 (.mv (.t 0)),
 sD 6 (.mv (.t 1)),
 sD 7 (.call 218 [(.t 5), (.t 6)]),
 sD 8 (.bin .geq .num (.t 7) (.c (.int .i64 0))),
 sD 4 (.mv (.t 8))])
 .ret))
def fn194 : IFun := ⟨9, [(.tmp 4)], an194.erase⟩
theorem ok194 : okFun Tryz.prog 194 fn194 = true := by kernel_rfl
theorem oka194 : okA fn194.ntmps fn194.results an194 = true := by kernel_rfl
def sh194 (C : CallA) (s0 f1 : AV) (h : H) (R : AV → H → Prop) : Prop :=
 C 218 [s0, f1] h fun t7 h =>
 valA (binOp .geq .num t7 (.int .i64 0)) h fun t8 h =>
 R t8 h
theorem she194 (C : CallA) (s0 f1 : AV) (h : H) (R : AV → H → Prop) : wpA C an194 (argE [s0, f1]) h (outA [(.tmp 4)] R) = sh194 C s0 f1 h R := by kernel_rfl
/-! bellows/code.over[int]$1 -/
def an195 : ACode :=
 (.seq (.reg 0 [] [] [sD 3 (.mv (.c (.bool false)))])
 (.seq (.reg 0 [] [] [sD 4 (.mv (.t 0)),
 sD 5 (.len false (.t 4)),
 sD 6 (.ld none (.t 1)),
 sD 7 (.bin .gtr .num (.t 5) (.t 6)),
 sD 3 (.mv (.t 7))])
 .ret))
def fn195 : IFun := ⟨8, [(.tmp 3)], an195.erase⟩
theorem ok195 : okFun Tryz.prog 195 fn195 = true := by kernel_rfl
theorem oka195 : okA fn195.ntmps fn195.results an195 = true := by kernel_rfl
def sh195 (C : CallA) (l0 t1 : AV) (h : H) (R : AV → H → Prop) : Prop :=
 valA (lenA false l0) h fun t5 h =>
 valA (ldA h none t1) h fun t6 h =>
 valA (binOp .gtr .num t5 t6) h fun t7 h =>
 R t7 h
theorem she195 (C : CallA) (l0 t1 : AV) (h : H) (R : AV → H → Prop) : wpA C an195 (argE [l0, t1]) h (outA [(.tmp 3)] R) = sh195 C l0 t1 h R := by kernel_rfl
/-! slices.ContainsFunc[[][]bellows/api.Block,[]bellows/api.Block] -/
def an196 : ACode :=
 (.seq (.reg 0 [] [] [sD 4 (.mv (.c (.bool false)))])
 (.seq (.reg 0 [] [] [sD 5 (.mv (.t 0)),
 sD 6 (.mv (.t 1)),
 sD 7 (.call 219 [(.t 5), (.t 6)]),
 sD 8 (.bin .geq .num (.t 7) (.c (.int .i64 0))),
 sD 4 (.mv (.t 8))])
 .ret))
def fn196 : IFun := ⟨9, [(.tmp 4)], an196.erase⟩
theorem ok196 : okFun Tryz.prog 196 fn196 = true := by kernel_rfl
theorem oka196 : okA fn196.ntmps fn196.results an196 = true := by kernel_rfl
def sh196 (C : CallA) (s0 f1 : AV) (h : H) (R : AV → H → Prop) : Prop :=
 C 219 [s0, f1] h fun t7 h =>
 valA (binOp .geq .num t7 (.int .i64 0)) h fun t8 h =>
 R t8 h
theorem she196 (C : CallA) (s0 f1 : AV) (h : H) (R : AV → H → Prop) : wpA C an196 (argE [s0, f1]) h (outA [(.tmp 4)] R) = sh196 C s0 f1 h R := by kernel_rfl
/-! bellows/code.over[bellows/api.Block]$1 -/
def an197 : ACode :=
 (.seq (.reg 0 [] [] [sD 3 (.mv (.c (.bool false)))])
 (.seq (.reg 0 [] [] [sD 4 (.mv (.t 0)),
 sD 5 (.len false (.t 4)),
 sD 6 (.ld none (.t 1)),
 sD 7 (.bin .gtr .num (.t 5) (.t 6)),
 sD 3 (.mv (.t 7))])
 .ret))
def fn197 : IFun := ⟨8, [(.tmp 3)], an197.erase⟩
theorem ok197 : okFun Tryz.prog 197 fn197 = true := by kernel_rfl
theorem oka197 : okA fn197.ntmps fn197.results an197 = true := by kernel_rfl
def sh197 (C : CallA) (l0 t1 : AV) (h : H) (R : AV → H → Prop) : Prop :=
 valA (lenA false l0) h fun t5 h =>
 valA (ldA h none t1) h fun t6 h =>
 valA (binOp .gtr .num t5 t6) h fun t7 h =>
 R t7 h
theorem she197 (C : CallA) (l0 t1 : AV) (h : H) (R : AV → H → Prop) : wpA C an197 (argE [l0, t1]) h (outA [(.tmp 3)] R) = sh197 C l0 t1 h R := by kernel_rfl
/-! bellows/code.many[int] -/
def an198 : ACode :=
 (.seq (.reg 0 [] [] [sD 8 (.mv (.t 0)),
 sD 9 (.mv (.t 1)),
 sD 10 (.len false (.t 9)),
 sD 11 (.call 108 [(.t 8), (.t 10)])])
 (.seq (.reg 0 [] [] [sD 12 (.mv (.t 1)),
 sD 13 (.len false (.t 12)),
 sD 14 (.mv (.c (.int .i64 0)))])
 (.block 0 (.loop [14] 28676 (.seq (.reg 0 [] [] [sD 15 (.bin .lss .num (.t 14) (.t 13))])
 (.seq (.cond (.t 15) .skip
 (.exit 0))
 (.seq (.block 1 (.seq (.reg 0 [] [] [sD 16 (.ia none 1 (.t 12) (.t 14)),
 sD 17 (.ld none (.t 16)),
 sD 7 (.mv (.t 17))])
 (.reg 0 [] [] [sD 18 (.mv (.t 2)),
 sD 19 (.mv (.t 7)),
 sD 20 (.callv (.t 18) [(.t 19)])])))
 (.reg 0 [] [] [sD 21 (.bin .add .num (.t 14) (.c (.int .i64 1))),
 sD 14 (.mv (.t 21))]))))))))
def fn198 : IFun := ⟨22, [], an198.erase⟩
theorem ok198 : okFun Tryz.prog 198 fn198 = true := by kernel_rfl
theorem oka198 : okA fn198.ntmps fn198.results an198 = true := by kernel_rfl
def sh198 (C : CallA) (w0 l1 each2 : AV) (h : H) (R : AV → H → Prop) : Prop :=
 valA (lenA false l1) h fun t10 h =>
 C 108 [w0, t10] h fun t11 h =>
 valA (lenA false l1) h fun t13 h =>
 loopA (fun N l h => argA l 0 fun t14 => 
 valA (binOp .lss .num t14 t13) h fun t15 h =>
 condA t15
 (valA (iaA 1 l1 t14) h fun t16 h =>
 valA (ldA h none t16) h fun t17 h =>
 callvA C each2 [t17] h fun t20 h =>
 valA (binOp .add .num t14 (.int .i64 1)) h fun t21 h =>
 N [t21] h)
 (R (.tup []) h)) [(.int .i64 0)] h
theorem she198 (C : CallA) (w0 l1 each2 : AV) (h : H) (R : AV → H → Prop) : wpA C an198 (argE [w0, l1, each2]) h (outA [] R) = sh198 C w0 l1 each2 h R := by kernel_rfl
/-! bellows/code.many[bellows/api.Instr] -/
def an199 : ACode :=
 (.seq (.reg 0 [] [] [sD 8 (.mv (.t 0)),
 sD 9 (.mv (.t 1)),
 sD 10 (.len false (.t 9)),
 sD 11 (.call 108 [(.t 8), (.t 10)])])
 (.seq (.reg 0 [] [] [sD 12 (.mv (.t 1)),
 sD 13 (.len false (.t 12)),
 sD 14 (.mv (.c (.int .i64 0)))])
 (.block 0 (.loop [14] 28676 (.seq (.reg 0 [] [] [sD 15 (.bin .lss .num (.t 14) (.t 13))])
 (.seq (.cond (.t 15) .skip
 (.exit 0))
 (.seq (.block 1 (.seq (.reg 0 [] [] [sD 16 (.ia none 9 (.t 12) (.t 14)),
 sD 17 (.ld (some 9) (.t 16)),
 sD 7 (.al none 55 [(.int .i64 0), (.int .i64 0), (.int .i64 0), (.int .i64 0), (.int .i64 0), (.int .i64 0), .nilsl, .nilsl, .nilsl]),
 sN (.st 9 (.t 7) (.t 17))])
 (.reg 0 [] [] [sD 18 (.mv (.t 2)),
 sD 19 (.ld (some 9) (.t 7)),
 sD 20 (.callv (.t 18) [(.t 19)])])))
 (.reg 0 [] [] [sD 21 (.bin .add .num (.t 14) (.c (.int .i64 1))),
 sD 14 (.mv (.t 21))]))))))))
def fn199 : IFun := ⟨22, [], an199.erase⟩
theorem ok199 : okFun Tryz.prog 199 fn199 = true := by kernel_rfl
theorem oka199 : okA fn199.ntmps fn199.results an199 = true := by kernel_rfl
def sh199 (C : CallA) (w0 l1 each2 : AV) (h : H) (R : AV → H → Prop) : Prop :=
 valA (lenA false l1) h fun t10 h =>
 C 108 [w0, t10] h fun t11 h =>
 valA (lenA false l1) h fun t13 h =>
 loopA (fun N l h => argA l 0 fun t14 => 
 valA (binOp .lss .num t14 t13) h fun t15 h =>
 condA t15
 (valA (iaA 9 l1 t14) h fun t16 h =>
 valA (ldA h (some 9) t16) h fun t17 h =>
 boxA h [(.int .i64 0), (.int .i64 0), (.int .i64 0), (.int .i64 0), (.int .i64 0), (.int .i64 0), .nilsl, .nilsl, .nilsl] 55 fun x7 h =>
 memA (stA h 9 x7 t17) .undef fun _ h =>
 valA (ldA h (some 9) x7) h fun t19 h =>
 callvA C each2 [t19] h fun t20 h =>
 valA (binOp .add .num t14 (.int .i64 1)) h fun t21 h =>
 N [t21] h)
 (R (.tup []) h)) [(.int .i64 0)] h
theorem she199 (C : CallA) (w0 l1 each2 : AV) (h : H) (R : AV → H → Prop) : wpA C an199 (argE [w0, l1, each2]) h (outA [] R) = sh199 C w0 l1 each2 h R := by kernel_rfl
/-! (*bellows/code.writer).instr -/
def an200 : ACode :=
 (.seq (.reg 0 [] [] [sD 3 (.bx none 55 (.t 1))])
 (.seq (.reg 0 [] [] [sD 7 (.mv (.t 0)),
 sD 8 (.fa 0 (.t 3)),
 sD 9 (.ld none (.t 8)),
 sD 10 (.call 108 [(.t 7), (.t 9)])])
 (.seq (.reg 0 [] [] [sD 11 (.fa 0 (.t 3)),
 sD 12 (.ld none (.t 11)),
 sD 13 (.call 59 [(.t 12)]),
 sD 14 (.cv none (.s2b 5) (.t 13)),
 sD 15 (.len false (.t 14)),
 sD 16 (.mv (.c (.int .i64 0)))])
 (.block 0 (.loop [16] 114697 (.seq (.reg 0 [] [] [sD 17 (.bin .lss .num (.t 16) (.t 15))])
 (.seq (.cond (.t 17) .skip
 (.exit 0))
 (.seq (.block 1 (.seq (.reg 0 [] [] [sD 18 (.ia none 1 (.t 14) (.t 16)),
 sD 19 (.ld none (.t 18)),
 sD 5 (.mv (.t 19))])
 (.seq (.reg 0 [] [] [sD 20 (.mv (.t 5)),
 sD 21 (.bin .eql .num (.t 20) (.c (.int .u8 78)))])
 (.cond (.t 21) (.reg 0 [0, 1, 2, 3, 4, 5, 6, 7, 8, 9, 10, 11] [[], [], [1], [1, 2], [2, 1, 3], [], [5], [5, 6], [6, 5, 7, 3, 1, 2, 4], [8, 7, 6, 5, 4, 3, 2, 1, 0], [0, 1, 2, 3, 4, 5, 6, 7, 8, 9], [9, 8, 7, 6, 5, 4, 3, 2, 1, 0, 10]] [sD 22 (.mv (.t 0)),
 sD 23 (.mv (.t 0)),
 sD 24 (.nilc (.t 23)),
 sD 25 (.fa 0 (.t 24)),
 sD 26 (.ld none (.t 25)),
 sD 27 (.fa 5 (.t 3)),
 sD 28 (.ld none (.t 27)),
 ⟨(some 29), none, (.call 144 [(.t 28)]), [⟨none, (.ld none (.t 25)), 26⟩]⟩,
 sD 30 (.app 5 1 1 [(.int .u8 0)] (.t 26) (.t 29)),
 sD 31 (.nilc (.t 22)),
 sD 32 (.fa 0 (.t 31)),
 sN (.st 1 (.t 32) (.t 30))])
 (.seq (.reg 0 [] [] [sD 33 (.mv (.t 5)),
 sD 34 (.call 109 [(.t 3), (.t 33)]),
 sD 6 (.mv (.t 34))])
 (.seq (.reg 0 [] [] [sD 35 (.mv (.t 6)),
 sD 36 (.bin .neq .ptr (.t 35) (.c .nilp))])
 (.cond (.t 36) (.reg 0 [] [] [sD 37 (.mv (.t 0)),
 sD 38 (.mv (.t 6)),
 sD 39 (.nilc (.t 38)),
 sD 40 (.ld none (.t 39)),
 sD 41 (.call 108 [(.t 37), (.t 40)])])
 (.reg 0 [] [] [sD 42 (.mv (.t 0)),
 sD 43 (.mv (.t 5)),
 sD 44 (.call 110 [(.t 3), (.t 43)]),
 sD 45 (.nilc (.t 44)),
 sD 46 (.ld none (.t 45)),
 sD 47 (.call 141 [(.t 42), (.t 46)])]))))))))
 (.reg 0 [] [] [sD 48 (.bin .add .num (.t 16) (.c (.int .i64 1))),
 sD 16 (.mv (.t 48))])))))))))
def fn200 : IFun := ⟨49, [], an200.erase⟩
theorem ok200 : okFun Tryz.prog 200 fn200 = true := by kernel_rfl
theorem oka200 : okA fn200.ntmps fn200.results an200 = true := by kernel_rfl
def sh200 (C : CallA) (w0 x1 : AV) (h : H) (R : AV → H → Prop) : Prop :=
 boxA h (AV.cells x1) 55 fun x3 h =>
 valA (faA 0 x3) h fun t8 h =>
 valA (ldA h none t8) h fun t9 h =>
 C 108 [w0, t9] h fun t10 h =>
 valA (faA 0 x3) h fun t11 h =>
 valA (ldA h none t11) h fun t12 h =>
 C 59 [t12] h fun t13 h =>
 s2bA h 5 t13 fun t14 h =>
 valA (lenA false t14) h fun t15 h =>
 loopA (fun N l h => argA l 0 fun t16 => 
 valA (binOp .lss .num t16 t15) h fun t17 h =>
 condA t17
 (joinA (fun (h : H) =>
 valA (binOp .add .num t16 (.int .i64 1)) h fun t48 h =>
 N [t48] h) fun J =>
 valA (iaA 1 t14 t16) h fun t18 h =>
 valA (ldA h none t18) h fun t19 h =>
 valA (binOp .eql .num t19 (.int .u8 78)) h fun t21 h =>
 condA t21
 (valA (nilcA w0) h fun t24 h =>
 valA (faA 0 t24) h fun t25 h =>
 valA (ldA h none t25) h fun t26 h =>
 valA (faA 5 x3) h fun t27 h =>
 valA (ldA h none t27) h fun t28 h =>
 C 144 [t28] h fun t29 h =>
 againK (valA (ldA h none t25) h (fun v _ => v = t26)) <|
 appendA h 5 1 1 t26 t29 fun t30 h =>
 valA (nilcA w0) h fun t31 h =>
 valA (faA 0 t31) h fun t32 h =>
 memA (stA h 1 t32 t30) .undef fun _ h =>
 J h)
 (C 109 [x3, t19] h fun t34 h =>
 valA (binOp .neq .ptr t34 .nilp) h fun t36 h =>
 condA t36
 (valA (nilcA t34) h fun t39 h =>
 valA (ldA h none t39) h fun t40 h =>
 C 108 [w0, t40] h fun t41 h =>
 J h)
 (C 110 [x3, t19] h fun t44 h =>
 valA (nilcA t44) h fun t45 h =>
 valA (ldA h none t45) h fun t46 h =>
 C 141 [w0, t46] h fun t47 h =>
 J h)))
 (R (.tup []) h)) [(.int .i64 0)] h
theorem she200 (C : CallA) (w0 x1 : AV) (h : H) (R : AV → H → Prop) : wpA C an200 (argE [w0, x1]) h (outA [] R) = sh200 C w0 x1 h R := by kernel_rfl
/-! slices.IndexFunc[[][]bellows/api.Type,[]bellows/api.Type] -/
def an213 : ACode :=
 (.seq (.reg 0 [] [] [sD 4 (.mv (.c (.int .i64 0)))])
 (.seq (.seq (.reg 0 [] [] [sD 6 (.mv (.t 0)),
 sD 7 (.len false (.t 6)),
 sD 8 (.mv (.c (.int .i64 0)))])
 (.block 0 (.loop [8] 387 (.seq (.reg 0 [] [] [sD 9 (.bin .lss .num (.t 8) (.t 7))])
 (.seq (.cond (.t 9) .skip
 (.exit 0))
 (.seq (.block 1 (.seq (.reg 0 [] [] [sD 10 (.mv (.t 8)),
 sD 5 (.mv (.t 10))])
 (.seq (.reg 0 [] [] [sD 11 (.mv (.t 1)),
 sD 12 (.mv (.t 0)),
 sD 13 (.mv (.t 5)),
 sD 14 (.ia none 1 (.t 12) (.t 13)),
 sD 15 (.ld none (.t 14)),
 sD 16 (.callv (.t 11) [(.t 15)])])
 (.cond (.t 16) (.seq (.reg 0 [] [] [sD 17 (.mv (.t 5)),
 sD 4 (.mv (.t 17))])
 .ret)
 .skip))))
 (.reg 0 [] [] [sD 18 (.bin .add .num (.t 8) (.c (.int .i64 1))),
 sD 8 (.mv (.t 18))])))))))
 (.seq (.reg 0 [] [] [sD 4 (.mv (.c (.int .i64 (-1))))])
 .ret)))
def fn213 : IFun := ⟨19, [(.tmp 4)], an213.erase⟩
theorem ok213 : okFun Tryz.prog 213 fn213 = true := by kernel_rfl
theorem oka213 : okA fn213.ntmps fn213.results an213 = true := by kernel_rfl
def sh213 (C : CallA) (s0 f1 : AV) (h : H) (R : AV → H → Prop) : Prop :=
 joinA (fun (h : H) =>
 R (.int .i64 (-1)) h) fun J =>
 valA (lenA false s0) h fun t7 h =>
 loopA (fun N l h => argA l 0 fun t8 => 
 valA (binOp .lss .num t8 t7) h fun t9 h =>
 condA t9
 (valA (iaA 1 s0 t8) h fun t14 h =>
 valA (ldA h none t14) h fun t15 h =>
 callvA C f1 [t15] h fun t16 h =>
 condA t16
 (R t8 h)
 (valA (binOp .add .num t8 (.int .i64 1)) h fun t18 h =>
 N [t18] h))
 (J h)) [(.int .i64 0)] h
theorem she213 (C : CallA) (s0 f1 : AV) (h : H) (R : AV → H → Prop) : wpA C an213 (argE [s0, f1]) h (outA [(.tmp 4)] R) = sh213 C s0 f1 h R := by kernel_rfl
/-! slices.IndexFunc[[][]bellows/api.Shape,[]bellows/api.Shape] -/
def an214 : ACode :=
 (.seq (.reg 0 [] [] [sD 4 (.mv (.c (.int .i64 0)))])
 (.seq (.seq (.reg 0 [] [] [sD 6 (.mv (.t 0)),
 sD 7 (.len false (.t 6)),
 sD 8 (.mv (.c (.int .i64 0)))])
 (.block 0 (.loop [8] 387 (.seq (.reg 0 [] [] [sD 9 (.bin .lss .num (.t 8) (.t 7))])
 (.seq (.cond (.t 9) .skip
 (.exit 0))
 (.seq (.block 1 (.seq (.reg 0 [] [] [sD 10 (.mv (.t 8)),
 sD 5 (.mv (.t 10))])
 (.seq (.reg 0 [] [] [sD 11 (.mv (.t 1)),
 sD 12 (.mv (.t 0)),
 sD 13 (.mv (.t 5)),
 sD 14 (.ia none 1 (.t 12) (.t 13)),
 sD 15 (.ld none (.t 14)),
 sD 16 (.callv (.t 11) [(.t 15)])])
 (.cond (.t 16) (.seq (.reg 0 [] [] [sD 17 (.mv (.t 5)),
 sD 4 (.mv (.t 17))])
 .ret)
 .skip))))
 (.reg 0 [] [] [sD 18 (.bin .add .num (.t 8) (.c (.int .i64 1))),
 sD 8 (.mv (.t 18))])))))))
 (.seq (.reg 0 [] [] [sD 4 (.mv (.c (.int .i64 (-1))))])
 .ret)))
def fn214 : IFun := ⟨19, [(.tmp 4)], an214.erase⟩
theorem ok214 : okFun Tryz.prog 214 fn214 = true := by kernel_rfl
theorem oka214 : okA fn214.ntmps fn214.results an214 = true := by kernel_rfl
def sh214 (C : CallA) (s0 f1 : AV) (h : H) (R : AV → H → Prop) : Prop :=
 joinA (fun (h : H) =>
 R (.int .i64 (-1)) h) fun J =>
 valA (lenA false s0) h fun t7 h =>
 loopA (fun N l h => argA l 0 fun t8 => 
 valA (binOp .lss .num t8 t7) h fun t9 h =>
 condA t9
 (valA (iaA 1 s0 t8) h fun t14 h =>
 valA (ldA h none t14) h fun t15 h =>
 callvA C f1 [t15] h fun t16 h =>
 condA t16
 (R t8 h)
 (valA (binOp .add .num t8 (.int .i64 1)) h fun t18 h =>
 N [t18] h))
 (J h)) [(.int .i64 0)] h
theorem she214 (C : CallA) (s0 f1 : AV) (h : H) (R : AV → H → Prop) : wpA C an214 (argE [s0, f1]) h (outA [(.tmp 4)] R) = sh214 C s0 f1 h R := by kernel_rfl
/-! slices.IndexFunc[[][]string,[]string] -/
def an215 : ACode :=
 (.seq (.reg 0 [] [] [sD 4 (.mv (.c (.int .i64 0)))])
 (.seq (.seq (.reg 0 [] [] [sD 6 (.mv (.t 0)),
 sD 7 (.len false (.t 6)),
 sD 8 (.mv (.c (.int .i64 0)))])
 (.block 0 (.loop [8] 387 (.seq (.reg 0 [] [] [sD 9 (.bin .lss .num (.t 8) (.t 7))])
 (.seq (.cond (.t 9) .skip
 (.exit 0))
 (.seq (.block 1 (.seq (.reg 0 [] [] [sD 10 (.mv (.t 8)),
 sD 5 (.mv (.t 10))])
 (.seq (.reg 0 [] [] [sD 11 (.mv (.t 1)),
 sD 12 (.mv (.t 0)),
 sD 13 (.mv (.t 5)),
 sD 14 (.ia none 1 (.t 12) (.t 13)),
 sD 15 (.ld none (.t 14)),
 sD 16 (.callv (.t 11) [(.t 15)])])
 (.cond (.t 16) (.seq (.reg 0 [] [] [sD 17 (.mv (.t 5)),
 sD 4 (.mv (.t 17))])
 .ret)
 .skip))))
 (.reg 0 [] [] [sD 18 (.bin .add .num (.t 8) (.c (.int .i64 1))),
 sD 8 (.mv (.t 18))])))))))
 (.seq (.reg 0 [] [] [sD 4 (.mv (.c (.int .i64 (-1))))])
 .ret)))
def fn215 : IFun := ⟨19, [(.tmp 4)], an215.erase⟩
theorem ok215 : okFun Tryz.prog 215 fn215 = true := by kernel_rfl
theorem oka215 : okA fn215.ntmps fn215.results an215 = true := by kernel_rfl
def sh215 (C : CallA) (s0 f1 : AV) (h : H) (R : AV → H → Prop) : Prop :=
 joinA (fun (h : H) =>
 R (.int .i64 (-1)) h) fun J =>
 valA (lenA false s0) h fun t7 h =>
 loopA (fun N l h => argA l 0 fun t8 => 
 valA (binOp .lss .num t8 t7) h fun t9 h =>
 condA t9
 (valA (iaA 1 s0 t8) h fun t14 h =>
 valA (ldA h none t14) h fun t15 h =>
 callvA C f1 [t15] h fun t16 h =>
 condA t16
 (R t8 h)
 (valA (binOp .add .num t8 (.int .i64 1)) h fun t18 h =>
 N [t18] h))
 (J h)) [(.int .i64 0)] h
theorem she215 (C : CallA) (s0 f1 : AV) (h : H) (R : AV → H → Prop) : wpA C an215 (argE [s0, f1]) h (outA [(.tmp 4)] R) = sh215 C s0 f1 h R := by kernel_rfl
/-! slices.IndexFunc[[][]bellows/api.Func,[]bellows/api.Func] -/
def an216 : ACode :=
 (.seq (.reg 0 [] [] [sD 4 (.mv (.c (.int .i64 0)))])
 (.seq (.seq (.reg 0 [] [] [sD 6 (.mv (.t 0)),
 sD 7 (.len false (.t 6)),
 sD 8 (.mv (.c (.int .i64 0)))])
 (.block 0 (.loop [8] 387 (.seq (.reg 0 [] [] [sD 9 (.bin .lss .num (.t 8) (.t 7))])
 (.seq (.cond (.t 9) .skip
 (.exit 0))
 (.seq (.block 1 (.seq (.reg 0 [] [] [sD 10 (.mv (.t 8)),
 sD 5 (.mv (.t 10))])
 (.seq (.reg 0 [] [] [sD 11 (.mv (.t 1)),
 sD 12 (.mv (.t 0)),
 sD 13 (.mv (.t 5)),
 sD 14 (.ia none 1 (.t 12) (.t 13)),
 sD 15 (.ld none (.t 14)),
 sD 16 (.callv (.t 11) [(.t 15)])])
 (.cond (.t 16) (.seq (.reg 0 [] [] [sD 17 (.mv (.t 5)),
 sD 4 (.mv (.t 17))])
 .ret)
 .skip))))
 (.reg 0 [] [] [sD 18 (.bin .add .num (.t 8) (.c (.int .i64 1))),
 sD 8 (.mv (.t 18))])))))))
 (.seq (.reg 0 [] [] [sD 4 (.mv (.c (.int .i64 (-1))))])
 .ret)))
def fn216 : IFun := ⟨19, [(.tmp 4)], an216.erase⟩
theorem ok216 : okFun Tryz.prog 216 fn216 = true := by kernel_rfl
theorem oka216 : okA fn216.ntmps fn216.results an216 = true := by kernel_rfl
def sh216 (C : CallA) (s0 f1 : AV) (h : H) (R : AV → H → Prop) : Prop :=
 joinA (fun (h : H) =>
 R (.int .i64 (-1)) h) fun J =>
 valA (lenA false s0) h fun t7 h =>
 loopA (fun N l h => argA l 0 fun t8 => 
 valA (binOp .lss .num t8 t7) h fun t9 h =>
 condA t9
 (valA (iaA 1 s0 t8) h fun t14 h =>
 valA (ldA h none t14) h fun t15 h =>
 callvA C f1 [t15] h fun t16 h =>
 condA t16
 (R t8 h)
 (valA (binOp .add .num t8 (.int .i64 1)) h fun t18 h =>
 N [t18] h))
 (J h)) [(.int .i64 0)] h
theorem she216 (C : CallA) (s0 f1 : AV) (h : H) (R : AV → H → Prop) : wpA C an216 (argE [s0, f1]) h (outA [(.tmp 4)] R) = sh216 C s0 f1 h R := by kernel_rfl
/-! slices.IndexFunc[[]string,string] -/
def an217 : ACode :=
 (.seq (.reg 0 [] [] [sD 4 (.mv (.c (.int .i64 0)))])
 (.seq (.seq (.reg 0 [] [] [sD 6 (.mv (.t 0)),
 sD 7 (.len false (.t 6)),
 sD 8 (.mv (.c (.int .i64 0)))])
 (.block 0 (.loop [8] 387 (.seq (.reg 0 [] [] [sD 9 (.bin .lss .num (.t 8) (.t 7))])
 (.seq (.cond (.t 9) .skip
 (.exit 0))
 (.seq (.block 1 (.seq (.reg 0 [] [] [sD 10 (.mv (.t 8)),
 sD 5 (.mv (.t 10))])
 (.seq (.reg 0 [] [] [sD 11 (.mv (.t 1)),
 sD 12 (.mv (.t 0)),
 sD 13 (.mv (.t 5)),
 sD 14 (.ia none 1 (.t 12) (.t 13)),
 sD 15 (.ld none (.t 14)),
 sD 16 (.callv (.t 11) [(.t 15)])])
 (.cond (.t 16) (.seq (.reg 0 [] [] [sD 17 (.mv (.t 5)),
 sD 4 (.mv (.t 17))])
 .ret)
 .skip))))
 (.reg 0 [] [] [sD 18 (.bin .add .num (.t 8) (.c (.int .i64 1))),
 sD 8 (.mv (.t 18))])))))))
 (.seq (.reg 0 [] [] [sD 4 (.mv (.c (.int .i64 (-1))))])
 .ret)))
def fn217 : IFun := ⟨19, [(.tmp 4)], an217.erase⟩
theorem ok217 : okFun Tryz.prog 217 fn217 = true := by kernel_rfl
theorem oka217 : okA fn217.ntmps fn217.results an217 = true := by kernel_rfl
def sh217 (C : CallA) (s0 f1 : AV) (h : H) (R : AV → H → Prop) : Prop :=
 joinA (fun (h : H) =>
 R (.int .i64 (-1)) h) fun J =>
 valA (lenA false s0) h fun t7 h =>
 loopA (fun N l h => argA l 0 fun t8 => 
 valA (binOp .lss .num t8 t7) h fun t9 h =>
 condA t9
 (valA (iaA 1 s0 t8) h fun t14 h =>
 valA (ldA h none t14) h fun t15 h =>
 callvA C f1 [t15] h fun t16 h =>
 condA t16
 (R t8 h)
 (valA (binOp .add .num t8 (.int .i64 1)) h fun t18 h =>
 N [t18] h))
 (J h)) [(.int .i64 0)] h
theorem she217 (C : CallA) (s0 f1 : AV) (h : H) (R : AV → H → Prop) : wpA C an217 (argE [s0, f1]) h (outA [(.tmp 4)] R) = sh217 C s0 f1 h R := by kernel_rfl
/-! slices.IndexFunc[[][]int,[]int] -/
def an218 : ACode :=
 (.seq (.reg 0 [] [] [sD 4 (.mv (.c (.int .i64 0)))])
 (.seq (.seq (.reg 0 [] [] [sD 6 (.mv (.t 0)),
 sD 7 (.len false (.t 6)),
 sD 8 (.mv (.c (.int .i64 0)))])
 (.block 0 (.loop [8] 387 (.seq (.reg 0 [] [] [sD 9 (.bin .lss .num (.t 8) (.t 7))])
 (.seq (.cond (.t 9) .skip
 (.exit 0))
 (.seq (.block 1 (.seq (.reg 0 [] [] [sD 10 (.mv (.t 8)),
 sD 5 (.mv (.t 10))])
 (.seq (.reg 0 [] [] [sD 11 (.mv (.t 1)),
 sD 12 (.mv (.t 0)),
 sD 13 (.mv (.t 5)),
 sD 14 (.ia none 1 (.t 12) (.t 13)),
 sD 15 (.ld none (.t 14)),
 sD 16 (.callv (.t 11) [(.t 15)])])
 (.cond (.t 16) (.seq (.reg 0 [] [] [sD 17 (.mv (.t 5)),
 sD 4 (.mv (.t 17))])
 .ret)
 .skip))))
 (.reg 0 [] [] [sD 18 (.bin .add .num (.t 8) (.c (.int .i64 1))),
 sD 8 (.mv (.t 18))])))))))
 (.seq (.reg 0 [] [] [sD 4 (.mv (.c (.int .i64 (-1))))])
 .ret)))
def fn218 : IFun := ⟨19, [(.tmp 4)], an218.erase⟩
theorem ok218 : okFun Tryz.prog 218 fn218 = true := by kernel_rfl
theorem oka218 : okA fn218.ntmps fn218.results an218 = true := by kernel_rfl
def sh218 (C : CallA) (s0 f1 : AV) (h : H) (R : AV → H → Prop) : Prop :=
 joinA (fun (h : H) =>
 R (.int .i64 (-1)) h) fun J =>
 valA (lenA false s0) h fun t7 h =>
 loopA (fun N l h => argA l 0 fun t8 => 
 valA (binOp .lss .num t8 t7) h fun t9 h =>
 condA t9
 (valA (iaA 1 s0 t8) h fun t14 h =>
 valA (ldA h none t14) h fun t15 h =>
 callvA C f1 [t15] h fun t16 h =>
 condA t16
 (R t8 h)
 (valA (binOp .add .num t8 (.int .i64 1)) h fun t18 h =>
 N [t18] h))
 (J h)) [(.int .i64 0)] h
theorem she218 (C : CallA) (s0 f1 : AV) (h : H) (R : AV → H → Prop) : wpA C an218 (argE [s0, f1]) h (outA [(.tmp 4)] R) = sh218 C s0 f1 h R := by kernel_rfl
/-! slices.IndexFunc[[][]bellows/api.Block,[]bellows/api.Block] -/
def an219 : ACode :=
 (.seq (.reg 0 [] [] [sD 4 (.mv (.c (.int .i64 0)))])
 (.seq (.seq (.reg 0 [] [] [sD 6 (.mv (.t 0)),
 sD 7 (.len false (.t 6)),
 sD 8 (.mv (.c (.int .i64 0)))])
 (.block 0 (.loop [8] 387 (.seq (.reg 0 [] [] [sD 9 (.bin .lss .num (.t 8) (.t 7))])
 (.seq (.cond (.t 9) .skip
 (.exit 0))
 (.seq (.block 1 (.seq (.reg 0 [] [] [sD 10 (.mv (.t 8)),
 sD 5 (.mv (.t 10))])
 (.seq (.reg 0 [] [] [sD 11 (.mv (.t 1)),
 sD 12 (.mv (.t 0)),
 sD 13 (.mv (.t 5)),
 sD 14 (.ia none 1 (.t 12) (.t 13)),
 sD 15 (.ld none (.t 14)),
 sD 16 (.callv (.t 11) [(.t 15)])])
 (.cond (.t 16) (.seq (.reg 0 [] [] [sD 17 (.mv (.t 5)),
 sD 4 (.mv (.t 17))])
 .ret)
 .skip))))
 (.reg 0 [] [] [sD 18 (.bin .add .num (.t 8) (.c (.int .i64 1))),
 sD 8 (.mv (.t 18))])))))))
 (.seq (.reg 0 [] [] [sD 4 (.mv (.c (.int .i64 (-1))))])
 .ret)))
def fn219 : IFun := ⟨19, [(.tmp 4)], an219.erase⟩
theorem ok219 : okFun Tryz.prog 219 fn219 = true := by kernel_rfl
theorem oka219 : okA fn219.ntmps fn219.results an219 = true := by kernel_rfl
def sh219 (C : CallA) (s0 f1 : AV) (h : H) (R : AV → H → Prop) : Prop :=
 joinA (fun (h : H) =>
 R (.int .i64 (-1)) h) fun J =>
 valA (lenA false s0) h fun t7 h =>
 loopA (fun N l h => argA l 0 fun t8 => 
 valA (binOp .lss .num t8 t7) h fun t9 h =>
 condA t9
 (valA (iaA 1 s0 t8) h fun t14 h =>
 valA (ldA h none t14) h fun t15 h =>
 callvA C f1 [t15] h fun t16 h =>
 condA t16
 (R t8 h)
 (valA (binOp .add .num t8 (.int .i64 1)) h fun t18 h =>
 N [t18] h))
 (J h)) [(.int .i64 0)] h
theorem she219 (C : CallA) (s0 f1 : AV) (h : H) (R : AV → H → Prop) : wpA C an219 (argE [s0, f1]) h (outA [(.tmp 4)] R) = sh219 C s0 f1 h R := by kernel_rfl
end Go.Proofs.YtdljelicbnjfjaaGreat.X
