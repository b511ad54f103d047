/- The plain programs of functions, printed; that they are the model's; what must hold ahead of each. -/
import Derived.Test.YtljkkfcokpimkaaProg
import Derived.Test.YtljkkfcokpimkaaXo
set_option maxRecDepth 100000
set_option linter.unusedVariables false
namespace Go.Proofs.Ytljkkfcokpimkaa.X
open Go
/-! bellows/bellowslaw03.GcTwice -/
def an23 : ACode :=
 (.seq (.reg 0 [] [] [sD 1 (.bx none 114 (.t 0)),
 sD 2 (.mv (.c (.bool false)))])
 (.seq (.reg 0 [] [] [sD 16 (.ld (some 3) (.t 1)),
 sD 17 (.call 89 [(.t 16)]),
 sD 15 (.mv (.t 17)),
 sD 18 (.ext (.t 15) 0),
 sD 19 (.ext (.t 15) 1),
 sD 20 (.ext (.t 15) 2),
 sD 3 (.mv (.t 18)),
 sD 4 (.mv (.t 19)),
 sD 5 (.mv (.t 20))])
 (.seq (.seq (.reg 0 [] [] [sD 21 (.mv (.t 3)),
 sD 22 (.bin .eql .ptr (.t 21) (.c .nilp)),
 sD 23 (.mv (.t 22)),
 sG 24 23 false (.mv (.t 4)),
 sG 25 23 false (.mv (.t 5)),
 sG 26 23 false (.call 90 [(.t 24), (.t 25)]),
 sG 27 23 false (.un .not (.t 26)),
 sD 28 (.pick (.t 23) (.c (.bool true)) (.t 27))])
 (.cond (.t 28) (.seq (.reg 0 [] [] [sD 29 (.call 86 []),
 sD 2 (.mv (.t 29))])
 .ret)
 .skip))
 (.seq (.reg 0 [] [] [sD 31 (.mv (.t 3)),
 sD 32 (.mv (.t 5)),
 sD 33 (.call 88 [(.t 31), (.t 32)]),
 sD 30 (.mv (.t 33)),
 sD 34 (.ext (.t 30) 0),
 sD 35 (.ext (.t 30) 1),
 sD 6 (.mv (.t 34)),
 sD 7 (.mv (.t 35))])
 (.seq (.reg 0 [] [] [sD 37 (.mv (.t 3)),
 sD 38 (.mv (.t 5)),
 sD 39 (.call 84 [(.t 37), (.t 38)]),
 sD 36 (.mv (.t 39)),
 sD 40 (.ext (.t 36) 0),
 sD 41 (.ext (.t 36) 1),
 sD 8 (.mv (.t 40)),
 sD 9 (.mv (.t 41))])
 (.seq (.seq (.reg 0 [] [] [sD 42 (.mv (.t 7)),
 sD 43 (.bin .neq .num (.t 42) (.c (.int .i64 0))),
 sD 44 (.mv (.t 43)),
 sG 45 44 false (.mv (.t 9)),
 sG 46 44 false (.bin .neq .num (.t 45) (.c (.int .i64 0))),
 sD 47 (.pick (.t 44) (.c (.bool true)) (.t 46)),
 sD 48 (.mv (.t 47)),
 sG 49 48 false (.mv (.t 3)),
 sG 50 48 false (.call 57 [(.t 49)]),
 sG 51 48 false (.mv (.t 6)),
 sG 52 48 false (.bin .neq .num (.t 50) (.t 51)),
 sD 53 (.pick (.t 48) (.c (.bool true)) (.t 52)),
 sD 54 (.mv (.t 53)),
 sG 55 54 false (.mv (.t 6)),
 sG 56 54 false (.mv (.t 4)),
 sG 57 54 false (.call 75 [(.t 56)]),
 sG 58 54 false (.bin .gtr .num (.t 55) (.t 57)),
 sD 59 (.pick (.t 54) (.c (.bool true)) (.t 58))])
 (.cond (.t 59) (.seq (.reg 0 [] [] [sD 2 (.mv (.c (.bool false)))])
 .ret)
 .skip))
 (.seq (.reg 0 [] [] [sD 10 (.mv (.c .nilsl))])
 (.seq (.seq (.reg 0 [] [] [sD 60 (.mv (.t 3)),
 sD 61 (.call 58 [(.t 60)]),
 sD 62 (.mv (.c (.int .i64 0)))])
 (.block 0 (.loop [10, 62] 6917529027641083208 (.seq (.reg 0 [] [] [sD 63 (.bin .lss .num (.t 62) (.t 61))])
 (.seq (.cond (.t 63) .skip
 (.exit 0))
 (.seq (.block 1 (.seq (.reg 0 [] [] [sD 64 (.mv (.t 62)),
 sD 11 (.mv (.t 64))])
 (.reg 0 [] [] [sD 65 (.mv (.t 10)),
 sD 66 (.mv (.t 3)),
 sD 67 (.mv (.t 11)),
 sD 68 (.call 62 [(.t 66), (.t 67)]),
 sD 69 (.mksl none 25 [(.int .u64 0)] 1 [(0, 1, (.t 68))]),
 sD 70 (.app 25 1 8 [(.int .u64 0)] (.t 65) (.t 69)),
 sD 10 (.mv (.t 70))])))
 (.reg 0 [] [] [sD 71 (.bin .add .num (.t 62) (.c (.int .i64 1))),
 sD 62 (.mv (.t 71))])))))))
 (.seq (.reg 0 [] [] [sD 73 (.mv (.t 3)),
 sD 74 (.mv (.t 8)),
 sD 75 (.call 84 [(.t 73), (.t 74)]),
 sD 72 (.mv (.t 75)),
 sD 76 (.ext (.t 72) 0),
 sD 77 (.ext (.t 72) 1),
 sD 12 (.mv (.t 76)),
 sD 13 (.mv (.t 77))])
 (.seq (.seq (.reg 0 [] [] [sD 78 (.mv (.t 13)),
 sD 79 (.bin .neq .num (.t 78) (.c (.int .i64 0))),
 sD 80 (.mv (.t 79)),
 sG 81 80 false (.mv (.t 8)),
 sG 82 80 false (.mv (.t 12)),
 sG 83 80 false (.call 92 [(.t 81), (.t 82)]),
 sG 84 80 false (.un .not (.t 83)),
 sD 85 (.pick (.t 80) (.c (.bool true)) (.t 84)),
 sD 86 (.mv (.t 85)),
 sG 87 86 false (.mv (.t 3)),
 sG 88 86 false (.call 57 [(.t 87)]),
 sG 89 86 false (.mv (.t 6)),
 sG 90 86 false (.bin .neq .num (.t 88) (.t 89)),
 sD 91 (.pick (.t 86) (.c (.bool true)) (.t 90))])
 (.cond (.t 91) (.seq (.reg 0 [] [] [sD 2 (.mv (.c (.bool false)))])
 .ret)
 .skip))
 (.seq (.seq (.reg 0 [] [] [sD 92 (.mv (.t 10)),
 sD 93 (.len false (.t 92)),
 sD 94 (.mv (.c (.int .i64 0)))])
 (.block 2 (.loop [94] 29710560942849126597578982408 (.seq (.reg 0 [] [] [sD 95 (.bin .lss .num (.t 94) (.t 93))])
 (.seq (.cond (.t 95) .skip
 (.exit 2))
 (.seq (.block 3 (.seq (.reg 0 [] [] [sD 96 (.mv (.t 94)),
 sD 14 (.mv (.t 96))])
 (.seq (.reg 0 [0, 1, 3, 4, 5, 6, 2, 7] [[], [], [1, 0], [], [], [4, 3], [3, 4, 5], [5, 4, 3, 6, 0, 1, 2]] [sD 97 (.mv (.t 3)),
 sD 98 (.mv (.t 14)),
 sD 100 (.mv (.t 10)),
 sD 101 (.mv (.t 14)),
 sD 102 (.ia none 1 (.t 100) (.t 101)),
 sD 103 (.ld none (.t 102)),
 ⟨(some 99), none, (.call 62 [(.t 97), (.t 98)]), [⟨none, (.ld none (.t 102)), 103⟩]⟩,
 sD 104 (.bin .neq .num (.t 99) (.t 103))])
 (.cond (.t 104) (.seq (.reg 0 [] [] [sD 2 (.mv (.c (.bool false)))])
 .ret)
 .skip))))
 (.reg 0 [] [] [sD 105 (.bin .add .num (.t 94) (.c (.int .i64 1))),
 sD 94 (.mv (.t 105))])))))))
 (.seq (.reg 0 [] [] [sD 106 (.call 86 []),
 sD 2 (.mv (.t 106))])
 .ret))))))))))))
def fn23 : IFun := ⟨107, [(.tmp 2)], an23.erase⟩
theorem ok23 : okFun Try.prog 23 fn23 = true := by kernel_rfl
theorem oka23 : okA fn23.ntmps fn23.results an23 = true := by kernel_rfl
def sh23 (C : CallA) (c0 : AV) (h : H) (R : AV → H → Prop) : Prop :=
 boxA h (AV.cells c0) 114 fun c1 h =>
 valA (ldA h (some 3) c1) h fun t16 h =>
 C 89 [t16] h fun t17 h =>
 valA (extA t17 0) h fun t18 h =>
 valA (extA t17 1) h fun t19 h =>
 valA (extA t17 2) h fun t20 h =>
 valA (binOp .eql .ptr t18 .nilp) h fun t22 h =>
 whenA t22 false (fun K => K t19 h) h fun t24 h =>
 whenA t22 false (fun K => K t20 h) h fun t25 h =>
 whenA t22 false (fun K => C 90 [t24, t25] h K) h fun t26 h =>
 whenA t22 false (fun K => valA (unOp .not t26) h K) h fun t27 h =>
 valA (pickA t22 (.bool true) t27) h fun t28 h =>
 condA t28
 (C 86 [] h fun t29 h =>
 R t29 h)
 (C 88 [t18, t20] h fun t33 h =>
 valA (extA t33 0) h fun t34 h =>
 valA (extA t33 1) h fun t35 h =>
 C 84 [t18, t20] h fun t39 h =>
 valA (extA t39 0) h fun t40 h =>
 valA (extA t39 1) h fun t41 h =>
 valA (binOp .neq .num t35 (.int .i64 0)) h fun t43 h =>
 whenA t43 false (fun K => K t41 h) h fun t45 h =>
 whenA t43 false (fun K => valA (binOp .neq .num t45 (.int .i64 0)) h K) h fun t46 h =>
 valA (pickA t43 (.bool true) t46) h fun t47 h =>
 whenA t47 false (fun K => K t18 h) h fun t49 h =>
 whenA t47 false (fun K => C 57 [t49] h K) h fun t50 h =>
 whenA t47 false (fun K => K t34 h) h fun t51 h =>
 whenA t47 false (fun K => valA (binOp .neq .num t50 t51) h K) h fun t52 h =>
 valA (pickA t47 (.bool true) t52) h fun t53 h =>
 whenA t53 false (fun K => K t34 h) h fun t55 h =>
 whenA t53 false (fun K => K t19 h) h fun t56 h =>
 whenA t53 false (fun K => C 75 [t56] h K) h fun t57 h =>
 whenA t53 false (fun K => valA (binOp .gtr .num t55 t57) h K) h fun t58 h =>
 valA (pickA t53 (.bool true) t58) h fun t59 h =>
 condA t59
 (R (.bool false) h)
 (joinA (fun (before10' : AV) (h : H) =>
 C 84 [t18, t40] h fun t75 h =>
 valA (extA t75 0) h fun t76 h =>
 valA (extA t75 1) h fun t77 h =>
 valA (binOp .neq .num t77 (.int .i64 0)) h fun t79 h =>
 whenA t79 false (fun K => K t40 h) h fun t81 h =>
 whenA t79 false (fun K => K t76 h) h fun t82 h =>
 whenA t79 false (fun K => C 92 [t81, t82] h K) h fun t83 h =>
 whenA t79 false (fun K => valA (unOp .not t83) h K) h fun t84 h =>
 valA (pickA t79 (.bool true) t84) h fun t85 h =>
 whenA t85 false (fun K => K t18 h) h fun t87 h =>
 whenA t85 false (fun K => C 57 [t87] h K) h fun t88 h =>
 whenA t85 false (fun K => K t34 h) h fun t89 h =>
 whenA t85 false (fun K => valA (binOp .neq .num t88 t89) h K) h fun t90 h =>
 valA (pickA t85 (.bool true) t90) h fun t91 h =>
 condA t91
 (R (.bool false) h)
 (joinA (fun (h : H) =>
 C 86 [] h fun t106 h =>
 R t106 h) fun J =>
 valA (lenA false before10') h fun t93 h =>
 loopA (fun N l h => argA l 0 fun t94 => 
 valA (binOp .lss .num t94 t93) h fun t95 h =>
 condA t95
 (valA (iaA 1 before10' t94) h fun t102 h =>
 valA (ldA h none t102) h fun t103 h =>
 C 62 [t18, t94] h fun t99 h =>
 againK (valA (ldA h none t102) h (fun v _ => v = t103)) <|
 valA (binOp .neq .num t99 t103) h fun t104 h =>
 condA t104
 (R (.bool false) h)
 (valA (binOp .add .num t94 (.int .i64 1)) h fun t105 h =>
 N [t105] h))
 (J h)) [(.int .i64 0)] h)) fun J_0 =>
 C 58 [t18] h fun t61 h =>
 loopA (fun N_1 l h => argA l 0 fun before10 => argA l 1 fun t62 => 
 valA (binOp .lss .num t62 t61) h fun t63 h =>
 condA t63
 (C 62 [t18, t62] h fun t68 h =>
 mkslA h 25 1 (fillV [(.int .u64 0)] [(0, 1, t68)]) fun t69 h =>
 appendA h 25 1 8 before10 t69 fun t70 h =>
 valA (binOp .add .num t62 (.int .i64 1)) h fun t71 h =>
 N_1 [t70, t71] h)
 (J_0 before10 h)) [.nilsl, (.int .i64 0)] h))
theorem she23 (C : CallA) (c0 : AV) (h : H) (R : AV → H → Prop) : wpA C an23 (argE [c0]) h (outA [(.tmp 2)] R) = sh23 C c0 h R := by kernel_rfl
/-! bellows/bellowslaw03.GcSame -/
def an27 : ACode :=
 (.seq (.reg 0 [] [] [sD 1 (.bx none 114 (.t 0)),
 sD 2 (.mv (.c (.bool false)))])
 (.seq (.reg 0 [] [] [sD 10 (.ld (some 3) (.t 1)),
 sD 11 (.call 89 [(.t 10)]),
 sD 9 (.mv (.t 11)),
 sD 12 (.ext (.t 9) 0),
 sD 13 (.ext (.t 9) 1),
 sD 14 (.ext (.t 9) 2),
 sD 3 (.mv (.t 12)),
 sD 4 (.mv (.t 13)),
 sD 5 (.mv (.t 14))])
 (.seq (.seq (.reg 0 [] [] [sD 15 (.mv (.t 3)),
 sD 16 (.bin .eql .ptr (.t 15) (.c .nilp)),
 sD 17 (.mv (.t 16)),
 sG 18 17 false (.mv (.t 4)),
 sG 19 17 false (.mv (.t 5)),
 sG 20 17 false (.call 90 [(.t 18), (.t 19)]),
 sG 21 17 false (.un .not (.t 20)),
 sD 22 (.pick (.t 17) (.c (.bool true)) (.t 21))])
 (.cond (.t 22) (.seq (.reg 0 [] [] [sD 23 (.call 86 []),
 sD 2 (.mv (.t 23))])
 .ret)
 .skip))
 (.seq (.reg 0 [] [] [sD 24 (.mv (.t 3)),
 sD 25 (.mv (.t 5)),
 sD 26 (.call 94 [(.t 24), (.t 25)]),
 sD 6 (.mv (.t 26))])
 (.seq (.reg 0 [] [] [sD 28 (.mv (.t 3)),
 sD 29 (.mv (.t 5)),
 sD 30 (.call 84 [(.t 28), (.t 29)]),
 sD 27 (.mv (.t 30)),
 sD 31 (.ext (.t 27) 0),
 sD 32 (.ext (.t 27) 1),
 sD 7 (.mv (.t 31)),
 sD 8 (.mv (.t 32))])
 (.seq (.reg 0 [] [] [sD 33 (.mv (.t 8)),
 sD 34 (.bin .eql .num (.t 33) (.c (.int .i64 0))),
 sD 35 (.mv (.t 34)),
 sG 36 35 true (.mv (.t 6)),
 sG 37 35 true (.mv (.t 3)),
 sG 38 35 true (.mv (.t 7)),
 sG 39 35 true (.call 94 [(.t 37), (.t 38)]),
 sG 40 35 true (.call 92 [(.t 36), (.t 39)]),
 sD 41 (.pick (.t 35) (.t 40) (.c (.bool false))),
 sD 42 (.mv (.t 41)),
 sG 43 42 true (.call 86 []),
 sD 44 (.pick (.t 42) (.t 43) (.c (.bool false))),
 sD 2 (.mv (.t 44))])
 .ret))))))
def fn27 : IFun := ⟨45, [(.tmp 2)], an27.erase⟩
theorem ok27 : okFun Try.prog 27 fn27 = true := by kernel_rfl
theorem oka27 : okA fn27.ntmps fn27.results an27 = true := by kernel_rfl
def sh27 (C : CallA) (c0 : AV) (h : H) (R : AV → H → Prop) : Prop :=
 boxA h (AV.cells c0) 114 fun c1 h =>
 valA (ldA h (some 3) c1) h fun t10 h =>
 C 89 [t10] h fun t11 h =>
 valA (extA t11 0) h fun t12 h =>
 valA (extA t11 1) h fun t13 h =>
 valA (extA t11 2) h fun t14 h =>
 valA (binOp .eql .ptr t12 .nilp) h fun t16 h =>
 whenA t16 false (fun K => K t13 h) h fun t18 h =>
 whenA t16 false (fun K => K t14 h) h fun t19 h =>
 whenA t16 false (fun K => C 90 [t18, t19] h K) h fun t20 h =>
 whenA t16 false (fun K => valA (unOp .not t20) h K) h fun t21 h =>
 valA (pickA t16 (.bool true) t21) h fun t22 h =>
 condA t22
 (C 86 [] h fun t23 h =>
 R t23 h)
 (C 94 [t12, t14] h fun t26 h =>
 C 84 [t12, t14] h fun t30 h =>
 valA (extA t30 0) h fun t31 h =>
 valA (extA t30 1) h fun t32 h =>
 valA (binOp .eql .num t32 (.int .i64 0)) h fun t34 h =>
 whenA t34 true (fun K => K t26 h) h fun t36 h =>
 whenA t34 true (fun K => K t12 h) h fun t37 h =>
 whenA t34 true (fun K => K t31 h) h fun t38 h =>
 whenA t34 true (fun K => C 94 [t37, t38] h K) h fun t39 h =>
 whenA t34 true (fun K => C 92 [t36, t39] h K) h fun t40 h =>
 valA (pickA t34 t40 (.bool false)) h fun t41 h =>
 whenA t41 true (fun K => C 86 [] h K) h fun t43 h =>
 valA (pickA t41 t43 (.bool false)) h fun t44 h =>
 R t44 h)
theorem she27 (C : CallA) (c0 : AV) (h : H) (R : AV → H → Prop) : wpA C an27 (argE [c0]) h (outA [(.tmp 2)] R) = sh27 C c0 h R := by kernel_rfl
/-! bellows/word.Head -/
def an31 : ACode :=
 (.seq (.reg 0 [] [] [sD 4 (.mv (.c (.int .u64 0)))])
 (.seq (.reg 0 [] [] [sD 5 (.mv (.t 0)),
 sD 6 (.cv none (.toInt .u64) (.t 5)),
 sD 7 (.bin .and .num (.t 6) (.c (.int .u64 1048575))),
 sD 8 (.bin .shl .num (.t 7) (.c (.int .u64 1))),
 sD 9 (.mv (.t 1)),
 sD 10 (.cv none (.toInt .u64) (.t 9)),
 sD 11 (.bin .and .num (.t 10) (.c (.int .u64 1048575))),
 sD 12 (.bin .shl .num (.t 11) (.c (.int .u64 21))),
 sD 13 (.bin .or .num (.t 8) (.t 12)),
 sD 14 (.bin .or .num (.t 13) (.c (.int .u64 1))),
 sD 4 (.mv (.t 14))])
 .ret))
def fn31 : IFun := ⟨15, [(.tmp 4)], an31.erase⟩
theorem ok31 : okFun Try.prog 31 fn31 = true := by kernel_rfl
theorem oka31 : okA fn31.ntmps fn31.results an31 = true := by kernel_rfl
def sh31 (C : CallA) (shape0 n1 : AV) (h : H) (R : AV → H → Prop) : Prop :=
 valA (cvA .u64 shape0) h fun t6 h =>
 valA (binOp .and .num t6 (.int .u64 1048575)) h fun t7 h =>
 valA (binOp .shl .num t7 (.int .u64 1)) h fun t8 h =>
 valA (cvA .u64 n1) h fun t10 h =>
 valA (binOp .and .num t10 (.int .u64 1048575)) h fun t11 h =>
 valA (binOp .shl .num t11 (.int .u64 21)) h fun t12 h =>
 valA (binOp .or .num t8 t12) h fun t13 h =>
 valA (binOp .or .num t13 (.int .u64 1)) h fun t14 h =>
 R t14 h
theorem she31 (C : CallA) (shape0 n1 : AV) (h : H) (R : AV → H → Prop) : wpA C an31 (argE [shape0, n1]) h (outA [(.tmp 4)] R) = sh31 C shape0 n1 h R := by kernel_rfl
/-! bellows/word.Shape -/
def an33 : ACode :=
 (.seq (.reg 0 [] [] [sD 2 (.mv (.c (.int .i64 0)))])
 (.seq (.reg 0 [] [] [sD 3 (.mv (.t 0)),
 sD 4 (.bin .shr .num (.t 3) (.c (.int .u64 1))),
 sD 5 (.bin .and .num (.t 4) (.c (.int .u64 1048575))),
 sD 6 (.cv none (.toInt .i64) (.t 5)),
 sD 2 (.mv (.t 6))])
 .ret))
def fn33 : IFun := ⟨7, [(.tmp 2)], an33.erase⟩
theorem ok33 : okFun Try.prog 33 fn33 = true := by kernel_rfl
theorem oka33 : okA fn33.ntmps fn33.results an33 = true := by kernel_rfl
def sh33 (C : CallA) (h0 : AV) (h : H) (R : AV → H → Prop) : Prop :=
 valA (binOp .shr .num h0 (.int .u64 1)) h fun t4 h =>
 valA (binOp .and .num t4 (.int .u64 1048575)) h fun t5 h =>
 valA (cvA .i64 t5) h fun t6 h =>
 R t6 h
theorem she33 (C : CallA) (h0 : AV) (h : H) (R : AV → H → Prop) : wpA C an33 (argE [h0]) h (outA [(.tmp 2)] R) = sh33 C h0 h R := by kernel_rfl
/-! bellows/word.Len -/
def an35 : ACode :=
 (.seq (.reg 0 [] [] [sD 2 (.mv (.c (.int .i64 0)))])
 (.seq (.reg 0 [] [] [sD 3 (.mv (.t 0)),
 sD 4 (.bin .shr .num (.t 3) (.c (.int .u64 21))),
 sD 5 (.bin .and .num (.t 4) (.c (.int .u64 1048575))),
 sD 6 (.cv none (.toInt .i64) (.t 5)),
 sD 2 (.mv (.t 6))])
 .ret))
def fn35 : IFun := ⟨7, [(.tmp 2)], an35.erase⟩
theorem ok35 : okFun Try.prog 35 fn35 = true := by kernel_rfl
theorem oka35 : okA fn35.ntmps fn35.results an35 = true := by kernel_rfl
def sh35 (C : CallA) (h0 : AV) (h : H) (R : AV → H → Prop) : Prop :=
 valA (binOp .shr .num h0 (.int .u64 21)) h fun t4 h =>
 valA (binOp .and .num t4 (.int .u64 1048575)) h fun t5 h =>
 valA (cvA .i64 t5) h fun t6 h =>
 R t6 h
theorem she35 (C : CallA) (h0 : AV) (h : H) (R : AV → H → Prop) : wpA C an35 (argE [h0]) h (outA [(.tmp 2)] R) = sh35 C h0 h R := by kernel_rfl
/-! bellows/word.Marked -/
def an36 : ACode :=
 (.seq (.reg 0 [] [] [sD 2 (.mv (.c (.bool false)))])
 (.seq (.reg 0 [] [] [sD 3 (.mv (.t 0)),
 sD 4 (.bin .shr .num (.t 3) (.c (.int .u64 41))),
 sD 5 (.bin .and .num (.t 4) (.c (.int .u64 1))),
 sD 6 (.bin .eql .num (.t 5) (.c (.int .u64 1))),
 sD 2 (.mv (.t 6))])
 .ret))
def fn36 : IFun := ⟨7, [(.tmp 2)], an36.erase⟩
theorem ok36 : okFun Try.prog 36 fn36 = true := by kernel_rfl
theorem oka36 : okA fn36.ntmps fn36.results an36 = true := by kernel_rfl
def sh36 (C : CallA) (h0 : AV) (h : H) (R : AV → H → Prop) : Prop :=
 valA (binOp .shr .num h0 (.int .u64 41)) h fun t4 h =>
 valA (binOp .and .num t4 (.int .u64 1)) h fun t5 h =>
 valA (binOp .eql .num t5 (.int .u64 1)) h fun t6 h =>
 R t6 h
theorem she36 (C : CallA) (h0 : AV) (h : H) (R : AV → H → Prop) : wpA C an36 (argE [h0]) h (outA [(.tmp 2)] R) = sh36 C h0 h R := by kernel_rfl
/-! bellows/word.Turned -/
def an37 : ACode :=
 (.seq (.reg 0 [] [] [sD 2 (.mv (.c (.int .i64 0)))])
 (.seq (.reg 0 [] [] [sD 3 (.mv (.t 0)),
 sD 4 (.bin .shr .num (.t 3) (.c (.int .u64 42))),
 sD 5 (.bin .and .num (.t 4) (.c (.int .u64 1048575))),
 sD 6 (.cv none (.toInt .i64) (.t 5)),
 sD 2 (.mv (.t 6))])
 .ret))
def fn37 : IFun := ⟨7, [(.tmp 2)], an37.erase⟩
theorem ok37 : okFun Try.prog 37 fn37 = true := by kernel_rfl
theorem oka37 : okA fn37.ntmps fn37.results an37 = true := by kernel_rfl
def sh37 (C : CallA) (h0 : AV) (h : H) (R : AV → H → Prop) : Prop :=
 valA (binOp .shr .num h0 (.int .u64 42)) h fun t4 h =>
 valA (binOp .and .num t4 (.int .u64 1048575)) h fun t5 h =>
 valA (cvA .i64 t5) h fun t6 h =>
 R t6 h
theorem she37 (C : CallA) (h0 : AV) (h : H) (R : AV → H → Prop) : wpA C an37 (argE [h0]) h (outA [(.tmp 2)] R) = sh37 C h0 h R := by kernel_rfl
/-! bellows/word.Mark -/
def an41 : ACode :=
 (.seq (.reg 0 [] [] [sD 4 (.mv (.c (.int .u64 0)))])
 (.seq (.reg 0 [] [] [sD 5 (.mv (.t 0)),
 sD 6 (.bin .andNot .num (.t 5) (.c (.int .u64 2199023255552))),
 sD 0 (.mv (.t 6))])
 (.seq (.seq (.reg 0 [] [] [sD 7 (.mv (.t 1))])
 (.cond (.t 7) (.reg 0 [] [] [sD 8 (.mv (.t 0)),
 sD 9 (.bin .or .num (.t 8) (.c (.int .u64 2199023255552))),
 sD 0 (.mv (.t 9))])
 .skip))
 (.seq (.reg 0 [] [] [sD 10 (.mv (.t 0)),
 sD 4 (.mv (.t 10))])
 .ret))))
def fn41 : IFun := ⟨11, [(.tmp 4)], an41.erase⟩
theorem ok41 : okFun Try.prog 41 fn41 = true := by kernel_rfl
theorem oka41 : okA fn41.ntmps fn41.results an41 = true := by kernel_rfl
def sh41 (C : CallA) (h0 on1 : AV) (h : H) (R : AV → H → Prop) : Prop :=
 valA (binOp .andNot .num h0 (.int .u64 2199023255552)) h fun t6 h =>
 joinA (fun (h0' : AV) (h : H) =>
 R h0' h) fun J =>
 condA on1
 (valA (binOp .or .num t6 (.int .u64 2199023255552)) h fun t9 h =>
 J t9 h)
 (J t6 h)
theorem she41 (C : CallA) (h0 on1 : AV) (h : H) (R : AV → H → Prop) : wpA C an41 (argE [h0, on1]) h (outA [(.tmp 4)] R) = sh41 C h0 on1 h R := by kernel_rfl
/-! bellows/word.Turn -/
def an43 : ACode :=
 (.seq (.reg 0 [] [] [sD 4 (.mv (.c (.int .u64 0)))])
 (.seq (.reg 0 [] [] [sD 5 (.mv (.t 0)),
 sD 6 (.bin .andNot .num (.t 5) (.c (.int .u64 4611681620380876800))),
 sD 7 (.mv (.t 1)),
 sD 8 (.cv none (.toInt .u64) (.t 7)),
 sD 9 (.bin .and .num (.t 8) (.c (.int .u64 1048575))),
 sD 10 (.bin .shl .num (.t 9) (.c (.int .u64 42))),
 sD 11 (.bin .or .num (.t 6) (.t 10)),
 sD 4 (.mv (.t 11))])
 .ret))
def fn43 : IFun := ⟨12, [(.tmp 4)], an43.erase⟩
theorem ok43 : okFun Try.prog 43 fn43 = true := by kernel_rfl
theorem oka43 : okA fn43.ntmps fn43.results an43 = true := by kernel_rfl
def sh43 (C : CallA) (h0 k1 : AV) (h : H) (R : AV → H → Prop) : Prop :=
 valA (binOp .andNot .num h0 (.int .u64 4611681620380876800)) h fun t6 h =>
 valA (cvA .u64 k1) h fun t8 h =>
 valA (binOp .and .num t8 (.int .u64 1048575)) h fun t9 h =>
 valA (binOp .shl .num t9 (.int .u64 42)) h fun t10 h =>
 valA (binOp .or .num t6 t10) h fun t11 h =>
 R t11 h
theorem she43 (C : CallA) (h0 k1 : AV) (h : H) (R : AV → H → Prop) : wpA C an43 (argE [h0, k1]) h (outA [(.tmp 4)] R) = sh43 C h0 k1 h R := by kernel_rfl
/-! bellows/word.IsImm -/
def an48 : ACode :=
 (.seq (.reg 0 [] [] [sD 2 (.mv (.c (.bool false)))])
 (.seq (.reg 0 [] [] [sD 3 (.mv (.t 0)),
 sD 4 (.bin .and .num (.t 3) (.c (.int .u64 1))),
 sD 5 (.bin .eql .num (.t 4) (.c (.int .u64 1))),
 sD 2 (.mv (.t 5))])
 .ret))
def fn48 : IFun := ⟨6, [(.tmp 2)], an48.erase⟩
theorem ok48 : okFun Try.prog 48 fn48 = true := by kernel_rfl
theorem oka48 : okA fn48.ntmps fn48.results an48 = true := by kernel_rfl
def sh48 (C : CallA) (w0 : AV) (h : H) (R : AV → H → Prop) : Prop :=
 valA (binOp .and .num w0 (.int .u64 1)) h fun t4 h =>
 valA (binOp .eql .num t4 (.int .u64 1)) h fun t5 h =>
 R t5 h
theorem she48 (C : CallA) (w0 : AV) (h : H) (R : AV → H → Prop) : wpA C an48 (argE [w0]) h (outA [(.tmp 2)] R) = sh48 C w0 h R := by kernel_rfl
/-! bellows/heap.New -/
def an49 : ACode :=
 (.seq (.reg 0 [] [] [sD 4 (.mv (.c .nilp)),
 sD 5 (.mv (.c (.int .i64 0)))])
 (.seq (.seq (.reg 0 [] [] [sD 8 (.mv (.t 0)),
 sD 9 (.bin .lss .num (.t 8) (.c (.int .i64 0))),
 sD 10 (.mv (.t 9)),
 sG 11 10 false (.mv (.t 0)),
 sG 12 10 false (.bin .gtr .num (.t 11) (.c (.int .i64 65536))),
 sD 13 (.pick (.t 10) (.c (.bool true)) (.t 12))])
 (.cond (.t 13) (.seq (.reg 0 [] [] [sD 4 (.mv (.c .nilp)),
 sD 5 (.mv (.c (.int .i64 1)))])
 .ret)
 .skip))
 (.seq (.seq (.reg 0 [] [] [sD 14 (.mv (.t 1)),
 sD 15 (.len false (.t 14)),
 sD 16 (.bin .gtr .num (.t 15) (.c (.int .i64 512)))])
 (.cond (.t 16) (.seq (.reg 0 [] [] [sD 4 (.mv (.c .nilp)),
 sD 5 (.mv (.c (.int .i64 2)))])
 .ret)
 .skip))
 (.seq (.seq (.reg 0 [] [] [sD 17 (.mv (.t 1)),
 sD 18 (.len false (.t 17)),
 sD 19 (.mv (.c (.int .i64 0)))])
 (.block 0 (.loop [19] 917507 (.seq (.reg 0 [] [] [sD 20 (.bin .lss .num (.t 19) (.t 18))])
 (.seq (.cond (.t 20) .skip
 (.exit 0))
 (.seq (.block 1 (.seq (.reg 0 [] [] [sD 21 (.ia none 2 (.t 17) (.t 19)),
 sD 22 (.ld (some 2) (.t 21)),
 sD 7 (.al none 60 [(.int .i64 0), (.int .i64 0)]),
 sN (.st 2 (.t 7) (.t 22))])
 (.seq (.reg 0 [] [] [sD 23 (.fa 0 (.t 7)),
 sD 24 (.ld none (.t 23)),
 sD 25 (.bin .lss .num (.t 24) (.c (.int .i64 1))),
 sD 26 (.mv (.t 25)),
 sG 27 26 false (.fa 0 (.t 7)),
 sG 28 26 false (.ld none (.t 27)),
 sG 29 26 false (.bin .gtr .num (.t 28) (.c (.int .i64 3))),
 sD 30 (.pick (.t 26) (.c (.bool true)) (.t 29)),
 sD 31 (.mv (.t 30)),
 sG 32 31 false (.fa 1 (.t 7)),
 sG 33 31 false (.ld none (.t 32)),
 sG 34 31 false (.bin .lss .num (.t 33) (.c (.int .i64 0))),
 sD 35 (.pick (.t 31) (.c (.bool true)) (.t 34)),
 sD 36 (.mv (.t 35)),
 sG 37 36 false (.fa 1 (.t 7)),
 sG 38 36 false (.ld none (.t 37)),
 sG 39 36 false (.bin .gtr .num (.t 38) (.c (.int .i64 65536))),
 sD 40 (.pick (.t 36) (.c (.bool true)) (.t 39))])
 (.cond (.t 40) (.seq (.reg 0 [] [] [sD 4 (.mv (.c .nilp)),
 sD 5 (.mv (.c (.int .i64 1)))])
 .ret)
 .skip))))
 (.reg 0 [] [] [sD 41 (.bin .add .num (.t 19) (.c (.int .i64 1))),
 sD 19 (.mv (.t 41))])))))))
 (.seq (.reg 3 [0, 2, 3, 4, 6, 7, 1, 5, 8, 9, 10, 11] [[], [0], [], [2], [2, 3], [3, 2, 4], [], [6], [6, 7, 4, 2, 3, 5, 0, 1], [1, 0, 5, 3, 2, 4, 7, 6, 8], [8, 6, 7, 4, 2, 3, 5, 0, 1, 9], [9, 1, 0, 5, 3, 2, 4, 7, 6, 8, 10]] [sD 42 (.mv (.t 0)),
 sD 44 (.mv (.t 0)),
 sD 45 (.bin .quo .num (.t 44) (.c (.int .i64 64))),
 sD 46 (.bin .add .num (.t 45) (.c (.int .i64 1))),
 sD 48 (.mv (.t 1)),
 sD 49 (.app 60 2 16 [(.int .i64 0), (.int .i64 0)] (.c .nilsl) (.t 48)),
 sD 43 (.mks (some 0) 25 [(.int .u64 0)] 8 (.t 42) (.t 42)),
 sD 47 (.mks (some 1) 25 [(.int .u64 0)] 8 (.t 46) (.t 46)),
 sD 50 (.build [.nilsl, .nilsl, .nilsl, (.int .i64 0)] [(0, 1, (.t 43)), (1, 1, (.t 47)), (2, 1, (.t 49))]),
 sD 51 (.bx (some 2) 130 (.t 50)),
 sD 4 (.mv (.t 51)),
 sD 5 (.mv (.c (.int .i64 0)))])
 .ret)))))
def fn49 : IFun := ⟨52, [(.tmp 4), (.tmp 5)], an49.erase⟩
theorem ok49 : okFun Try.prog 49 fn49 = true := by kernel_rfl
theorem oka49 : okA fn49.ntmps fn49.results an49 = true := by kernel_rfl
def sh49 (C : CallA) (words0 layouts1 : AV) (h : H) (R : AV → H → Prop) : Prop :=
 valA (binOp .lss .num words0 (.int .i64 0)) h fun t9 h =>
 whenA t9 false (fun K => K words0 h) h fun t11 h =>
 whenA t9 false (fun K => valA (binOp .gtr .num t11 (.int .i64 65536)) h K) h fun t12 h =>
 valA (pickA t9 (.bool true) t12) h fun t13 h =>
 condA t13
 (R (.tup [.nilp, (.int .i64 1)]) h)
 (valA (lenA false layouts1) h fun t15 h =>
 valA (binOp .gtr .num t15 (.int .i64 512)) h fun t16 h =>
 condA t16
 (R (.tup [.nilp, (.int .i64 2)]) h)
 (joinA (fun (h : H) =>
 valA (binOp .quo .num words0 (.int .i64 64)) h fun t45 h =>
 valA (binOp .add .num t45 (.int .i64 1)) h fun t46 h =>
 appendA h 60 2 16 .nilsl layouts1 fun t49 h =>
 mksA h 25 [(.int .u64 0)] 8 words0 words0 fun t43 h =>
 mksA h 25 [(.int .u64 0)] 8 t46 t46 fun t47 h =>
 valA (buildA (fillV [.nilsl, .nilsl, .nilsl, (.int .i64 0)] [(0, 1, t43), (1, 1, t47), (2, 1, t49)])) h fun t50 h =>
 boxA h (AV.cells t50) 130 fun t51 h =>
 R (.tup [t51, (.int .i64 0)]) h) fun J =>
 valA (lenA false layouts1) h fun t18 h =>
 loopA (fun N l h => argA l 0 fun t19 => 
 valA (binOp .lss .num t19 t18) h fun t20 h =>
 condA t20
 (valA (iaA 2 layouts1 t19) h fun t21 h =>
 valA (ldA h (some 2) t21) h fun t22 h =>
 boxA h [(.int .i64 0), (.int .i64 0)] 60 fun l7 h =>
 memA (stA h 2 l7 t22) .undef fun _ h =>
 valA (faA 0 l7) h fun t23 h =>
 valA (ldA h none t23) h fun t24 h =>
 valA (binOp .lss .num t24 (.int .i64 1)) h fun t25 h =>
 whenA t25 false (fun K => valA (faA 0 l7) h K) h fun t27 h =>
 whenA t25 false (fun K => valA (ldA h none t27) h K) h fun t28 h =>
 whenA t25 false (fun K => valA (binOp .gtr .num t28 (.int .i64 3)) h K) h fun t29 h =>
 valA (pickA t25 (.bool true) t29) h fun t30 h =>
 whenA t30 false (fun K => valA (faA 1 l7) h K) h fun t32 h =>
 whenA t30 false (fun K => valA (ldA h none t32) h K) h fun t33 h =>
 whenA t30 false (fun K => valA (binOp .lss .num t33 (.int .i64 0)) h K) h fun t34 h =>
 valA (pickA t30 (.bool true) t34) h fun t35 h =>
 whenA t35 false (fun K => valA (faA 1 l7) h K) h fun t37 h =>
 whenA t35 false (fun K => valA (ldA h none t37) h K) h fun t38 h =>
 whenA t35 false (fun K => valA (binOp .gtr .num t38 (.int .i64 65536)) h K) h fun t39 h =>
 valA (pickA t35 (.bool true) t39) h fun t40 h =>
 condA t40
 (R (.tup [.nilp, (.int .i64 1)]) h)
 (valA (binOp .add .num t19 (.int .i64 1)) h fun t41 h =>
 N [t41] h))
 (J h)) [(.int .i64 0)] h))
theorem she49 (C : CallA) (words0 layouts1 : AV) (h : H) (R : AV → H → Prop) : wpA C an49 (argE [words0, layouts1]) h (outA [(.tmp 4), (.tmp 5)] R) = sh49 C words0 layouts1 h R := by kernel_rfl
/-! bellows/bellowsref02.Check -/
def an50 : ACode :=
 (.seq (.reg 0 [] [] [sD 4 (.mv (.c (.int .i64 0)))])
 (.seq (.seq (.reg 0 [] [] [sD 7 (.mv (.t 0)),
 sD 8 (.bin .lss .num (.t 7) (.c (.int .i64 0))),
 sD 9 (.mv (.t 8)),
 sG 10 9 false (.mv (.t 0)),
 sG 11 9 false (.bin .gtr .num (.t 10) (.c (.int .i64 65536))),
 sD 12 (.pick (.t 9) (.c (.bool true)) (.t 11))])
 (.cond (.t 12) (.seq (.reg 0 [] [] [sD 4 (.mv (.c (.int .i64 1)))])
 .ret)
 .skip))
 (.seq (.seq (.reg 0 [] [] [sD 13 (.mv (.t 1)),
 sD 14 (.len false (.t 13)),
 sD 15 (.bin .gtr .num (.t 14) (.c (.int .i64 512)))])
 (.cond (.t 15) (.seq (.reg 0 [] [] [sD 4 (.mv (.c (.int .i64 2)))])
 .ret)
 .skip))
 (.seq (.seq (.reg 0 [] [] [sD 16 (.mv (.t 1)),
 sD 17 (.len false (.t 16)),
 sD 18 (.mv (.c (.int .i64 0)))])
 (.block 0 (.loop [18] 458752 (.seq (.reg 0 [] [] [sD 19 (.bin .lss .num (.t 18) (.t 17))])
 (.seq (.cond (.t 19) .skip
 (.exit 0))
 (.seq (.block 1 (.seq (.reg 0 [] [] [sD 20 (.ia none 2 (.t 16) (.t 18)),
 sD 21 (.ld (some 2) (.t 20)),
 sD 6 (.al none 60 [(.int .i64 0), (.int .i64 0)]),
 sN (.st 2 (.t 6) (.t 21))])
 (.seq (.reg 0 [] [] [sD 22 (.fa 0 (.t 6)),
 sD 23 (.ld none (.t 22)),
 sD 24 (.bin .neq .num (.t 23) (.c (.int .i64 1))),
 sD 25 (.mv (.t 24)),
 sG 26 25 true (.fa 0 (.t 6)),
 sG 27 25 true (.ld none (.t 26)),
 sG 28 25 true (.bin .neq .num (.t 27) (.c (.int .i64 2))),
 sD 29 (.pick (.t 25) (.t 28) (.c (.bool false))),
 sD 30 (.mv (.t 29)),
 sG 31 30 true (.fa 0 (.t 6)),
 sG 32 30 true (.ld none (.t 31)),
 sG 33 30 true (.bin .neq .num (.t 32) (.c (.int .i64 3))),
 sD 34 (.pick (.t 30) (.t 33) (.c (.bool false))),
 sD 35 (.mv (.t 34)),
 sG 36 35 false (.fa 1 (.t 6)),
 sG 37 35 false (.ld none (.t 36)),
 sG 38 35 false (.bin .lss .num (.t 37) (.c (.int .i64 0))),
 sD 39 (.pick (.t 35) (.c (.bool true)) (.t 38)),
 sD 40 (.mv (.t 39)),
 sG 41 40 false (.fa 1 (.t 6)),
 sG 42 40 false (.ld none (.t 41)),
 sG 43 40 false (.bin .gtr .num (.t 42) (.c (.int .i64 65536))),
 sD 44 (.pick (.t 40) (.c (.bool true)) (.t 43))])
 (.cond (.t 44) (.seq (.reg 0 [] [] [sD 4 (.mv (.c (.int .i64 1)))])
 .ret)
 .skip))))
 (.reg 0 [] [] [sD 45 (.bin .add .num (.t 18) (.c (.int .i64 1))),
 sD 18 (.mv (.t 45))])))))))
 (.seq (.reg 0 [] [] [sD 4 (.mv (.c (.int .i64 0)))])
 .ret)))))
def fn50 : IFun := ⟨46, [(.tmp 4)], an50.erase⟩
theorem ok50 : okFun Try.prog 50 fn50 = true := by kernel_rfl
theorem oka50 : okA fn50.ntmps fn50.results an50 = true := by kernel_rfl
def sh50 (C : CallA) (words0 layouts1 : AV) (h : H) (R : AV → H → Prop) : Prop :=
 valA (binOp .lss .num words0 (.int .i64 0)) h fun t8 h =>
 whenA t8 false (fun K => K words0 h) h fun t10 h =>
 whenA t8 false (fun K => valA (binOp .gtr .num t10 (.int .i64 65536)) h K) h fun t11 h =>
 valA (pickA t8 (.bool true) t11) h fun t12 h =>
 condA t12
 (R (.int .i64 1) h)
 (valA (lenA false layouts1) h fun t14 h =>
 valA (binOp .gtr .num t14 (.int .i64 512)) h fun t15 h =>
 condA t15
 (R (.int .i64 2) h)
 (joinA (fun (h : H) =>
 R (.int .i64 0) h) fun J =>
 valA (lenA false layouts1) h fun t17 h =>
 loopA (fun N l h => argA l 0 fun t18 => 
 valA (binOp .lss .num t18 t17) h fun t19 h =>
 condA t19
 (valA (iaA 2 layouts1 t18) h fun t20 h =>
 valA (ldA h (some 2) t20) h fun t21 h =>
 boxA h [(.int .i64 0), (.int .i64 0)] 60 fun l6 h =>
 memA (stA h 2 l6 t21) .undef fun _ h =>
 valA (faA 0 l6) h fun t22 h =>
 valA (ldA h none t22) h fun t23 h =>
 valA (binOp .neq .num t23 (.int .i64 1)) h fun t24 h =>
 whenA t24 true (fun K => valA (faA 0 l6) h K) h fun t26 h =>
 whenA t24 true (fun K => valA (ldA h none t26) h K) h fun t27 h =>
 whenA t24 true (fun K => valA (binOp .neq .num t27 (.int .i64 2)) h K) h fun t28 h =>
 valA (pickA t24 t28 (.bool false)) h fun t29 h =>
 whenA t29 true (fun K => valA (faA 0 l6) h K) h fun t31 h =>
 whenA t29 true (fun K => valA (ldA h none t31) h K) h fun t32 h =>
 whenA t29 true (fun K => valA (binOp .neq .num t32 (.int .i64 3)) h K) h fun t33 h =>
 valA (pickA t29 t33 (.bool false)) h fun t34 h =>
 whenA t34 false (fun K => valA (faA 1 l6) h K) h fun t36 h =>
 whenA t34 false (fun K => valA (ldA h none t36) h K) h fun t37 h =>
 whenA t34 false (fun K => valA (binOp .lss .num t37 (.int .i64 0)) h K) h fun t38 h =>
 valA (pickA t34 (.bool true) t38) h fun t39 h =>
 whenA t39 false (fun K => valA (faA 1 l6) h K) h fun t41 h =>
 whenA t39 false (fun K => valA (ldA h none t41) h K) h fun t42 h =>
 whenA t39 false (fun K => valA (binOp .gtr .num t42 (.int .i64 65536)) h K) h fun t43 h =>
 valA (pickA t39 (.bool true) t43) h fun t44 h =>
 condA t44
 (R (.int .i64 1) h)
 (valA (binOp .add .num t18 (.int .i64 1)) h fun t45 h =>
 N [t45] h))
 (J h)) [(.int .i64 0)] h))
theorem she50 (C : CallA) (words0 layouts1 : AV) (h : H) (R : AV → H → Prop) : wpA C an50 (argE [words0, layouts1]) h (outA [(.tmp 4)] R) = sh50 C words0 layouts1 h R := by kernel_rfl
/-! (*bellows/heap.Heap).Need -/
def an52 : ACode :=
 (.seq (.reg 0 [] [] [sD 6 (.mv (.c (.int .i64 0))),
 sD 7 (.mv (.c (.int .i64 0)))])
 (.seq (.seq (.reg 0 [] [] [sD 9 (.mv (.t 0)),
 sD 10 (.bin .eql .ptr (.t 9) (.c .nilp)),
 sD 11 (.mv (.t 10)),
 sG 12 11 false (.mv (.t 1)),
 sG 13 11 false (.bin .lss .num (.t 12) (.c (.int .i64 0))),
 sD 14 (.pick (.t 11) (.c (.bool true)) (.t 13)),
 sD 15 (.mv (.t 14)),
 sG 16 15 false (.mv (.t 1)),
 sG 17 15 false (.mv (.t 0)),
 sG 18 15 false (.nilc (.t 17)),
 sG 19 15 false (.fa 2 (.t 18)),
 sG 20 15 false (.ld none (.t 19)),
 sG 21 15 false (.len false (.t 20)),
 sG 22 15 false (.bin .geq .num (.t 16) (.t 21)),
 sD 23 (.pick (.t 15) (.c (.bool true)) (.t 22)),
 sD 24 (.mv (.t 23)),
 sG 25 24 false (.mv (.t 2)),
 sG 26 24 false (.bin .lss .num (.t 25) (.c (.int .i64 0))),
 sD 27 (.pick (.t 24) (.c (.bool true)) (.t 26))])
 (.cond (.t 27) (.seq (.reg 0 [] [] [sD 6 (.mv (.c (.int .i64 0))),
 sD 7 (.mv (.c (.int .i64 1)))])
 .ret)
 .skip))
 (.seq (.reg 0 [] [] [sD 28 (.mv (.t 0)),
 sD 29 (.nilc (.t 28)),
 sD 30 (.fa 2 (.t 29)),
 sD 31 (.ld none (.t 30)),
 sD 32 (.mv (.t 1)),
 sD 33 (.ia none 2 (.t 31) (.t 32)),
 sD 34 (.ld (some 2) (.t 33)),
 sD 8 (.al none 60 [(.int .i64 0), (.int .i64 0)]),
 sN (.st 2 (.t 8) (.t 34))])
 (.seq (.block 0 (.seq (.reg 0 [] [] [sD 36 (.fa 0 (.t 8)),
 sD 37 (.ld none (.t 36)),
 sD 38 (.bin .eql .num (.t 37) (.c (.int .i64 1))),
 sD 39 (.mv (.t 38)),
 sG 40 39 true (.mv (.t 2)),
 sG 41 39 true (.fa 1 (.t 8)),
 sG 42 39 true (.ld none (.t 41)),
 sG 43 39 true (.bin .neq .num (.t 40) (.t 42)),
 sD 44 (.pick (.t 39) (.t 43) (.c (.bool false))),
 sD 35 (.mv (.t 44))])
 (.cond (.t 35) (.seq (.reg 0 [] [] [sD 6 (.mv (.c (.int .i64 0))),
 sD 7 (.mv (.c (.int .i64 1)))])
 .ret)
 (.seq (.reg 0 [] [] [sD 46 (.mv (.t 2)),
 sD 47 (.bin .gtr .num (.t 46) (.c (.int .i64 65536))),
 sD 45 (.mv (.t 47))])
 (.cond (.t 45) (.seq (.reg 0 [] [] [sD 6 (.mv (.c (.int .i64 0))),
 sD 7 (.mv (.c (.int .i64 2)))])
 .ret)
 (.seq (.reg 0 [] [] [sD 49 (.fa 0 (.t 8)),
 sD 50 (.ld none (.t 49)),
 sD 51 (.bin .eql .num (.t 50) (.c (.int .i64 3))),
 sD 48 (.mv (.t 51))])
 (.cond (.t 48) (.seq (.reg 0 [] [] [sD 52 (.mv (.t 2)),
 sD 53 (.bin .add .num (.t 52) (.c (.int .i64 7))),
 sD 54 (.bin .quo .num (.t 53) (.c (.int .i64 8))),
 sD 55 (.bin .add .num (.c (.int .i64 1)) (.t 54)),
 sD 6 (.mv (.t 55)),
 sD 7 (.mv (.c (.int .i64 0)))])
 .ret)
 .skip)))))))
 (.seq (.reg 0 [] [] [sD 56 (.mv (.t 2)),
 sD 57 (.bin .add .num (.c (.int .i64 1)) (.t 56)),
 sD 6 (.mv (.t 57)),
 sD 7 (.mv (.c (.int .i64 0)))])
 .ret)))))
def fn52 : IFun := ⟨58, [(.tmp 6), (.tmp 7)], an52.erase⟩
theorem ok52 : okFun Try.prog 52 fn52 = true := by kernel_rfl
theorem oka52 : okA fn52.ntmps fn52.results an52 = true := by kernel_rfl
def sh52 (C : CallA) (h0 shape1 n2 : AV) (h : H) (R : AV → H → Prop) : Prop :=
 valA (binOp .eql .ptr h0 .nilp) h fun t10 h =>
 whenA t10 false (fun K => K shape1 h) h fun t12 h =>
 whenA t10 false (fun K => valA (binOp .lss .num t12 (.int .i64 0)) h K) h fun t13 h =>
 valA (pickA t10 (.bool true) t13) h fun t14 h =>
 whenA t14 false (fun K => K shape1 h) h fun t16 h =>
 whenA t14 false (fun K => K h0 h) h fun t17 h =>
 whenA t14 false (fun K => valA (nilcA t17) h K) h fun t18 h =>
 whenA t14 false (fun K => valA (faA 2 t18) h K) h fun t19 h =>
 whenA t14 false (fun K => valA (ldA h none t19) h K) h fun t20 h =>
 whenA t14 false (fun K => valA (lenA false t20) h K) h fun t21 h =>
 whenA t14 false (fun K => valA (binOp .geq .num t16 t21) h K) h fun t22 h =>
 valA (pickA t14 (.bool true) t22) h fun t23 h =>
 whenA t23 false (fun K => K n2 h) h fun t25 h =>
 whenA t23 false (fun K => valA (binOp .lss .num t25 (.int .i64 0)) h K) h fun t26 h =>
 valA (pickA t23 (.bool true) t26) h fun t27 h =>
 condA t27
 (R (.tup [(.int .i64 0), (.int .i64 1)]) h)
 (valA (nilcA h0) h fun t29 h =>
 valA (faA 2 t29) h fun t30 h =>
 valA (ldA h none t30) h fun t31 h =>
 valA (iaA 2 t31 shape1) h fun t33 h =>
 valA (ldA h (some 2) t33) h fun t34 h =>
 boxA h [(.int .i64 0), (.int .i64 0)] 60 fun l8 h =>
 memA (stA h 2 l8 t34) .undef fun _ h =>
 valA (faA 0 l8) h fun t36 h =>
 valA (ldA h none t36) h fun t37 h =>
 valA (binOp .eql .num t37 (.int .i64 1)) h fun t38 h =>
 whenA t38 true (fun K => K n2 h) h fun t40 h =>
 whenA t38 true (fun K => valA (faA 1 l8) h K) h fun t41 h =>
 whenA t38 true (fun K => valA (ldA h none t41) h K) h fun t42 h =>
 whenA t38 true (fun K => valA (binOp .neq .num t40 t42) h K) h fun t43 h =>
 valA (pickA t38 t43 (.bool false)) h fun t44 h =>
 condA t44
 (R (.tup [(.int .i64 0), (.int .i64 1)]) h)
 (valA (binOp .gtr .num n2 (.int .i64 65536)) h fun t47 h =>
 condA t47
 (R (.tup [(.int .i64 0), (.int .i64 2)]) h)
 (valA (faA 0 l8) h fun t49 h =>
 valA (ldA h none t49) h fun t50 h =>
 valA (binOp .eql .num t50 (.int .i64 3)) h fun t51 h =>
 condA t51
 (valA (binOp .add .num n2 (.int .i64 7)) h fun t53 h =>
 valA (binOp .quo .num t53 (.int .i64 8)) h fun t54 h =>
 valA (binOp .add .num (.int .i64 1) t54) h fun t55 h =>
 R (.tup [t55, (.int .i64 0)]) h)
 (valA (binOp .add .num (.int .i64 1) n2) h fun t57 h =>
 R (.tup [t57, (.int .i64 0)]) h))))
theorem she52 (C : CallA) (h0 shape1 n2 : AV) (h : H) (R : AV → H → Prop) : wpA C an52 (argE [h0, shape1, n2]) h (outA [(.tmp 6), (.tmp 7)] R) = sh52 C h0 shape1 n2 h R := by kernel_rfl
/-! (*bellows/bellowsref02.Heap).Need -/
def an53 : ACode :=
 (.seq (.reg 0 [] [] [sD 6 (.mv (.c (.int .i64 0))),
 sD 7 (.mv (.c (.int .i64 0)))])
 (.seq (.seq (.reg 0 [] [] [sD 10 (.mv (.t 1)),
 sD 11 (.bin .lss .num (.t 10) (.c (.int .i64 0))),
 sD 12 (.mv (.t 11)),
 sG 13 12 false (.mv (.t 1)),
 sG 14 12 false (.mv (.t 0)),
 sG 15 12 false (.nilc (.t 14)),
 sG 16 12 false (.fa 1 (.t 15)),
 sG 17 12 false (.ld none (.t 16)),
 sG 18 12 false (.len false (.t 17)),
 sG 19 12 false (.bin .geq .num (.t 13) (.t 18)),
 sD 20 (.pick (.t 12) (.c (.bool true)) (.t 19)),
 sD 21 (.mv (.t 20)),
 sG 22 21 false (.mv (.t 2)),
 sG 23 21 false (.bin .lss .num (.t 22) (.c (.int .i64 0))),
 sD 24 (.pick (.t 21) (.c (.bool true)) (.t 23)),
 sD 25 (.mv (.t 24)),
 sG 26 25 false (.mv (.t 0)),
 sG 27 25 false (.nilc (.t 26)),
 sG 28 25 false (.fa 1 (.t 27)),
 sG 29 25 false (.ld none (.t 28)),
 sG 30 25 false (.mv (.t 1)),
 sG 31 25 false (.ia none 2 (.t 29) (.t 30)),
 sG 32 25 false (.fa 0 (.t 31)),
 sG 33 25 false (.ld none (.t 32)),
 sG 34 25 false (.bin .eql .num (.t 33) (.c (.int .i64 1))),
 sG 35 25 false (.mv (.t 34)),
 sG 36 35 true (.mv (.t 0)),
 sG 37 35 true (.nilc (.t 36)),
 sG 38 35 true (.fa 1 (.t 37)),
 sG 39 35 true (.ld none (.t 38)),
 sG 40 35 true (.mv (.t 1)),
 sG 41 35 true (.ia none 2 (.t 39) (.t 40)),
 sG 42 35 true (.fa 1 (.t 41)),
 sG 43 35 true (.ld none (.t 42)),
 sG 44 35 true (.mv (.t 2)),
 sG 45 35 true (.bin .neq .num (.t 43) (.t 44)),
 sG 46 25 false (.pick (.t 35) (.t 45) (.c (.bool false))),
 sD 47 (.pick (.t 25) (.c (.bool true)) (.t 46))])
 (.cond (.t 47) (.seq (.reg 0 [] [] [sD 6 (.mv (.c (.int .i64 0))),
 sD 7 (.mv (.c (.int .i64 1)))])
 .ret)
 .skip))
 (.seq (.seq (.reg 0 [] [] [sD 48 (.mv (.t 2)),
 sD 49 (.bin .gtr .num (.t 48) (.c (.int .i64 65536)))])
 (.cond (.t 49) (.seq (.reg 0 [] [] [sD 6 (.mv (.c (.int .i64 0))),
 sD 7 (.mv (.c (.int .i64 2)))])
 .ret)
 .skip))
 (.seq (.seq (.reg 0 [] [] [sD 50 (.mv (.t 0)),
 sD 51 (.nilc (.t 50)),
 sD 52 (.fa 1 (.t 51)),
 sD 53 (.ld none (.t 52)),
 sD 54 (.mv (.t 1)),
 sD 55 (.ia none 2 (.t 53) (.t 54)),
 sD 56 (.fa 0 (.t 55)),
 sD 57 (.ld none (.t 56)),
 sD 58 (.bin .eql .num (.t 57) (.c (.int .i64 3)))])
 (.cond (.t 58) (.seq (.reg 0 [] [] [sD 8 (.mv (.c (.int .i64 1)))])
 (.seq (.seq (.reg 0 [] [] [sD 9 (.mv (.c (.int .i64 0)))])
 (.block 0 (.loop [8, 9] 772 (.seq (.seq (.reg 0 [] [] [sD 59 (.mv (.t 9)),
 sD 60 (.mv (.t 2)),
 sD 61 (.bin .lss .num (.t 59) (.t 60))])
 (.cond (.t 61) .skip
 (.exit 0)))
 (.seq (.block 1 (.reg 0 [] [] [sD 64 (.mv (.t 8)),
 sD 65 (.bin .add .num (.t 64) (.c (.int .i64 1))),
 sD 8 (.mv (.t 65))]))
 (.reg 0 [] [] [sD 62 (.mv (.t 9)),
 sD 63 (.bin .add .num (.t 62) (.c (.int .i64 8))),
 sD 9 (.mv (.t 63))]))))))
 (.seq (.reg 0 [] [] [sD 66 (.mv (.t 8)),
 sD 6 (.mv (.t 66)),
 sD 7 (.mv (.c (.int .i64 0)))])
 .ret)))
 .skip))
 (.seq (.reg 0 [] [] [sD 67 (.mv (.t 2)),
 sD 68 (.bin .add .num (.c (.int .i64 1)) (.t 67)),
 sD 6 (.mv (.t 68)),
 sD 7 (.mv (.c (.int .i64 0)))])
 .ret)))))
def fn53 : IFun := ⟨69, [(.tmp 6), (.tmp 7)], an53.erase⟩
theorem ok53 : okFun Try.prog 53 fn53 = true := by kernel_rfl
theorem oka53 : okA fn53.ntmps fn53.results an53 = true := by kernel_rfl
def sh53 (C : CallA) (h0 shape1 n2 : AV) (h : H) (R : AV → H → Prop) : Prop :=
 valA (binOp .lss .num shape1 (.int .i64 0)) h fun t11 h =>
 whenA t11 false (fun K => K shape1 h) h fun t13 h =>
 whenA t11 false (fun K => K h0 h) h fun t14 h =>
 whenA t11 false (fun K => valA (nilcA t14) h K) h fun t15 h =>
 whenA t11 false (fun K => valA (faA 1 t15) h K) h fun t16 h =>
 whenA t11 false (fun K => valA (ldA h none t16) h K) h fun t17 h =>
 whenA t11 false (fun K => valA (lenA false t17) h K) h fun t18 h =>
 whenA t11 false (fun K => valA (binOp .geq .num t13 t18) h K) h fun t19 h =>
 valA (pickA t11 (.bool true) t19) h fun t20 h =>
 whenA t20 false (fun K => K n2 h) h fun t22 h =>
 whenA t20 false (fun K => valA (binOp .lss .num t22 (.int .i64 0)) h K) h fun t23 h =>
 valA (pickA t20 (.bool true) t23) h fun t24 h =>
 whenA t24 false (fun K => K h0 h) h fun t26 h =>
 whenA t24 false (fun K => valA (nilcA t26) h K) h fun t27 h =>
 whenA t24 false (fun K => valA (faA 1 t27) h K) h fun t28 h =>
 whenA t24 false (fun K => valA (ldA h none t28) h K) h fun t29 h =>
 whenA t24 false (fun K => K shape1 h) h fun t30 h =>
 whenA t24 false (fun K => valA (iaA 2 t29 t30) h K) h fun t31 h =>
 whenA t24 false (fun K => valA (faA 0 t31) h K) h fun t32 h =>
 whenA t24 false (fun K => valA (ldA h none t32) h K) h fun t33 h =>
 whenA t24 false (fun K => valA (binOp .eql .num t33 (.int .i64 1)) h K) h fun t34 h =>
 whenA t24 false (fun K => K t34 h) h fun t35 h =>
 whenA t35 true (fun K => K h0 h) h fun t36 h =>
 whenA t35 true (fun K => valA (nilcA t36) h K) h fun t37 h =>
 whenA t35 true (fun K => valA (faA 1 t37) h K) h fun t38 h =>
 whenA t35 true (fun K => valA (ldA h none t38) h K) h fun t39 h =>
 whenA t35 true (fun K => K shape1 h) h fun t40 h =>
 whenA t35 true (fun K => valA (iaA 2 t39 t40) h K) h fun t41 h =>
 whenA t35 true (fun K => valA (faA 1 t41) h K) h fun t42 h =>
 whenA t35 true (fun K => valA (ldA h none t42) h K) h fun t43 h =>
 whenA t35 true (fun K => K n2 h) h fun t44 h =>
 whenA t35 true (fun K => valA (binOp .neq .num t43 t44) h K) h fun t45 h =>
 whenA t24 false (fun K => valA (pickA t35 t45 (.bool false)) h K) h fun t46 h =>
 valA (pickA t24 (.bool true) t46) h fun t47 h =>
 condA t47
 (R (.tup [(.int .i64 0), (.int .i64 1)]) h)
 (valA (binOp .gtr .num n2 (.int .i64 65536)) h fun t49 h =>
 condA t49
 (R (.tup [(.int .i64 0), (.int .i64 2)]) h)
 (joinA (fun (h : H) =>
 valA (binOp .add .num (.int .i64 1) n2) h fun t68 h =>
 R (.tup [t68, (.int .i64 0)]) h) fun J =>
 valA (nilcA h0) h fun t51 h =>
 valA (faA 1 t51) h fun t52 h =>
 valA (ldA h none t52) h fun t53 h =>
 valA (iaA 2 t53 shape1) h fun t55 h =>
 valA (faA 0 t55) h fun t56 h =>
 valA (ldA h none t56) h fun t57 h =>
 valA (binOp .eql .num t57 (.int .i64 3)) h fun t58 h =>
 condA t58
 (joinA (fun (k8'_0 : AV) (h : H) =>
 R (.tup [k8'_0, (.int .i64 0)]) h) fun J_9 =>
 loopA (fun N l h => argA l 0 fun k8 => argA l 1 fun i9 => 
 valA (binOp .lss .num i9 n2) h fun t61 h =>
 condA t61
 (valA (binOp .add .num k8 (.int .i64 1)) h fun t65 h =>
 valA (binOp .add .num i9 (.int .i64 8)) h fun t63 h =>
 N [t65, t63] h)
 (J_9 k8 h)) [(.int .i64 1), (.int .i64 0)] h)
 (J h)))
theorem she53 (C : CallA) (h0 shape1 n2 : AV) (h : H) (R : AV → H → Prop) : wpA C an53 (argE [h0, shape1, n2]) h (outA [(.tmp 6), (.tmp 7)] R) = sh53 C h0 shape1 n2 h R := by kernel_rfl
/-! (*bellows/heap.Heap).Kind -/
def an54 : ACode :=
 (.seq (.reg 0 [] [] [sD 4 (.mv (.c (.int .i64 0)))])
 (.seq (.seq (.reg 0 [] [] [sD 5 (.mv (.t 0)),
 sD 6 (.bin .eql .ptr (.t 5) (.c .nilp)),
 sD 7 (.mv (.t 6)),
 sG 8 7 false (.mv (.t 1)),
 sG 9 7 false (.bin .lss .num (.t 8) (.c (.int .i64 0))),
 sD 10 (.pick (.t 7) (.c (.bool true)) (.t 9)),
 sD 11 (.mv (.t 10)),
 sG 12 11 false (.mv (.t 1)),
 sG 13 11 false (.mv (.t 0)),
 sG 14 11 false (.nilc (.t 13)),
 sG 15 11 false (.fa 2 (.t 14)),
 sG 16 11 false (.ld none (.t 15)),
 sG 17 11 false (.len false (.t 16)),
 sG 18 11 false (.bin .geq .num (.t 12) (.t 17)),
 sD 19 (.pick (.t 11) (.c (.bool true)) (.t 18))])
 (.cond (.t 19) (.seq (.reg 0 [] [] [sD 4 (.mv (.c (.int .i64 0)))])
 .ret)
 .skip))
 (.seq (.reg 0 [] [] [sD 20 (.mv (.t 0)),
 sD 21 (.nilc (.t 20)),
 sD 22 (.fa 2 (.t 21)),
 sD 23 (.ld none (.t 22)),
 sD 24 (.mv (.t 1)),
 sD 25 (.ia none 2 (.t 23) (.t 24)),
 sD 26 (.fa 0 (.t 25)),
 sD 27 (.ld none (.t 26)),
 sD 4 (.mv (.t 27))])
 .ret)))
def fn54 : IFun := ⟨28, [(.tmp 4)], an54.erase⟩
theorem ok54 : okFun Try.prog 54 fn54 = true := by kernel_rfl
theorem oka54 : okA fn54.ntmps fn54.results an54 = true := by kernel_rfl
def sh54 (C : CallA) (h0 shape1 : AV) (h : H) (R : AV → H → Prop) : Prop :=
 valA (binOp .eql .ptr h0 .nilp) h fun t6 h =>
 whenA t6 false (fun K => K shape1 h) h fun t8 h =>
 whenA t6 false (fun K => valA (binOp .lss .num t8 (.int .i64 0)) h K) h fun t9 h =>
 valA (pickA t6 (.bool true) t9) h fun t10 h =>
 whenA t10 false (fun K => K shape1 h) h fun t12 h =>
 whenA t10 false (fun K => K h0 h) h fun t13 h =>
 whenA t10 false (fun K => valA (nilcA t13) h K) h fun t14 h =>
 whenA t10 false (fun K => valA (faA 2 t14) h K) h fun t15 h =>
 whenA t10 false (fun K => valA (ldA h none t15) h K) h fun t16 h =>
 whenA t10 false (fun K => valA (lenA false t16) h K) h fun t17 h =>
 whenA t10 false (fun K => valA (binOp .geq .num t12 t17) h K) h fun t18 h =>
 valA (pickA t10 (.bool true) t18) h fun t19 h =>
 condA t19
 (R (.int .i64 0) h)
 (valA (nilcA h0) h fun t21 h =>
 valA (faA 2 t21) h fun t22 h =>
 valA (ldA h none t22) h fun t23 h =>
 valA (iaA 2 t23 shape1) h fun t25 h =>
 valA (faA 0 t25) h fun t26 h =>
 valA (ldA h none t26) h fun t27 h =>
 R t27 h)
theorem she54 (C : CallA) (h0 shape1 : AV) (h : H) (R : AV → H → Prop) : wpA C an54 (argE [h0, shape1]) h (outA [(.tmp 4)] R) = sh54 C h0 shape1 h R := by kernel_rfl
/-! (*bellows/heap.Heap).Alloc -/
def an55 : ACode :=
 (.seq (.reg 0 [] [] [sD 6 (.mv (.c (.int .i64 0))),
 sD 7 (.mv (.c (.int .i64 0)))])
 (.seq (.reg 0 [] [] [sD 13 (.mv (.t 0)),
 sD 14 (.mv (.t 1)),
 sD 15 (.mv (.t 2)),
 sD 16 (.call 52 [(.t 13), (.t 14), (.t 15)]),
 sD 12 (.mv (.t 16)),
 sD 17 (.ext (.t 12) 0),
 sD 18 (.ext (.t 12) 1),
 sD 8 (.mv (.t 17)),
 sD 9 (.mv (.t 18))])
 (.seq (.seq (.reg 0 [] [] [sD 19 (.mv (.t 9)),
 sD 20 (.bin .neq .num (.t 19) (.c (.int .i64 0)))])
 (.cond (.t 20) (.seq (.reg 0 [] [] [sD 21 (.mv (.t 9)),
 sD 6 (.mv (.c (.int .i64 0))),
 sD 7 (.mv (.t 21))])
 .ret)
 .skip))
 (.seq (.seq (.reg 0 [0, 1, 2, 3, 4, 5, 6, 7, 8, 9, 10, 11] [[], [], [1], [1, 2], [2, 1, 3], [3, 1, 2, 4], [], [6], [6, 7], [7, 6, 8], [8, 6, 7, 9, 4, 2, 1, 3, 5], [5, 3, 1, 2, 4, 9, 7, 6, 8, 10, 0]] [sD 22 (.mv (.t 8)),
 sD 23 (.mv (.t 0)),
 sD 24 (.nilc (.t 23)),
 sD 25 (.fa 0 (.t 24)),
 sD 26 (.ld none (.t 25)),
 sD 27 (.len false (.t 26)),
 sD 28 (.mv (.t 0)),
 sD 29 (.nilc (.t 28)),
 sD 30 (.fa 3 (.t 29)),
 sD 31 (.ld none (.t 30)),
 sD 32 (.bin .sub .num (.t 27) (.t 31)),
 sD 33 (.bin .gtr .num (.t 22) (.t 32))])
 (.cond (.t 33) (.seq (.reg 0 [] [] [sD 6 (.mv (.c (.int .i64 0))),
 sD 7 (.mv (.c (.int .i64 3)))])
 .ret)
 .skip))
 (.seq (.reg 0 [] [] [sD 34 (.mv (.t 0)),
 sD 35 (.nilc (.t 34)),
 sD 36 (.fa 3 (.t 35)),
 sD 37 (.ld none (.t 36)),
 sD 10 (.mv (.t 37))])
 (.seq (.reg 0 [0, 1, 2, 3, 4, 5, 6, 7, 8, 9] [[], [0], [0, 1], [1, 0, 2], [], [], [], [6, 5], [7, 6, 5, 4, 2, 0, 1, 3], [3, 1, 0, 2, 4, 5, 6, 7, 8]] [sD 38 (.mv (.t 0)),
 sD 39 (.nilc (.t 38)),
 sD 40 (.fa 0 (.t 39)),
 sD 41 (.ld none (.t 40)),
 sD 42 (.mv (.t 10)),
 sD 43 (.mv (.t 1)),
 sD 44 (.mv (.t 2)),
 ⟨(some 45), none, (.call 31 [(.t 43), (.t 44)]), [⟨none, (.ld none (.t 40)), 41⟩]⟩,
 sD 46 (.ia none 1 (.t 41) (.t 42)),
 sN (.st 1 (.t 46) (.t 45))])
 (.seq (.seq (.reg 0 [] [] [sD 47 (.mv (.t 0)),
 sD 48 (.nilc (.t 47)),
 sD 49 (.fa 2 (.t 48)),
 sD 50 (.ld none (.t 49)),
 sD 51 (.mv (.t 1)),
 sD 52 (.ia none 2 (.t 50) (.t 51)),
 sD 53 (.fa 0 (.t 52)),
 sD 54 (.ld none (.t 53)),
 sD 55 (.bin .neq .num (.t 54) (.c (.int .i64 3)))])
 (.cond (.t 55) (.seq (.reg 0 [] [] [sD 56 (.mv (.t 2)),
 sD 57 (.mv (.c (.int .i64 0)))])
 (.block 0 (.loop [57] 216172782113785089 (.seq (.reg 0 [] [] [sD 58 (.bin .lss .num (.t 57) (.t 56))])
 (.seq (.cond (.t 58) .skip
 (.exit 0))
 (.seq (.block 1 (.seq (.reg 0 [] [] [sD 59 (.mv (.t 57)),
 sD 11 (.mv (.t 59))])
 (.reg 0 [0, 1, 2, 3, 4, 5, 6, 7, 8, 9, 10] [[], [0], [0, 1], [1, 0, 2], [], [4], [], [6, 4, 5], [], [8, 5, 4, 6, 7, 2, 0, 1, 3], [3, 1, 0, 2, 7, 6, 4, 5, 8, 9]] [sD 60 (.mv (.t 0)),
 sD 61 (.nilc (.t 60)),
 sD 62 (.fa 0 (.t 61)),
 sD 63 (.ld none (.t 62)),
 sD 64 (.mv (.t 10)),
 sD 65 (.bin .add .num (.t 64) (.c (.int .i64 1))),
 sD 66 (.mv (.t 11)),
 sD 67 (.bin .add .num (.t 65) (.t 66)),
 ⟨(some 68), none, (.call 83 [(.c (.int .i64 0))]), [⟨none, (.ld none (.t 62)), 63⟩]⟩,
 sD 69 (.ia none 1 (.t 63) (.t 67)),
 sN (.st 1 (.t 69) (.t 68))])))
 (.reg 0 [] [] [sD 70 (.bin .add .num (.t 57) (.c (.int .i64 1))),
 sD 57 (.mv (.t 70))])))))))
 .skip))
 (.seq (.reg 0 [0, 1, 2, 3, 4, 5, 6, 7, 8, 9, 10, 11, 12, 13] [[], [0], [0, 1], [1, 0, 2], [], [4], [4, 5, 2, 0, 1, 3], [3, 1, 0, 2, 5, 4, 6], [], [8], [8, 9], [9, 8, 10, 6, 4, 5, 2, 0, 1, 3, 7], [11, 10, 9, 8, 7, 6, 4, 5, 2, 0, 1, 3], [3, 1, 0, 2, 5, 4, 6, 7, 8, 9, 10, 11, 12]] [sD 71 (.mv (.t 0)),
 sD 72 (.nilc (.t 71)),
 sD 73 (.fa 1 (.t 72)),
 sD 74 (.ld none (.t 73)),
 sD 75 (.mv (.t 10)),
 sD 76 (.bin .quo .num (.t 75) (.c (.int .i64 64))),
 sD 77 (.ia none 1 (.t 74) (.t 76)),
 sD 78 (.ld none (.t 77)),
 sD 79 (.mv (.t 10)),
 sD 80 (.bin .rem .num (.t 79) (.c (.int .i64 64))),
 sD 81 (.bin .shl .num (.c (.int .u64 1)) (.t 80)),
 sD 82 (.bin .or .num (.t 78) (.t 81)),
 sD 83 (.ia none 1 (.t 74) (.t 76)),
 sN (.st 1 (.t 83) (.t 82))])
 (.seq (.reg 0 [] [] [sD 84 (.mv (.t 0)),
 sD 85 (.nilc (.t 84)),
 sD 86 (.fa 3 (.t 85)),
 sD 87 (.ld none (.t 86)),
 sD 88 (.mv (.t 8)),
 sD 89 (.bin .add .num (.t 87) (.t 88)),
 sD 90 (.nilc (.t 84)),
 sD 91 (.fa 3 (.t 90)),
 sN (.st 1 (.t 91) (.t 89))])
 (.seq (.reg 0 [] [] [sD 92 (.mv (.t 10)),
 sD 6 (.mv (.t 92)),
 sD 7 (.mv (.c (.int .i64 0)))])
 .ret))))))))))
def fn55 : IFun := ⟨93, [(.tmp 6), (.tmp 7)], an55.erase⟩
theorem ok55 : okFun Try.prog 55 fn55 = true := by kernel_rfl
theorem oka55 : okA fn55.ntmps fn55.results an55 = true := by kernel_rfl
def sh55 (C : CallA) (h0 shape1 n2 : AV) (h : H) (R : AV → H → Prop) : Prop :=
 C 52 [h0, shape1, n2] h fun t16 h =>
 valA (extA t16 0) h fun t17 h =>
 valA (extA t16 1) h fun t18 h =>
 valA (binOp .neq .num t18 (.int .i64 0)) h fun t20 h =>
 condA t20
 (R (.tup [(.int .i64 0), t18]) h)
 (valA (nilcA h0) h fun t24 h =>
 valA (faA 0 t24) h fun t25 h =>
 valA (ldA h none t25) h fun t26 h =>
 valA (lenA false t26) h fun t27 h =>
 valA (nilcA h0) h fun t29 h =>
 valA (faA 3 t29) h fun t30 h =>
 valA (ldA h none t30) h fun t31 h =>
 valA (binOp .sub .num t27 t31) h fun t32 h =>
 valA (binOp .gtr .num t17 t32) h fun t33 h =>
 condA t33
 (R (.tup [(.int .i64 0), (.int .i64 3)]) h)
 (valA (nilcA h0) h fun t35 h =>
 valA (faA 3 t35) h fun t36 h =>
 valA (ldA h none t36) h fun t37 h =>
 valA (nilcA h0) h fun t39 h =>
 valA (faA 0 t39) h fun t40 h =>
 valA (ldA h none t40) h fun t41 h =>
 C 31 [shape1, n2] h fun t45 h =>
 againK (valA (ldA h none t40) h (fun v _ => v = t41)) <|
 valA (iaA 1 t41 t37) h fun t46 h =>
 memA (stA h 1 t46 t45) .undef fun _ h =>
 joinA (fun (h : H) =>
 valA (nilcA h0) h fun t72 h =>
 valA (faA 1 t72) h fun t73 h =>
 valA (ldA h none t73) h fun t74 h =>
 valA (binOp .quo .num t37 (.int .i64 64)) h fun t76 h =>
 valA (iaA 1 t74 t76) h fun t77 h =>
 valA (ldA h none t77) h fun t78 h =>
 valA (binOp .rem .num t37 (.int .i64 64)) h fun t80 h =>
 valA (binOp .shl .num (.int .u64 1) t80) h fun t81 h =>
 valA (binOp .or .num t78 t81) h fun t82 h =>
 valA (iaA 1 t74 t76) h fun t83 h =>
 memA (stA h 1 t83 t82) .undef fun _ h =>
 valA (nilcA h0) h fun t85 h =>
 valA (faA 3 t85) h fun t86 h =>
 valA (ldA h none t86) h fun t87 h =>
 valA (binOp .add .num t87 t17) h fun t89 h =>
 valA (nilcA h0) h fun t90 h =>
 valA (faA 3 t90) h fun t91 h =>
 memA (stA h 1 t91 t89) .undef fun _ h =>
 R (.tup [t37, (.int .i64 0)]) h) fun J =>
 valA (nilcA h0) h fun t48 h =>
 valA (faA 2 t48) h fun t49 h =>
 valA (ldA h none t49) h fun t50 h =>
 valA (iaA 2 t50 shape1) h fun t52 h =>
 valA (faA 0 t52) h fun t53 h =>
 valA (ldA h none t53) h fun t54 h =>
 valA (binOp .neq .num t54 (.int .i64 3)) h fun t55 h =>
 condA t55
 (loopA (fun N l h => argA l 0 fun t57 => 
 valA (binOp .lss .num t57 n2) h fun t58 h =>
 condA t58
 (valA (nilcA h0) h fun t61 h =>
 valA (faA 0 t61) h fun t62 h =>
 valA (ldA h none t62) h fun t63 h =>
 valA (binOp .add .num t37 (.int .i64 1)) h fun t65 h =>
 valA (binOp .add .num t65 t57) h fun t67 h =>
 C 83 [(.int .i64 0)] h fun t68 h =>
 againK (valA (ldA h none t62) h (fun v _ => v = t63)) <|
 valA (iaA 1 t63 t67) h fun t69 h =>
 memA (stA h 1 t69 t68) .undef fun _ h =>
 valA (binOp .add .num t57 (.int .i64 1)) h fun t70 h =>
 N [t70] h)
 (J h)) [(.int .i64 0)] h)
 (J h)))
theorem she55 (C : CallA) (h0 shape1 n2 : AV) (h : H) (R : AV → H → Prop) : wpA C an55 (argE [h0, shape1, n2]) h (outA [(.tmp 6), (.tmp 7)] R) = sh55 C h0 shape1 n2 h R := by kernel_rfl
/-! (*bellows/heap.Heap).Is -/
def an56 : ACode :=
 (.seq (.reg 0 [] [] [sD 4 (.mv (.c (.bool false)))])
 (.seq (.reg 0 [] [] [sD 5 (.mv (.t 0)),
 sD 6 (.bin .neq .ptr (.t 5) (.c .nilp)),
 sD 7 (.mv (.t 6)),
 sG 8 7 true (.mv (.t 1)),
 sG 9 7 true (.bin .geq .num (.t 8) (.c (.int .i64 0))),
 sD 10 (.pick (.t 7) (.t 9) (.c (.bool false))),
 sD 11 (.mv (.t 10)),
 sG 12 11 true (.mv (.t 1)),
 sG 13 11 true (.mv (.t 0)),
 sG 14 11 true (.nilc (.t 13)),
 sG 15 11 true (.fa 3 (.t 14)),
 sG 16 11 true (.ld none (.t 15)),
 sG 17 11 true (.bin .lss .num (.t 12) (.t 16)),
 sD 18 (.pick (.t 11) (.t 17) (.c (.bool false))),
 sD 19 (.mv (.t 18)),
 sG 20 19 true (.mv (.t 0)),
 sG 21 19 true (.nilc (.t 20)),
 sG 22 19 true (.fa 1 (.t 21)),
 sG 23 19 true (.ld none (.t 22)),
 sG 24 19 true (.mv (.t 1)),
 sG 25 19 true (.bin .quo .num (.t 24) (.c (.int .i64 64))),
 sG 26 19 true (.ia none 1 (.t 23) (.t 25)),
 sG 27 19 true (.ld none (.t 26)),
 sG 28 19 true (.mv (.t 1)),
 sG 29 19 true (.bin .rem .num (.t 28) (.c (.int .i64 64))),
 sG 30 19 true (.bin .shr .num (.t 27) (.t 29)),
 sG 31 19 true (.bin .and .num (.t 30) (.c (.int .u64 1))),
 sG 32 19 true (.bin .eql .num (.t 31) (.c (.int .u64 1))),
 sD 33 (.pick (.t 19) (.t 32) (.c (.bool false))),
 sD 4 (.mv (.t 33))])
 .ret))
def fn56 : IFun := ⟨34, [(.tmp 4)], an56.erase⟩
theorem ok56 : okFun Try.prog 56 fn56 = true := by kernel_rfl
theorem oka56 : okA fn56.ntmps fn56.results an56 = true := by kernel_rfl
def sh56 (C : CallA) (h0 at1 : AV) (h : H) (R : AV → H → Prop) : Prop :=
 valA (binOp .neq .ptr h0 .nilp) h fun t6 h =>
 whenA t6 true (fun K => K at1 h) h fun t8 h =>
 whenA t6 true (fun K => valA (binOp .geq .num t8 (.int .i64 0)) h K) h fun t9 h =>
 valA (pickA t6 t9 (.bool false)) h fun t10 h =>
 whenA t10 true (fun K => K at1 h) h fun t12 h =>
 whenA t10 true (fun K => K h0 h) h fun t13 h =>
 whenA t10 true (fun K => valA (nilcA t13) h K) h fun t14 h =>
 whenA t10 true (fun K => valA (faA 3 t14) h K) h fun t15 h =>
 whenA t10 true (fun K => valA (ldA h none t15) h K) h fun t16 h =>
 whenA t10 true (fun K => valA (binOp .lss .num t12 t16) h K) h fun t17 h =>
 valA (pickA t10 t17 (.bool false)) h fun t18 h =>
 whenA t18 true (fun K => K h0 h) h fun t20 h =>
 whenA t18 true (fun K => valA (nilcA t20) h K) h fun t21 h =>
 whenA t18 true (fun K => valA (faA 1 t21) h K) h fun t22 h =>
 whenA t18 true (fun K => valA (ldA h none t22) h K) h fun t23 h =>
 whenA t18 true (fun K => K at1 h) h fun t24 h =>
 whenA t18 true (fun K => valA (binOp .quo .num t24 (.int .i64 64)) h K) h fun t25 h =>
 whenA t18 true (fun K => valA (iaA 1 t23 t25) h K) h fun t26 h =>
 whenA t18 true (fun K => valA (ldA h none t26) h K) h fun t27 h =>
 whenA t18 true (fun K => K at1 h) h fun t28 h =>
 whenA t18 true (fun K => valA (binOp .rem .num t28 (.int .i64 64)) h K) h fun t29 h =>
 whenA t18 true (fun K => valA (binOp .shr .num t27 t29) h K) h fun t30 h =>
 whenA t18 true (fun K => valA (binOp .and .num t30 (.int .u64 1)) h K) h fun t31 h =>
 whenA t18 true (fun K => valA (binOp .eql .num t31 (.int .u64 1)) h K) h fun t32 h =>
 valA (pickA t18 t32 (.bool false)) h fun t33 h =>
 R t33 h
theorem she56 (C : CallA) (h0 at1 : AV) (h : H) (R : AV → H → Prop) : wpA C an56 (argE [h0, at1]) h (outA [(.tmp 4)] R) = sh56 C h0 at1 h R := by kernel_rfl
/-! (*bellows/heap.Heap).Top -/
def an57 : ACode :=
 (.seq (.reg 0 [] [] [sD 2 (.mv (.c (.int .i64 0)))])
 (.seq (.seq (.reg 0 [] [] [sD 3 (.mv (.t 0)),
 sD 4 (.bin .eql .ptr (.t 3) (.c .nilp))])
 (.cond (.t 4) (.seq (.reg 0 [] [] [sD 2 (.mv (.c (.int .i64 0)))])
 .ret)
 .skip))
 (.seq (.reg 0 [] [] [sD 5 (.mv (.t 0)),
 sD 6 (.nilc (.t 5)),
 sD 7 (.fa 3 (.t 6)),
 sD 8 (.ld none (.t 7)),
 sD 2 (.mv (.t 8))])
 .ret)))
def fn57 : IFun := ⟨9, [(.tmp 2)], an57.erase⟩
theorem ok57 : okFun Try.prog 57 fn57 = true := by kernel_rfl
theorem oka57 : okA fn57.ntmps fn57.results an57 = true := by kernel_rfl
def sh57 (C : CallA) (h0 : AV) (h : H) (R : AV → H → Prop) : Prop :=
 valA (binOp .eql .ptr h0 .nilp) h fun t4 h =>
 condA t4
 (R (.int .i64 0) h)
 (valA (nilcA h0) h fun t6 h =>
 valA (faA 3 t6) h fun t7 h =>
 valA (ldA h none t7) h fun t8 h =>
 R t8 h)
theorem she57 (C : CallA) (h0 : AV) (h : H) (R : AV → H → Prop) : wpA C an57 (argE [h0]) h (outA [(.tmp 2)] R) = sh57 C h0 h R := by kernel_rfl
/-! (*bellows/heap.Heap).Size -/
def an58 : ACode :=
 (.seq (.reg 0 [] [] [sD 2 (.mv (.c (.int .i64 0)))])
 (.seq (.seq (.reg 0 [] [] [sD 3 (.mv (.t 0)),
 sD 4 (.bin .eql .ptr (.t 3) (.c .nilp))])
 (.cond (.t 4) (.seq (.reg 0 [] [] [sD 2 (.mv (.c (.int .i64 0)))])
 .ret)
 .skip))
 (.seq (.reg 0 [] [] [sD 5 (.mv (.t 0)),
 sD 6 (.nilc (.t 5)),
 sD 7 (.fa 0 (.t 6)),
 sD 8 (.ld none (.t 7)),
 sD 9 (.len false (.t 8)),
 sD 2 (.mv (.t 9))])
 .ret)))
def fn58 : IFun := ⟨10, [(.tmp 2)], an58.erase⟩
theorem ok58 : okFun Try.prog 58 fn58 = true := by kernel_rfl
theorem oka58 : okA fn58.ntmps fn58.results an58 = true := by kernel_rfl
def sh58 (C : CallA) (h0 : AV) (h : H) (R : AV → H → Prop) : Prop :=
 valA (binOp .eql .ptr h0 .nilp) h fun t4 h =>
 condA t4
 (R (.int .i64 0) h)
 (valA (nilcA h0) h fun t6 h =>
 valA (faA 0 t6) h fun t7 h =>
 valA (ldA h none t7) h fun t8 h =>
 valA (lenA false t8) h fun t9 h =>
 R t9 h)
theorem she58 (C : CallA) (h0 : AV) (h : H) (R : AV → H → Prop) : wpA C an58 (argE [h0]) h (outA [(.tmp 2)] R) = sh58 C h0 h R := by kernel_rfl
/-! (*bellows/heap.Heap).Objects -/
def an59 : ACode :=
 (.seq (.reg 0 [] [] [sD 2 (.mv (.c .nilsl))])
 (.seq (.reg 0 [] [] [sD 3 (.mv (.c .nilsl))])
 (.seq (.seq (.reg 0 [] [] [sD 5 (.mv (.t 0)),
 sD 6 (.call 57 [(.t 5)]),
 sD 7 (.mv (.c (.int .i64 0)))])
 (.block 0 (.loop [3, 7] 201 (.seq (.reg 0 [] [] [sD 8 (.bin .lss .num (.t 7) (.t 6))])
 (.seq (.cond (.t 8) .skip
 (.exit 0))
 (.seq (.block 1 (.seq (.reg 0 [] [] [sD 9 (.mv (.t 7)),
 sD 4 (.mv (.t 9))])
 (.seq (.reg 0 [] [] [sD 10 (.mv (.t 0)),
 sD 11 (.mv (.t 4)),
 sD 12 (.call 56 [(.t 10), (.t 11)])])
 (.cond (.t 12) (.reg 0 [] [] [sD 13 (.mv (.t 3)),
 sD 14 (.mv (.t 4)),
 sD 15 (.mksl none 3 [(.int .i64 0)] 1 [(0, 1, (.t 14))]),
 sD 16 (.app 3 1 8 [(.int .i64 0)] (.t 13) (.t 15)),
 sD 3 (.mv (.t 16))])
 .skip))))
 (.reg 0 [] [] [sD 17 (.bin .add .num (.t 7) (.c (.int .i64 1))),
 sD 7 (.mv (.t 17))])))))))
 (.seq (.reg 0 [] [] [sD 18 (.mv (.t 3)),
 sD 2 (.mv (.t 18))])
 .ret))))
def fn59 : IFun := ⟨19, [(.tmp 2)], an59.erase⟩
theorem ok59 : okFun Try.prog 59 fn59 = true := by kernel_rfl
theorem oka59 : okA fn59.ntmps fn59.results an59 = true := by kernel_rfl
def sh59 (C : CallA) (h0 : AV) (h : H) (R : AV → H → Prop) : Prop :=
 joinA (fun (l3' : AV) (h : H) =>
 R l3' h) fun J =>
 C 57 [h0] h fun t6 h =>
 loopA (fun N l h => argA l 0 fun l3 => argA l 1 fun t7 => 
 valA (binOp .lss .num t7 t6) h fun t8 h =>
 condA t8
 (joinA (fun (l3'_0 : AV) (h : H) =>
 valA (binOp .add .num t7 (.int .i64 1)) h fun t17 h =>
 N [l3'_0, t17] h) fun J_10 =>
 C 56 [h0, t7] h fun t12 h =>
 condA t12
 (mkslA h 3 1 (fillV [(.int .i64 0)] [(0, 1, t7)]) fun t15 h =>
 appendA h 3 1 8 l3 t15 fun t16 h =>
 J_10 t16 h)
 (J_10 l3 h))
 (J l3 h)) [.nilsl, (.int .i64 0)] h
theorem she59 (C : CallA) (h0 : AV) (h : H) (R : AV → H → Prop) : wpA C an59 (argE [h0]) h (outA [(.tmp 2)] R) = sh59 C h0 h R := by kernel_rfl
/-! bellows/bellowslaw02.Made -/
def an60 : ACode :=
 (.seq (.reg 0 [] [] [sD 6 (.mv (.c .nilp)),
 sD 7 (.mv (.c .nilp))])
 (.seq (.seq (.reg 0 [] [] [sD 13 (.mv (.t 1)),
 sD 14 (.len false (.t 13)),
 sD 15 (.bin .gtr .num (.t 14) (.c (.int .i64 600)))])
 (.cond (.t 15) (.reg 0 [] [] [sD 16 (.mv (.t 1)),
 sD 17 (.sli (.row 2) (.t 16) none (some (.c (.int .i64 600))) none),
 sD 1 (.mv (.t 17))])
 .skip))
 (.seq (.reg 0 [] [] [sD 18 (.mv (.t 0)),
 sD 19 (.mn [(.t 18), (.c (.int .i64 4000))]),
 sD 0 (.mv (.t 19))])
 (.seq (.reg 0 [] [] [sD 21 (.mv (.t 0)),
 sD 22 (.mv (.t 1)),
 sD 23 (.call 49 [(.t 21), (.t 22)]),
 sD 20 (.mv (.t 23)),
 sD 24 (.ext (.t 20) 0),
 sD 25 (.ext (.t 20) 1),
 sD 8 (.mv (.t 24)),
 sD 9 (.mv (.t 25))])
 (.seq (.seq (.reg 0 [] [] [sD 26 (.mv (.t 9)),
 sD 27 (.bin .neq .num (.t 26) (.c (.int .i64 0))),
 sD 28 (.mv (.t 27)),
 sG 29 28 false (.mv (.t 8)),
 sG 30 28 false (.bin .eql .ptr (.t 29) (.c .nilp)),
 sD 31 (.pick (.t 28) (.c (.bool true)) (.t 30)),
 sD 32 (.mv (.t 31)),
 sG 33 32 false (.mv (.t 0)),
 sG 34 32 false (.mv (.t 1)),
 sG 35 32 false (.call 50 [(.t 33), (.t 34)]),
 sG 36 32 false (.bin .neq .num (.t 35) (.c (.int .i64 0))),
 sD 37 (.pick (.t 32) (.c (.bool true)) (.t 36))])
 (.cond (.t 37) (.seq (.reg 0 [] [] [sD 6 (.mv (.c .nilp)),
 sD 7 (.mv (.c .nilp))])
 .ret)
 .skip))
 (.seq (.reg 0 [] [] [sD 38 (.mv (.t 0)),
 sD 39 (.mv (.t 1)),
 sD 40 (.build [(.int .i64 0), .nilsl, .nilsl] [(0, 1, (.t 38)), (1, 1, (.t 39))]),
 sD 41 (.bx none 56 (.t 40)),
 sD 10 (.mv (.t 41))])
 (.seq (.seq (.reg 0 [] [] [sD 42 (.mv (.t 2)),
 sD 43 (.call 73 [(.t 42)]),
 sD 44 (.len false (.t 43)),
 sD 45 (.mv (.c (.int .i64 0)))])
 (.block 0 (.loop [45] 61572651156736 (.seq (.reg 0 [] [] [sD 46 (.bin .lss .num (.t 45) (.t 44))])
 (.seq (.cond (.t 46) .skip
 (.exit 0))
 (.seq (.block 1 (.seq (.reg 0 [] [] [sD 47 (.ia none 5 (.t 43) (.t 45)),
 sD 48 (.ld (some 5) (.t 47)),
 sD 12 (.al none 72 [(.int .i64 0), (.int .i64 0), (.int .i64 0), (.int .u64 0), (.bool false)]),
 sN (.st 5 (.t 12) (.t 48))])
 (.seq (.reg 0 [] [] [sD 49 (.fa 0 (.t 12)),
 sD 50 (.ld none (.t 49)),
 sD 51 (.bin .neq .num (.t 50) (.c (.int .i64 1))),
 sD 52 (.mv (.t 51)),
 sG 53 52 false (.mv (.t 10)),
 sG 54 52 false (.nilc (.t 53)),
 sG 55 52 false (.fa 2 (.t 54)),
 sG 56 52 false (.ld none (.t 55)),
 sG 57 52 false (.len false (.t 56)),
 sG 58 52 false (.bin .lss .num (.t 57) (.c (.int .i64 150))),
 sD 59 (.pick (.t 52) (.c (.bool true)) (.t 58))])
 (.cond (.t 59) (.reg 0 [] [] [sD 60 (.mv (.t 8)),
 sD 61 (.mv (.t 10)),
 sD 62 (.ld (some 5) (.t 12)),
 sD 63 (.call 74 [(.t 60), (.t 61), (.t 62)])])
 .skip))))
 (.reg 0 [] [] [sD 64 (.bin .add .num (.t 45) (.c (.int .i64 1))),
 sD 45 (.mv (.t 64))])))))))
 (.seq (.reg 0 [] [] [sD 65 (.mv (.t 8)),
 sD 66 (.mv (.t 10)),
 sD 6 (.mv (.t 65)),
 sD 7 (.mv (.t 66))])
 .ret))))))))
def fn60 : IFun := ⟨67, [(.tmp 6), (.tmp 7)], an60.erase⟩
theorem ok60 : okFun Try.prog 60 fn60 = true := by kernel_rfl
theorem oka60 : okA fn60.ntmps fn60.results an60 = true := by kernel_rfl
def sh60 (C : CallA) (words0 layouts1 l2 : AV) (h : H) (R : AV → H → Prop) : Prop :=
 joinA (fun (layouts1' : AV) (h : H) =>
 valA (mnA [words0, (.int .i64 4000)]) h fun t19 h =>
 C 49 [t19, layouts1'] h fun t23 h =>
 valA (extA t23 0) h fun t24 h =>
 valA (extA t23 1) h fun t25 h =>
 valA (binOp .neq .num t25 (.int .i64 0)) h fun t27 h =>
 whenA t27 false (fun K => K t24 h) h fun t29 h =>
 whenA t27 false (fun K => valA (binOp .eql .ptr t29 .nilp) h K) h fun t30 h =>
 valA (pickA t27 (.bool true) t30) h fun t31 h =>
 whenA t31 false (fun K => K t19 h) h fun t33 h =>
 whenA t31 false (fun K => K layouts1' h) h fun t34 h =>
 whenA t31 false (fun K => C 50 [t33, t34] h K) h fun t35 h =>
 whenA t31 false (fun K => valA (binOp .neq .num t35 (.int .i64 0)) h K) h fun t36 h =>
 valA (pickA t31 (.bool true) t36) h fun t37 h =>
 condA t37
 (R (.tup [.nilp, .nilp]) h)
 (valA (buildA (fillV [(.int .i64 0), .nilsl, .nilsl] [(0, 1, t19), (1, 1, layouts1')])) h fun t40 h =>
 boxA h (AV.cells t40) 56 fun t41 h =>
 joinA (fun (h : H) =>
 R (.tup [t24, t41]) h) fun J =>
 C 73 [l2] h fun t43 h =>
 valA (lenA false t43) h fun t44 h =>
 loopA (fun N l h => argA l 0 fun t45 => 
 valA (binOp .lss .num t45 t44) h fun t46 h =>
 condA t46
 (joinA (fun (h : H) =>
 valA (binOp .add .num t45 (.int .i64 1)) h fun t64 h =>
 N [t64] h) fun J_18 =>
 valA (iaA 5 t43 t45) h fun t47 h =>
 valA (ldA h (some 5) t47) h fun t48 h =>
 boxA h [(.int .i64 0), (.int .i64 0), (.int .i64 0), (.int .u64 0), (.bool false)] 72 fun o12 h =>
 memA (stA h 5 o12 t48) .undef fun _ h =>
 valA (faA 0 o12) h fun t49 h =>
 valA (ldA h none t49) h fun t50 h =>
 valA (binOp .neq .num t50 (.int .i64 1)) h fun t51 h =>
 whenA t51 false (fun K => K t41 h) h fun t53 h =>
 whenA t51 false (fun K => valA (nilcA t53) h K) h fun t54 h =>
 whenA t51 false (fun K => valA (faA 2 t54) h K) h fun t55 h =>
 whenA t51 false (fun K => valA (ldA h none t55) h K) h fun t56 h =>
 whenA t51 false (fun K => valA (lenA false t56) h K) h fun t57 h =>
 whenA t51 false (fun K => valA (binOp .lss .num t57 (.int .i64 150)) h K) h fun t58 h =>
 valA (pickA t51 (.bool true) t58) h fun t59 h =>
 condA t59
 (valA (ldA h (some 5) o12) h fun t62 h =>
 C 74 [t24, t41, t62] h fun t63 h =>
 J_18 h)
 (J_18 h))
 (J h)) [(.int .i64 0)] h)) fun J_19 =>
 valA (lenA false layouts1) h fun t14 h =>
 valA (binOp .gtr .num t14 (.int .i64 600)) h fun t15 h =>
 condA t15
 (valA (sliceOp (.row 2) layouts1 none (some (.int .i64 600)) none) h fun t17 h =>
 J_19 t17 h)
 (J_19 layouts1 h)
theorem she60 (C : CallA) (words0 layouts1 l2 : AV) (h : H) (R : AV → H → Prop) : wpA C an60 (argE [words0, layouts1, l2]) h (outA [(.tmp 6), (.tmp 7)] R) = sh60 C words0 layouts1 l2 h R := by kernel_rfl
/-! bellows/bellowslaw02.place -/
def an61 : ACode :=
 (.seq (.reg 0 [] [] [sD 4 (.mv (.c (.int .i64 0)))])
 (.seq (.seq (.reg 0 [] [] [sD 5 (.mv (.t 1)),
 sD 6 (.bin .geq .num (.t 5) (.c (.int .i64 0))),
 sD 7 (.mv (.t 6)),
 sG 8 7 false (.mv (.t 0)),
 sG 9 7 false (.len false (.t 8)),
 sG 10 7 false (.bin .eql .num (.t 9) (.c (.int .i64 0))),
 sD 11 (.pick (.t 7) (.c (.bool true)) (.t 10))])
 (.cond (.t 11) (.seq (.reg 0 [] [] [sD 12 (.mv (.t 1)),
 sD 4 (.mv (.t 12))])
 .ret)
 .skip))
 (.seq (.reg 0 [] [] [sD 13 (.mv (.t 0)),
 sD 14 (.mv (.t 1)),
 sD 15 (.bin .add .num (.t 14) (.c (.int .i64 1))),
 sD 16 (.un .neg (.t 15)),
 sD 17 (.cv none (.toInt .u64) (.t 16)),
 sD 18 (.mv (.t 0)),
 sD 19 (.len false (.t 18)),
 sD 20 (.cv none (.toInt .u64) (.t 19)),
 sD 21 (.bin .rem .num (.t 17) (.t 20)),
 sD 22 (.cv none (.toInt .i64) (.t 21)),
 sD 23 (.ia none 5 (.t 13) (.t 22)),
 sD 24 (.fa 0 (.t 23)),
 sD 25 (.ld none (.t 24)),
 sD 4 (.mv (.t 25))])
 .ret)))
def fn61 : IFun := ⟨26, [(.tmp 4)], an61.erase⟩
theorem ok61 : okFun Try.prog 61 fn61 = true := by kernel_rfl
theorem oka61 : okA fn61.ntmps fn61.results an61 = true := by kernel_rfl
def sh61 (C : CallA) (l0 a1 : AV) (h : H) (R : AV → H → Prop) : Prop :=
 valA (binOp .geq .num a1 (.int .i64 0)) h fun t6 h =>
 whenA t6 false (fun K => K l0 h) h fun t8 h =>
 whenA t6 false (fun K => valA (lenA false t8) h K) h fun t9 h =>
 whenA t6 false (fun K => valA (binOp .eql .num t9 (.int .i64 0)) h K) h fun t10 h =>
 valA (pickA t6 (.bool true) t10) h fun t11 h =>
 condA t11
 (R a1 h)
 (valA (binOp .add .num a1 (.int .i64 1)) h fun t15 h =>
 valA (unOp .neg t15) h fun t16 h =>
 valA (cvA .u64 t16) h fun t17 h =>
 valA (lenA false l0) h fun t19 h =>
 valA (cvA .u64 t19) h fun t20 h =>
 valA (binOp .rem .num t17 t20) h fun t21 h =>
 valA (cvA .i64 t21) h fun t22 h =>
 valA (iaA 5 l0 t22) h fun t23 h =>
 valA (faA 0 t23) h fun t24 h =>
 valA (ldA h none t24) h fun t25 h =>
 R t25 h)
theorem she61 (C : CallA) (l0 a1 : AV) (h : H) (R : AV → H → Prop) : wpA C an61 (argE [l0, a1]) h (outA [(.tmp 4)] R) = sh61 C l0 a1 h R := by kernel_rfl
/-! (*bellows/heap.Heap).Load -/
def an62 : ACode :=
 (.seq (.reg 0 [] [] [sD 4 (.mv (.c (.int .u64 0)))])
 (.seq (.seq (.reg 0 [] [] [sD 5 (.mv (.t 1)),
 sD 6 (.bin .lss .num (.t 5) (.c (.int .i64 0))),
 sD 7 (.mv (.t 6)),
 sG 8 7 false (.mv (.t 1)),
 sG 9 7 false (.mv (.t 0)),
 sG 10 7 false (.call 58 [(.t 9)]),
 sG 11 7 false (.bin .geq .num (.t 8) (.t 10)),
 sD 12 (.pick (.t 7) (.c (.bool true)) (.t 11))])
 (.cond (.t 12) (.seq (.reg 0 [] [] [sD 4 (.mv (.c (.int .u64 0)))])
 .ret)
 .skip))
 (.seq (.reg 0 [] [] [sD 13 (.mv (.t 0)),
 sD 14 (.nilc (.t 13)),
 sD 15 (.fa 0 (.t 14)),
 sD 16 (.ld none (.t 15)),
 sD 17 (.mv (.t 1)),
 sD 18 (.ia none 1 (.t 16) (.t 17)),
 sD 19 (.ld none (.t 18)),
 sD 4 (.mv (.t 19))])
 .ret)))
def fn62 : IFun := ⟨20, [(.tmp 4)], an62.erase⟩
theorem ok62 : okFun Try.prog 62 fn62 = true := by kernel_rfl
theorem oka62 : okA fn62.ntmps fn62.results an62 = true := by kernel_rfl
def sh62 (C : CallA) (h0 i1 : AV) (h : H) (R : AV → H → Prop) : Prop :=
 valA (binOp .lss .num i1 (.int .i64 0)) h fun t6 h =>
 whenA t6 false (fun K => K i1 h) h fun t8 h =>
 whenA t6 false (fun K => K h0 h) h fun t9 h =>
 whenA t6 false (fun K => C 58 [t9] h K) h fun t10 h =>
 whenA t6 false (fun K => valA (binOp .geq .num t8 t10) h K) h fun t11 h =>
 valA (pickA t6 (.bool true) t11) h fun t12 h =>
 condA t12
 (R (.int .u64 0) h)
 (valA (nilcA h0) h fun t14 h =>
 valA (faA 0 t14) h fun t15 h =>
 valA (ldA h none t15) h fun t16 h =>
 valA (iaA 1 t16 i1) h fun t18 h =>
 valA (ldA h none t18) h fun t19 h =>
 R t19 h)
theorem she62 (C : CallA) (h0 i1 : AV) (h : H) (R : AV → H → Prop) : wpA C an62 (argE [h0, i1]) h (outA [(.tmp 4)] R) = sh62 C h0 i1 h R := by kernel_rfl
/-! (*bellows/heap.Heap).Set -/
def an63 : ACode :=
 (.seq (.reg 0 [] [] [sD 8 (.mv (.c (.int .i64 0)))])
 (.seq (.seq (.reg 0 [] [] [sD 9 (.mv (.t 0)),
 sD 10 (.mv (.t 1)),
 sD 11 (.mv (.t 2)),
 sD 12 (.call 101 [(.t 9), (.t 10), (.t 11), (.c (.bool false))]),
 sD 13 (.un .not (.t 12)),
 sD 14 (.mv (.t 13)),
 sG 15 14 false (.mv (.t 0)),
 sG 16 14 false (.mv (.t 3)),
 sG 17 14 false (.call 68 [(.t 15), (.t 16)]),
 sG 18 14 false (.un .not (.t 17)),
 sD 19 (.pick (.t 14) (.c (.bool true)) (.t 18))])
 (.cond (.t 19) (.seq (.reg 0 [] [] [sD 8 (.mv (.c (.int .i64 1)))])
 .ret)
 .skip))
 (.seq (.reg 0 [] [] [sD 20 (.mv (.t 0)),
 sD 21 (.nilc (.t 20)),
 sD 22 (.fa 0 (.t 21)),
 sD 23 (.ld none (.t 22)),
 sD 24 (.mv (.t 1)),
 sD 25 (.bin .add .num (.t 24) (.c (.int .i64 1))),
 sD 26 (.mv (.t 2)),
 sD 27 (.bin .add .num (.t 25) (.t 26)),
 sD 28 (.mv (.t 3)),
 sD 29 (.ia none 1 (.t 23) (.t 27)),
 sN (.st 1 (.t 29) (.t 28))])
 (.seq (.reg 0 [] [] [sD 8 (.mv (.c (.int .i64 0)))])
 .ret))))
def fn63 : IFun := ⟨30, [(.tmp 8)], an63.erase⟩
theorem ok63 : okFun Try.prog 63 fn63 = true := by kernel_rfl
theorem oka63 : okA fn63.ntmps fn63.results an63 = true := by kernel_rfl
def sh63 (C : CallA) (h0 at1 i2 w3 : AV) (h : H) (R : AV → H → Prop) : Prop :=
 C 101 [h0, at1, i2, (.bool false)] h fun t12 h =>
 valA (unOp .not t12) h fun t13 h =>
 whenA t13 false (fun K => K h0 h) h fun t15 h =>
 whenA t13 false (fun K => K w3 h) h fun t16 h =>
 whenA t13 false (fun K => C 68 [t15, t16] h K) h fun t17 h =>
 whenA t13 false (fun K => valA (unOp .not t17) h K) h fun t18 h =>
 valA (pickA t13 (.bool true) t18) h fun t19 h =>
 condA t19
 (R (.int .i64 1) h)
 (valA (nilcA h0) h fun t21 h =>
 valA (faA 0 t21) h fun t22 h =>
 valA (ldA h none t22) h fun t23 h =>
 valA (binOp .add .num at1 (.int .i64 1)) h fun t25 h =>
 valA (binOp .add .num t25 i2) h fun t27 h =>
 valA (iaA 1 t23 t27) h fun t29 h =>
 memA (stA h 1 t29 w3) .undef fun _ h =>
 R (.int .i64 0) h)
theorem she63 (C : CallA) (h0 at1 i2 w3 : AV) (h : H) (R : AV → H → Prop) : wpA C an63 (argE [h0, at1, i2, w3]) h (outA [(.tmp 8)] R) = sh63 C h0 at1 i2 w3 h R := by kernel_rfl
/-! (*bellows/heap.Heap).Get -/
def an64 : ACode :=
 (.seq (.reg 0 [] [] [sD 6 (.mv (.c (.int .u64 0))),
 sD 7 (.mv (.c (.int .i64 0)))])
 (.seq (.seq (.reg 0 [] [] [sD 8 (.mv (.t 0)),
 sD 9 (.mv (.t 1)),
 sD 10 (.mv (.t 2)),
 sD 11 (.call 101 [(.t 8), (.t 9), (.t 10), (.c (.bool false))]),
 sD 12 (.un .not (.t 11))])
 (.cond (.t 12) (.seq (.reg 0 [] [] [sD 6 (.mv (.c (.int .u64 0))),
 sD 7 (.mv (.c (.int .i64 1)))])
 .ret)
 .skip))
 (.seq (.reg 0 [] [] [sD 13 (.mv (.t 0)),
 sD 14 (.nilc (.t 13)),
 sD 15 (.fa 0 (.t 14)),
 sD 16 (.ld none (.t 15)),
 sD 17 (.mv (.t 1)),
 sD 18 (.bin .add .num (.t 17) (.c (.int .i64 1))),
 sD 19 (.mv (.t 2)),
 sD 20 (.bin .add .num (.t 18) (.t 19)),
 sD 21 (.ia none 1 (.t 16) (.t 20)),
 sD 22 (.ld none (.t 21)),
 sD 6 (.mv (.t 22)),
 sD 7 (.mv (.c (.int .i64 0)))])
 .ret)))
def fn64 : IFun := ⟨23, [(.tmp 6), (.tmp 7)], an64.erase⟩
theorem ok64 : okFun Try.prog 64 fn64 = true := by kernel_rfl
theorem oka64 : okA fn64.ntmps fn64.results an64 = true := by kernel_rfl
def sh64 (C : CallA) (h0 at1 i2 : AV) (h : H) (R : AV → H → Prop) : Prop :=
 C 101 [h0, at1, i2, (.bool false)] h fun t11 h =>
 valA (unOp .not t11) h fun t12 h =>
 condA t12
 (R (.tup [(.int .u64 0), (.int .i64 1)]) h)
 (valA (nilcA h0) h fun t14 h =>
 valA (faA 0 t14) h fun t15 h =>
 valA (ldA h none t15) h fun t16 h =>
 valA (binOp .add .num at1 (.int .i64 1)) h fun t18 h =>
 valA (binOp .add .num t18 i2) h fun t20 h =>
 valA (iaA 1 t16 t20) h fun t21 h =>
 valA (ldA h none t21) h fun t22 h =>
 R (.tup [t22, (.int .i64 0)]) h)
theorem she64 (C : CallA) (h0 at1 i2 : AV) (h : H) (R : AV → H → Prop) : wpA C an64 (argE [h0, at1, i2]) h (outA [(.tmp 6), (.tmp 7)] R) = sh64 C h0 at1 i2 h R := by kernel_rfl
/-! (*bellows/heap.Heap).SetByte -/
def an65 : ACode :=
 (.seq (.reg 0 [] [] [sD 8 (.mv (.c (.int .i64 0)))])
 (.seq (.seq (.reg 0 [] [] [sD 11 (.mv (.t 0)),
 sD 12 (.mv (.t 1)),
 sD 13 (.mv (.t 2)),
 sD 14 (.call 101 [(.t 11), (.t 12), (.t 13), (.c (.bool true))]),
 sD 15 (.un .not (.t 14))])
 (.cond (.t 15) (.seq (.reg 0 [] [] [sD 8 (.mv (.c (.int .i64 1)))])
 .ret)
 .skip))
 (.seq (.reg 0 [] [] [sD 16 (.mv (.t 0)),
 sD 17 (.nilc (.t 16)),
 sD 18 (.fa 0 (.t 17)),
 sD 19 (.ld none (.t 18)),
 sD 20 (.mv (.t 1)),
 sD 21 (.bin .add .num (.t 20) (.c (.int .i64 1))),
 sD 22 (.mv (.t 2)),
 sD 23 (.bin .quo .num (.t 22) (.c (.int .i64 8))),
 sD 24 (.bin .add .num (.t 21) (.t 23)),
 sD 25 (.ia none 1 (.t 19) (.t 24)),
 sD 26 (.mv (.t 2)),
 sD 27 (.bin .rem .num (.t 26) (.c (.int .i64 8))),
 sD 28 (.bin .mul .num (.t 27) (.c (.int .i64 8))),
 sD 9 (.mv (.t 25)),
 sD 10 (.mv (.t 28))])
 (.seq (.reg 0 [0, 1, 2, 3, 4, 5, 6, 7, 8, 9, 10, 11, 12, 13] [[], [], [1], [1, 2], [], [4], [4, 5, 2, 1, 3], [], [7], [], [9, 7, 8], [8, 7, 9, 10, 3, 1, 2, 5, 4, 6], [11, 10, 9, 8, 7, 6, 5, 4, 3, 2, 1, 0], [0, 1, 2, 3, 4, 5, 6, 7, 8, 9, 10, 11, 12]] [sD 29 (.mv (.t 9)),
 sD 30 (.mv (.t 9)),
 sD 31 (.nilc (.t 30)),
 sD 32 (.ld none (.t 31)),
 sD 33 (.mv (.t 10)),
 sD 34 (.bin .shl .num (.c (.int .u64 255)) (.t 33)),
 sD 35 (.bin .andNot .num (.t 32) (.t 34)),
 sD 36 (.mv (.t 3)),
 sD 37 (.cv none (.toInt .u64) (.t 36)),
 sD 38 (.mv (.t 10)),
 sD 39 (.bin .shl .num (.t 37) (.t 38)),
 sD 40 (.bin .or .num (.t 35) (.t 39)),
 sD 41 (.nilc (.t 29)),
 sN (.st 1 (.t 41) (.t 40))])
 (.seq (.reg 0 [] [] [sD 8 (.mv (.c (.int .i64 0)))])
 .ret)))))
def fn65 : IFun := ⟨42, [(.tmp 8)], an65.erase⟩
theorem ok65 : okFun Try.prog 65 fn65 = true := by kernel_rfl
theorem oka65 : okA fn65.ntmps fn65.results an65 = true := by kernel_rfl
def sh65 (C : CallA) (h0 at1 i2 c3 : AV) (h : H) (R : AV → H → Prop) : Prop :=
 C 101 [h0, at1, i2, (.bool true)] h fun t14 h =>
 valA (unOp .not t14) h fun t15 h =>
 condA t15
 (R (.int .i64 1) h)
 (valA (nilcA h0) h fun t17 h =>
 valA (faA 0 t17) h fun t18 h =>
 valA (ldA h none t18) h fun t19 h =>
 valA (binOp .add .num at1 (.int .i64 1)) h fun t21 h =>
 valA (binOp .quo .num i2 (.int .i64 8)) h fun t23 h =>
 valA (binOp .add .num t21 t23) h fun t24 h =>
 valA (iaA 1 t19 t24) h fun t25 h =>
 valA (binOp .rem .num i2 (.int .i64 8)) h fun t27 h =>
 valA (binOp .mul .num t27 (.int .i64 8)) h fun t28 h =>
 valA (nilcA t25) h fun t31 h =>
 valA (ldA h none t31) h fun t32 h =>
 valA (binOp .shl .num (.int .u64 255) t28) h fun t34 h =>
 valA (binOp .andNot .num t32 t34) h fun t35 h =>
 valA (cvA .u64 c3) h fun t37 h =>
 valA (binOp .shl .num t37 t28) h fun t39 h =>
 valA (binOp .or .num t35 t39) h fun t40 h =>
 valA (nilcA t25) h fun t41 h =>
 memA (stA h 1 t41 t40) .undef fun _ h =>
 R (.int .i64 0) h)
theorem she65 (C : CallA) (h0 at1 i2 c3 : AV) (h : H) (R : AV → H → Prop) : wpA C an65 (argE [h0, at1, i2, c3]) h (outA [(.tmp 8)] R) = sh65 C h0 at1 i2 c3 h R := by kernel_rfl
end Go.Proofs.Ytljkkfcokpimkaa.X
