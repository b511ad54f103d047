/- The plain programs of functions, printed; that they are the model's; what must hold ahead of each. -/
import Derived.Test.YtljkkfcokpimkaaProg
import Derived.Test.YtljkkfcokpimkaaXo
set_option maxRecDepth 100000
set_option linter.unusedVariables false
namespace Go.Proofs.Ytljkkfcokpimkaa.X
open Go
/-! (*bellows/heap.Heap).has -/
def an101 : ACode :=
 (.seq (.reg 0 [] [] [sD 8 (.mv (.c (.bool false)))])
 (.seq (.reg 0 [0, 1, 2, 3, 4, 5, 6, 7, 8, 9, 10, 11, 12, 13, 14, 15, 16, 17, 18, 19, 20, 21, 22, 23, 24, 25, 26, 27, 28, 29, 30, 31, 32, 33, 34, 35, 36, 37, 38, 39] [[], [], [1, 0], [0, 1, 2], [2, 1, 0, 3], [3, 0, 1, 2, 4], [4, 2, 1, 0, 3, 5], [5, 3, 0, 1, 2, 4, 6], [2, 1, 0, 3], [3, 0, 1, 2, 8], [8, 2, 1, 0, 3, 9], [9, 3, 0, 1, 2, 8, 10], [2, 1, 0, 3], [12, 10, 8, 2, 1, 0, 3, 9, 11], [11, 9, 3, 0, 1, 2, 8, 10, 12, 13], [13, 12, 10, 8, 2, 1, 0, 3, 9, 11, 14], [14, 11, 9, 8, 10, 12, 13, 15, 6, 4, 2, 1, 0, 3, 5, 7], [7, 5, 3, 0, 1, 2, 4, 6, 15, 13, 12, 10, 8, 9, 11, 14, 16], [16, 14, 11, 9, 8, 10, 12, 13, 15, 6, 4, 2, 1, 0, 3, 5, 7, 17], [17, 7, 5, 3, 0, 1, 2, 4, 6, 15, 13, 12, 10, 8, 9, 11, 14, 16, 18], [2, 1, 0, 3], [20, 18, 16, 14, 11, 9, 8, 10, 12, 13, 15, 6, 4, 2, 1, 0, 3, 5, 7, 17, 19], [19, 17, 7, 5, 4, 6, 15, 13, 12, 10, 8, 9, 11, 14, 16, 18, 20, 21, 2, 1, 0, 3], [3, 0, 1, 2, 21, 20, 18, 16, 14, 11, 9, 8, 10, 12, 13, 15, 6, 4, 5, 7, 17, 19, 22], [22, 19, 17, 7, 5, 4, 6, 15, 13, 12, 10, 8, 9, 11, 14, 16, 18, 20, 21, 2, 1, 0, 3, 23], [23, 3, 0, 1, 2, 21, 20, 18, 16, 14, 11, 9, 8, 10, 12, 13, 15, 6, 4, 5, 7, 17, 19, 22, 24], [24, 25, 22, 19, 17, 7, 5, 4, 6, 15, 13, 12, 10, 8, 9, 11, 14, 16, 18, 20, 21, 2, 1, 0, 3, 23], [23, 3, 0, 1, 2, 21, 20, 18, 16, 14, 11, 9, 8, 10, 12, 13, 15, 6, 4, 5, 7, 17, 19, 22, 25, 24, 26], [26, 24, 25, 22, 19, 17, 7, 5, 4, 6, 15, 13, 12, 10, 8, 9, 11, 14, 16, 18, 20, 21, 2, 1, 0, 3, 23, 27], [26, 24, 25, 22, 19, 17, 7, 5, 4, 6, 15, 13, 12, 10, 8, 9, 11, 14, 16, 18, 20, 21, 2, 1, 0, 3, 23, 27], [27, 23, 3, 0, 1, 2, 21, 20, 18, 16, 14, 11, 9, 8, 10, 12, 13, 15, 6, 4, 5, 7, 17, 19, 22, 25, 24, 26, 29], [29, 26, 24, 25, 22, 19, 17, 7, 5, 4, 6, 15, 13, 12, 10, 8, 9, 11, 14, 16, 18, 20, 21, 2, 1, 0, 3, 23, 27, 30], [30, 27, 23, 3, 0, 1, 2, 21, 20, 18, 16, 14, 11, 9, 8, 10, 12, 13, 15, 6, 4, 5, 7, 17, 19, 22, 25, 24, 26, 29, 31], [26, 24, 25, 22, 19, 17, 7, 5, 4, 6, 15, 13, 12, 10, 8, 9, 11, 14, 16, 18, 20, 21, 2, 1, 0, 3, 23, 27], [33, 31, 29, 26, 24, 25, 22, 19, 17, 7, 5, 4, 6, 15, 13, 12, 10, 8, 9, 11, 14, 16, 18, 20, 21, 2, 1, 0, 3, 23, 27, 30, 32], [32, 30, 27, 23, 3, 0, 1, 2, 21, 20, 18, 16, 14, 11, 9, 8, 10, 12, 13, 15, 6, 4, 5, 7, 17, 19, 22, 25, 24, 26, 29, 31, 33, 34], [34, 33, 31, 29, 26, 24, 25, 22, 19, 17, 7, 5, 4, 6, 15, 13, 12, 10, 8, 9, 11, 14, 16, 18, 20, 21, 2, 1, 0, 3, 23, 27, 30, 32, 35], [35, 32, 30, 29, 31, 33, 34, 36, 27, 23, 3, 0, 1, 2, 21, 20, 18, 16, 14, 11, 9, 8, 10, 12, 13, 15, 6, 4, 5, 7, 17, 19, 22, 25, 24, 26, 28], [28, 36, 34, 33, 31, 29, 30, 32, 35, 37, 26, 24, 25, 22, 19, 17, 7, 5, 4, 6, 15, 13, 12, 10, 8, 9, 11, 14, 16, 18, 20, 21, 2, 1, 0, 3, 23, 27], [27, 23, 3, 0, 1, 2, 21, 20, 18, 16, 14, 11, 9, 8, 10, 12, 13, 15, 6, 4, 5, 7, 17, 19, 22, 25, 24, 26, 37, 35, 32, 30, 29, 31, 33, 34, 36, 28, 38]] [sD 9 (.mv (.t 0)),
 sD 10 (.mv (.t 1)),
 sD 11 (.call 56 [(.t 9), (.t 10)]),
 sD 12 (.mv (.t 11)),
 sG 13 12 true (.mv (.t 0)),
 sG 14 12 true (.nilc (.t 13)),
 sG 15 12 true (.fa 2 (.t 14)),
 sG 16 12 true (.ld none (.t 15)),
 sG 17 12 true (.mv (.t 0)),
 sG 18 12 true (.nilc (.t 17)),
 sG 19 12 true (.fa 0 (.t 18)),
 sG 20 12 true (.ld none (.t 19)),
 sG 21 12 true (.mv (.t 1)),
 sG 22 12 true (.ia none 1 (.t 20) (.t 21)),
 sG 23 12 true (.ld none (.t 22)),
 ⟨(some 24), (some (12, true)), (.call 33 [(.t 23)]), [⟨(some (12, true)), (.ld none (.t 15)), 16⟩]⟩,
 sG 25 12 true (.ia none 2 (.t 16) (.t 24)),
 sG 26 12 true (.fa 0 (.t 25)),
 sG 27 12 true (.ld none (.t 26)),
 sG 28 12 true (.bin .eql .num (.t 27) (.c (.int .i64 3))),
 sG 29 12 true (.mv (.t 3)),
 sG 30 12 true (.bin .eql .bool (.t 28) (.t 29)),
 sD 31 (.pick (.t 12) (.t 30) (.c (.bool false))),
 sD 32 (.mv (.t 31)),
 sG 33 32 true (.mv (.t 2)),
 sG 34 32 true (.bin .geq .num (.t 33) (.c (.int .i64 0))),
 sD 35 (.pick (.t 32) (.t 34) (.c (.bool false))),
 sD 36 (.mv (.t 35)),
 sG 37 36 true (.mv (.t 2)),
 sG 38 36 true (.mv (.t 0)),
 sG 39 36 true (.nilc (.t 38)),
 sG 40 36 true (.fa 0 (.t 39)),
 sG 41 36 true (.ld none (.t 40)),
 sG 42 36 true (.mv (.t 1)),
 sG 43 36 true (.ia none 1 (.t 41) (.t 42)),
 sG 44 36 true (.ld none (.t 43)),
 sG 45 36 true (.call 35 [(.t 44)]),
 sG 46 36 true (.bin .lss .num (.t 37) (.t 45)),
 sD 47 (.pick (.t 36) (.t 46) (.c (.bool false))),
 sD 8 (.mv (.t 47))])
 .ret))
def fn101 : IFun := ⟨48, [(.tmp 8)], an101.erase⟩
theorem ok101 : okFun Try.prog 101 fn101 = true := by kernel_rfl
theorem oka101 : okA fn101.ntmps fn101.results an101 = true := by kernel_rfl
def sh101 (C : CallA) (h0 at1 i2 bytes3 : AV) (h : H) (R : AV → H → Prop) : Prop :=
 C 56 [h0, at1] h fun t11 h =>
 whenA t11 true (fun K => K h0 h) h fun t13 h =>
 whenA t11 true (fun K => valA (nilcA t13) h K) h fun t14 h =>
 whenA t11 true (fun K => valA (faA 2 t14) h K) h fun t15 h =>
 whenA t11 true (fun K => valA (ldA h none t15) h K) h fun t16 h =>
 whenA t11 true (fun K => K h0 h) h fun t17 h =>
 whenA t11 true (fun K => valA (nilcA t17) h K) h fun t18 h =>
 whenA t11 true (fun K => valA (faA 0 t18) h K) h fun t19 h =>
 whenA t11 true (fun K => valA (ldA h none t19) h K) h fun t20 h =>
 whenA t11 true (fun K => K at1 h) h fun t21 h =>
 whenA t11 true (fun K => valA (iaA 1 t20 t21) h K) h fun t22 h =>
 whenA t11 true (fun K => valA (ldA h none t22) h K) h fun t23 h =>
 whenA t11 true (fun K => C 33 [t23] h K) h fun t24 h =>
 againK (whenP t11 true (valA (ldA h none t15) h (fun v _ => v = t16))) <|
 whenA t11 true (fun K => valA (iaA 2 t16 t24) h K) h fun t25 h =>
 whenA t11 true (fun K => valA (faA 0 t25) h K) h fun t26 h =>
 whenA t11 true (fun K => valA (ldA h none t26) h K) h fun t27 h =>
 whenA t11 true (fun K => valA (binOp .eql .num t27 (.int .i64 3)) h K) h fun t28 h =>
 whenA t11 true (fun K => K bytes3 h) h fun t29 h =>
 whenA t11 true (fun K => valA (binOp .eql .bool t28 t29) h K) h fun t30 h =>
 valA (pickA t11 t30 (.bool false)) h fun t31 h =>
 whenA t31 true (fun K => K i2 h) h fun t33 h =>
 whenA t31 true (fun K => valA (binOp .geq .num t33 (.int .i64 0)) h K) h fun t34 h =>
 valA (pickA t31 t34 (.bool false)) h fun t35 h =>
 whenA t35 true (fun K => K i2 h) h fun t37 h =>
 whenA t35 true (fun K => K h0 h) h fun t38 h =>
 whenA t35 true (fun K => valA (nilcA t38) h K) h fun t39 h =>
 whenA t35 true (fun K => valA (faA 0 t39) h K) h fun t40 h =>
 whenA t35 true (fun K => valA (ldA h none t40) h K) h fun t41 h =>
 whenA t35 true (fun K => K at1 h) h fun t42 h =>
 whenA t35 true (fun K => valA (iaA 1 t41 t42) h K) h fun t43 h =>
 whenA t35 true (fun K => valA (ldA h none t43) h K) h fun t44 h =>
 whenA t35 true (fun K => C 35 [t44] h K) h fun t45 h =>
 whenA t35 true (fun K => valA (binOp .lss .num t37 t45) h K) h fun t46 h =>
 valA (pickA t35 t46 (.bool false)) h fun t47 h =>
 R t47 h
theorem she101 (C : CallA) (h0 at1 i2 bytes3 : AV) (h : H) (R : AV → H → Prop) : wpA C an101 (argE [h0, at1, i2, bytes3]) h (outA [(.tmp 8)] R) = sh101 C h0 at1 i2 bytes3 h R := by kernel_rfl
/-! (*bellows/bellowsref02.Heap).Alloc -/
def an102 : ACode :=
 (.seq (.reg 0 [] [] [sD 6 (.mv (.c (.int .i64 0))),
 sD 7 (.mv (.c (.int .i64 0)))])
 (.seq (.reg 0 [] [] [sD 14 (.mv (.t 0)),
 sD 15 (.mv (.t 1)),
 sD 16 (.mv (.t 2)),
 sD 17 (.call 53 [(.t 14), (.t 15), (.t 16)]),
 sD 13 (.mv (.t 17)),
 sD 18 (.ext (.t 13) 0),
 sD 19 (.ext (.t 13) 1),
 sD 8 (.mv (.t 18)),
 sD 9 (.mv (.t 19))])
 (.seq (.seq (.reg 0 [] [] [sD 20 (.mv (.t 9)),
 sD 21 (.bin .neq .num (.t 20) (.c (.int .i64 0)))])
 (.cond (.t 21) (.seq (.reg 0 [] [] [sD 22 (.mv (.t 9)),
 sD 6 (.mv (.c (.int .i64 0))),
 sD 7 (.mv (.t 22))])
 .ret)
 .skip))
 (.seq (.reg 0 [] [] [sD 23 (.mv (.t 0)),
 sD 24 (.call 75 [(.t 23)]),
 sD 10 (.mv (.t 24))])
 (.seq (.seq (.reg 0 [] [] [sD 25 (.mv (.t 8)),
 sD 26 (.mv (.t 0)),
 sD 27 (.nilc (.t 26)),
 sD 28 (.fa 0 (.t 27)),
 sD 29 (.ld none (.t 28)),
 sD 30 (.mv (.t 10)),
 sD 31 (.bin .sub .num (.t 29) (.t 30)),
 sD 32 (.bin .gtr .num (.t 25) (.t 31))])
 (.cond (.t 32) (.seq (.reg 0 [] [] [sD 6 (.mv (.c (.int .i64 0))),
 sD 7 (.mv (.c (.int .i64 3)))])
 .ret)
 .skip))
 (.seq (.reg 0 [] [] [sD 33 (.mv (.t 10)),
 sD 34 (.mv (.t 1)),
 sD 35 (.mv (.t 2)),
 sD 36 (.build [(.int .i64 0), (.int .i64 0), (.int .i64 0), .nilsl, .nilsl] [(0, 1, (.t 33)), (1, 1, (.t 34)), (2, 1, (.t 35))]),
 sD 11 (.al none 89 [(.int .i64 0), (.int .i64 0), (.int .i64 0), .nilsl, .nilsl]),
 sN (.st 5 (.t 11) (.t 36))])
 (.seq (.seq (.reg 0 [] [] [sD 12 (.mv (.c (.int .i64 0)))])
 (.block 0 (.loop [12] 7175 (.seq (.seq (.reg 0 [] [] [sD 37 (.mv (.t 12)),
 sD 38 (.mv (.t 2)),
 sD 39 (.bin .lss .num (.t 37) (.t 38))])
 (.cond (.t 39) .skip
 (.exit 0)))
 (.seq (.block 1 (.seq (.reg 0 [] [] [sD 42 (.mv (.t 0)),
 sD 43 (.nilc (.t 42)),
 sD 44 (.fa 1 (.t 43)),
 sD 45 (.ld none (.t 44)),
 sD 46 (.mv (.t 1)),
 sD 47 (.ia none 2 (.t 45) (.t 46)),
 sD 48 (.fa 0 (.t 47)),
 sD 49 (.ld none (.t 48)),
 sD 50 (.bin .eql .num (.t 49) (.c (.int .i64 3)))])
 (.cond (.t 50) (.reg 0 [] [] [sD 51 (.fa 4 (.t 11)),
 sD 52 (.ld none (.t 51)),
 sD 53 (.mksl none 5 [(.int .u8 0)] 1 [(0, 1, (.c (.int .u8 0)))]),
 sD 54 (.app 5 1 1 [(.int .u8 0)] (.t 52) (.t 53)),
 sD 55 (.fa 4 (.t 11)),
 sN (.st 1 (.t 55) (.t 54))])
 (.reg 0 [] [] [sD 56 (.fa 3 (.t 11)),
 sD 57 (.ld none (.t 56)),
 sD 58 (.mksl none 25 [(.int .u64 0)] 1 [(0, 1, (.c (.int .u64 1)))]),
 sD 59 (.app 25 1 8 [(.int .u64 0)] (.t 57) (.t 58)),
 sD 60 (.fa 3 (.t 11)),
 sN (.st 1 (.t 60) (.t 59))]))))
 (.reg 0 [] [] [sD 40 (.mv (.t 12)),
 sD 41 (.bin .add .num (.t 40) (.c (.int .i64 1))),
 sD 12 (.mv (.t 41))]))))))
 (.seq (.reg 1 [0, 1, 2, 3, 4, 5, 6, 7, 8, 9, 10] [[], [], [1], [1, 2], [2, 1, 3], [], [5], [5, 6, 3, 1, 2, 4], [7, 6, 5, 4, 3, 2, 1, 0], [0, 1, 2, 3, 4, 5, 6, 7, 8], [8, 7, 6, 5, 4, 3, 2, 1, 0, 9]] [sD 61 (.mv (.t 0)),
 sD 62 (.mv (.t 0)),
 sD 63 (.nilc (.t 62)),
 sD 64 (.fa 2 (.t 63)),
 sD 65 (.ld none (.t 64)),
 sD 66 (.ld (some 5) (.t 11)),
 sD 67 (.mksl (some 0) 89 [(.int .i64 0), (.int .i64 0), (.int .i64 0), .nilsl, .nilsl] 1 [(0, 5, (.t 66))]),
 sD 68 (.app 89 5 72 [(.int .i64 0), (.int .i64 0), (.int .i64 0), .nilsl, .nilsl] (.t 65) (.t 67)),
 sD 69 (.nilc (.t 61)),
 sD 70 (.fa 2 (.t 69)),
 sN (.st 1 (.t 70) (.t 68))])
 (.seq (.reg 0 [] [] [sD 71 (.mv (.t 10)),
 sD 6 (.mv (.t 71)),
 sD 7 (.mv (.c (.int .i64 0)))])
 .ret)))))))))
def fn102 : IFun := ⟨72, [(.tmp 6), (.tmp 7)], an102.erase⟩
theorem ok102 : okFun Try.prog 102 fn102 = true := by kernel_rfl
theorem oka102 : okA fn102.ntmps fn102.results an102 = true := by kernel_rfl
def sh102 (C : CallA) (h0 shape1 n2 : AV) (h : H) (R : AV → H → Prop) : Prop :=
 C 53 [h0, shape1, n2] h fun t17 h =>
 valA (extA t17 0) h fun t18 h =>
 valA (extA t17 1) h fun t19 h =>
 valA (binOp .neq .num t19 (.int .i64 0)) h fun t21 h =>
 condA t21
 (R (.tup [(.int .i64 0), t19]) h)
 (C 75 [h0] h fun t24 h =>
 valA (nilcA h0) h fun t27 h =>
 valA (faA 0 t27) h fun t28 h =>
 valA (ldA h none t28) h fun t29 h =>
 valA (binOp .sub .num t29 t24) h fun t31 h =>
 valA (binOp .gtr .num t18 t31) h fun t32 h =>
 condA t32
 (R (.tup [(.int .i64 0), (.int .i64 3)]) h)
 (valA (buildA (fillV [(.int .i64 0), (.int .i64 0), (.int .i64 0), .nilsl, .nilsl] [(0, 1, t24), (1, 1, shape1), (2, 1, n2)])) h fun t36 h =>
 boxA h [(.int .i64 0), (.int .i64 0), (.int .i64 0), .nilsl, .nilsl] 89 fun o11 h =>
 memA (stA h 5 o11 t36) .undef fun _ h =>
 joinA (fun (h : H) =>
 valA (nilcA h0) h fun t63 h =>
 valA (faA 2 t63) h fun t64 h =>
 valA (ldA h none t64) h fun t65 h =>
 valA (ldA h (some 5) o11) h fun t66 h =>
 mkslA h 89 1 (fillV [(.int .i64 0), (.int .i64 0), (.int .i64 0), .nilsl, .nilsl] [(0, 5, t66)]) fun t67 h =>
 appendA h 89 5 72 t65 t67 fun t68 h =>
 valA (nilcA h0) h fun t69 h =>
 valA (faA 2 t69) h fun t70 h =>
 memA (stA h 1 t70 t68) .undef fun _ h =>
 R (.tup [t24, (.int .i64 0)]) h) fun J =>
 loopA (fun N l h => argA l 0 fun i12 => 
 valA (binOp .lss .num i12 n2) h fun t39 h =>
 condA t39
 (joinA (fun (h : H) =>
 valA (binOp .add .num i12 (.int .i64 1)) h fun t41 h =>
 N [t41] h) fun J_19 =>
 valA (nilcA h0) h fun t43 h =>
 valA (faA 1 t43) h fun t44 h =>
 valA (ldA h none t44) h fun t45 h =>
 valA (iaA 2 t45 shape1) h fun t47 h =>
 valA (faA 0 t47) h fun t48 h =>
 valA (ldA h none t48) h fun t49 h =>
 valA (binOp .eql .num t49 (.int .i64 3)) h fun t50 h =>
 condA t50
 (valA (faA 4 o11) h fun t51 h =>
 valA (ldA h none t51) h fun t52 h =>
 mkslA h 5 1 (fillV [(.int .u8 0)] [(0, 1, (.int .u8 0))]) fun t53 h =>
 appendA h 5 1 1 t52 t53 fun t54 h =>
 valA (faA 4 o11) h fun t55 h =>
 memA (stA h 1 t55 t54) .undef fun _ h =>
 J_19 h)
 (valA (faA 3 o11) h fun t56 h =>
 valA (ldA h none t56) h fun t57 h =>
 mkslA h 25 1 (fillV [(.int .u64 0)] [(0, 1, (.int .u64 1))]) fun t58 h =>
 appendA h 25 1 8 t57 t58 fun t59 h =>
 valA (faA 3 o11) h fun t60 h =>
 memA (stA h 1 t60 t59) .undef fun _ h =>
 J_19 h))
 (J h)) [(.int .i64 0)] h))
theorem she102 (C : CallA) (h0 shape1 n2 : AV) (h : H) (R : AV → H → Prop) : wpA C an102 (argE [h0, shape1, n2]) h (outA [(.tmp 6), (.tmp 7)] R) = sh102 C h0 shape1 n2 h R := by kernel_rfl
/-! (*bellows/bellowsref02.Heap).Set -/
def an103 : ACode :=
 (.seq (.reg 0 [] [] [sD 8 (.mv (.c (.int .i64 0)))])
 (.seq (.reg 0 [] [] [sD 10 (.mv (.t 0)),
 sD 11 (.mv (.t 1)),
 sD 12 (.call 67 [(.t 10), (.t 11)]),
 sD 9 (.mv (.t 12))])
 (.seq (.seq (.reg 0 [] [] [sD 13 (.mv (.t 9)),
 sD 14 (.bin .lss .num (.t 13) (.c (.int .i64 0))),
 sD 15 (.mv (.t 14)),
 sG 16 15 false (.mv (.t 2)),
 sG 17 15 false (.bin .lss .num (.t 16) (.c (.int .i64 0))),
 sD 18 (.pick (.t 15) (.c (.bool true)) (.t 17)),
 sD 19 (.mv (.t 18)),
 sG 20 19 false (.mv (.t 2)),
 sG 21 19 false (.mv (.t 0)),
 sG 22 19 false (.nilc (.t 21)),
 sG 23 19 false (.fa 2 (.t 22)),
 sG 24 19 false (.ld none (.t 23)),
 sG 25 19 false (.mv (.t 9)),
 sG 26 19 false (.ia none 5 (.t 24) (.t 25)),
 sG 27 19 false (.fa 3 (.t 26)),
 sG 28 19 false (.ld none (.t 27)),
 sG 29 19 false (.len false (.t 28)),
 sG 30 19 false (.bin .geq .num (.t 20) (.t 29)),
 sD 31 (.pick (.t 19) (.c (.bool true)) (.t 30)),
 sD 32 (.mv (.t 31)),
 sG 33 32 false (.mv (.t 0)),
 sG 34 32 false (.mv (.t 3)),
 sG 35 32 false (.call 69 [(.t 33), (.t 34)]),
 sG 36 32 false (.un .not (.t 35)),
 sD 37 (.pick (.t 32) (.c (.bool true)) (.t 36))])
 (.cond (.t 37) (.seq (.reg 0 [] [] [sD 8 (.mv (.c (.int .i64 1)))])
 .ret)
 .skip))
 (.seq (.reg 0 [] [] [sD 38 (.mv (.t 0)),
 sD 39 (.nilc (.t 38)),
 sD 40 (.fa 2 (.t 39)),
 sD 41 (.ld none (.t 40)),
 sD 42 (.mv (.t 9)),
 sD 43 (.ia none 5 (.t 41) (.t 42)),
 sD 44 (.fa 3 (.t 43)),
 sD 45 (.ld none (.t 44)),
 sD 46 (.mv (.t 2)),
 sD 47 (.mv (.t 3)),
 sD 48 (.ia none 1 (.t 45) (.t 46)),
 sN (.st 1 (.t 48) (.t 47))])
 (.seq (.reg 0 [] [] [sD 8 (.mv (.c (.int .i64 0)))])
 .ret)))))
def fn103 : IFun := ⟨49, [(.tmp 8)], an103.erase⟩
theorem ok103 : okFun Try.prog 103 fn103 = true := by kernel_rfl
theorem oka103 : okA fn103.ntmps fn103.results an103 = true := by kernel_rfl
def sh103 (C : CallA) (h0 at1 i2 w3 : AV) (h : H) (R : AV → H → Prop) : Prop :=
 C 67 [h0, at1] h fun t12 h =>
 valA (binOp .lss .num t12 (.int .i64 0)) h fun t14 h =>
 whenA t14 false (fun K => K i2 h) h fun t16 h =>
 whenA t14 false (fun K => valA (binOp .lss .num t16 (.int .i64 0)) h K) h fun t17 h =>
 valA (pickA t14 (.bool true) t17) h fun t18 h =>
 whenA t18 false (fun K => K i2 h) h fun t20 h =>
 whenA t18 false (fun K => K h0 h) h fun t21 h =>
 whenA t18 false (fun K => valA (nilcA t21) h K) h fun t22 h =>
 whenA t18 false (fun K => valA (faA 2 t22) h K) h fun t23 h =>
 whenA t18 false (fun K => valA (ldA h none t23) h K) h fun t24 h =>
 whenA t18 false (fun K => K t12 h) h fun t25 h =>
 whenA t18 false (fun K => valA (iaA 5 t24 t25) h K) h fun t26 h =>
 whenA t18 false (fun K => valA (faA 3 t26) h K) h fun t27 h =>
 whenA t18 false (fun K => valA (ldA h none t27) h K) h fun t28 h =>
 whenA t18 false (fun K => valA (lenA false t28) h K) h fun t29 h =>
 whenA t18 false (fun K => valA (binOp .geq .num t20 t29) h K) h fun t30 h =>
 valA (pickA t18 (.bool true) t30) h fun t31 h =>
 whenA t31 false (fun K => K h0 h) h fun t33 h =>
 whenA t31 false (fun K => K w3 h) h fun t34 h =>
 whenA t31 false (fun K => C 69 [t33, t34] h K) h fun t35 h =>
 whenA t31 false (fun K => valA (unOp .not t35) h K) h fun t36 h =>
 valA (pickA t31 (.bool true) t36) h fun t37 h =>
 condA t37
 (R (.int .i64 1) h)
 (valA (nilcA h0) h fun t39 h =>
 valA (faA 2 t39) h fun t40 h =>
 valA (ldA h none t40) h fun t41 h =>
 valA (iaA 5 t41 t12) h fun t43 h =>
 valA (faA 3 t43) h fun t44 h =>
 valA (ldA h none t44) h fun t45 h =>
 valA (iaA 1 t45 i2) h fun t48 h =>
 memA (stA h 1 t48 w3) .undef fun _ h =>
 R (.int .i64 0) h)
theorem she103 (C : CallA) (h0 at1 i2 w3 : AV) (h : H) (R : AV → H → Prop) : wpA C an103 (argE [h0, at1, i2, w3]) h (outA [(.tmp 8)] R) = sh103 C h0 at1 i2 w3 h R := by kernel_rfl
/-! (*bellows/bellowsref02.Heap).SetByte -/
def an104 : ACode :=
 (.seq (.reg 0 [] [] [sD 8 (.mv (.c (.int .i64 0)))])
 (.seq (.reg 0 [] [] [sD 10 (.mv (.t 0)),
 sD 11 (.mv (.t 1)),
 sD 12 (.call 67 [(.t 10), (.t 11)]),
 sD 9 (.mv (.t 12))])
 (.seq (.seq (.reg 0 [] [] [sD 13 (.mv (.t 9)),
 sD 14 (.bin .lss .num (.t 13) (.c (.int .i64 0))),
 sD 15 (.mv (.t 14)),
 sG 16 15 false (.mv (.t 2)),
 sG 17 15 false (.bin .lss .num (.t 16) (.c (.int .i64 0))),
 sD 18 (.pick (.t 15) (.c (.bool true)) (.t 17)),
 sD 19 (.mv (.t 18)),
 sG 20 19 false (.mv (.t 2)),
 sG 21 19 false (.mv (.t 0)),
 sG 22 19 false (.nilc (.t 21)),
 sG 23 19 false (.fa 2 (.t 22)),
 sG 24 19 false (.ld none (.t 23)),
 sG 25 19 false (.mv (.t 9)),
 sG 26 19 false (.ia none 5 (.t 24) (.t 25)),
 sG 27 19 false (.fa 4 (.t 26)),
 sG 28 19 false (.ld none (.t 27)),
 sG 29 19 false (.len false (.t 28)),
 sG 30 19 false (.bin .geq .num (.t 20) (.t 29)),
 sD 31 (.pick (.t 19) (.c (.bool true)) (.t 30))])
 (.cond (.t 31) (.seq (.reg 0 [] [] [sD 8 (.mv (.c (.int .i64 1)))])
 .ret)
 .skip))
 (.seq (.reg 0 [] [] [sD 32 (.mv (.t 0)),
 sD 33 (.nilc (.t 32)),
 sD 34 (.fa 2 (.t 33)),
 sD 35 (.ld none (.t 34)),
 sD 36 (.mv (.t 9)),
 sD 37 (.ia none 5 (.t 35) (.t 36)),
 sD 38 (.fa 4 (.t 37)),
 sD 39 (.ld none (.t 38)),
 sD 40 (.mv (.t 2)),
 sD 41 (.mv (.t 3)),
 sD 42 (.ia none 1 (.t 39) (.t 40)),
 sN (.st 1 (.t 42) (.t 41))])
 (.seq (.reg 0 [] [] [sD 8 (.mv (.c (.int .i64 0)))])
 .ret)))))
def fn104 : IFun := ⟨43, [(.tmp 8)], an104.erase⟩
theorem ok104 : okFun Try.prog 104 fn104 = true := by kernel_rfl
theorem oka104 : okA fn104.ntmps fn104.results an104 = true := by kernel_rfl
def sh104 (C : CallA) (h0 at1 i2 c3 : AV) (h : H) (R : AV → H → Prop) : Prop :=
 C 67 [h0, at1] h fun t12 h =>
 valA (binOp .lss .num t12 (.int .i64 0)) h fun t14 h =>
 whenA t14 false (fun K => K i2 h) h fun t16 h =>
 whenA t14 false (fun K => valA (binOp .lss .num t16 (.int .i64 0)) h K) h fun t17 h =>
 valA (pickA t14 (.bool true) t17) h fun t18 h =>
 whenA t18 false (fun K => K i2 h) h fun t20 h =>
 whenA t18 false (fun K => K h0 h) h fun t21 h =>
 whenA t18 false (fun K => valA (nilcA t21) h K) h fun t22 h =>
 whenA t18 false (fun K => valA (faA 2 t22) h K) h fun t23 h =>
 whenA t18 false (fun K => valA (ldA h none t23) h K) h fun t24 h =>
 whenA t18 false (fun K => K t12 h) h fun t25 h =>
 whenA t18 false (fun K => valA (iaA 5 t24 t25) h K) h fun t26 h =>
 whenA t18 false (fun K => valA (faA 4 t26) h K) h fun t27 h =>
 whenA t18 false (fun K => valA (ldA h none t27) h K) h fun t28 h =>
 whenA t18 false (fun K => valA (lenA false t28) h K) h fun t29 h =>
 whenA t18 false (fun K => valA (binOp .geq .num t20 t29) h K) h fun t30 h =>
 valA (pickA t18 (.bool true) t30) h fun t31 h =>
 condA t31
 (R (.int .i64 1) h)
 (valA (nilcA h0) h fun t33 h =>
 valA (faA 2 t33) h fun t34 h =>
 valA (ldA h none t34) h fun t35 h =>
 valA (iaA 5 t35 t12) h fun t37 h =>
 valA (faA 4 t37) h fun t38 h =>
 valA (ldA h none t38) h fun t39 h =>
 valA (iaA 1 t39 i2) h fun t42 h =>
 memA (stA h 1 t42 c3) .undef fun _ h =>
 R (.int .i64 0) h)
theorem she104 (C : CallA) (h0 at1 i2 c3 : AV) (h : H) (R : AV → H → Prop) : wpA C an104 (argE [h0, at1, i2, c3]) h (outA [(.tmp 8)] R) = sh104 C h0 at1 i2 c3 h R := by kernel_rfl
/-! (*bellows/heap.Heap).whole -/
def an106 : ACode :=
 (.seq (.reg 0 [] [] [sD 2 (.mv (.c (.bool false)))])
 (.seq (.seq (.reg 0 [] [] [sD 8 (.mv (.t 0)),
 sD 9 (.call 59 [(.t 8)]),
 sD 10 (.len false (.t 9)),
 sD 11 (.mv (.c (.int .i64 0)))])
 (.block 0 (.loop [11] 3585 (.seq (.reg 0 [] [] [sD 12 (.bin .lss .num (.t 11) (.t 10))])
 (.seq (.cond (.t 12) .skip
 (.exit 0))
 (.seq (.block 1 (.seq (.reg 0 [] [] [sD 13 (.ia none 1 (.t 9) (.t 11)),
 sD 14 (.ld none (.t 13)),
 sD 4 (.mv (.t 14))])
 (.seq (.reg 0 [] [] [sD 15 (.mv (.t 0)),
 sD 16 (.nilc (.t 15)),
 sD 17 (.fa 0 (.t 16)),
 sD 18 (.ld none (.t 17)),
 sD 19 (.mv (.t 4)),
 sD 20 (.ia none 1 (.t 18) (.t 19)),
 sD 21 (.ld none (.t 20)),
 sD 5 (.mv (.t 21))])
 (.seq (.seq (.reg 0 [] [] [sD 22 (.mv (.t 5)),
 sD 23 (.call 35 [(.t 22)]),
 sD 6 (.mv (.t 23))])
 (.seq (.reg 0 [0, 1, 2, 3, 4, 5, 6, 7, 8, 9] [[], [0], [0, 1], [1, 0, 2], [], [4], [4, 5, 2, 0, 1, 3], [3, 1, 0, 2, 5, 4, 6], [6, 4, 5, 2, 0, 1, 3, 7], [7, 3, 1, 0, 2, 5, 4, 6, 8]] [sD 24 (.mv (.t 0)),
 sD 25 (.nilc (.t 24)),
 sD 26 (.fa 2 (.t 25)),
 sD 27 (.ld none (.t 26)),
 sD 28 (.mv (.t 5)),
 ⟨(some 29), none, (.call 33 [(.t 28)]), [⟨none, (.ld none (.t 26)), 27⟩]⟩,
 sD 30 (.ia none 2 (.t 27) (.t 29)),
 sD 31 (.fa 0 (.t 30)),
 sD 32 (.ld none (.t 31)),
 sD 33 (.bin .eql .num (.t 32) (.c (.int .i64 3)))])
 (.cond (.t 33) (.seq (.seq (.reg 0 [] [] [sD 34 (.mv (.t 6)),
 sD 35 (.bin .rem .num (.t 34) (.c (.int .i64 8))),
 sD 36 (.bin .gtr .num (.t 35) (.c (.int .i64 0))),
 sD 37 (.mv (.t 36)),
 sG 38 37 true (.mv (.t 0)),
 sG 39 37 true (.nilc (.t 38)),
 sG 40 37 true (.fa 0 (.t 39)),
 sG 41 37 true (.ld none (.t 40)),
 sG 42 37 true (.mv (.t 4)),
 sG 43 37 true (.bin .add .num (.t 42) (.c (.int .i64 1))),
 sG 44 37 true (.mv (.t 6)),
 sG 45 37 true (.bin .quo .num (.t 44) (.c (.int .i64 8))),
 sG 46 37 true (.bin .add .num (.t 43) (.t 45)),
 sG 47 37 true (.ia none 1 (.t 41) (.t 46)),
 sG 48 37 true (.ld none (.t 47)),
 sG 49 37 true (.mv (.t 6)),
 sG 50 37 true (.bin .rem .num (.t 49) (.c (.int .i64 8))),
 sG 51 37 true (.bin .mul .num (.t 50) (.c (.int .i64 8))),
 sG 52 37 true (.bin .shr .num (.t 48) (.t 51)),
 sG 53 37 true (.bin .gtr .num (.t 52) (.c (.int .u64 0))),
 sD 54 (.pick (.t 37) (.t 53) (.c (.bool false)))])
 (.cond (.t 54) (.seq (.reg 0 [] [] [sD 2 (.mv (.c (.bool false)))])
 .ret)
 .skip))
 (.exit 1))
 .skip)))
 (.seq (.reg 0 [] [] [sD 55 (.mv (.t 5)),
 sD 56 (.call 35 [(.t 55)]),
 sD 57 (.mv (.c (.int .i64 0)))])
 (.block 2 (.loop [57] 216172782113787409 (.seq (.reg 0 [] [] [sD 58 (.bin .lss .num (.t 57) (.t 56))])
 (.seq (.cond (.t 58) .skip
 (.exit 2))
 (.seq (.block 3 (.seq (.reg 0 [] [] [sD 59 (.mv (.t 57)),
 sD 7 (.mv (.t 59))])
 (.seq (.reg 0 [] [] [sD 60 (.mv (.t 0)),
 sD 61 (.mv (.t 0)),
 sD 62 (.nilc (.t 61)),
 sD 63 (.fa 0 (.t 62)),
 sD 64 (.ld none (.t 63)),
 sD 65 (.mv (.t 4)),
 sD 66 (.bin .add .num (.t 65) (.c (.int .i64 1))),
 sD 67 (.mv (.t 7)),
 sD 68 (.bin .add .num (.t 66) (.t 67)),
 sD 69 (.ia none 1 (.t 64) (.t 68)),
 sD 70 (.ld none (.t 69)),
 sD 71 (.call 68 [(.t 60), (.t 70)]),
 sD 72 (.un .not (.t 71))])
 (.cond (.t 72) (.seq (.reg 0 [] [] [sD 2 (.mv (.c (.bool false)))])
 .ret)
 .skip))))
 (.reg 0 [] [] [sD 73 (.bin .add .num (.t 57) (.c (.int .i64 1))),
 sD 57 (.mv (.t 73))])))))))))))
 (.reg 0 [] [] [sD 74 (.bin .add .num (.t 11) (.c (.int .i64 1))),
 sD 11 (.mv (.t 74))])))))))
 (.seq (.reg 0 [] [] [sD 2 (.mv (.c (.bool true)))])
 .ret)))
def fn106 : IFun := ⟨75, [(.tmp 2)], an106.erase⟩
theorem ok106 : okFun Try.prog 106 fn106 = true := by kernel_rfl
theorem oka106 : okA fn106.ntmps fn106.results an106 = true := by kernel_rfl
def sh106 (C : CallA) (h0 : AV) (h : H) (R : AV → H → Prop) : Prop :=
 joinA (fun (h : H) =>
 R (.bool true) h) fun J =>
 C 59 [h0] h fun t9 h =>
 valA (lenA false t9) h fun t10 h =>
 loopA (fun N l h => argA l 0 fun t11 => 
 valA (binOp .lss .num t11 t10) h fun t12 h =>
 condA t12
 (joinA (fun (h : H) =>
 valA (binOp .add .num t11 (.int .i64 1)) h fun t74 h =>
 N [t74] h) fun J_66 =>
 valA (iaA 1 t9 t11) h fun t13 h =>
 valA (ldA h none t13) h fun t14 h =>
 valA (nilcA h0) h fun t16 h =>
 valA (faA 0 t16) h fun t17 h =>
 valA (ldA h none t17) h fun t18 h =>
 valA (iaA 1 t18 t14) h fun t20 h =>
 valA (ldA h none t20) h fun t21 h =>
 C 35 [t21] h fun t23 h =>
 valA (nilcA h0) h fun t25 h =>
 valA (faA 2 t25) h fun t26 h =>
 valA (ldA h none t26) h fun t27 h =>
 C 33 [t21] h fun t29 h =>
 againK (valA (ldA h none t26) h (fun v _ => v = t27)) <|
 valA (iaA 2 t27 t29) h fun t30 h =>
 valA (faA 0 t30) h fun t31 h =>
 valA (ldA h none t31) h fun t32 h =>
 valA (binOp .eql .num t32 (.int .i64 3)) h fun t33 h =>
 condA t33
 (valA (binOp .rem .num t23 (.int .i64 8)) h fun t35 h =>
 valA (binOp .gtr .num t35 (.int .i64 0)) h fun t36 h =>
 whenA t36 true (fun K => K h0 h) h fun t38 h =>
 whenA t36 true (fun K => valA (nilcA t38) h K) h fun t39 h =>
 whenA t36 true (fun K => valA (faA 0 t39) h K) h fun t40 h =>
 whenA t36 true (fun K => valA (ldA h none t40) h K) h fun t41 h =>
 whenA t36 true (fun K => K t14 h) h fun t42 h =>
 whenA t36 true (fun K => valA (binOp .add .num t42 (.int .i64 1)) h K) h fun t43 h =>
 whenA t36 true (fun K => K t23 h) h fun t44 h =>
 whenA t36 true (fun K => valA (binOp .quo .num t44 (.int .i64 8)) h K) h fun t45 h =>
 whenA t36 true (fun K => valA (binOp .add .num t43 t45) h K) h fun t46 h =>
 whenA t36 true (fun K => valA (iaA 1 t41 t46) h K) h fun t47 h =>
 whenA t36 true (fun K => valA (ldA h none t47) h K) h fun t48 h =>
 whenA t36 true (fun K => K t23 h) h fun t49 h =>
 whenA t36 true (fun K => valA (binOp .rem .num t49 (.int .i64 8)) h K) h fun t50 h =>
 whenA t36 true (fun K => valA (binOp .mul .num t50 (.int .i64 8)) h K) h fun t51 h =>
 whenA t36 true (fun K => valA (binOp .shr .num t48 t51) h K) h fun t52 h =>
 whenA t36 true (fun K => valA (binOp .gtr .num t52 (.int .u64 0)) h K) h fun t53 h =>
 valA (pickA t36 t53 (.bool false)) h fun t54 h =>
 condA t54
 (R (.bool false) h)
 (J_66 h))
 (C 35 [t21] h fun t56 h =>
 loopA (fun N_67 l h => argA l 0 fun t57 => 
 valA (binOp .lss .num t57 t56) h fun t58 h =>
 condA t58
 (valA (nilcA h0) h fun t62 h =>
 valA (faA 0 t62) h fun t63 h =>
 valA (ldA h none t63) h fun t64 h =>
 valA (binOp .add .num t14 (.int .i64 1)) h fun t66 h =>
 valA (binOp .add .num t66 t57) h fun t68 h =>
 valA (iaA 1 t64 t68) h fun t69 h =>
 valA (ldA h none t69) h fun t70 h =>
 C 68 [h0, t70] h fun t71 h =>
 valA (unOp .not t71) h fun t72 h =>
 condA t72
 (R (.bool false) h)
 (valA (binOp .add .num t57 (.int .i64 1)) h fun t73 h =>
 N_67 [t73] h))
 (J_66 h)) [(.int .i64 0)] h))
 (J h)) [(.int .i64 0)] h
theorem she106 (C : CallA) (h0 : AV) (h : H) (R : AV → H → Prop) : wpA C an106 (argE [h0]) h (outA [(.tmp 2)] R) = sh106 C h0 h R := by kernel_rfl
/-! bellows/gc.begin -/
def an107 : ACode :=
 (.seq (.reg 0 [] [] [sD 4 (.mv (.c .nilp)),
 sD 5 (.mv (.c (.int .i64 0)))])
 (.seq (.seq (.reg 0 [] [] [sD 8 (.mv (.t 0)),
 sD 9 (.bin .eql .ptr (.t 8) (.c .nilp))])
 (.cond (.t 9) (.seq (.reg 0 [] [] [sD 4 (.mv (.c .nilp)),
 sD 5 (.mv (.c (.int .i64 1)))])
 .ret)
 .skip))
 (.seq (.seq (.reg 0 [] [] [sD 10 (.mv (.t 1)),
 sD 11 (.len false (.t 10)),
 sD 12 (.mv (.c (.int .i64 0)))])
 (.block 0 (.loop [12] 7171 (.seq (.reg 0 [] [] [sD 13 (.bin .lss .num (.t 12) (.t 11))])
 (.seq (.cond (.t 13) .skip
 (.exit 0))
 (.seq (.block 1 (.seq (.reg 0 [] [] [sD 14 (.ia none 1 (.t 10) (.t 12)),
 sD 15 (.ld none (.t 14)),
 sD 7 (.mv (.t 15))])
 (.seq (.reg 0 [] [] [sD 16 (.mv (.t 0)),
 sD 17 (.mv (.t 7)),
 sD 18 (.call 68 [(.t 16), (.t 17)]),
 sD 19 (.un .not (.t 18))])
 (.cond (.t 19) (.seq (.reg 0 [] [] [sD 4 (.mv (.c .nilp)),
 sD 5 (.mv (.c (.int .i64 1)))])
 .ret)
 .skip))))
 (.reg 0 [] [] [sD 20 (.bin .add .num (.t 12) (.c (.int .i64 1))),
 sD 12 (.mv (.t 20))])))))))
 (.seq (.reg 0 [] [] [sD 21 (.mv (.t 0)),
 sD 22 (.mv (.t 1)),
 sD 23 (.app 25 1 8 [(.int .u64 0)] (.c .nilsl) (.t 22)),
 sD 24 (.mv (.t 0)),
 sD 25 (.call 57 [(.t 24)]),
 sD 26 (.build [.nilp, .nilsl, (.int .i64 0)] [(0, 1, (.t 21)), (1, 1, (.t 23)), (2, 1, (.t 25))]),
 sD 27 (.bx none 137 (.t 26)),
 sD 4 (.mv (.t 27)),
 sD 5 (.mv (.c (.int .i64 0)))])
 .ret))))
def fn107 : IFun := ⟨28, [(.tmp 4), (.tmp 5)], an107.erase⟩
theorem ok107 : okFun Try.prog 107 fn107 = true := by kernel_rfl
theorem oka107 : okA fn107.ntmps fn107.results an107 = true := by kernel_rfl
def sh107 (C : CallA) (h0 roots1 : AV) (h : H) (R : AV → H → Prop) : Prop :=
 valA (binOp .eql .ptr h0 .nilp) h fun t9 h =>
 condA t9
 (R (.tup [.nilp, (.int .i64 1)]) h)
 (joinA (fun (h : H) =>
 appendA h 25 1 8 .nilsl roots1 fun t23 h =>
 C 57 [h0] h fun t25 h =>
 valA (buildA (fillV [.nilp, .nilsl, (.int .i64 0)] [(0, 1, h0), (1, 1, t23), (2, 1, t25)])) h fun t26 h =>
 boxA h (AV.cells t26) 137 fun t27 h =>
 R (.tup [t27, (.int .i64 0)]) h) fun J =>
 valA (lenA false roots1) h fun t11 h =>
 loopA (fun N l h => argA l 0 fun t12 => 
 valA (binOp .lss .num t12 t11) h fun t13 h =>
 condA t13
 (valA (iaA 1 roots1 t12) h fun t14 h =>
 valA (ldA h none t14) h fun t15 h =>
 C 68 [h0, t15] h fun t18 h =>
 valA (unOp .not t18) h fun t19 h =>
 condA t19
 (R (.tup [.nilp, (.int .i64 1)]) h)
 (valA (binOp .add .num t12 (.int .i64 1)) h fun t20 h =>
 N [t20] h))
 (J h)) [(.int .i64 0)] h)
theorem she107 (C : CallA) (h0 roots1 : AV) (h : H) (R : AV → H → Prop) : wpA C an107 (argE [h0, roots1]) h (outA [(.tmp 4), (.tmp 5)] R) = sh107 C h0 roots1 h R := by kernel_rfl
/-! (*bellows/gc.sweep).marked -/
def an108 : ACode :=
 (.seq (.reg 0 [] [] [sD 4 (.mv (.t 0)),
 sD 5 (.nilc (.t 4)),
 sD 6 (.fa 1 (.t 5)),
 sD 7 (.ld none (.t 6)),
 sD 8 (.len false (.t 7)),
 sD 9 (.mv (.c (.int .i64 0)))])
 (.block 0 (.loop [9] 897 (.seq (.reg 0 [] [] [sD 10 (.bin .lss .num (.t 9) (.t 8))])
 (.seq (.cond (.t 10) .skip
 (.exit 0))
 (.seq (.block 1 (.seq (.reg 0 [] [] [sD 11 (.ia none 1 (.t 7) (.t 9)),
 sD 12 (.ld none (.t 11)),
 sD 3 (.mv (.t 12))])
 (.reg 0 [] [] [sD 13 (.mv (.t 0)),
 sD 14 (.mv (.t 3)),
 sD 15 (.call 119 [(.t 13), (.t 14)])])))
 (.reg 0 [] [] [sD 16 (.bin .add .num (.t 9) (.c (.int .i64 1))),
 sD 9 (.mv (.t 16))])))))))
def fn108 : IFun := ⟨17, [], an108.erase⟩
theorem ok108 : okFun Try.prog 108 fn108 = true := by kernel_rfl
theorem oka108 : okA fn108.ntmps fn108.results an108 = true := by kernel_rfl
def sh108 (C : CallA) (s0 : AV) (h : H) (R : AV → H → Prop) : Prop :=
 valA (nilcA s0) h fun t5 h =>
 valA (faA 1 t5) h fun t6 h =>
 valA (ldA h none t6) h fun t7 h =>
 valA (lenA false t7) h fun t8 h =>
 loopA (fun N l h => argA l 0 fun t9 => 
 valA (binOp .lss .num t9 t8) h fun t10 h =>
 condA t10
 (valA (iaA 1 t7 t9) h fun t11 h =>
 valA (ldA h none t11) h fun t12 h =>
 C 119 [s0, t12] h fun t15 h =>
 valA (binOp .add .num t9 (.int .i64 1)) h fun t16 h =>
 N [t16] h)
 (R (.tup []) h)) [(.int .i64 0)] h
theorem she108 (C : CallA) (s0 : AV) (h : H) (R : AV → H → Prop) : wpA C an108 (argE [s0]) h (outA [] R) = sh108 C s0 h R := by kernel_rfl
/-! (*bellows/gc.sweep).thread -/
def an109 : ACode :=
 (.seq (.reg 0 [] [] [sD 6 (.mv (.t 0)),
 sD 7 (.mv (.t 1)),
 sD 8 (.call 115 [(.t 6), (.t 7)]),
 sD 4 (.mv (.t 8))])
 (.seq (.seq (.reg 0 [] [] [sD 9 (.mv (.t 4)),
 sD 10 (.call 48 [(.t 9)])])
 (.cond (.t 10) .ret
 .skip))
 (.seq (.reg 0 [] [] [sD 11 (.mv (.t 4)),
 sD 12 (.call 85 [(.t 11)]),
 sD 5 (.mv (.t 12))])
 (.seq (.reg 0 [] [] [sD 13 (.mv (.t 0)),
 sD 14 (.mv (.t 1)),
 sD 15 (.mv (.t 0)),
 sD 16 (.mv (.t 5)),
 sD 17 (.call 115 [(.t 15), (.t 16)]),
 sD 18 (.call 114 [(.t 13), (.t 14), (.t 17)])])
 (.reg 0 [] [] [sD 19 (.mv (.t 0)),
 sD 20 (.mv (.t 5)),
 sD 21 (.mv (.t 1)),
 sD 22 (.call 82 [(.t 21)]),
 sD 23 (.call 114 [(.t 19), (.t 20), (.t 22)])])))))
def fn109 : IFun := ⟨24, [], an109.erase⟩
theorem ok109 : okFun Try.prog 109 fn109 = true := by kernel_rfl
theorem oka109 : okA fn109.ntmps fn109.results an109 = true := by kernel_rfl
def sh109 (C : CallA) (s0 i1 : AV) (h : H) (R : AV → H → Prop) : Prop :=
 C 115 [s0, i1] h fun t8 h =>
 C 48 [t8] h fun t10 h =>
 condA t10
 (R (.tup []) h)
 (C 85 [t8] h fun t12 h =>
 C 115 [s0, t12] h fun t17 h =>
 C 114 [s0, i1, t17] h fun t18 h =>
 C 82 [i1] h fun t22 h =>
 C 114 [s0, t12, t22] h fun t23 h =>
 R (.tup []) h)
theorem she109 (C : CallA) (s0 i1 : AV) (h : H) (R : AV → H → Prop) : wpA C an109 (argE [s0, i1]) h (outA [] R) = sh109 C s0 i1 h R := by kernel_rfl
/-! (*bellows/gc.sweep).live -/
def an110 : ACode :=
 (.seq (.reg 0 [] [] [sD 4 (.mv (.c (.int .i64 0)))])
 (.seq (.reg 0 [] [] [sD 5 (.mv (.c (.int .i64 0)))])
 (.seq (.seq (.reg 0 [] [] [sD 6 (.mv (.c (.int .i64 0)))])
 (.block 0 (.loop [5, 6] 99 (.seq (.seq (.reg 0 [] [] [sD 12 (.mv (.t 6)),
 sD 13 (.mv (.t 0)),
 sD 14 (.nilc (.t 13)),
 sD 15 (.fa 2 (.t 14)),
 sD 16 (.ld none (.t 15)),
 sD 17 (.bin .lss .num (.t 12) (.t 16))])
 (.cond (.t 17) .skip
 (.exit 0)))
 (.block 1 (.seq (.reg 0 [] [] [sD 18 (.mv (.t 0)),
 sD 19 (.mv (.t 6)),
 sD 20 (.call 115 [(.t 18), (.t 19)]),
 sD 7 (.mv (.t 20))])
 (.seq (.seq (.reg 0 [] [] [sD 21 (.mv (.t 7)),
 sD 22 (.call 48 [(.t 21)]),
 sD 23 (.mv (.t 22)),
 sG 24 23 true (.mv (.t 7)),
 sG 25 23 true (.call 36 [(.t 24)]),
 sG 26 23 true (.un .not (.t 25)),
 sD 27 (.pick (.t 23) (.t 26) (.c (.bool false)))])
 (.cond (.t 27) (.seq (.reg 0 [] [] [sD 29 (.mv (.t 0)),
 sD 30 (.mv (.t 7)),
 sD 31 (.call 112 [(.t 29), (.t 30)]),
 sD 28 (.mv (.t 31)),
 sD 32 (.ext (.t 28) 0),
 sD 33 (.ext (.t 28) 1),
 sD 8 (.mv (.t 32)),
 sD 9 (.mv (.t 33))])
 (.seq (.reg 0 [] [] [sD 34 (.mv (.t 6)),
 sD 35 (.mv (.t 8)),
 sD 36 (.bin .add .num (.t 34) (.t 35)),
 sD 6 (.mv (.t 36))])
 (.exit 1)))
 .skip))
 (.seq (.reg 0 [] [] [sD 37 (.mv (.t 0)),
 sD 38 (.mv (.t 6)),
 sD 39 (.mv (.t 5)),
 sD 40 (.call 120 [(.t 37), (.t 38), (.t 39)]),
 sD 7 (.mv (.t 40))])
 (.seq (.reg 0 [] [] [sD 42 (.mv (.t 0)),
 sD 43 (.mv (.t 7)),
 sD 44 (.call 112 [(.t 42), (.t 43)]),
 sD 41 (.mv (.t 44)),
 sD 45 (.ext (.t 41) 0),
 sD 46 (.ext (.t 41) 1),
 sD 10 (.mv (.t 45)),
 sD 11 (.mv (.t 46))])
 (.seq (.reg 0 [] [] [sD 47 (.mv (.t 1)),
 sD 48 (.mv (.t 6)),
 sD 49 (.mv (.t 5)),
 sD 50 (.mv (.t 7)),
 sD 51 (.callv (.t 47) [(.t 48), (.t 49), (.t 50)])])
 (.seq (.reg 0 [] [] [sD 52 (.mv (.t 6)),
 sD 53 (.mv (.t 10)),
 sD 54 (.bin .add .num (.t 52) (.t 53)),
 sD 6 (.mv (.t 54))])
 (.reg 0 [] [] [sD 55 (.mv (.t 5)),
 sD 56 (.mv (.t 10)),
 sD 57 (.bin .add .num (.t 55) (.t 56)),
 sD 5 (.mv (.t 57))]))))))))))))
 (.seq (.reg 0 [] [] [sD 58 (.mv (.t 5)),
 sD 4 (.mv (.t 58))])
 .ret))))
def fn110 : IFun := ⟨59, [(.tmp 4)], an110.erase⟩
theorem ok110 : okFun Try.prog 110 fn110 = true := by kernel_rfl
theorem oka110 : okA fn110.ntmps fn110.results an110 = true := by kernel_rfl
def sh110 (C : CallA) (s0 do1 : AV) (h : H) (R : AV → H → Prop) : Prop :=
 joinA (fun (to5' : AV) (h : H) =>
 R to5' h) fun J =>
 loopA (fun N l h => argA l 0 fun to5 => argA l 1 fun at6 => 
 valA (nilcA s0) h fun t14 h =>
 valA (faA 2 t14) h fun t15 h =>
 valA (ldA h none t15) h fun t16 h =>
 valA (binOp .lss .num at6 t16) h fun t17 h =>
 condA t17
 (C 115 [s0, at6] h fun t20 h =>
 C 48 [t20] h fun t22 h =>
 whenA t22 true (fun K => K t20 h) h fun t24 h =>
 whenA t22 true (fun K => C 36 [t24] h K) h fun t25 h =>
 whenA t22 true (fun K => valA (unOp .not t25) h K) h fun t26 h =>
 valA (pickA t22 t26 (.bool false)) h fun t27 h =>
 condA t27
 (C 112 [s0, t20] h fun t31 h =>
 valA (extA t31 0) h fun t32 h =>
 valA (extA t31 1) h fun t33 h =>
 valA (binOp .add .num at6 t32) h fun t36 h =>
 N [to5, t36] h)
 (C 120 [s0, at6, to5] h fun t40 h =>
 C 112 [s0, t40] h fun t44 h =>
 valA (extA t44 0) h fun t45 h =>
 valA (extA t44 1) h fun t46 h =>
 callvA C do1 [at6, to5, t40] h fun t51 h =>
 valA (binOp .add .num at6 t45) h fun t54 h =>
 valA (binOp .add .num to5 t45) h fun t57 h =>
 N [t57, t54] h))
 (J to5 h)) [(.int .i64 0), (.int .i64 0)] h
theorem she110 (C : CallA) (s0 do1 : AV) (h : H) (R : AV → H → Prop) : wpA C an110 (argE [s0, do1]) h (outA [(.tmp 4)] R) = sh110 C s0 do1 h R := by kernel_rfl
/-! bellows/gc.Collect$1 -/
def an111 : ACode :=
 (.seq (.reg 0 [] [] [sD 11 (.ld none (.t 3)),
 sD 12 (.mv (.t 2)),
 sD 13 (.call 112 [(.t 11), (.t 12)]),
 sD 10 (.mv (.t 13)),
 sD 14 (.ext (.t 10) 0),
 sD 15 (.ext (.t 10) 1),
 sD 7 (.mv (.t 14)),
 sD 8 (.mv (.t 15))])
 (.seq (.reg 0 [] [] [sD 16 (.mv (.t 8)),
 sD 17 (.mv (.c (.int .i64 0)))])
 (.block 0 (.loop [17] 196617 (.seq (.reg 0 [] [] [sD 18 (.bin .lss .num (.t 17) (.t 16))])
 (.seq (.cond (.t 18) .skip
 (.exit 0))
 (.seq (.block 1 (.seq (.reg 0 [] [] [sD 19 (.mv (.t 17)),
 sD 9 (.mv (.t 19))])
 (.reg 0 [] [] [sD 20 (.ld none (.t 3)),
 sD 21 (.mv (.t 0)),
 sD 22 (.bin .add .num (.t 21) (.c (.int .i64 1))),
 sD 23 (.mv (.t 9)),
 sD 24 (.bin .add .num (.t 22) (.t 23)),
 sD 25 (.call 109 [(.t 20), (.t 24)])])))
 (.reg 0 [] [] [sD 26 (.bin .add .num (.t 17) (.c (.int .i64 1))),
 sD 17 (.mv (.t 26))]))))))))
def fn111 : IFun := ⟨27, [], an111.erase⟩
theorem ok111 : okFun Try.prog 111 fn111 = true := by kernel_rfl
theorem oka111 : okA fn111.ntmps fn111.results an111 = true := by kernel_rfl
def sh111 (C : CallA) (at0 to1 head2 t3 : AV) (h : H) (R : AV → H → Prop) : Prop :=
 valA (ldA h none t3) h fun t11 h =>
 C 112 [t11, head2] h fun t13 h =>
 valA (extA t13 0) h fun t14 h =>
 valA (extA t13 1) h fun t15 h =>
 loopA (fun N l h => argA l 0 fun t17 => 
 valA (binOp .lss .num t17 t15) h fun t18 h =>
 condA t18
 (valA (ldA h none t3) h fun t20 h =>
 valA (binOp .add .num at0 (.int .i64 1)) h fun t22 h =>
 valA (binOp .add .num t22 t17) h fun t24 h =>
 C 109 [t20, t24] h fun t25 h =>
 valA (binOp .add .num t17 (.int .i64 1)) h fun t26 h =>
 N [t26] h)
 (R (.tup []) h)) [(.int .i64 0)] h
theorem she111 (C : CallA) (at0 to1 head2 t3 : AV) (h : H) (R : AV → H → Prop) : wpA C an111 (argE [at0, to1, head2, t3]) h (outA [] R) = sh111 C at0 to1 head2 t3 h R := by kernel_rfl
/-! (*bellows/gc.sweep).size -/
def an112 : ACode :=
 (.seq (.reg 0 [] [] [sD 4 (.mv (.c (.int .i64 0))),
 sD 5 (.mv (.c (.int .i64 0)))])
 (.seq (.reg 0 [] [] [sD 7 (.mv (.t 1)),
 sD 8 (.call 35 [(.t 7)]),
 sD 6 (.mv (.t 8))])
 (.seq (.reg 0 [0, 1, 2, 3, 4, 5, 6, 7, 8, 9, 10, 11] [[], [0], [0, 1], [1, 0, 2], [], [4], [], [6, 4, 5, 2, 0, 1, 3], [3, 1, 0, 2, 5, 4, 6, 7], [7, 6, 4, 5, 2, 0, 1, 3, 8], [7, 6, 4, 5, 2, 0, 1, 3, 8], [8, 3, 1, 0, 2, 5, 4, 6, 7, 9]] [sD 10 (.mv (.t 0)),
 sD 11 (.nilc (.t 10)),
 sD 12 (.fa 0 (.t 11)),
 sD 13 (.ld none (.t 12)),
 sD 14 (.mv (.t 1)),
 ⟨(some 15), none, (.call 33 [(.t 14)]), [⟨none, (.ld none (.t 12)), 13⟩]⟩,
 sD 16 (.mv (.t 6)),
 sD 17 (.call 52 [(.t 13), (.t 15), (.t 16)]),
 sD 9 (.mv (.t 17)),
 sD 18 (.ext (.t 9) 0),
 sD 19 (.ext (.t 9) 1),
 sD 4 (.mv (.t 18))])
 (.seq (.seq (.reg 0 [] [] [sD 20 (.mv (.t 4)),
 sD 21 (.mv (.t 6)),
 sD 22 (.bin .add .num (.c (.int .i64 1)) (.t 21)),
 sD 23 (.bin .eql .num (.t 20) (.t 22)),
 sD 24 (.mv (.t 23)),
 sG 25 24 true (.mv (.t 0)),
 sG 26 24 true (.mv (.t 1)),
 sG 27 24 true (.call 121 [(.t 25), (.t 26)]),
 sG 28 24 true (.un .not (.t 27)),
 sD 29 (.pick (.t 24) (.t 28) (.c (.bool false)))])
 (.cond (.t 29) (.seq (.reg 0 [] [] [sD 30 (.mv (.t 4)),
 sD 31 (.mv (.t 6)),
 sD 4 (.mv (.t 30)),
 sD 5 (.mv (.t 31))])
 .ret)
 .skip))
 (.seq (.reg 0 [] [] [sD 32 (.mv (.t 4)),
 sD 4 (.mv (.t 32)),
 sD 5 (.mv (.c (.int .i64 0)))])
 .ret)))))
def fn112 : IFun := ⟨33, [(.tmp 4), (.tmp 5)], an112.erase⟩
theorem ok112 : okFun Try.prog 112 fn112 = true := by kernel_rfl
theorem oka112 : okA fn112.ntmps fn112.results an112 = true := by kernel_rfl
def sh112 (C : CallA) (s0 head1 : AV) (h : H) (R : AV → H → Prop) : Prop :=
 C 35 [head1] h fun t8 h =>
 valA (nilcA s0) h fun t11 h =>
 valA (faA 0 t11) h fun t12 h =>
 valA (ldA h none t12) h fun t13 h =>
 C 33 [head1] h fun t15 h =>
 againK (valA (ldA h none t12) h (fun v _ => v = t13)) <|
 C 52 [t13, t15, t8] h fun t17 h =>
 valA (extA t17 0) h fun t18 h =>
 valA (extA t17 1) h fun t19 h =>
 valA (binOp .add .num (.int .i64 1) t8) h fun t22 h =>
 valA (binOp .eql .num t18 t22) h fun t23 h =>
 whenA t23 true (fun K => K s0 h) h fun t25 h =>
 whenA t23 true (fun K => K head1 h) h fun t26 h =>
 whenA t23 true (fun K => C 121 [t25, t26] h K) h fun t27 h =>
 whenA t23 true (fun K => valA (unOp .not t27) h K) h fun t28 h =>
 valA (pickA t23 t28 (.bool false)) h fun t29 h =>
 condA t29
 (R (.tup [t18, t8]) h)
 (R (.tup [t18, (.int .i64 0)]) h)
theorem she112 (C : CallA) (s0 head1 : AV) (h : H) (R : AV → H → Prop) : wpA C an112 (argE [s0, head1]) h (outA [(.tmp 4), (.tmp 5)] R) = sh112 C s0 head1 h R := by kernel_rfl
/-! bellows/gc.Collect$2 -/
def an113 : ACode :=
 (.seq (.reg 0 [] [] [sD 11 (.ld none (.t 3)),
 sD 12 (.mv (.t 2)),
 sD 13 (.call 112 [(.t 11), (.t 12)]),
 sD 10 (.mv (.t 13)),
 sD 14 (.ext (.t 10) 0),
 sD 15 (.ext (.t 10) 1),
 sD 7 (.mv (.t 14)),
 sD 8 (.mv (.t 15))])
 (.seq (.reg 0 [0, 1, 2, 3, 4, 5] [[], [], [], [2], [2, 3], [3, 2, 4, 1, 0]] [sD 16 (.ld none (.t 3)),
 sD 17 (.mv (.t 1)),
 sD 18 (.mv (.t 2)),
 ⟨(some 19), none, (.call 41 [(.t 18), (.c (.bool false))]), [⟨none, (.ld none (.t 3)), 16⟩]⟩,
 ⟨(some 20), none, (.call 43 [(.t 19), (.c (.int .i64 0))]), [⟨none, (.ld none (.t 3)), 16⟩]⟩,
 sD 21 (.call 114 [(.t 16), (.t 17), (.t 20)])])
 (.seq (.reg 0 [] [] [sD 9 (.mv (.c (.int .i64 1)))])
 (.block 0 (.loop [9] 651 (.seq (.seq (.reg 0 [] [] [sD 22 (.mv (.t 9)),
 sD 23 (.mv (.t 7)),
 sD 24 (.bin .lss .num (.t 22) (.t 23))])
 (.cond (.t 24) .skip
 (.exit 0)))
 (.seq (.block 1 (.reg 0 [0, 1, 2, 3, 4, 5, 6, 7, 8, 9] [[], [], [], [2, 1], [], [], [], [6, 5], [5, 6, 7, 4], [4, 7, 6, 5, 8, 1, 2, 3, 0]] [sD 27 (.ld none (.t 3)),
 sD 28 (.mv (.t 1)),
 sD 29 (.mv (.t 9)),
 sD 30 (.bin .add .num (.t 28) (.t 29)),
 sD 31 (.ld none (.t 3)),
 sD 32 (.mv (.t 0)),
 sD 33 (.mv (.t 9)),
 sD 34 (.bin .add .num (.t 32) (.t 33)),
 ⟨(some 35), none, (.call 115 [(.t 31), (.t 34)]), [⟨none, (.ld none (.t 3)), 27⟩]⟩,
 sD 36 (.call 114 [(.t 27), (.t 30), (.t 35)])]))
 (.reg 0 [] [] [sD 25 (.mv (.t 9)),
 sD 26 (.bin .add .num (.t 25) (.c (.int .i64 1))),
 sD 9 (.mv (.t 26))]))))))))
def fn113 : IFun := ⟨37, [], an113.erase⟩
theorem ok113 : okFun Try.prog 113 fn113 = true := by kernel_rfl
theorem oka113 : okA fn113.ntmps fn113.results an113 = true := by kernel_rfl
def sh113 (C : CallA) (at0 to1 head2 t3 : AV) (h : H) (R : AV → H → Prop) : Prop :=
 valA (ldA h none t3) h fun t11 h =>
 C 112 [t11, head2] h fun t13 h =>
 valA (extA t13 0) h fun t14 h =>
 valA (extA t13 1) h fun t15 h =>
 valA (ldA h none t3) h fun t16 h =>
 C 41 [head2, (.bool false)] h fun t19 h =>
 againK (valA (ldA h none t3) h (fun v _ => v = t16)) <|
 C 43 [t19, (.int .i64 0)] h fun t20 h =>
 againK (valA (ldA h none t3) h (fun v _ => v = t16)) <|
 C 114 [t16, to1, t20] h fun t21 h =>
 loopA (fun N l h => argA l 0 fun i9 => 
 valA (binOp .lss .num i9 t14) h fun t24 h =>
 condA t24
 (valA (ldA h none t3) h fun t27 h =>
 valA (binOp .add .num to1 i9) h fun t30 h =>
 valA (ldA h none t3) h fun t31 h =>
 valA (binOp .add .num at0 i9) h fun t34 h =>
 C 115 [t31, t34] h fun t35 h =>
 againK (valA (ldA h none t3) h (fun v _ => v = t27)) <|
 C 114 [t27, t30, t35] h fun t36 h =>
 valA (binOp .add .num i9 (.int .i64 1)) h fun t26 h =>
 N [t26] h)
 (R (.tup []) h)) [(.int .i64 1)] h
theorem she113 (C : CallA) (at0 to1 head2 t3 : AV) (h : H) (R : AV → H → Prop) : wpA C an113 (argE [at0, to1, head2, t3]) h (outA [] R) = sh113 C at0 to1 head2 t3 h R := by kernel_rfl
/-! (*bellows/gc.sweep).store -/
def an114 : ACode :=
 (.seq (.seq (.reg 0 [] [] [sD 6 (.mv (.t 1)),
 sD 7 (.mv (.t 0)),
 sD 8 (.nilc (.t 7)),
 sD 9 (.fa 0 (.t 8)),
 sD 10 (.ld none (.t 9)),
 sD 11 (.call 58 [(.t 10)]),
 sD 12 (.bin .geq .num (.t 6) (.t 11))])
 (.cond (.t 12) (.seq (.reg 0 [0, 1, 2, 3, 4, 5, 6, 7, 8, 9, 10, 11, 12, 13] [[], [0], [0, 1], [1, 0, 2], [], [], [5], [5, 6], [6, 5, 7], [7, 5, 6, 8], [8, 6, 5, 7, 9, 4], [], [11, 4, 9, 7, 5, 6, 8, 10, 2, 0, 1, 3], [3, 1, 0, 2, 10, 8, 6, 5, 7, 9, 4, 11, 12]] [sD 13 (.mv (.t 0)),
 sD 14 (.nilc (.t 13)),
 sD 15 (.fa 1 (.t 14)),
 sD 16 (.ld none (.t 15)),
 sD 17 (.mv (.t 1)),
 sD 18 (.mv (.t 0)),
 sD 19 (.nilc (.t 18)),
 sD 20 (.fa 0 (.t 19)),
 sD 21 (.ld none (.t 20)),
 ⟨(some 22), none, (.call 58 [(.t 21)]), [⟨none, (.ld none (.t 15)), 16⟩]⟩,
 sD 23 (.bin .sub .num (.t 17) (.t 22)),
 sD 24 (.mv (.t 2)),
 sD 25 (.ia none 1 (.t 16) (.t 23)),
 sN (.st 1 (.t 25) (.t 24))])
 .ret)
 .skip))
 (.reg 0 [] [] [sD 26 (.mv (.t 0)),
 sD 27 (.nilc (.t 26)),
 sD 28 (.fa 0 (.t 27)),
 sD 29 (.ld none (.t 28)),
 sD 30 (.mv (.t 1)),
 sD 31 (.mv (.t 2)),
 sD 32 (.call 78 [(.t 29), (.t 30), (.t 31)])]))
def fn114 : IFun := ⟨33, [], an114.erase⟩
theorem ok114 : okFun Try.prog 114 fn114 = true := by kernel_rfl
theorem oka114 : okA fn114.ntmps fn114.results an114 = true := by kernel_rfl
def sh114 (C : CallA) (s0 i1 w2 : AV) (h : H) (R : AV → H → Prop) : Prop :=
 valA (nilcA s0) h fun t8 h =>
 valA (faA 0 t8) h fun t9 h =>
 valA (ldA h none t9) h fun t10 h =>
 C 58 [t10] h fun t11 h =>
 valA (binOp .geq .num i1 t11) h fun t12 h =>
 condA t12
 (valA (nilcA s0) h fun t14 h =>
 valA (faA 1 t14) h fun t15 h =>
 valA (ldA h none t15) h fun t16 h =>
 valA (nilcA s0) h fun t19 h =>
 valA (faA 0 t19) h fun t20 h =>
 valA (ldA h none t20) h fun t21 h =>
 C 58 [t21] h fun t22 h =>
 againK (valA (ldA h none t15) h (fun v _ => v = t16)) <|
 valA (binOp .sub .num i1 t22) h fun t23 h =>
 valA (iaA 1 t16 t23) h fun t25 h =>
 memA (stA h 1 t25 w2) .undef fun _ h =>
 R (.tup []) h)
 (valA (nilcA s0) h fun t27 h =>
 valA (faA 0 t27) h fun t28 h =>
 valA (ldA h none t28) h fun t29 h =>
 C 78 [t29, i1, w2] h fun t32 h =>
 R (.tup []) h)
theorem she114 (C : CallA) (s0 i1 w2 : AV) (h : H) (R : AV → H → Prop) : wpA C an114 (argE [s0, i1, w2]) h (outA [] R) = sh114 C s0 i1 w2 h R := by kernel_rfl
/-! (*bellows/gc.sweep).load -/
def an115 : ACode :=
 (.seq (.reg 0 [] [] [sD 4 (.mv (.c (.int .u64 0)))])
 (.seq (.seq (.reg 0 [] [] [sD 5 (.mv (.t 1)),
 sD 6 (.mv (.t 0)),
 sD 7 (.nilc (.t 6)),
 sD 8 (.fa 0 (.t 7)),
 sD 9 (.ld none (.t 8)),
 sD 10 (.call 58 [(.t 9)]),
 sD 11 (.bin .geq .num (.t 5) (.t 10))])
 (.cond (.t 11) (.seq (.reg 0 [0, 1, 2, 3, 4, 5, 6, 7, 8, 9, 10, 11, 12, 13] [[], [0], [0, 1], [1, 0, 2], [], [], [5], [5, 6], [6, 5, 7], [7, 5, 6, 8], [8, 6, 5, 7, 9, 4], [4, 9, 7, 5, 6, 8, 10, 2, 0, 1, 3], [3, 1, 0, 2, 10, 8, 6, 5, 7, 9, 4, 11], [11, 4, 9, 7, 5, 6, 8, 10, 2, 0, 1, 3, 12]] [sD 12 (.mv (.t 0)),
 sD 13 (.nilc (.t 12)),
 sD 14 (.fa 1 (.t 13)),
 sD 15 (.ld none (.t 14)),
 sD 16 (.mv (.t 1)),
 sD 17 (.mv (.t 0)),
 sD 18 (.nilc (.t 17)),
 sD 19 (.fa 0 (.t 18)),
 sD 20 (.ld none (.t 19)),
 ⟨(some 21), none, (.call 58 [(.t 20)]), [⟨none, (.ld none (.t 14)), 15⟩]⟩,
 sD 22 (.bin .sub .num (.t 16) (.t 21)),
 sD 23 (.ia none 1 (.t 15) (.t 22)),
 sD 24 (.ld none (.t 23)),
 sD 4 (.mv (.t 24))])
 .ret)
 .skip))
 (.seq (.reg 0 [] [] [sD 25 (.mv (.t 0)),
 sD 26 (.nilc (.t 25)),
 sD 27 (.fa 0 (.t 26)),
 sD 28 (.ld none (.t 27)),
 sD 29 (.mv (.t 1)),
 sD 30 (.call 62 [(.t 28), (.t 29)]),
 sD 4 (.mv (.t 30))])
 .ret)))
def fn115 : IFun := ⟨31, [(.tmp 4)], an115.erase⟩
theorem ok115 : okFun Try.prog 115 fn115 = true := by kernel_rfl
theorem oka115 : okA fn115.ntmps fn115.results an115 = true := by kernel_rfl
def sh115 (C : CallA) (s0 i1 : AV) (h : H) (R : AV → H → Prop) : Prop :=
 valA (nilcA s0) h fun t7 h =>
 valA (faA 0 t7) h fun t8 h =>
 valA (ldA h none t8) h fun t9 h =>
 C 58 [t9] h fun t10 h =>
 valA (binOp .geq .num i1 t10) h fun t11 h =>
 condA t11
 (valA (nilcA s0) h fun t13 h =>
 valA (faA 1 t13) h fun t14 h =>
 valA (ldA h none t14) h fun t15 h =>
 valA (nilcA s0) h fun t18 h =>
 valA (faA 0 t18) h fun t19 h =>
 valA (ldA h none t19) h fun t20 h =>
 C 58 [t20] h fun t21 h =>
 againK (valA (ldA h none t14) h (fun v _ => v = t15)) <|
 valA (binOp .sub .num i1 t21) h fun t22 h =>
 valA (iaA 1 t15 t22) h fun t23 h =>
 valA (ldA h none t23) h fun t24 h =>
 R t24 h)
 (valA (nilcA s0) h fun t26 h =>
 valA (faA 0 t26) h fun t27 h =>
 valA (ldA h none t27) h fun t28 h =>
 C 62 [t28, i1] h fun t30 h =>
 R t30 h)
theorem she115 (C : CallA) (s0 i1 : AV) (h : H) (R : AV → H → Prop) : wpA C an115 (argE [s0, i1]) h (outA [(.tmp 4)] R) = sh115 C s0 i1 h R := by kernel_rfl
/-! (*bellows/gc.sweep).each -/
def an116 : ACode :=
 (.seq (.reg 0 [] [] [sD 4 (.mv (.c (.int .i64 0)))])
 (.block 0 (.loop [4] 19 (.seq (.seq (.reg 0 [] [] [sD 8 (.mv (.t 4)),
 sD 9 (.mv (.t 0)),
 sD 10 (.nilc (.t 9)),
 sD 11 (.fa 2 (.t 10)),
 sD 12 (.ld none (.t 11)),
 sD 13 (.bin .lss .num (.t 8) (.t 12))])
 (.cond (.t 13) .skip
 (.exit 0)))
 (.block 1 (.seq (.reg 0 [] [] [sD 14 (.mv (.t 0)),
 sD 15 (.mv (.t 4)),
 sD 16 (.call 115 [(.t 14), (.t 15)]),
 sD 5 (.mv (.t 16))])
 (.seq (.reg 0 [] [] [sD 18 (.mv (.t 0)),
 sD 19 (.mv (.t 5)),
 sD 20 (.call 112 [(.t 18), (.t 19)]),
 sD 17 (.mv (.t 20)),
 sD 21 (.ext (.t 17) 0),
 sD 22 (.ext (.t 17) 1),
 sD 6 (.mv (.t 21)),
 sD 7 (.mv (.t 22))])
 (.seq (.reg 0 [] [] [sD 23 (.mv (.t 1)),
 sD 24 (.mv (.t 4)),
 sD 25 (.mv (.t 5)),
 sD 26 (.mv (.t 6)),
 sD 27 (.callv (.t 23) [(.t 24), (.t 25), (.t 26)])])
 (.reg 0 [] [] [sD 28 (.mv (.t 4)),
 sD 29 (.mv (.t 6)),
 sD 30 (.bin .add .num (.t 28) (.t 29)),
 sD 4 (.mv (.t 30))])))))))))
def fn116 : IFun := ⟨31, [], an116.erase⟩
theorem ok116 : okFun Try.prog 116 fn116 = true := by kernel_rfl
theorem oka116 : okA fn116.ntmps fn116.results an116 = true := by kernel_rfl
def sh116 (C : CallA) (s0 do1 : AV) (h : H) (R : AV → H → Prop) : Prop :=
 loopA (fun N l h => argA l 0 fun at4 => 
 valA (nilcA s0) h fun t10 h =>
 valA (faA 2 t10) h fun t11 h =>
 valA (ldA h none t11) h fun t12 h =>
 valA (binOp .lss .num at4 t12) h fun t13 h =>
 condA t13
 (C 115 [s0, at4] h fun t16 h =>
 C 112 [s0, t16] h fun t20 h =>
 valA (extA t20 0) h fun t21 h =>
 valA (extA t20 1) h fun t22 h =>
 callvA C do1 [at4, t16, t21] h fun t27 h =>
 valA (binOp .add .num at4 t21) h fun t30 h =>
 N [t30] h)
 (R (.tup []) h)) [(.int .i64 0)] h
theorem she116 (C : CallA) (s0 do1 : AV) (h : H) (R : AV → H → Prop) : wpA C an116 (argE [s0, do1]) h (outA [] R) = sh116 C s0 do1 h R := by kernel_rfl
/-! bellows/gc.Marks$1 -/
def an117 : ACode :=
 (.seq (.reg 0 [] [] [sD 8 (.mv (.t 1)),
 sD 9 (.call 36 [(.t 8)])])
 (.cond (.t 9) (.seq (.reg 0 [] [] [sD 10 (.ld none (.t 3)),
 sD 11 (.mv (.t 0)),
 sD 12 (.mksl none 3 [(.int .i64 0)] 1 [(0, 1, (.t 11))]),
 sD 13 (.app 3 1 8 [(.int .i64 0)] (.t 10) (.t 12)),
 sN (.st 1 (.t 3) (.t 13))])
 (.reg 0 [0, 1, 2, 3, 4, 5] [[], [], [], [2], [2, 3], [3, 2, 4, 1, 0]] [sD 14 (.ld none (.t 4)),
 sD 15 (.mv (.t 0)),
 sD 16 (.mv (.t 1)),
 ⟨(some 17), none, (.call 41 [(.t 16), (.c (.bool false))]), [⟨none, (.ld none (.t 4)), 14⟩]⟩,
 ⟨(some 18), none, (.call 43 [(.t 17), (.c (.int .i64 0))]), [⟨none, (.ld none (.t 4)), 14⟩]⟩,
 sD 19 (.call 114 [(.t 14), (.t 15), (.t 18)])]))
 .skip))
def fn117 : IFun := ⟨20, [], an117.erase⟩
theorem ok117 : okFun Try.prog 117 fn117 = true := by kernel_rfl
theorem oka117 : okA fn117.ntmps fn117.results an117 = true := by kernel_rfl
def sh117 (C : CallA) (at0 head1 size2 t3 t4 : AV) (h : H) (R : AV → H → Prop) : Prop :=
 C 36 [head1] h fun t9 h =>
 condA t9
 (valA (ldA h none t3) h fun t10 h =>
 mkslA h 3 1 (fillV [(.int .i64 0)] [(0, 1, at0)]) fun t12 h =>
 appendA h 3 1 8 t10 t12 fun t13 h =>
 memA (stA h 1 t3 t13) .undef fun _ h =>
 valA (ldA h none t4) h fun t14 h =>
 C 41 [head1, (.bool false)] h fun t17 h =>
 againK (valA (ldA h none t4) h (fun v _ => v = t14)) <|
 C 43 [t17, (.int .i64 0)] h fun t18 h =>
 againK (valA (ldA h none t4) h (fun v _ => v = t14)) <|
 C 114 [t14, at0, t18] h fun t19 h =>
 R (.tup []) h)
 (R (.tup []) h)
theorem she117 (C : CallA) (at0 head1 size2 t3 t4 : AV) (h : H) (R : AV → H → Prop) : wpA C an117 (argE [at0, head1, size2, t3, t4]) h (outA [] R) = sh117 C at0 head1 size2 t3 t4 h R := by kernel_rfl
/-! bellows/bellowslaw03.place -/
def an118 : ACode :=
 (.seq (.reg 0 [] [] [sD 4 (.mv (.c .nilsl)),
 sD 5 (.mv (.c (.int .i64 0)))])
 (.seq (.seq (.reg 0 [] [] [sD 8 (.mv (.t 0)),
 sD 9 (.len false (.t 8)),
 sD 10 (.mv (.c (.int .i64 0)))])
 (.block 0 (.loop [10] 1795 (.seq (.reg 0 [] [] [sD 11 (.bin .lss .num (.t 10) (.t 9))])
 (.seq (.cond (.t 11) .skip
 (.exit 0))
 (.seq (.block 1 (.seq (.reg 0 [] [] [sD 12 (.mv (.t 10)),
 sD 13 (.ia none 1 (.t 8) (.t 10)),
 sD 14 (.ld none (.t 13)),
 sD 6 (.mv (.t 12)),
 sD 7 (.mv (.t 14))])
 (.seq (.reg 0 [] [] [sD 15 (.mv (.t 7)),
 sD 16 (.mv (.t 1)),
 sD 17 (.bin .eql .num (.t 15) (.t 16))])
 (.cond (.t 17) (.seq (.reg 0 [] [] [sD 18 (.mv (.t 0)),
 sD 19 (.mv (.t 6)),
 sD 4 (.mv (.t 18)),
 sD 5 (.mv (.t 19))])
 .ret)
 .skip))))
 (.reg 0 [] [] [sD 20 (.bin .add .num (.t 10) (.c (.int .i64 1))),
 sD 10 (.mv (.t 20))])))))))
 (.seq (.reg 0 [] [] [sD 21 (.mv (.t 0)),
 sD 22 (.mv (.t 1)),
 sD 23 (.mksl none 3 [(.int .i64 0)] 1 [(0, 1, (.t 22))]),
 sD 24 (.app 3 1 8 [(.int .i64 0)] (.t 21) (.t 23)),
 sD 25 (.mv (.t 0)),
 sD 26 (.len false (.t 25)),
 sD 4 (.mv (.t 24)),
 sD 5 (.mv (.t 26))])
 .ret)))
def fn118 : IFun := ⟨27, [(.tmp 4), (.tmp 5)], an118.erase⟩
theorem ok118 : okFun Try.prog 118 fn118 = true := by kernel_rfl
theorem oka118 : okA fn118.ntmps fn118.results an118 = true := by kernel_rfl
def sh118 (C : CallA) (met0 at1 : AV) (h : H) (R : AV → H → Prop) : Prop :=
 joinA (fun (h : H) =>
 mkslA h 3 1 (fillV [(.int .i64 0)] [(0, 1, at1)]) fun t23 h =>
 appendA h 3 1 8 met0 t23 fun t24 h =>
 valA (lenA false met0) h fun t26 h =>
 R (.tup [t24, t26]) h) fun J =>
 valA (lenA false met0) h fun t9 h =>
 loopA (fun N l h => argA l 0 fun t10 => 
 valA (binOp .lss .num t10 t9) h fun t11 h =>
 condA t11
 (valA (iaA 1 met0 t10) h fun t13 h =>
 valA (ldA h none t13) h fun t14 h =>
 valA (binOp .eql .num t14 at1) h fun t17 h =>
 condA t17
 (R (.tup [met0, t10]) h)
 (valA (binOp .add .num t10 (.int .i64 1)) h fun t20 h =>
 N [t20] h))
 (J h)) [(.int .i64 0)] h
theorem she118 (C : CallA) (met0 at1 : AV) (h : H) (R : AV → H → Prop) : wpA C an118 (argE [met0, at1]) h (outA [(.tmp 4), (.tmp 5)] R) = sh118 C met0 at1 h R := by kernel_rfl
/-! (*bellows/gc.sweep).mark -/
def an119 : ACode :=
 (.seq (.seq (.reg 0 [] [] [sD 14 (.mv (.t 1)),
 sD 15 (.call 48 [(.t 14)]),
 sD 16 (.mv (.t 15)),
 sG 17 16 false (.mv (.t 0)),
 sG 18 16 false (.mv (.t 1)),
 sG 19 16 false (.call 85 [(.t 18)]),
 sG 20 16 false (.call 115 [(.t 17), (.t 19)]),
 sG 21 16 false (.call 36 [(.t 20)]),
 sD 22 (.pick (.t 16) (.c (.bool true)) (.t 21))])
 (.cond (.t 22) .ret
 .skip))
 (.seq (.reg 0 [] [] [sD 23 (.mv (.t 1)),
 sD 24 (.call 85 [(.t 23)]),
 sD 4 (.mv (.t 24)),
 sD 5 (.mv (.c (.int .u64 1)))])
 (.seq .skip
 (.block 0 (.loop [4, 5] 49 (.block 1 (.seq (.reg 0 [] [] [sD 25 (.mv (.t 0)),
 sD 26 (.mv (.t 4)),
 sD 27 (.call 115 [(.t 25), (.t 26)]),
 sD 28 (.call 41 [(.t 27), (.c (.bool true))]),
 sD 6 (.mv (.t 28))])
 (.seq (.reg 0 [] [] [sD 30 (.mv (.t 0)),
 sD 31 (.mv (.t 6)),
 sD 32 (.call 112 [(.t 30), (.t 31)]),
 sD 29 (.mv (.t 32)),
 sD 33 (.ext (.t 29) 0),
 sD 34 (.ext (.t 29) 1),
 sD 7 (.mv (.t 33)),
 sD 8 (.mv (.t 34))])
 (.seq (.reg 0 [] [] [sD 35 (.mv (.t 6)),
 sD 36 (.call 37 [(.t 35)]),
 sD 9 (.mv (.t 36))])
 (.seq (.seq (.reg 0 [] [] [sD 37 (.mv (.t 9)),
 sD 38 (.mv (.t 8)),
 sD 39 (.bin .lss .num (.t 37) (.t 38))])
 (.cond (.t 39) (.seq (.reg 0 [] [] [sD 40 (.mv (.t 0)),
 sD 41 (.mv (.t 4)),
 sD 42 (.mv (.t 6)),
 sD 43 (.mv (.t 9)),
 sD 44 (.bin .add .num (.t 43) (.c (.int .i64 1))),
 sD 45 (.call 43 [(.t 42), (.t 44)]),
 sD 46 (.call 114 [(.t 40), (.t 41), (.t 45)])])
 (.seq (.reg 0 [] [] [sD 47 (.mv (.t 0)),
 sD 48 (.mv (.t 4)),
 sD 49 (.bin .add .num (.t 48) (.c (.int .i64 1))),
 sD 50 (.mv (.t 9)),
 sD 51 (.bin .add .num (.t 49) (.t 50)),
 sD 52 (.call 115 [(.t 47), (.t 51)]),
 sD 10 (.mv (.t 52))])
 (.seq (.seq (.reg 0 [] [] [sD 53 (.mv (.t 10)),
 sD 54 (.call 48 [(.t 53)]),
 sD 55 (.un .not (.t 54)),
 sD 56 (.mv (.t 55)),
 sG 57 56 true (.mv (.t 0)),
 sG 58 56 true (.mv (.t 10)),
 sG 59 56 true (.call 85 [(.t 58)]),
 sG 60 56 true (.call 115 [(.t 57), (.t 59)]),
 sG 61 56 true (.call 36 [(.t 60)]),
 sG 62 56 true (.un .not (.t 61)),
 sD 63 (.pick (.t 56) (.t 62) (.c (.bool false)))])
 (.cond (.t 63) (.seq (.reg 0 [] [] [sD 64 (.mv (.t 0)),
 sD 65 (.mv (.t 4)),
 sD 66 (.bin .add .num (.t 65) (.c (.int .i64 1))),
 sD 67 (.mv (.t 9)),
 sD 68 (.bin .add .num (.t 66) (.t 67)),
 sD 69 (.mv (.t 5)),
 sD 70 (.call 114 [(.t 64), (.t 68), (.t 69)])])
 (.reg 0 [] [] [sD 71 (.mv (.t 10)),
 sD 72 (.call 85 [(.t 71)]),
 sD 73 (.mv (.t 4)),
 sD 74 (.call 82 [(.t 73)]),
 sD 4 (.mv (.t 72)),
 sD 5 (.mv (.t 74))]))
 .skip))
 (.exit 1))))
 .skip))
 (.seq (.reg 0 [] [] [sD 75 (.mv (.t 0)),
 sD 76 (.mv (.t 4)),
 sD 77 (.mv (.t 6)),
 sD 78 (.call 114 [(.t 75), (.t 76), (.t 77)])])
 (.seq (.seq (.reg 0 [] [] [sD 79 (.mv (.t 5)),
 sD 80 (.bin .eql .num (.t 79) (.c (.int .u64 1)))])
 (.cond (.t 80) (.exit 0)
 .skip))
 (.seq (.reg 0 [] [] [sD 81 (.mv (.t 5)),
 sD 82 (.call 85 [(.t 81)]),
 sD 11 (.mv (.t 82))])
 (.seq (.reg 0 [] [] [sD 83 (.mv (.t 11)),
 sD 84 (.mv (.t 0)),
 sD 85 (.mv (.t 11)),
 sD 86 (.call 115 [(.t 84), (.t 85)]),
 sD 87 (.call 37 [(.t 86)]),
 sD 88 (.bin .add .num (.t 83) (.t 87)),
 sD 12 (.mv (.t 88))])
 (.seq (.reg 0 [] [] [sD 89 (.mv (.t 4)),
 sD 90 (.call 82 [(.t 89)]),
 sD 13 (.mv (.t 90))])
 (.seq (.reg 0 [] [] [sD 91 (.mv (.t 11)),
 sD 92 (.mv (.t 0)),
 sD 93 (.mv (.t 12)),
 sD 94 (.call 115 [(.t 92), (.t 93)]),
 sD 4 (.mv (.t 91)),
 sD 5 (.mv (.t 94))])
 (.reg 0 [] [] [sD 95 (.mv (.t 0)),
 sD 96 (.mv (.t 12)),
 sD 97 (.mv (.t 13)),
 sD 98 (.call 114 [(.t 95), (.t 96), (.t 97)])])))))))))))))))))
def fn119 : IFun := ⟨99, [], an119.erase⟩
theorem ok119 : okFun Try.prog 119 fn119 = true := by kernel_rfl
theorem oka119 : okA fn119.ntmps fn119.results an119 = true := by kernel_rfl
def sh119 (C : CallA) (s0 w1 : AV) (h : H) (R : AV → H → Prop) : Prop :=
 C 48 [w1] h fun t15 h =>
 whenA t15 false (fun K => K s0 h) h fun t17 h =>
 whenA t15 false (fun K => K w1 h) h fun t18 h =>
 whenA t15 false (fun K => C 85 [t18] h K) h fun t19 h =>
 whenA t15 false (fun K => C 115 [t17, t19] h K) h fun t20 h =>
 whenA t15 false (fun K => C 36 [t20] h K) h fun t21 h =>
 valA (pickA t15 (.bool true) t21) h fun t22 h =>
 condA t22
 (R (.tup []) h)
 (C 85 [w1] h fun t24 h =>
 loopA (fun N l h => argA l 0 fun at4 => argA l 1 fun back5 => 
 C 115 [s0, at4] h fun t27 h =>
 C 41 [t27, (.bool true)] h fun t28 h =>
 C 112 [s0, t28] h fun t32 h =>
 valA (extA t32 0) h fun t33 h =>
 valA (extA t32 1) h fun t34 h =>
 C 37 [t28] h fun t36 h =>
 valA (binOp .lss .num t36 t34) h fun t39 h =>
 condA t39
 (valA (binOp .add .num t36 (.int .i64 1)) h fun t44 h =>
 C 43 [t28, t44] h fun t45 h =>
 C 114 [s0, at4, t45] h fun t46 h =>
 valA (binOp .add .num at4 (.int .i64 1)) h fun t49 h =>
 valA (binOp .add .num t49 t36) h fun t51 h =>
 C 115 [s0, t51] h fun t52 h =>
 joinA (fun (at4' : AV) (back5' : AV) (h : H) =>
 N [at4', back5'] h) fun J =>
 C 48 [t52] h fun t54 h =>
 valA (unOp .not t54) h fun t55 h =>
 whenA t55 true (fun K => K s0 h) h fun t57 h =>
 whenA t55 true (fun K => K t52 h) h fun t58 h =>
 whenA t55 true (fun K => C 85 [t58] h K) h fun t59 h =>
 whenA t55 true (fun K => C 115 [t57, t59] h K) h fun t60 h =>
 whenA t55 true (fun K => C 36 [t60] h K) h fun t61 h =>
 whenA t55 true (fun K => valA (unOp .not t61) h K) h fun t62 h =>
 valA (pickA t55 t62 (.bool false)) h fun t63 h =>
 condA t63
 (valA (binOp .add .num at4 (.int .i64 1)) h fun t66 h =>
 valA (binOp .add .num t66 t36) h fun t68 h =>
 C 114 [s0, t68, back5] h fun t70 h =>
 C 85 [t52] h fun t72 h =>
 C 82 [at4] h fun t74 h =>
 J t72 t74 h)
 (J at4 back5 h))
 (C 114 [s0, at4, t28] h fun t78 h =>
 valA (binOp .eql .num back5 (.int .u64 1)) h fun t80 h =>
 condA t80
 (R (.tup []) h)
 (C 85 [back5] h fun t82 h =>
 C 115 [s0, t82] h fun t86 h =>
 C 37 [t86] h fun t87 h =>
 valA (binOp .add .num t82 t87) h fun t88 h =>
 C 82 [at4] h fun t90 h =>
 C 115 [s0, t88] h fun t94 h =>
 C 114 [s0, t88, t90] h fun t98 h =>
 N [t82, t94] h))) [t24, (.int .u64 1)] h)
theorem she119 (C : CallA) (s0 w1 : AV) (h : H) (R : AV → H → Prop) : wpA C an119 (argE [s0, w1]) h (outA [] R) = sh119 C s0 w1 h R := by kernel_rfl
/-! (*bellows/gc.sweep).unthread -/
def an120 : ACode :=
 (.seq (.reg 0 [] [] [sD 6 (.mv (.c (.int .u64 0)))])
 (.seq (.reg 0 [] [] [sD 9 (.mv (.t 0)),
 sD 10 (.mv (.t 1)),
 sD 11 (.call 115 [(.t 9), (.t 10)]),
 sD 7 (.mv (.t 11))])
 (.seq (.block 0 (.loop [7] 135 (.seq (.seq (.reg 0 [] [] [sD 12 (.mv (.t 7)),
 sD 13 (.call 48 [(.t 12)]),
 sD 14 (.un .not (.t 13))])
 (.cond (.t 14) .skip
 (.exit 0)))
 (.block 1 (.seq (.reg 0 [] [] [sD 15 (.mv (.t 7)),
 sD 16 (.call 85 [(.t 15)]),
 sD 8 (.mv (.t 16))])
 (.seq (.reg 0 [] [] [sD 17 (.mv (.t 0)),
 sD 18 (.mv (.t 8)),
 sD 19 (.call 115 [(.t 17), (.t 18)]),
 sD 7 (.mv (.t 19))])
 (.reg 0 [] [] [sD 20 (.mv (.t 0)),
 sD 21 (.mv (.t 8)),
 sD 22 (.mv (.t 2)),
 sD 23 (.call 82 [(.t 22)]),
 sD 24 (.call 114 [(.t 20), (.t 21), (.t 23)])])))))))
 (.seq (.reg 0 [] [] [sD 25 (.mv (.t 0)),
 sD 26 (.mv (.t 1)),
 sD 27 (.mv (.t 7)),
 sD 28 (.call 114 [(.t 25), (.t 26), (.t 27)])])
 (.seq (.reg 0 [] [] [sD 29 (.mv (.t 7)),
 sD 6 (.mv (.t 29))])
 .ret)))))
def fn120 : IFun := ⟨30, [(.tmp 6)], an120.erase⟩
theorem ok120 : okFun Try.prog 120 fn120 = true := by kernel_rfl
theorem oka120 : okA fn120.ntmps fn120.results an120 = true := by kernel_rfl
def sh120 (C : CallA) (s0 at1 to2 : AV) (h : H) (R : AV → H → Prop) : Prop :=
 C 115 [s0, at1] h fun t11 h =>
 joinA (fun (w7' : AV) (h : H) =>
 C 114 [s0, at1, w7'] h fun t28 h =>
 R w7' h) fun J =>
 loopA (fun N l h => argA l 0 fun w7 => 
 C 48 [w7] h fun t13 h =>
 valA (unOp .not t13) h fun t14 h =>
 condA t14
 (C 85 [w7] h fun t16 h =>
 C 115 [s0, t16] h fun t19 h =>
 C 82 [to2] h fun t23 h =>
 C 114 [s0, t16, t23] h fun t24 h =>
 N [t19] h)
 (J w7 h)) [t11] h
theorem she120 (C : CallA) (s0 at1 to2 : AV) (h : H) (R : AV → H → Prop) : wpA C an120 (argE [s0, at1, to2]) h (outA [(.tmp 6)] R) = sh120 C s0 at1 to2 h R := by kernel_rfl
/-! (*bellows/gc.sweep).bytes -/
def an121 : ACode :=
 (.seq (.reg 0 [] [] [sD 4 (.mv (.c (.bool false)))])
 (.seq (.reg 0 [0, 1, 2, 3, 4, 5, 6, 7, 8] [[], [0], [0, 1], [1, 0, 2], [], [4], [4, 5, 2, 0, 1, 3], [3, 1, 0, 2, 5, 4, 6], [6, 4, 5, 2, 0, 1, 3, 7]] [sD 5 (.mv (.t 0)),
 sD 6 (.nilc (.t 5)),
 sD 7 (.fa 0 (.t 6)),
 sD 8 (.ld none (.t 7)),
 sD 9 (.mv (.t 1)),
 ⟨(some 10), none, (.call 33 [(.t 9)]), [⟨none, (.ld none (.t 7)), 8⟩]⟩,
 sD 11 (.call 54 [(.t 8), (.t 10)]),
 sD 12 (.bin .eql .num (.t 11) (.c (.int .i64 3))),
 sD 4 (.mv (.t 12))])
 .ret))
def fn121 : IFun := ⟨13, [(.tmp 4)], an121.erase⟩
theorem ok121 : okFun Try.prog 121 fn121 = true := by kernel_rfl
theorem oka121 : okA fn121.ntmps fn121.results an121 = true := by kernel_rfl
def sh121 (C : CallA) (s0 head1 : AV) (h : H) (R : AV → H → Prop) : Prop :=
 valA (nilcA s0) h fun t6 h =>
 valA (faA 0 t6) h fun t7 h =>
 valA (ldA h none t7) h fun t8 h =>
 C 33 [head1] h fun t10 h =>
 againK (valA (ldA h none t7) h (fun v _ => v = t8)) <|
 C 54 [t8, t10] h fun t11 h =>
 valA (binOp .eql .num t11 (.int .i64 3)) h fun t12 h =>
 R t12 h
theorem she121 (C : CallA) (s0 head1 : AV) (h : H) (R : AV → H → Prop) : wpA C an121 (argE [s0, head1]) h (outA [(.tmp 4)] R) = sh121 C s0 head1 h R := by kernel_rfl
end Go.Proofs.Ytljkkfcokpimkaa.X
