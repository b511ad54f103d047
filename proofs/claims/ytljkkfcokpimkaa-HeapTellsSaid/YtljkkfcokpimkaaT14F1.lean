/- The plain programs of functions, printed; that they are the model's; what must hold ahead of each. -/
import Derived.Test.YtljkkfcokpimkaaProg
import Derived.Test.YtljkkfcokpimkaaXo
set_option maxRecDepth 100000
set_option linter.unusedVariables false
namespace Go.Proofs.Ytljkkfcokpimkaa.X
open Go
/-! (*bellows/bellowsref02.Heap).Need -/
def an53 : ACode :=
 (.seq (.reg 0 [] [] [sD 6 (.mv (.c (.int .i64 0))),
 sD 7 (.mv (.c (.int .i64 0)))])
 (.seq (.seq (.reg 0 [] [] [sD 10 (.mv (.t 1)),
 sD 11 (.bin .lss .num (.t 10) (.c (.int .i64 0))),
 sD 12 (.mv (.t 11)),
 sG 13 12 false (.mv (.t 1)),
 sG 14 12 false (.mv (.t 0)),
 sG 15 12 false (.nilc (.t 14)),
 sG 16 12 false (.fa 1 (.t 15)),
 sG 17 12 false (.ld none (.t 16)),
 sG 18 12 false (.len false (.t 17)),
 sG 19 12 false (.bin .geq .num (.t 13) (.t 18)),
 sD 20 (.pick (.t 12) (.c (.bool true)) (.t 19)),
 sD 21 (.mv (.t 20)),
 sG 22 21 false (.mv (.t 2)),
 sG 23 21 false (.bin .lss .num (.t 22) (.c (.int .i64 0))),
 sD 24 (.pick (.t 21) (.c (.bool true)) (.t 23)),
 sD 25 (.mv (.t 24)),
 sG 26 25 false (.mv (.t 0)),
 sG 27 25 false (.nilc (.t 26)),
 sG 28 25 false (.fa 1 (.t 27)),
 sG 29 25 false (.ld none (.t 28)),
 sG 30 25 false (.mv (.t 1)),
 sG 31 25 false (.ia none 2 (.t 29) (.t 30)),
 sG 32 25 false (.fa 0 (.t 31)),
 sG 33 25 false (.ld none (.t 32)),
 sG 34 25 false (.bin .eql .num (.t 33) (.c (.int .i64 1))),
 sG 35 25 false (.mv (.t 34)),
 sG 36 35 true (.mv (.t 0)),
 sG 37 35 true (.nilc (.t 36)),
 sG 38 35 true (.fa 1 (.t 37)),
 sG 39 35 true (.ld none (.t 38)),
 sG 40 35 true (.mv (.t 1)),
 sG 41 35 true (.ia none 2 (.t 39) (.t 40)),
 sG 42 35 true (.fa 1 (.t 41)),
 sG 43 35 true (.ld none (.t 42)),
 sG 44 35 true (.mv (.t 2)),
 sG 45 35 true (.bin .neq .num (.t 43) (.t 44)),
 sG 46 25 false (.pick (.t 35) (.t 45) (.c (.bool false))),
 sD 47 (.pick (.t 25) (.c (.bool true)) (.t 46))])
 (.cond (.t 47) (.seq (.reg 0 [] [] [sD 6 (.mv (.c (.int .i64 0))),
 sD 7 (.mv (.c (.int .i64 1)))])
 .ret)
 .skip))
 (.seq (.seq (.reg 0 [] [] [sD 48 (.mv (.t 2)),
 sD 49 (.bin .gtr .num (.t 48) (.c (.int .i64 65536)))])
 (.cond (.t 49) (.seq (.reg 0 [] [] [sD 6 (.mv (.c (.int .i64 0))),
 sD 7 (.mv (.c (.int .i64 2)))])
 .ret)
 .skip))
 (.seq (.seq (.reg 0 [] [] [sD 50 (.mv (.t 0)),
 sD 51 (.nilc (.t 50)),
 sD 52 (.fa 1 (.t 51)),
 sD 53 (.ld none (.t 52)),
 sD 54 (.mv (.t 1)),
 sD 55 (.ia none 2 (.t 53) (.t 54)),
 sD 56 (.fa 0 (.t 55)),
 sD 57 (.ld none (.t 56)),
 sD 58 (.bin .eql .num (.t 57) (.c (.int .i64 3)))])
 (.cond (.t 58) (.seq (.reg 0 [] [] [sD 8 (.mv (.c (.int .i64 1)))])
 (.seq (.seq (.reg 0 [] [] [sD 9 (.mv (.c (.int .i64 0)))])
 (.block 0 (.loop [8, 9] 772 (.seq (.seq (.reg 0 [] [] [sD 59 (.mv (.t 9)),
 sD 60 (.mv (.t 2)),
 sD 61 (.bin .lss .num (.t 59) (.t 60))])
 (.cond (.t 61) .skip
 (.exit 0)))
 (.seq (.block 1 (.reg 0 [] [] [sD 64 (.mv (.t 8)),
 sD 65 (.bin .add .num (.t 64) (.c (.int .i64 1))),
 sD 8 (.mv (.t 65))]))
 (.reg 0 [] [] [sD 62 (.mv (.t 9)),
 sD 63 (.bin .add .num (.t 62) (.c (.int .i64 8))),
 sD 9 (.mv (.t 63))]))))))
 (.seq (.reg 0 [] [] [sD 66 (.mv (.t 8)),
 sD 6 (.mv (.t 66)),
 sD 7 (.mv (.c (.int .i64 0)))])
 .ret)))
 .skip))
 (.seq (.reg 0 [] [] [sD 67 (.mv (.t 2)),
 sD 68 (.bin .add .num (.c (.int .i64 1)) (.t 67)),
 sD 6 (.mv (.t 68)),
 sD 7 (.mv (.c (.int .i64 0)))])
 .ret)))))
def fn53 : IFun := ⟨69, [(.tmp 6), (.tmp 7)], an53.erase⟩
theorem ok53 : okFun Try.prog 53 fn53 = true := by kernel_rfl
theorem oka53 : okA fn53.ntmps fn53.results an53 = true := by kernel_rfl
def sh53 (C : CallA) (h0 shape1 n2 : AV) (h : H) (R : AV → H → Prop) : Prop :=
 valA (binOp .lss .num shape1 (.int .i64 0)) h fun t11 h =>
 whenA t11 false (fun K => K shape1 h) h fun t13 h =>
 whenA t11 false (fun K => K h0 h) h fun t14 h =>
 whenA t11 false (fun K => valA (nilcA t14) h K) h fun t15 h =>
 whenA t11 false (fun K => valA (faA 1 t15) h K) h fun t16 h =>
 whenA t11 false (fun K => valA (ldA h none t16) h K) h fun t17 h =>
 whenA t11 false (fun K => valA (lenA false t17) h K) h fun t18 h =>
 whenA t11 false (fun K => valA (binOp .geq .num t13 t18) h K) h fun t19 h =>
 valA (pickA t11 (.bool true) t19) h fun t20 h =>
 whenA t20 false (fun K => K n2 h) h fun t22 h =>
 whenA t20 false (fun K => valA (binOp .lss .num t22 (.int .i64 0)) h K) h fun t23 h =>
 valA (pickA t20 (.bool true) t23) h fun t24 h =>
 whenA t24 false (fun K => K h0 h) h fun t26 h =>
 whenA t24 false (fun K => valA (nilcA t26) h K) h fun t27 h =>
 whenA t24 false (fun K => valA (faA 1 t27) h K) h fun t28 h =>
 whenA t24 false (fun K => valA (ldA h none t28) h K) h fun t29 h =>
 whenA t24 false (fun K => K shape1 h) h fun t30 h =>
 whenA t24 false (fun K => valA (iaA 2 t29 t30) h K) h fun t31 h =>
 whenA t24 false (fun K => valA (faA 0 t31) h K) h fun t32 h =>
 whenA t24 false (fun K => valA (ldA h none t32) h K) h fun t33 h =>
 whenA t24 false (fun K => valA (binOp .eql .num t33 (.int .i64 1)) h K) h fun t34 h =>
 whenA t24 false (fun K => K t34 h) h fun t35 h =>
 whenA t35 true (fun K => K h0 h) h fun t36 h =>
 whenA t35 true (fun K => valA (nilcA t36) h K) h fun t37 h =>
 whenA t35 true (fun K => valA (faA 1 t37) h K) h fun t38 h =>
 whenA t35 true (fun K => valA (ldA h none t38) h K) h fun t39 h =>
 whenA t35 true (fun K => K shape1 h) h fun t40 h =>
 whenA t35 true (fun K => valA (iaA 2 t39 t40) h K) h fun t41 h =>
 whenA t35 true (fun K => valA (faA 1 t41) h K) h fun t42 h =>
 whenA t35 true (fun K => valA (ldA h none t42) h K) h fun t43 h =>
 whenA t35 true (fun K => K n2 h) h fun t44 h =>
 whenA t35 true (fun K => valA (binOp .neq .num t43 t44) h K) h fun t45 h =>
 whenA t24 false (fun K => valA (pickA t35 t45 (.bool false)) h K) h fun t46 h =>
 valA (pickA t24 (.bool true) t46) h fun t47 h =>
 condA t47
  (R (.tup [(.int .i64 0), (.int .i64 1)]) h)
  (valA (binOp .gtr .num n2 (.int .i64 65536)) h fun t49 h =>
 condA t49
  (R (.tup [(.int .i64 0), (.int .i64 2)]) h)
  (joinA (fun (h : H) =>
  valA (binOp .add .num (.int .i64 1) n2) h fun t68 h =>
  R (.tup [t68, (.int .i64 0)]) h) fun J =>
 valA (nilcA h0) h fun t51 h =>
 valA (faA 1 t51) h fun t52 h =>
 valA (ldA h none t52) h fun t53 h =>
 valA (iaA 2 t53 shape1) h fun t55 h =>
 valA (faA 0 t55) h fun t56 h =>
 valA (ldA h none t56) h fun t57 h =>
 valA (binOp .eql .num t57 (.int .i64 3)) h fun t58 h =>
 condA t58
  (joinA (fun (k8'_0 : AV) (h : H) =>
   R (.tup [k8'_0, (.int .i64 0)]) h) fun J_9 =>
  loopA (fun N l h => argA l 0 fun k8 => argA l 1 fun i9 => 
   valA (binOp .lss .num i9 n2) h fun t61 h =>
   condA t61
    (valA (binOp .add .num k8 (.int .i64 1)) h fun t65 h =>
   valA (binOp .add .num i9 (.int .i64 8)) h fun t63 h =>
   N [t65, t63] h)
    (J_9 k8 h)) [(.int .i64 1), (.int .i64 0)] h)
  (J h)))
theorem she53 (C : CallA) (h0 shape1 n2 : AV) (h : H) (R : AV → H → Prop) : wpA C an53 (argE [h0, shape1, n2]) h (outA [(.tmp 6), (.tmp 7)] R) = sh53 C h0 shape1 n2 h R := by kernel_rfl
/-! (*bellows/heap.Heap).Alloc -/
def an55 : ACode :=
 (.seq (.reg 0 [] [] [sD 6 (.mv (.c (.int .i64 0))),
 sD 7 (.mv (.c (.int .i64 0)))])
 (.seq (.reg 0 [] [] [sD 13 (.mv (.t 0)),
 sD 14 (.mv (.t 1)),
 sD 15 (.mv (.t 2)),
 sD 16 (.call 52 [(.t 13), (.t 14), (.t 15)]),
 sD 12 (.mv (.t 16)),
 sD 17 (.ext (.t 12) 0),
 sD 18 (.ext (.t 12) 1),
 sD 8 (.mv (.t 17)),
 sD 9 (.mv (.t 18))])
 (.seq (.seq (.reg 0 [] [] [sD 19 (.mv (.t 9)),
 sD 20 (.bin .neq .num (.t 19) (.c (.int .i64 0)))])
 (.cond (.t 20) (.seq (.reg 0 [] [] [sD 21 (.mv (.t 9)),
 sD 6 (.mv (.c (.int .i64 0))),
 sD 7 (.mv (.t 21))])
 .ret)
 .skip))
 (.seq (.seq (.reg 0 [0, 1, 2, 3, 4, 5, 6, 7, 8, 9, 10, 11] [[], [], [1], [1, 2], [2, 1, 3], [3, 1, 2, 4], [], [6], [6, 7], [7, 6, 8], [8, 6, 7, 9, 4, 2, 1, 3, 5], [5, 3, 1, 2, 4, 9, 7, 6, 8, 10, 0]] [sD 22 (.mv (.t 8)),
 sD 23 (.mv (.t 0)),
 sD 24 (.nilc (.t 23)),
 sD 25 (.fa 0 (.t 24)),
 sD 26 (.ld none (.t 25)),
 sD 27 (.len false (.t 26)),
 sD 28 (.mv (.t 0)),
 sD 29 (.nilc (.t 28)),
 sD 30 (.fa 3 (.t 29)),
 sD 31 (.ld none (.t 30)),
 sD 32 (.bin .sub .num (.t 27) (.t 31)),
 sD 33 (.bin .gtr .num (.t 22) (.t 32))])
 (.cond (.t 33) (.seq (.reg 0 [] [] [sD 6 (.mv (.c (.int .i64 0))),
 sD 7 (.mv (.c (.int .i64 3)))])
 .ret)
 .skip))
 (.seq (.reg 0 [] [] [sD 34 (.mv (.t 0)),
 sD 35 (.nilc (.t 34)),
 sD 36 (.fa 3 (.t 35)),
 sD 37 (.ld none (.t 36)),
 sD 10 (.mv (.t 37))])
 (.seq (.reg 0 [0, 1, 2, 3, 4, 5, 6, 7, 8, 9] [[], [0], [0, 1], [1, 0, 2], [], [], [], [6, 5], [7, 6, 5, 4, 2, 0, 1, 3], [3, 1, 0, 2, 4, 5, 6, 7, 8]] [sD 38 (.mv (.t 0)),
 sD 39 (.nilc (.t 38)),
 sD 40 (.fa 0 (.t 39)),
 sD 41 (.ld none (.t 40)),
 sD 42 (.mv (.t 10)),
 sD 43 (.mv (.t 1)),
 sD 44 (.mv (.t 2)),
 ⟨(some 45), none, (.call 31 [(.t 43), (.t 44)]), [⟨none, (.ld none (.t 40)), 41⟩]⟩,
 sD 46 (.ia none 1 (.t 41) (.t 42)),
 sN (.st 1 (.t 46) (.t 45))])
 (.seq (.seq (.reg 0 [] [] [sD 47 (.mv (.t 0)),
 sD 48 (.nilc (.t 47)),
 sD 49 (.fa 2 (.t 48)),
 sD 50 (.ld none (.t 49)),
 sD 51 (.mv (.t 1)),
 sD 52 (.ia none 2 (.t 50) (.t 51)),
 sD 53 (.fa 0 (.t 52)),
 sD 54 (.ld none (.t 53)),
 sD 55 (.bin .neq .num (.t 54) (.c (.int .i64 3)))])
 (.cond (.t 55) (.seq (.reg 0 [] [] [sD 56 (.mv (.t 2)),
 sD 57 (.mv (.c (.int .i64 0)))])
 (.block 0 (.loop [57] 216172782113785089 (.seq (.reg 0 [] [] [sD 58 (.bin .lss .num (.t 57) (.t 56))])
 (.seq (.cond (.t 58) .skip
 (.exit 0))
 (.seq (.block 1 (.seq (.reg 0 [] [] [sD 59 (.mv (.t 57)),
 sD 11 (.mv (.t 59))])
 (.reg 0 [0, 1, 2, 3, 4, 5, 6, 7, 8, 9, 10] [[], [0], [0, 1], [1, 0, 2], [], [4], [], [6, 4, 5], [], [8, 5, 4, 6, 7, 2, 0, 1, 3], [3, 1, 0, 2, 7, 6, 4, 5, 8, 9]] [sD 60 (.mv (.t 0)),
 sD 61 (.nilc (.t 60)),
 sD 62 (.fa 0 (.t 61)),
 sD 63 (.ld none (.t 62)),
 sD 64 (.mv (.t 10)),
 sD 65 (.bin .add .num (.t 64) (.c (.int .i64 1))),
 sD 66 (.mv (.t 11)),
 sD 67 (.bin .add .num (.t 65) (.t 66)),
 ⟨(some 68), none, (.call 83 [(.c (.int .i64 0))]), [⟨none, (.ld none (.t 62)), 63⟩]⟩,
 sD 69 (.ia none 1 (.t 63) (.t 67)),
 sN (.st 1 (.t 69) (.t 68))])))
 (.reg 0 [] [] [sD 70 (.bin .add .num (.t 57) (.c (.int .i64 1))),
 sD 57 (.mv (.t 70))])))))))
 .skip))
 (.seq (.reg 0 [0, 1, 2, 3, 4, 5, 6, 7, 8, 9, 10, 11, 12, 13] [[], [0], [0, 1], [1, 0, 2], [], [4], [4, 5, 2, 0, 1, 3], [3, 1, 0, 2, 5, 4, 6], [], [8], [8, 9], [9, 8, 10, 6, 4, 5, 2, 0, 1, 3, 7], [11, 10, 9, 8, 7, 6, 4, 5, 2, 0, 1, 3], [3, 1, 0, 2, 5, 4, 6, 7, 8, 9, 10, 11, 12]] [sD 71 (.mv (.t 0)),
 sD 72 (.nilc (.t 71)),
 sD 73 (.fa 1 (.t 72)),
 sD 74 (.ld none (.t 73)),
 sD 75 (.mv (.t 10)),
 sD 76 (.bin .quo .num (.t 75) (.c (.int .i64 64))),
 sD 77 (.ia none 1 (.t 74) (.t 76)),
 sD 78 (.ld none (.t 77)),
 sD 79 (.mv (.t 10)),
 sD 80 (.bin .rem .num (.t 79) (.c (.int .i64 64))),
 sD 81 (.bin .shl .num (.c (.int .u64 1)) (.t 80)),
 sD 82 (.bin .or .num (.t 78) (.t 81)),
 sD 83 (.ia none 1 (.t 74) (.t 76)),
 sN (.st 1 (.t 83) (.t 82))])
 (.seq (.reg 0 [] [] [sD 84 (.mv (.t 0)),
 sD 85 (.nilc (.t 84)),
 sD 86 (.fa 3 (.t 85)),
 sD 87 (.ld none (.t 86)),
 sD 88 (.mv (.t 8)),
 sD 89 (.bin .add .num (.t 87) (.t 88)),
 sD 90 (.nilc (.t 84)),
 sD 91 (.fa 3 (.t 90)),
 sN (.st 1 (.t 91) (.t 89))])
 (.seq (.reg 0 [] [] [sD 92 (.mv (.t 10)),
 sD 6 (.mv (.t 92)),
 sD 7 (.mv (.c (.int .i64 0)))])
 .ret))))))))))
def fn55 : IFun := ⟨93, [(.tmp 6), (.tmp 7)], an55.erase⟩
theorem ok55 : okFun Try.prog 55 fn55 = true := by kernel_rfl
theorem oka55 : okA fn55.ntmps fn55.results an55 = true := by kernel_rfl
def sh55 (C : CallA) (h0 shape1 n2 : AV) (h : H) (R : AV → H → Prop) : Prop :=
 C 52 [h0, shape1, n2] h fun t16 h =>
 valA (extA t16 0) h fun t17 h =>
 valA (extA t16 1) h fun t18 h =>
 valA (binOp .neq .num t18 (.int .i64 0)) h fun t20 h =>
 condA t20
  (R (.tup [(.int .i64 0), t18]) h)
  (valA (nilcA h0) h fun t24 h =>
 valA (faA 0 t24) h fun t25 h =>
 valA (ldA h none t25) h fun t26 h =>
 valA (lenA false t26) h fun t27 h =>
 valA (nilcA h0) h fun t29 h =>
 valA (faA 3 t29) h fun t30 h =>
 valA (ldA h none t30) h fun t31 h =>
 valA (binOp .sub .num t27 t31) h fun t32 h =>
 valA (binOp .gtr .num t17 t32) h fun t33 h =>
 condA t33
  (R (.tup [(.int .i64 0), (.int .i64 3)]) h)
  (valA (nilcA h0) h fun t35 h =>
 valA (faA 3 t35) h fun t36 h =>
 valA (ldA h none t36) h fun t37 h =>
 valA (nilcA h0) h fun t39 h =>
 valA (faA 0 t39) h fun t40 h =>
 valA (ldA h none t40) h fun t41 h =>
 C 31 [shape1, n2] h fun t45 h =>
 againK (valA (ldA h none t40) h (fun v _ => v = t41)) <|
 valA (iaA 1 t41 t37) h fun t46 h =>
 memA (stA h 1 t46 t45) .undef fun _ h =>
 joinA (fun (h : H) =>
  valA (nilcA h0) h fun t72 h =>
  valA (faA 1 t72) h fun t73 h =>
  valA (ldA h none t73) h fun t74 h =>
  valA (binOp .quo .num t37 (.int .i64 64)) h fun t76 h =>
  valA (iaA 1 t74 t76) h fun t77 h =>
  valA (ldA h none t77) h fun t78 h =>
  valA (binOp .rem .num t37 (.int .i64 64)) h fun t80 h =>
  valA (binOp .shl .num (.int .u64 1) t80) h fun t81 h =>
  valA (binOp .or .num t78 t81) h fun t82 h =>
  valA (iaA 1 t74 t76) h fun t83 h =>
  memA (stA h 1 t83 t82) .undef fun _ h =>
  valA (nilcA h0) h fun t85 h =>
  valA (faA 3 t85) h fun t86 h =>
  valA (ldA h none t86) h fun t87 h =>
  valA (binOp .add .num t87 t17) h fun t89 h =>
  valA (nilcA h0) h fun t90 h =>
  valA (faA 3 t90) h fun t91 h =>
  memA (stA h 1 t91 t89) .undef fun _ h =>
  R (.tup [t37, (.int .i64 0)]) h) fun J =>
 valA (nilcA h0) h fun t48 h =>
 valA (faA 2 t48) h fun t49 h =>
 valA (ldA h none t49) h fun t50 h =>
 valA (iaA 2 t50 shape1) h fun t52 h =>
 valA (faA 0 t52) h fun t53 h =>
 valA (ldA h none t53) h fun t54 h =>
 valA (binOp .neq .num t54 (.int .i64 3)) h fun t55 h =>
 condA t55
  (loopA (fun N l h => argA l 0 fun t57 => 
   valA (binOp .lss .num t57 n2) h fun t58 h =>
   condA t58
    (valA (nilcA h0) h fun t61 h =>
   valA (faA 0 t61) h fun t62 h =>
   valA (ldA h none t62) h fun t63 h =>
   valA (binOp .add .num t37 (.int .i64 1)) h fun t65 h =>
   valA (binOp .add .num t65 t57) h fun t67 h =>
   C 83 [(.int .i64 0)] h fun t68 h =>
   againK (valA (ldA h none t62) h (fun v _ => v = t63)) <|
   valA (iaA 1 t63 t67) h fun t69 h =>
   memA (stA h 1 t69 t68) .undef fun _ h =>
   valA (binOp .add .num t57 (.int .i64 1)) h fun t70 h =>
   N [t70] h)
    (J h)) [(.int .i64 0)] h)
  (J h)))
theorem she55 (C : CallA) (h0 shape1 n2 : AV) (h : H) (R : AV → H → Prop) : wpA C an55 (argE [h0, shape1, n2]) h (outA [(.tmp 6), (.tmp 7)] R) = sh55 C h0 shape1 n2 h R := by kernel_rfl
/-! (*bellows/heap.Heap).Is -/
def an56 : ACode :=
 (.seq (.reg 0 [] [] [sD 4 (.mv (.c (.bool false)))])
 (.seq (.reg 0 [] [] [sD 5 (.mv (.t 0)),
 sD 6 (.bin .neq .ptr (.t 5) (.c .nilp)),
 sD 7 (.mv (.t 6)),
 sG 8 7 true (.mv (.t 1)),
 sG 9 7 true (.bin .geq .num (.t 8) (.c (.int .i64 0))),
 sD 10 (.pick (.t 7) (.t 9) (.c (.bool false))),
 sD 11 (.mv (.t 10)),
 sG 12 11 true (.mv (.t 1)),
 sG 13 11 true (.mv (.t 0)),
 sG 14 11 true (.nilc (.t 13)),
 sG 15 11 true (.fa 3 (.t 14)),
 sG 16 11 true (.ld none (.t 15)),
 sG 17 11 true (.bin .lss .num (.t 12) (.t 16)),
 sD 18 (.pick (.t 11) (.t 17) (.c (.bool false))),
 sD 19 (.mv (.t 18)),
 sG 20 19 true (.mv (.t 0)),
 sG 21 19 true (.nilc (.t 20)),
 sG 22 19 true (.fa 1 (.t 21)),
 sG 23 19 true (.ld none (.t 22)),
 sG 24 19 true (.mv (.t 1)),
 sG 25 19 true (.bin .quo .num (.t 24) (.c (.int .i64 64))),
 sG 26 19 true (.ia none 1 (.t 23) (.t 25)),
 sG 27 19 true (.ld none (.t 26)),
 sG 28 19 true (.mv (.t 1)),
 sG 29 19 true (.bin .rem .num (.t 28) (.c (.int .i64 64))),
 sG 30 19 true (.bin .shr .num (.t 27) (.t 29)),
 sG 31 19 true (.bin .and .num (.t 30) (.c (.int .u64 1))),
 sG 32 19 true (.bin .eql .num (.t 31) (.c (.int .u64 1))),
 sD 33 (.pick (.t 19) (.t 32) (.c (.bool false))),
 sD 4 (.mv (.t 33))])
 .ret))
def fn56 : IFun := ⟨34, [(.tmp 4)], an56.erase⟩
theorem ok56 : okFun Try.prog 56 fn56 = true := by kernel_rfl
theorem oka56 : okA fn56.ntmps fn56.results an56 = true := by kernel_rfl
def sh56 (C : CallA) (h0 at1 : AV) (h : H) (R : AV → H → Prop) : Prop :=
 valA (binOp .neq .ptr h0 .nilp) h fun t6 h =>
 whenA t6 true (fun K => K at1 h) h fun t8 h =>
 whenA t6 true (fun K => valA (binOp .geq .num t8 (.int .i64 0)) h K) h fun t9 h =>
 valA (pickA t6 t9 (.bool false)) h fun t10 h =>
 whenA t10 true (fun K => K at1 h) h fun t12 h =>
 whenA t10 true (fun K => K h0 h) h fun t13 h =>
 whenA t10 true (fun K => valA (nilcA t13) h K) h fun t14 h =>
 whenA t10 true (fun K => valA (faA 3 t14) h K) h fun t15 h =>
 whenA t10 true (fun K => valA (ldA h none t15) h K) h fun t16 h =>
 whenA t10 true (fun K => valA (binOp .lss .num t12 t16) h K) h fun t17 h =>
 valA (pickA t10 t17 (.bool false)) h fun t18 h =>
 whenA t18 true (fun K => K h0 h) h fun t20 h =>
 whenA t18 true (fun K => valA (nilcA t20) h K) h fun t21 h =>
 whenA t18 true (fun K => valA (faA 1 t21) h K) h fun t22 h =>
 whenA t18 true (fun K => valA (ldA h none t22) h K) h fun t23 h =>
 whenA t18 true (fun K => K at1 h) h fun t24 h =>
 whenA t18 true (fun K => valA (binOp .quo .num t24 (.int .i64 64)) h K) h fun t25 h =>
 whenA t18 true (fun K => valA (iaA 1 t23 t25) h K) h fun t26 h =>
 whenA t18 true (fun K => valA (ldA h none t26) h K) h fun t27 h =>
 whenA t18 true (fun K => K at1 h) h fun t28 h =>
 whenA t18 true (fun K => valA (binOp .rem .num t28 (.int .i64 64)) h K) h fun t29 h =>
 whenA t18 true (fun K => valA (binOp .shr .num t27 t29) h K) h fun t30 h =>
 whenA t18 true (fun K => valA (binOp .and .num t30 (.int .u64 1)) h K) h fun t31 h =>
 whenA t18 true (fun K => valA (binOp .eql .num t31 (.int .u64 1)) h K) h fun t32 h =>
 valA (pickA t18 t32 (.bool false)) h fun t33 h =>
 R t33 h
theorem she56 (C : CallA) (h0 at1 : AV) (h : H) (R : AV → H → Prop) : wpA C an56 (argE [h0, at1]) h (outA [(.tmp 4)] R) = sh56 C h0 at1 h R := by kernel_rfl
/-! bellows/bellowslaw02.Made -/
def an60 : ACode :=
 (.seq (.reg 0 [] [] [sD 6 (.mv (.c .nilp)),
 sD 7 (.mv (.c .nilp))])
 (.seq (.seq (.reg 0 [] [] [sD 13 (.mv (.t 1)),
 sD 14 (.len false (.t 13)),
 sD 15 (.bin .gtr .num (.t 14) (.c (.int .i64 600)))])
 (.cond (.t 15) (.reg 0 [] [] [sD 16 (.mv (.t 1)),
 sD 17 (.sli (.row 2) (.t 16) none (some (.c (.int .i64 600))) none),
 sD 1 (.mv (.t 17))])
 .skip))
 (.seq (.reg 0 [] [] [sD 18 (.mv (.t 0)),
 sD 19 (.mn [(.t 18), (.c (.int .i64 4000))]),
 sD 0 (.mv (.t 19))])
 (.seq (.reg 0 [] [] [sD 21 (.mv (.t 0)),
 sD 22 (.mv (.t 1)),
 sD 23 (.call 49 [(.t 21), (.t 22)]),
 sD 20 (.mv (.t 23)),
 sD 24 (.ext (.t 20) 0),
 sD 25 (.ext (.t 20) 1),
 sD 8 (.mv (.t 24)),
 sD 9 (.mv (.t 25))])
 (.seq (.seq (.reg 0 [] [] [sD 26 (.mv (.t 9)),
 sD 27 (.bin .neq .num (.t 26) (.c (.int .i64 0))),
 sD 28 (.mv (.t 27)),
 sG 29 28 false (.mv (.t 8)),
 sG 30 28 false (.bin .eql .ptr (.t 29) (.c .nilp)),
 sD 31 (.pick (.t 28) (.c (.bool true)) (.t 30)),
 sD 32 (.mv (.t 31)),
 sG 33 32 false (.mv (.t 0)),
 sG 34 32 false (.mv (.t 1)),
 sG 35 32 false (.call 50 [(.t 33), (.t 34)]),
 sG 36 32 false (.bin .neq .num (.t 35) (.c (.int .i64 0))),
 sD 37 (.pick (.t 32) (.c (.bool true)) (.t 36))])
 (.cond (.t 37) (.seq (.reg 0 [] [] [sD 6 (.mv (.c .nilp)),
 sD 7 (.mv (.c .nilp))])
 .ret)
 .skip))
 (.seq (.reg 0 [] [] [sD 38 (.mv (.t 0)),
 sD 39 (.mv (.t 1)),
 sD 40 (.build [(.int .i64 0), .nilsl, .nilsl] [(0, 1, (.t 38)), (1, 1, (.t 39))]),
 sD 41 (.bx none 56 (.t 40)),
 sD 10 (.mv (.t 41))])
 (.seq (.seq (.reg 0 [] [] [sD 42 (.mv (.t 2)),
 sD 43 (.call 73 [(.t 42)]),
 sD 44 (.len false (.t 43)),
 sD 45 (.mv (.c (.int .i64 0)))])
 (.block 0 (.loop [45] 61572651156736 (.seq (.reg 0 [] [] [sD 46 (.bin .lss .num (.t 45) (.t 44))])
 (.seq (.cond (.t 46) .skip
 (.exit 0))
 (.seq (.block 1 (.seq (.reg 0 [] [] [sD 47 (.ia none 5 (.t 43) (.t 45)),
 sD 48 (.ld (some 5) (.t 47)),
 sD 12 (.al none 72 [(.int .i64 0), (.int .i64 0), (.int .i64 0), (.int .u64 0), (.bool false)]),
 sN (.st 5 (.t 12) (.t 48))])
 (.seq (.reg 0 [] [] [sD 49 (.fa 0 (.t 12)),
 sD 50 (.ld none (.t 49)),
 sD 51 (.bin .neq .num (.t 50) (.c (.int .i64 1))),
 sD 52 (.mv (.t 51)),
 sG 53 52 false (.mv (.t 10)),
 sG 54 52 false (.nilc (.t 53)),
 sG 55 52 false (.fa 2 (.t 54)),
 sG 56 52 false (.ld none (.t 55)),
 sG 57 52 false (.len false (.t 56)),
 sG 58 52 false (.bin .lss .num (.t 57) (.c (.int .i64 150))),
 sD 59 (.pick (.t 52) (.c (.bool true)) (.t 58))])
 (.cond (.t 59) (.reg 0 [] [] [sD 60 (.mv (.t 8)),
 sD 61 (.mv (.t 10)),
 sD 62 (.ld (some 5) (.t 12)),
 sD 63 (.call 74 [(.t 60), (.t 61), (.t 62)])])
 .skip))))
 (.reg 0 [] [] [sD 64 (.bin .add .num (.t 45) (.c (.int .i64 1))),
 sD 45 (.mv (.t 64))])))))))
 (.seq (.reg 0 [] [] [sD 65 (.mv (.t 8)),
 sD 66 (.mv (.t 10)),
 sD 6 (.mv (.t 65)),
 sD 7 (.mv (.t 66))])
 .ret))))))))
def fn60 : IFun := ⟨67, [(.tmp 6), (.tmp 7)], an60.erase⟩
theorem ok60 : okFun Try.prog 60 fn60 = true := by kernel_rfl
theorem oka60 : okA fn60.ntmps fn60.results an60 = true := by kernel_rfl
def sh60 (C : CallA) (words0 layouts1 l2 : AV) (h : H) (R : AV → H → Prop) : Prop :=
 joinA (fun (layouts1' : AV) (h : H) =>
  valA (mnA [words0, (.int .i64 4000)]) h fun t19 h =>
  C 49 [t19, layouts1'] h fun t23 h =>
  valA (extA t23 0) h fun t24 h =>
  valA (extA t23 1) h fun t25 h =>
  valA (binOp .neq .num t25 (.int .i64 0)) h fun t27 h =>
  whenA t27 false (fun K => K t24 h) h fun t29 h =>
  whenA t27 false (fun K => valA (binOp .eql .ptr t29 .nilp) h K) h fun t30 h =>
  valA (pickA t27 (.bool true) t30) h fun t31 h =>
  whenA t31 false (fun K => K t19 h) h fun t33 h =>
  whenA t31 false (fun K => K layouts1' h) h fun t34 h =>
  whenA t31 false (fun K => C 50 [t33, t34] h K) h fun t35 h =>
  whenA t31 false (fun K => valA (binOp .neq .num t35 (.int .i64 0)) h K) h fun t36 h =>
  valA (pickA t31 (.bool true) t36) h fun t37 h =>
  condA t37
   (R (.tup [.nilp, .nilp]) h)
   (valA (buildA (fillV [(.int .i64 0), .nilsl, .nilsl] [(0, 1, t19), (1, 1, layouts1')])) h fun t40 h =>
  newA h (AV.cells t40) 56 (fun b => .ptr b 0) fun t41 h =>
  joinA (fun (h : H) =>
   R (.tup [t24, t41]) h) fun J =>
  C 73 [l2] h fun t43 h =>
  valA (lenA false t43) h fun t44 h =>
  loopA (fun N l h => argA l 0 fun t45 => 
   valA (binOp .lss .num t45 t44) h fun t46 h =>
   condA t46
    (joinA (fun (h : H) =>
    valA (binOp .add .num t45 (.int .i64 1)) h fun t64 h =>
    N [t64] h) fun J_18 =>
   valA (iaA 5 t43 t45) h fun t47 h =>
   valA (ldA h (some 5) t47) h fun t48 h =>
   newA h [(.int .i64 0), (.int .i64 0), (.int .i64 0), (.int .u64 0), (.bool false)] 72 (fun b => .ptr b 0) fun o12 h =>
   memA (stA h 5 o12 t48) .undef fun _ h =>
   valA (faA 0 o12) h fun t49 h =>
   valA (ldA h none t49) h fun t50 h =>
   valA (binOp .neq .num t50 (.int .i64 1)) h fun t51 h =>
   whenA t51 false (fun K => K t41 h) h fun t53 h =>
   whenA t51 false (fun K => valA (nilcA t53) h K) h fun t54 h =>
   whenA t51 false (fun K => valA (faA 2 t54) h K) h fun t55 h =>
   whenA t51 false (fun K => valA (ldA h none t55) h K) h fun t56 h =>
   whenA t51 false (fun K => valA (lenA false t56) h K) h fun t57 h =>
   whenA t51 false (fun K => valA (binOp .lss .num t57 (.int .i64 150)) h K) h fun t58 h =>
   valA (pickA t51 (.bool true) t58) h fun t59 h =>
   condA t59
    (valA (ldA h (some 5) o12) h fun t62 h =>
    C 74 [t24, t41, t62] h fun t63 h =>
    J_18 h)
    (J_18 h))
    (J h)) [(.int .i64 0)] h)) fun J_19 =>
 valA (lenA false layouts1) h fun t14 h =>
 valA (binOp .gtr .num t14 (.int .i64 600)) h fun t15 h =>
 condA t15
  (valA (sliceOp (.row 2) layouts1 none (some (.int .i64 600)) none) h fun t17 h =>
  J_19 t17 h)
  (J_19 layouts1 h)
theorem she60 (C : CallA) (words0 layouts1 l2 : AV) (h : H) (R : AV → H → Prop) : wpA C an60 (argE [words0, layouts1, l2]) h (outA [(.tmp 6), (.tmp 7)] R) = sh60 C words0 layouts1 l2 h R := by kernel_rfl
/-! bellows/bellowslaw02.place -/
def an61 : ACode :=
 (.seq (.reg 0 [] [] [sD 4 (.mv (.c (.int .i64 0)))])
 (.seq (.seq (.reg 0 [] [] [sD 5 (.mv (.t 1)),
 sD 6 (.bin .geq .num (.t 5) (.c (.int .i64 0))),
 sD 7 (.mv (.t 6)),
 sG 8 7 false (.mv (.t 0)),
 sG 9 7 false (.len false (.t 8)),
 sG 10 7 false (.bin .eql .num (.t 9) (.c (.int .i64 0))),
 sD 11 (.pick (.t 7) (.c (.bool true)) (.t 10))])
 (.cond (.t 11) (.seq (.reg 0 [] [] [sD 12 (.mv (.t 1)),
 sD 4 (.mv (.t 12))])
 .ret)
 .skip))
 (.seq (.reg 0 [] [] [sD 13 (.mv (.t 0)),
 sD 14 (.mv (.t 1)),
 sD 15 (.bin .add .num (.t 14) (.c (.int .i64 1))),
 sD 16 (.un .neg (.t 15)),
 sD 17 (.cv none (.toInt .u64) (.t 16)),
 sD 18 (.mv (.t 0)),
 sD 19 (.len false (.t 18)),
 sD 20 (.cv none (.toInt .u64) (.t 19)),
 sD 21 (.bin .rem .num (.t 17) (.t 20)),
 sD 22 (.cv none (.toInt .i64) (.t 21)),
 sD 23 (.ia none 5 (.t 13) (.t 22)),
 sD 24 (.fa 0 (.t 23)),
 sD 25 (.ld none (.t 24)),
 sD 4 (.mv (.t 25))])
 .ret)))
def fn61 : IFun := ⟨26, [(.tmp 4)], an61.erase⟩
theorem ok61 : okFun Try.prog 61 fn61 = true := by kernel_rfl
theorem oka61 : okA fn61.ntmps fn61.results an61 = true := by kernel_rfl
def sh61 (C : CallA) (l0 a1 : AV) (h : H) (R : AV → H → Prop) : Prop :=
 valA (binOp .geq .num a1 (.int .i64 0)) h fun t6 h =>
 whenA t6 false (fun K => K l0 h) h fun t8 h =>
 whenA t6 false (fun K => valA (lenA false t8) h K) h fun t9 h =>
 whenA t6 false (fun K => valA (binOp .eql .num t9 (.int .i64 0)) h K) h fun t10 h =>
 valA (pickA t6 (.bool true) t10) h fun t11 h =>
 condA t11
  (R a1 h)
  (valA (binOp .add .num a1 (.int .i64 1)) h fun t15 h =>
 valA (unOp .neg t15) h fun t16 h =>
 valA (cvA .u64 t16) h fun t17 h =>
 valA (lenA false l0) h fun t19 h =>
 valA (cvA .u64 t19) h fun t20 h =>
 valA (binOp .rem .num t17 t20) h fun t21 h =>
 valA (cvA .i64 t21) h fun t22 h =>
 valA (iaA 5 l0 t22) h fun t23 h =>
 valA (faA 0 t23) h fun t24 h =>
 valA (ldA h none t24) h fun t25 h =>
 R t25 h)
theorem she61 (C : CallA) (l0 a1 : AV) (h : H) (R : AV → H → Prop) : wpA C an61 (argE [l0, a1]) h (outA [(.tmp 4)] R) = sh61 C l0 a1 h R := by kernel_rfl
/-! (*bellows/heap.Heap).Set -/
def an63 : ACode :=
 (.seq (.reg 0 [] [] [sD 8 (.mv (.c (.int .i64 0)))])
 (.seq (.seq (.reg 0 [] [] [sD 9 (.mv (.t 0)),
 sD 10 (.mv (.t 1)),
 sD 11 (.mv (.t 2)),
 sD 12 (.call 101 [(.t 9), (.t 10), (.t 11), (.c (.bool false))]),
 sD 13 (.un .not (.t 12)),
 sD 14 (.mv (.t 13)),
 sG 15 14 false (.mv (.t 0)),
 sG 16 14 false (.mv (.t 3)),
 sG 17 14 false (.call 68 [(.t 15), (.t 16)]),
 sG 18 14 false (.un .not (.t 17)),
 sD 19 (.pick (.t 14) (.c (.bool true)) (.t 18))])
 (.cond (.t 19) (.seq (.reg 0 [] [] [sD 8 (.mv (.c (.int .i64 1)))])
 .ret)
 .skip))
 (.seq (.reg 0 [] [] [sD 20 (.mv (.t 0)),
 sD 21 (.nilc (.t 20)),
 sD 22 (.fa 0 (.t 21)),
 sD 23 (.ld none (.t 22)),
 sD 24 (.mv (.t 1)),
 sD 25 (.bin .add .num (.t 24) (.c (.int .i64 1))),
 sD 26 (.mv (.t 2)),
 sD 27 (.bin .add .num (.t 25) (.t 26)),
 sD 28 (.mv (.t 3)),
 sD 29 (.ia none 1 (.t 23) (.t 27)),
 sN (.st 1 (.t 29) (.t 28))])
 (.seq (.reg 0 [] [] [sD 8 (.mv (.c (.int .i64 0)))])
 .ret))))
def fn63 : IFun := ⟨30, [(.tmp 8)], an63.erase⟩
theorem ok63 : okFun Try.prog 63 fn63 = true := by kernel_rfl
theorem oka63 : okA fn63.ntmps fn63.results an63 = true := by kernel_rfl
def sh63 (C : CallA) (h0 at1 i2 w3 : AV) (h : H) (R : AV → H → Prop) : Prop :=
 C 101 [h0, at1, i2, (.bool false)] h fun t12 h =>
 valA (unOp .not t12) h fun t13 h =>
 whenA t13 false (fun K => K h0 h) h fun t15 h =>
 whenA t13 false (fun K => K w3 h) h fun t16 h =>
 whenA t13 false (fun K => C 68 [t15, t16] h K) h fun t17 h =>
 whenA t13 false (fun K => valA (unOp .not t17) h K) h fun t18 h =>
 valA (pickA t13 (.bool true) t18) h fun t19 h =>
 condA t19
  (R (.int .i64 1) h)
  (valA (nilcA h0) h fun t21 h =>
 valA (faA 0 t21) h fun t22 h =>
 valA (ldA h none t22) h fun t23 h =>
 valA (binOp .add .num at1 (.int .i64 1)) h fun t25 h =>
 valA (binOp .add .num t25 i2) h fun t27 h =>
 valA (iaA 1 t23 t27) h fun t29 h =>
 memA (stA h 1 t29 w3) .undef fun _ h =>
 R (.int .i64 0) h)
theorem she63 (C : CallA) (h0 at1 i2 w3 : AV) (h : H) (R : AV → H → Prop) : wpA C an63 (argE [h0, at1, i2, w3]) h (outA [(.tmp 8)] R) = sh63 C h0 at1 i2 w3 h R := by kernel_rfl
/-! (*bellows/heap.Heap).Get -/
def an64 : ACode :=
 (.seq (.reg 0 [] [] [sD 6 (.mv (.c (.int .u64 0))),
 sD 7 (.mv (.c (.int .i64 0)))])
 (.seq (.seq (.reg 0 [] [] [sD 8 (.mv (.t 0)),
 sD 9 (.mv (.t 1)),
 sD 10 (.mv (.t 2)),
 sD 11 (.call 101 [(.t 8), (.t 9), (.t 10), (.c (.bool false))]),
 sD 12 (.un .not (.t 11))])
 (.cond (.t 12) (.seq (.reg 0 [] [] [sD 6 (.mv (.c (.int .u64 0))),
 sD 7 (.mv (.c (.int .i64 1)))])
 .ret)
 .skip))
 (.seq (.reg 0 [] [] [sD 13 (.mv (.t 0)),
 sD 14 (.nilc (.t 13)),
 sD 15 (.fa 0 (.t 14)),
 sD 16 (.ld none (.t 15)),
 sD 17 (.mv (.t 1)),
 sD 18 (.bin .add .num (.t 17) (.c (.int .i64 1))),
 sD 19 (.mv (.t 2)),
 sD 20 (.bin .add .num (.t 18) (.t 19)),
 sD 21 (.ia none 1 (.t 16) (.t 20)),
 sD 22 (.ld none (.t 21)),
 sD 6 (.mv (.t 22)),
 sD 7 (.mv (.c (.int .i64 0)))])
 .ret)))
def fn64 : IFun := ⟨23, [(.tmp 6), (.tmp 7)], an64.erase⟩
theorem ok64 : okFun Try.prog 64 fn64 = true := by kernel_rfl
theorem oka64 : okA fn64.ntmps fn64.results an64 = true := by kernel_rfl
def sh64 (C : CallA) (h0 at1 i2 : AV) (h : H) (R : AV → H → Prop) : Prop :=
 C 101 [h0, at1, i2, (.bool false)] h fun t11 h =>
 valA (unOp .not t11) h fun t12 h =>
 condA t12
  (R (.tup [(.int .u64 0), (.int .i64 1)]) h)
  (valA (nilcA h0) h fun t14 h =>
 valA (faA 0 t14) h fun t15 h =>
 valA (ldA h none t15) h fun t16 h =>
 valA (binOp .add .num at1 (.int .i64 1)) h fun t18 h =>
 valA (binOp .add .num t18 i2) h fun t20 h =>
 valA (iaA 1 t16 t20) h fun t21 h =>
 valA (ldA h none t21) h fun t22 h =>
 R (.tup [t22, (.int .i64 0)]) h)
theorem she64 (C : CallA) (h0 at1 i2 : AV) (h : H) (R : AV → H → Prop) : wpA C an64 (argE [h0, at1, i2]) h (outA [(.tmp 6), (.tmp 7)] R) = sh64 C h0 at1 i2 h R := by kernel_rfl
/-! (*bellows/heap.Heap).SetByte -/
def an65 : ACode :=
 (.seq (.reg 0 [] [] [sD 8 (.mv (.c (.int .i64 0)))])
 (.seq (.seq (.reg 0 [] [] [sD 11 (.mv (.t 0)),
 sD 12 (.mv (.t 1)),
 sD 13 (.mv (.t 2)),
 sD 14 (.call 101 [(.t 11), (.t 12), (.t 13), (.c (.bool true))]),
 sD 15 (.un .not (.t 14))])
 (.cond (.t 15) (.seq (.reg 0 [] [] [sD 8 (.mv (.c (.int .i64 1)))])
 .ret)
 .skip))
 (.seq (.reg 0 [] [] [sD 16 (.mv (.t 0)),
 sD 17 (.nilc (.t 16)),
 sD 18 (.fa 0 (.t 17)),
 sD 19 (.ld none (.t 18)),
 sD 20 (.mv (.t 1)),
 sD 21 (.bin .add .num (.t 20) (.c (.int .i64 1))),
 sD 22 (.mv (.t 2)),
 sD 23 (.bin .quo .num (.t 22) (.c (.int .i64 8))),
 sD 24 (.bin .add .num (.t 21) (.t 23)),
 sD 25 (.ia none 1 (.t 19) (.t 24)),
 sD 26 (.mv (.t 2)),
 sD 27 (.bin .rem .num (.t 26) (.c (.int .i64 8))),
 sD 28 (.bin .mul .num (.t 27) (.c (.int .i64 8))),
 sD 9 (.mv (.t 25)),
 sD 10 (.mv (.t 28))])
 (.seq (.reg 0 [0, 1, 2, 3, 4, 5, 6, 7, 8, 9, 10, 11, 12, 13] [[], [], [1], [1, 2], [], [4], [4, 5, 2, 1, 3], [], [7], [], [9, 7, 8], [8, 7, 9, 10, 3, 1, 2, 5, 4, 6], [11, 10, 9, 8, 7, 6, 5, 4, 3, 2, 1, 0], [0, 1, 2, 3, 4, 5, 6, 7, 8, 9, 10, 11, 12]] [sD 29 (.mv (.t 9)),
 sD 30 (.mv (.t 9)),
 sD 31 (.nilc (.t 30)),
 sD 32 (.ld none (.t 31)),
 sD 33 (.mv (.t 10)),
 sD 34 (.bin .shl .num (.c (.int .u64 255)) (.t 33)),
 sD 35 (.bin .andNot .num (.t 32) (.t 34)),
 sD 36 (.mv (.t 3)),
 sD 37 (.cv none (.toInt .u64) (.t 36)),
 sD 38 (.mv (.t 10)),
 sD 39 (.bin .shl .num (.t 37) (.t 38)),
 sD 40 (.bin .or .num (.t 35) (.t 39)),
 sD 41 (.nilc (.t 29)),
 sN (.st 1 (.t 41) (.t 40))])
 (.seq (.reg 0 [] [] [sD 8 (.mv (.c (.int .i64 0)))])
 .ret)))))
def fn65 : IFun := ⟨42, [(.tmp 8)], an65.erase⟩
theorem ok65 : okFun Try.prog 65 fn65 = true := by kernel_rfl
theorem oka65 : okA fn65.ntmps fn65.results an65 = true := by kernel_rfl
def sh65 (C : CallA) (h0 at1 i2 c3 : AV) (h : H) (R : AV → H → Prop) : Prop :=
 C 101 [h0, at1, i2, (.bool true)] h fun t14 h =>
 valA (unOp .not t14) h fun t15 h =>
 condA t15
  (R (.int .i64 1) h)
  (valA (nilcA h0) h fun t17 h =>
 valA (faA 0 t17) h fun t18 h =>
 valA (ldA h none t18) h fun t19 h =>
 valA (binOp .add .num at1 (.int .i64 1)) h fun t21 h =>
 valA (binOp .quo .num i2 (.int .i64 8)) h fun t23 h =>
 valA (binOp .add .num t21 t23) h fun t24 h =>
 valA (iaA 1 t19 t24) h fun t25 h =>
 valA (binOp .rem .num i2 (.int .i64 8)) h fun t27 h =>
 valA (binOp .mul .num t27 (.int .i64 8)) h fun t28 h =>
 valA (nilcA t25) h fun t31 h =>
 valA (ldA h none t31) h fun t32 h =>
 valA (binOp .shl .num (.int .u64 255) t28) h fun t34 h =>
 valA (binOp .andNot .num t32 t34) h fun t35 h =>
 valA (cvA .u64 c3) h fun t37 h =>
 valA (binOp .shl .num t37 t28) h fun t39 h =>
 valA (binOp .or .num t35 t39) h fun t40 h =>
 valA (nilcA t25) h fun t41 h =>
 memA (stA h 1 t41 t40) .undef fun _ h =>
 R (.int .i64 0) h)
theorem she65 (C : CallA) (h0 at1 i2 c3 : AV) (h : H) (R : AV → H → Prop) : wpA C an65 (argE [h0, at1, i2, c3]) h (outA [(.tmp 8)] R) = sh65 C h0 at1 i2 c3 h R := by kernel_rfl
/-! (*bellows/heap.Heap).Byte -/
def an66 : ACode :=
 (.seq (.reg 0 [] [] [sD 6 (.mv (.c (.int .u8 0))),
 sD 7 (.mv (.c (.int .i64 0)))])
 (.seq (.seq (.reg 0 [] [] [sD 8 (.mv (.t 0)),
 sD 9 (.mv (.t 1)),
 sD 10 (.mv (.t 2)),
 sD 11 (.call 101 [(.t 8), (.t 9), (.t 10), (.c (.bool true))]),
 sD 12 (.un .not (.t 11))])
 (.cond (.t 12) (.seq (.reg 0 [] [] [sD 6 (.mv (.c (.int .u8 0))),
 sD 7 (.mv (.c (.int .i64 1)))])
 .ret)
 .skip))
 (.seq (.reg 0 [] [] [sD 13 (.mv (.t 0)),
 sD 14 (.nilc (.t 13)),
 sD 15 (.fa 0 (.t 14)),
 sD 16 (.ld none (.t 15)),
 sD 17 (.mv (.t 1)),
 sD 18 (.bin .add .num (.t 17) (.c (.int .i64 1))),
 sD 19 (.mv (.t 2)),
 sD 20 (.bin .quo .num (.t 19) (.c (.int .i64 8))),
 sD 21 (.bin .add .num (.t 18) (.t 20)),
 sD 22 (.ia none 1 (.t 16) (.t 21)),
 sD 23 (.ld none (.t 22)),
 sD 24 (.mv (.t 2)),
 sD 25 (.bin .rem .num (.t 24) (.c (.int .i64 8))),
 sD 26 (.bin .mul .num (.t 25) (.c (.int .i64 8))),
 sD 27 (.bin .shr .num (.t 23) (.t 26)),
 sD 28 (.cv none (.toInt .u8) (.t 27)),
 sD 6 (.mv (.t 28)),
 sD 7 (.mv (.c (.int .i64 0)))])
 .ret)))
def fn66 : IFun := ⟨29, [(.tmp 6), (.tmp 7)], an66.erase⟩
theorem ok66 : okFun Try.prog 66 fn66 = true := by kernel_rfl
theorem oka66 : okA fn66.ntmps fn66.results an66 = true := by kernel_rfl
def sh66 (C : CallA) (h0 at1 i2 : AV) (h : H) (R : AV → H → Prop) : Prop :=
 C 101 [h0, at1, i2, (.bool true)] h fun t11 h =>
 valA (unOp .not t11) h fun t12 h =>
 condA t12
  (R (.tup [(.int .u8 0), (.int .i64 1)]) h)
  (valA (nilcA h0) h fun t14 h =>
 valA (faA 0 t14) h fun t15 h =>
 valA (ldA h none t15) h fun t16 h =>
 valA (binOp .add .num at1 (.int .i64 1)) h fun t18 h =>
 valA (binOp .quo .num i2 (.int .i64 8)) h fun t20 h =>
 valA (binOp .add .num t18 t20) h fun t21 h =>
 valA (iaA 1 t16 t21) h fun t22 h =>
 valA (ldA h none t22) h fun t23 h =>
 valA (binOp .rem .num i2 (.int .i64 8)) h fun t25 h =>
 valA (binOp .mul .num t25 (.int .i64 8)) h fun t26 h =>
 valA (binOp .shr .num t23 t26) h fun t27 h =>
 valA (cvA .u8 t27) h fun t28 h =>
 R (.tup [t28, (.int .i64 0)]) h)
theorem she66 (C : CallA) (h0 at1 i2 : AV) (h : H) (R : AV → H → Prop) : wpA C an66 (argE [h0, at1, i2]) h (outA [(.tmp 6), (.tmp 7)] R) = sh66 C h0 at1 i2 h R := by kernel_rfl
/-! (*bellows/bellowsref02.Heap).Find -/
def an67 : ACode :=
 (.seq (.reg 0 [] [] [sD 4 (.mv (.c (.int .i64 0)))])
 (.seq (.seq (.reg 0 [] [] [sD 7 (.mv (.t 0)),
 sD 8 (.nilc (.t 7)),
 sD 9 (.fa 2 (.t 8)),
 sD 10 (.ld none (.t 9)),
 sD 11 (.len false (.t 10)),
 sD 12 (.mv (.c (.int .i64 0)))])
 (.block 0 (.loop [12] 7170 (.seq (.reg 0 [] [] [sD 13 (.bin .lss .num (.t 12) (.t 11))])
 (.seq (.cond (.t 13) .skip
 (.exit 0))
 (.seq (.block 1 (.seq (.reg 0 [] [] [sD 14 (.mv (.t 12)),
 sD 15 (.ia none 5 (.t 10) (.t 12)),
 sD 16 (.ld (some 5) (.t 15)),
 sD 6 (.al none 89 [(.int .i64 0), (.int .i64 0), (.int .i64 0), .nilsl, .nilsl]),
 sD 5 (.mv (.t 14)),
 sN (.st 5 (.t 6) (.t 16))])
 (.seq (.reg 0 [] [] [sD 17 (.fa 0 (.t 6)),
 sD 18 (.ld none (.t 17)),
 sD 19 (.mv (.t 1)),
 sD 20 (.bin .eql .num (.t 18) (.t 19))])
 (.cond (.t 20) (.seq (.reg 0 [] [] [sD 21 (.mv (.t 5)),
 sD 4 (.mv (.t 21))])
 .ret)
 .skip))))
 (.reg 0 [] [] [sD 22 (.bin .add .num (.t 12) (.c (.int .i64 1))),
 sD 12 (.mv (.t 22))])))))))
 (.seq (.reg 0 [] [] [sD 4 (.mv (.c (.int .i64 (-1))))])
 .ret)))
def fn67 : IFun := ⟨23, [(.tmp 4)], an67.erase⟩
theorem ok67 : okFun Try.prog 67 fn67 = true := by kernel_rfl
theorem oka67 : okA fn67.ntmps fn67.results an67 = true := by kernel_rfl
def sh67 (C : CallA) (h0 at1 : AV) (h : H) (R : AV → H → Prop) : Prop :=
 joinA (fun (h : H) =>
  R (.int .i64 (-1)) h) fun J =>
 valA (nilcA h0) h fun t8 h =>
 valA (faA 2 t8) h fun t9 h =>
 valA (ldA h none t9) h fun t10 h =>
 valA (lenA false t10) h fun t11 h =>
 loopA (fun N l h => argA l 0 fun t12 => 
  valA (binOp .lss .num t12 t11) h fun t13 h =>
  condA t13
   (valA (iaA 5 t10 t12) h fun t15 h =>
  valA (ldA h (some 5) t15) h fun t16 h =>
  newA h [(.int .i64 0), (.int .i64 0), (.int .i64 0), .nilsl, .nilsl] 89 (fun b => .ptr b 0) fun o6 h =>
  memA (stA h 5 o6 t16) .undef fun _ h =>
  valA (faA 0 o6) h fun t17 h =>
  valA (ldA h none t17) h fun t18 h =>
  valA (binOp .eql .num t18 at1) h fun t20 h =>
  condA t20
   (R t12 h)
   (valA (binOp .add .num t12 (.int .i64 1)) h fun t22 h =>
  N [t22] h))
   (J h)) [(.int .i64 0)] h
theorem she67 (C : CallA) (h0 at1 : AV) (h : H) (R : AV → H → Prop) : wpA C an67 (argE [h0, at1]) h (outA [(.tmp 4)] R) = sh67 C h0 at1 h R := by kernel_rfl
/-! (*bellows/heap.Heap).Fits -/
def an68 : ACode :=
 (.seq (.reg 0 [] [] [sD 4 (.mv (.c (.bool false)))])
 (.seq (.reg 0 [] [] [sD 5 (.mv (.t 0)),
 sD 6 (.bin .neq .ptr (.t 5) (.c .nilp)),
 sD 7 (.mv (.t 6)),
 sG 8 7 true (.mv (.t 1)),
 sG 9 7 true (.call 48 [(.t 8)]),
 sG 10 7 true (.mv (.t 9)),
 sG 11 10 false (.mv (.t 0)),
 sG 12 10 false (.mv (.t 1)),
 sG 13 10 false (.call 85 [(.t 12)]),
 sG 14 10 false (.call 56 [(.t 11), (.t 13)]),
 sG 15 7 true (.pick (.t 10) (.c (.bool true)) (.t 14)),
 sD 16 (.pick (.t 7) (.t 15) (.c (.bool false))),
 sD 4 (.mv (.t 16))])
 .ret))
def fn68 : IFun := ⟨17, [(.tmp 4)], an68.erase⟩
theorem ok68 : okFun Try.prog 68 fn68 = true := by kernel_rfl
theorem oka68 : okA fn68.ntmps fn68.results an68 = true := by kernel_rfl
def sh68 (C : CallA) (h0 w1 : AV) (h : H) (R : AV → H → Prop) : Prop :=
 valA (binOp .neq .ptr h0 .nilp) h fun t6 h =>
 whenA t6 true (fun K => K w1 h) h fun t8 h =>
 whenA t6 true (fun K => C 48 [t8] h K) h fun t9 h =>
 whenA t6 true (fun K => K t9 h) h fun t10 h =>
 whenA t10 false (fun K => K h0 h) h fun t11 h =>
 whenA t10 false (fun K => K w1 h) h fun t12 h =>
 whenA t10 false (fun K => C 85 [t12] h K) h fun t13 h =>
 whenA t10 false (fun K => C 56 [t11, t13] h K) h fun t14 h =>
 whenA t6 true (fun K => valA (pickA t10 (.bool true) t14) h K) h fun t15 h =>
 valA (pickA t6 t15 (.bool false)) h fun t16 h =>
 R t16 h
theorem she68 (C : CallA) (h0 w1 : AV) (h : H) (R : AV → H → Prop) : wpA C an68 (argE [h0, w1]) h (outA [(.tmp 4)] R) = sh68 C h0 w1 h R := by kernel_rfl
/-! (*bellows/bellowsref02.Heap).Fits -/
def an69 : ACode :=
 (.seq (.reg 0 [] [] [sD 4 (.mv (.c (.bool false)))])
 (.seq (.reg 0 [] [] [sD 5 (.mv (.t 1)),
 sD 6 (.bin .rem .num (.t 5) (.c (.int .u64 2))),
 sD 7 (.bin .eql .num (.t 6) (.c (.int .u64 1))),
 sD 8 (.mv (.t 7)),
 sG 9 8 false (.mv (.t 0)),
 sG 10 8 false (.mv (.t 1)),
 sG 11 8 false (.bin .quo .num (.t 10) (.c (.int .u64 2))),
 sG 12 8 false (.cv none (.toInt .i64) (.t 11)),
 sG 13 8 false (.call 67 [(.t 9), (.t 12)]),
 sG 14 8 false (.bin .geq .num (.t 13) (.c (.int .i64 0))),
 sD 15 (.pick (.t 8) (.c (.bool true)) (.t 14)),
 sD 4 (.mv (.t 15))])
 .ret))
def fn69 : IFun := ⟨16, [(.tmp 4)], an69.erase⟩
theorem ok69 : okFun Try.prog 69 fn69 = true := by kernel_rfl
theorem oka69 : okA fn69.ntmps fn69.results an69 = true := by kernel_rfl
def sh69 (C : CallA) (h0 w1 : AV) (h : H) (R : AV → H → Prop) : Prop :=
 valA (binOp .rem .num w1 (.int .u64 2)) h fun t6 h =>
 valA (binOp .eql .num t6 (.int .u64 1)) h fun t7 h =>
 whenA t7 false (fun K => K h0 h) h fun t9 h =>
 whenA t7 false (fun K => K w1 h) h fun t10 h =>
 whenA t7 false (fun K => valA (binOp .quo .num t10 (.int .u64 2)) h K) h fun t11 h =>
 whenA t7 false (fun K => valA (cvA .i64 t11) h K) h fun t12 h =>
 whenA t7 false (fun K => C 67 [t9, t12] h K) h fun t13 h =>
 whenA t7 false (fun K => valA (binOp .geq .num t13 (.int .i64 0)) h K) h fun t14 h =>
 valA (pickA t7 (.bool true) t14) h fun t15 h =>
 R t15 h
theorem she69 (C : CallA) (h0 w1 : AV) (h : H) (R : AV → H → Prop) : wpA C an69 (argE [h0, w1]) h (outA [(.tmp 4)] R) = sh69 C h0 w1 h R := by kernel_rfl
/-! (*bellows/bellowsref02.Heap).Get -/
def an70 : ACode :=
 (.seq (.reg 0 [] [] [sD 6 (.mv (.c (.int .u64 0))),
 sD 7 (.mv (.c (.int .i64 0)))])
 (.seq (.reg 0 [] [] [sD 9 (.mv (.t 0)),
 sD 10 (.mv (.t 1)),
 sD 11 (.call 67 [(.t 9), (.t 10)]),
 sD 8 (.mv (.t 11))])
 (.seq (.seq (.reg 0 [] [] [sD 12 (.mv (.t 8)),
 sD 13 (.bin .lss .num (.t 12) (.c (.int .i64 0))),
 sD 14 (.mv (.t 13)),
 sG 15 14 false (.mv (.t 2)),
 sG 16 14 false (.bin .lss .num (.t 15) (.c (.int .i64 0))),
 sD 17 (.pick (.t 14) (.c (.bool true)) (.t 16)),
 sD 18 (.mv (.t 17)),
 sG 19 18 false (.mv (.t 2)),
 sG 20 18 false (.mv (.t 0)),
 sG 21 18 false (.nilc (.t 20)),
 sG 22 18 false (.fa 2 (.t 21)),
 sG 23 18 false (.ld none (.t 22)),
 sG 24 18 false (.mv (.t 8)),
 sG 25 18 false (.ia none 5 (.t 23) (.t 24)),
 sG 26 18 false (.fa 3 (.t 25)),
 sG 27 18 false (.ld none (.t 26)),
 sG 28 18 false (.len false (.t 27)),
 sG 29 18 false (.bin .geq .num (.t 19) (.t 28)),
 sD 30 (.pick (.t 18) (.c (.bool true)) (.t 29))])
 (.cond (.t 30) (.seq (.reg 0 [] [] [sD 6 (.mv (.c (.int .u64 0))),
 sD 7 (.mv (.c (.int .i64 1)))])
 .ret)
 .skip))
 (.seq (.reg 0 [] [] [sD 31 (.mv (.t 0)),
 sD 32 (.nilc (.t 31)),
 sD 33 (.fa 2 (.t 32)),
 sD 34 (.ld none (.t 33)),
 sD 35 (.mv (.t 8)),
 sD 36 (.ia none 5 (.t 34) (.t 35)),
 sD 37 (.fa 3 (.t 36)),
 sD 38 (.ld none (.t 37)),
 sD 39 (.mv (.t 2)),
 sD 40 (.ia none 1 (.t 38) (.t 39)),
 sD 41 (.ld none (.t 40)),
 sD 6 (.mv (.t 41)),
 sD 7 (.mv (.c (.int .i64 0)))])
 .ret))))
def fn70 : IFun := ⟨42, [(.tmp 6), (.tmp 7)], an70.erase⟩
theorem ok70 : okFun Try.prog 70 fn70 = true := by kernel_rfl
theorem oka70 : okA fn70.ntmps fn70.results an70 = true := by kernel_rfl
def sh70 (C : CallA) (h0 at1 i2 : AV) (h : H) (R : AV → H → Prop) : Prop :=
 C 67 [h0, at1] h fun t11 h =>
 valA (binOp .lss .num t11 (.int .i64 0)) h fun t13 h =>
 whenA t13 false (fun K => K i2 h) h fun t15 h =>
 whenA t13 false (fun K => valA (binOp .lss .num t15 (.int .i64 0)) h K) h fun t16 h =>
 valA (pickA t13 (.bool true) t16) h fun t17 h =>
 whenA t17 false (fun K => K i2 h) h fun t19 h =>
 whenA t17 false (fun K => K h0 h) h fun t20 h =>
 whenA t17 false (fun K => valA (nilcA t20) h K) h fun t21 h =>
 whenA t17 false (fun K => valA (faA 2 t21) h K) h fun t22 h =>
 whenA t17 false (fun K => valA (ldA h none t22) h K) h fun t23 h =>
 whenA t17 false (fun K => K t11 h) h fun t24 h =>
 whenA t17 false (fun K => valA (iaA 5 t23 t24) h K) h fun t25 h =>
 whenA t17 false (fun K => valA (faA 3 t25) h K) h fun t26 h =>
 whenA t17 false (fun K => valA (ldA h none t26) h K) h fun t27 h =>
 whenA t17 false (fun K => valA (lenA false t27) h K) h fun t28 h =>
 whenA t17 false (fun K => valA (binOp .geq .num t19 t28) h K) h fun t29 h =>
 valA (pickA t17 (.bool true) t29) h fun t30 h =>
 condA t30
  (R (.tup [(.int .u64 0), (.int .i64 1)]) h)
  (valA (nilcA h0) h fun t32 h =>
 valA (faA 2 t32) h fun t33 h =>
 valA (ldA h none t33) h fun t34 h =>
 valA (iaA 5 t34 t11) h fun t36 h =>
 valA (faA 3 t36) h fun t37 h =>
 valA (ldA h none t37) h fun t38 h =>
 valA (iaA 1 t38 i2) h fun t40 h =>
 valA (ldA h none t40) h fun t41 h =>
 R (.tup [t41, (.int .i64 0)]) h)
theorem she70 (C : CallA) (h0 at1 i2 : AV) (h : H) (R : AV → H → Prop) : wpA C an70 (argE [h0, at1, i2]) h (outA [(.tmp 6), (.tmp 7)] R) = sh70 C h0 at1 i2 h R := by kernel_rfl
end Go.Proofs.Ytljkkfcokpimkaa.X
