/- The plain programs of functions, printed; that they are the model's; what must hold ahead of each. -/
import Derived.Test.YtljkkfcokpimkaaProg
import Derived.Test.YtljkkfcokpimkaaXo
set_option maxRecDepth 100000
set_option linter.unusedVariables false
namespace Go.Proofs.Ytljkkfcokpimkaa.X
open Go
/-! gosem.cut.init -/
def an2 : ACode :=
 (.reg 0 [] [] [sD 0 (.call 1 [])])
def fn2 : IFun := ⟨1, [], an2.erase⟩
theorem ok2 : okFun Try.prog 2 fn2 = true := by kernel_rfl
theorem oka2 : okA fn2.ntmps fn2.results an2 = true := by kernel_rfl
def sh2 (C : CallA) (h : H) (R : AV → H → Prop) : Prop :=
 C 1 [] h fun t0 h =>
 R (.tup []) h
theorem she2 (C : CallA) (h : H) (R : AV → H → Prop) : wpA C an2 (argE []) h (outA [] R) = sh2 C h R := by kernel_rfl
/-! bellows/bellowslaw01.WordProducts -/
def an3 : ACode :=
 (.seq (.reg 0 [] [] [sD 4 (.mv (.c (.bool false)))])
 (.seq (.reg 0 [] [] [sD 5 (.mv (.t 0)),
 sD 6 (.mv (.t 1)),
 sD 7 (.call 28 [(.t 5), (.t 6)]),
 sD 8 (.mv (.t 0)),
 sD 9 (.mv (.t 1)),
 sD 10 (.call 29 [(.t 8), (.t 9)]),
 sD 11 (.bin .eql .num (.t 7) (.t 10)),
 sD 12 (.mv (.t 11)),
 sG 13 12 true (.call 30 []),
 sD 14 (.pick (.t 12) (.t 13) (.c (.bool false))),
 sD 4 (.mv (.t 14))])
 .ret))
def fn3 : IFun := ⟨15, [(.tmp 4)], an3.erase⟩
theorem ok3 : okFun Try.prog 3 fn3 = true := by kernel_rfl
theorem oka3 : okA fn3.ntmps fn3.results an3 = true := by kernel_rfl
def sh3 (C : CallA) (a0 b1 : AV) (h : H) (R : AV → H → Prop) : Prop :=
 C 28 [a0, b1] h fun t7 h =>
 C 29 [a0, b1] h fun t10 h =>
 valA (binOp .eql .num t7 t10) h fun t11 h =>
 whenA t11 true (fun K => C 30 [] h K) h fun t13 h =>
 valA (pickA t11 t13 (.bool false)) h fun t14 h =>
 R t14 h
theorem she3 (C : CallA) (a0 b1 : AV) (h : H) (R : AV → H → Prop) : wpA C an3 (argE [a0, b1]) h (outA [(.tmp 4)] R) = sh3 C a0 b1 h R := by kernel_rfl
/-! bellows/bellowslaw01.WordHeads -/
def an4 : ACode :=
 (.seq (.reg 0 [] [] [sD 6 (.mv (.c (.bool false)))])
 (.seq (.reg 0 [] [] [sD 7 (.mv (.t 0)),
 sD 8 (.mv (.t 1)),
 sD 9 (.call 31 [(.t 7), (.t 8)]),
 sD 10 (.mv (.t 0)),
 sD 11 (.mv (.t 1)),
 sD 12 (.call 32 [(.t 10), (.t 11)]),
 sD 13 (.bin .eql .num (.t 9) (.t 12)),
 sD 14 (.mv (.t 13)),
 sG 15 14 true (.mv (.t 2)),
 sG 16 14 true (.call 33 [(.t 15)]),
 sG 17 14 true (.mv (.t 2)),
 sG 18 14 true (.call 34 [(.t 17), (.c (.int .i64 1)), (.c (.int .i64 20))]),
 sG 19 14 true (.cv none (.toInt .i64) (.t 18)),
 sG 20 14 true (.bin .eql .num (.t 16) (.t 19)),
 sD 21 (.pick (.t 14) (.t 20) (.c (.bool false))),
 sD 22 (.mv (.t 21)),
 sG 23 22 true (.mv (.t 2)),
 sG 24 22 true (.call 35 [(.t 23)]),
 sG 25 22 true (.mv (.t 2)),
 sG 26 22 true (.call 34 [(.t 25), (.c (.int .i64 21)), (.c (.int .i64 20))]),
 sG 27 22 true (.cv none (.toInt .i64) (.t 26)),
 sG 28 22 true (.bin .eql .num (.t 24) (.t 27)),
 sD 29 (.pick (.t 22) (.t 28) (.c (.bool false))),
 sD 30 (.mv (.t 29)),
 sG 31 30 true (.mv (.t 2)),
 sG 32 30 true (.call 36 [(.t 31)]),
 sG 33 30 true (.mv (.t 2)),
 sG 34 30 true (.call 34 [(.t 33), (.c (.int .i64 41)), (.c (.int .i64 1))]),
 sG 35 30 true (.bin .eql .num (.t 34) (.c (.int .u64 1))),
 sG 36 30 true (.bin .eql .bool (.t 32) (.t 35)),
 sD 37 (.pick (.t 30) (.t 36) (.c (.bool false))),
 sD 38 (.mv (.t 37)),
 sG 39 38 true (.mv (.t 2)),
 sG 40 38 true (.call 37 [(.t 39)]),
 sG 41 38 true (.mv (.t 2)),
 sG 42 38 true (.call 34 [(.t 41), (.c (.int .i64 42)), (.c (.int .i64 20))]),
 sG 43 38 true (.cv none (.toInt .i64) (.t 42)),
 sG 44 38 true (.bin .eql .num (.t 40) (.t 43)),
 sD 45 (.pick (.t 38) (.t 44) (.c (.bool false))),
 sD 46 (.mv (.t 45)),
 sG 47 46 true (.call 30 []),
 sD 48 (.pick (.t 46) (.t 47) (.c (.bool false))),
 sD 6 (.mv (.t 48))])
 .ret))
def fn4 : IFun := ⟨49, [(.tmp 6)], an4.erase⟩
theorem ok4 : okFun Try.prog 4 fn4 = true := by kernel_rfl
theorem oka4 : okA fn4.ntmps fn4.results an4 = true := by kernel_rfl
def sh4 (C : CallA) (shape0 n1 h2 : AV) (h : H) (R : AV → H → Prop) : Prop :=
 C 31 [shape0, n1] h fun t9 h =>
 C 32 [shape0, n1] h fun t12 h =>
 valA (binOp .eql .num t9 t12) h fun t13 h =>
 whenA t13 true (fun K => K h2 h) h fun t15 h =>
 whenA t13 true (fun K => C 33 [t15] h K) h fun t16 h =>
 whenA t13 true (fun K => K h2 h) h fun t17 h =>
 whenA t13 true (fun K => C 34 [t17, (.int .i64 1), (.int .i64 20)] h K) h fun t18 h =>
 whenA t13 true (fun K => valA (cvA .i64 t18) h K) h fun t19 h =>
 whenA t13 true (fun K => valA (binOp .eql .num t16 t19) h K) h fun t20 h =>
 valA (pickA t13 t20 (.bool false)) h fun t21 h =>
 whenA t21 true (fun K => K h2 h) h fun t23 h =>
 whenA t21 true (fun K => C 35 [t23] h K) h fun t24 h =>
 whenA t21 true (fun K => K h2 h) h fun t25 h =>
 whenA t21 true (fun K => C 34 [t25, (.int .i64 21), (.int .i64 20)] h K) h fun t26 h =>
 whenA t21 true (fun K => valA (cvA .i64 t26) h K) h fun t27 h =>
 whenA t21 true (fun K => valA (binOp .eql .num t24 t27) h K) h fun t28 h =>
 valA (pickA t21 t28 (.bool false)) h fun t29 h =>
 whenA t29 true (fun K => K h2 h) h fun t31 h =>
 whenA t29 true (fun K => C 36 [t31] h K) h fun t32 h =>
 whenA t29 true (fun K => K h2 h) h fun t33 h =>
 whenA t29 true (fun K => C 34 [t33, (.int .i64 41), (.int .i64 1)] h K) h fun t34 h =>
 whenA t29 true (fun K => valA (binOp .eql .num t34 (.int .u64 1)) h K) h fun t35 h =>
 whenA t29 true (fun K => valA (binOp .eql .bool t32 t35) h K) h fun t36 h =>
 valA (pickA t29 t36 (.bool false)) h fun t37 h =>
 whenA t37 true (fun K => K h2 h) h fun t39 h =>
 whenA t37 true (fun K => C 37 [t39] h K) h fun t40 h =>
 whenA t37 true (fun K => K h2 h) h fun t41 h =>
 whenA t37 true (fun K => C 34 [t41, (.int .i64 42), (.int .i64 20)] h K) h fun t42 h =>
 whenA t37 true (fun K => valA (cvA .i64 t42) h K) h fun t43 h =>
 whenA t37 true (fun K => valA (binOp .eql .num t40 t43) h K) h fun t44 h =>
 valA (pickA t37 t44 (.bool false)) h fun t45 h =>
 whenA t45 true (fun K => C 30 [] h K) h fun t47 h =>
 valA (pickA t45 t47 (.bool false)) h fun t48 h =>
 R t48 h
theorem she4 (C : CallA) (shape0 n1 h2 : AV) (h : H) (R : AV → H → Prop) : wpA C an4 (argE [shape0, n1, h2]) h (outA [(.tmp 6)] R) = sh4 C shape0 n1 h2 h R := by kernel_rfl
/-! bellows/bellowslaw01.WordRing -/
def an5 : ACode :=
 (.seq (.reg 0 [] [] [sD 6 (.mv (.c (.bool false)))])
 (.seq (.reg 0 [] [] [sD 7 (.mv (.t 0)),
 sD 8 (.mv (.t 1)),
 sD 9 (.call 38 [(.t 7), (.t 8)]),
 sD 10 (.mv (.t 1)),
 sD 11 (.mv (.t 0)),
 sD 12 (.call 38 [(.t 10), (.t 11)]),
 sD 13 (.bin .eql .num (.t 9) (.t 12)),
 sD 14 (.mv (.t 13)),
 sG 15 14 true (.mv (.t 0)),
 sG 16 14 true (.mv (.t 1)),
 sG 17 14 true (.call 28 [(.t 15), (.t 16)]),
 sG 18 14 true (.mv (.t 1)),
 sG 19 14 true (.mv (.t 0)),
 sG 20 14 true (.call 28 [(.t 18), (.t 19)]),
 sG 21 14 true (.bin .eql .num (.t 17) (.t 20)),
 sD 22 (.pick (.t 14) (.t 21) (.c (.bool false))),
 sD 23 (.mv (.t 22)),
 sG 24 23 true (.mv (.t 0)),
 sG 25 23 true (.mv (.t 1)),
 sG 26 23 true (.call 38 [(.t 24), (.t 25)]),
 sG 27 23 true (.mv (.t 2)),
 sG 28 23 true (.call 38 [(.t 26), (.t 27)]),
 sG 29 23 true (.mv (.t 0)),
 sG 30 23 true (.mv (.t 1)),
 sG 31 23 true (.mv (.t 2)),
 sG 32 23 true (.call 38 [(.t 30), (.t 31)]),
 sG 33 23 true (.call 38 [(.t 29), (.t 32)]),
 sG 34 23 true (.bin .eql .num (.t 28) (.t 33)),
 sD 35 (.pick (.t 23) (.t 34) (.c (.bool false))),
 sD 36 (.mv (.t 35)),
 sG 37 36 true (.mv (.t 0)),
 sG 38 36 true (.mv (.t 1)),
 sG 39 36 true (.call 28 [(.t 37), (.t 38)]),
 sG 40 36 true (.mv (.t 2)),
 sG 41 36 true (.call 28 [(.t 39), (.t 40)]),
 sG 42 36 true (.mv (.t 0)),
 sG 43 36 true (.mv (.t 1)),
 sG 44 36 true (.mv (.t 2)),
 sG 45 36 true (.call 28 [(.t 43), (.t 44)]),
 sG 46 36 true (.call 28 [(.t 42), (.t 45)]),
 sG 47 36 true (.bin .eql .num (.t 41) (.t 46)),
 sD 48 (.pick (.t 36) (.t 47) (.c (.bool false))),
 sD 49 (.mv (.t 48)),
 sG 50 49 true (.mv (.t 0)),
 sG 51 49 true (.mv (.t 1)),
 sG 52 49 true (.mv (.t 2)),
 sG 53 49 true (.call 38 [(.t 51), (.t 52)]),
 sG 54 49 true (.call 28 [(.t 50), (.t 53)]),
 sG 55 49 true (.mv (.t 0)),
 sG 56 49 true (.mv (.t 1)),
 sG 57 49 true (.call 28 [(.t 55), (.t 56)]),
 sG 58 49 true (.mv (.t 0)),
 sG 59 49 true (.mv (.t 2)),
 sG 60 49 true (.call 28 [(.t 58), (.t 59)]),
 sG 61 49 true (.call 38 [(.t 57), (.t 60)]),
 sG 62 49 true (.bin .eql .num (.t 54) (.t 61)),
 sD 63 (.pick (.t 49) (.t 62) (.c (.bool false))),
 sD 64 (.mv (.t 63)),
 sG 65 64 true (.mv (.t 0)),
 sG 66 64 true (.mv (.t 1)),
 sG 67 64 true (.call 38 [(.t 65), (.t 66)]),
 sG 68 64 true (.mv (.t 1)),
 sG 69 64 true (.call 39 [(.t 67), (.t 68)]),
 sG 70 64 true (.mv (.t 0)),
 sG 71 64 true (.call 40 [(.t 70)]),
 sG 72 64 true (.bin .eql .num (.t 69) (.t 71)),
 sD 73 (.pick (.t 64) (.t 72) (.c (.bool false))),
 sD 74 (.mv (.t 73)),
 sG 75 74 true (.call 30 []),
 sD 76 (.pick (.t 74) (.t 75) (.c (.bool false))),
 sD 6 (.mv (.t 76))])
 .ret))
def fn5 : IFun := ⟨77, [(.tmp 6)], an5.erase⟩
theorem ok5 : okFun Try.prog 5 fn5 = true := by kernel_rfl
theorem oka5 : okA fn5.ntmps fn5.results an5 = true := by kernel_rfl
def sh5 (C : CallA) (a0 b1 c2 : AV) (h : H) (R : AV → H → Prop) : Prop :=
 C 38 [a0, b1] h fun t9 h =>
 C 38 [b1, a0] h fun t12 h =>
 valA (binOp .eql .num t9 t12) h fun t13 h =>
 whenA t13 true (fun K => K a0 h) h fun t15 h =>
 whenA t13 true (fun K => K b1 h) h fun t16 h =>
 whenA t13 true (fun K => C 28 [t15, t16] h K) h fun t17 h =>
 whenA t13 true (fun K => K b1 h) h fun t18 h =>
 whenA t13 true (fun K => K a0 h) h fun t19 h =>
 whenA t13 true (fun K => C 28 [t18, t19] h K) h fun t20 h =>
 whenA t13 true (fun K => valA (binOp .eql .num t17 t20) h K) h fun t21 h =>
 valA (pickA t13 t21 (.bool false)) h fun t22 h =>
 whenA t22 true (fun K => K a0 h) h fun t24 h =>
 whenA t22 true (fun K => K b1 h) h fun t25 h =>
 whenA t22 true (fun K => C 38 [t24, t25] h K) h fun t26 h =>
 whenA t22 true (fun K => K c2 h) h fun t27 h =>
 whenA t22 true (fun K => C 38 [t26, t27] h K) h fun t28 h =>
 whenA t22 true (fun K => K a0 h) h fun t29 h =>
 whenA t22 true (fun K => K b1 h) h fun t30 h =>
 whenA t22 true (fun K => K c2 h) h fun t31 h =>
 whenA t22 true (fun K => C 38 [t30, t31] h K) h fun t32 h =>
 whenA t22 true (fun K => C 38 [t29, t32] h K) h fun t33 h =>
 whenA t22 true (fun K => valA (binOp .eql .num t28 t33) h K) h fun t34 h =>
 valA (pickA t22 t34 (.bool false)) h fun t35 h =>
 whenA t35 true (fun K => K a0 h) h fun t37 h =>
 whenA t35 true (fun K => K b1 h) h fun t38 h =>
 whenA t35 true (fun K => C 28 [t37, t38] h K) h fun t39 h =>
 whenA t35 true (fun K => K c2 h) h fun t40 h =>
 whenA t35 true (fun K => C 28 [t39, t40] h K) h fun t41 h =>
 whenA t35 true (fun K => K a0 h) h fun t42 h =>
 whenA t35 true (fun K => K b1 h) h fun t43 h =>
 whenA t35 true (fun K => K c2 h) h fun t44 h =>
 whenA t35 true (fun K => C 28 [t43, t44] h K) h fun t45 h =>
 whenA t35 true (fun K => C 28 [t42, t45] h K) h fun t46 h =>
 whenA t35 true (fun K => valA (binOp .eql .num t41 t46) h K) h fun t47 h =>
 valA (pickA t35 t47 (.bool false)) h fun t48 h =>
 whenA t48 true (fun K => K a0 h) h fun t50 h =>
 whenA t48 true (fun K => K b1 h) h fun t51 h =>
 whenA t48 true (fun K => K c2 h) h fun t52 h =>
 whenA t48 true (fun K => C 38 [t51, t52] h K) h fun t53 h =>
 whenA t48 true (fun K => C 28 [t50, t53] h K) h fun t54 h =>
 whenA t48 true (fun K => K a0 h) h fun t55 h =>
 whenA t48 true (fun K => K b1 h) h fun t56 h =>
 whenA t48 true (fun K => C 28 [t55, t56] h K) h fun t57 h =>
 whenA t48 true (fun K => K a0 h) h fun t58 h =>
 whenA t48 true (fun K => K c2 h) h fun t59 h =>
 whenA t48 true (fun K => C 28 [t58, t59] h K) h fun t60 h =>
 whenA t48 true (fun K => C 38 [t57, t60] h K) h fun t61 h =>
 whenA t48 true (fun K => valA (binOp .eql .num t54 t61) h K) h fun t62 h =>
 valA (pickA t48 t62 (.bool false)) h fun t63 h =>
 whenA t63 true (fun K => K a0 h) h fun t65 h =>
 whenA t63 true (fun K => K b1 h) h fun t66 h =>
 whenA t63 true (fun K => C 38 [t65, t66] h K) h fun t67 h =>
 whenA t63 true (fun K => K b1 h) h fun t68 h =>
 whenA t63 true (fun K => C 39 [t67, t68] h K) h fun t69 h =>
 whenA t63 true (fun K => K a0 h) h fun t70 h =>
 whenA t63 true (fun K => C 40 [t70] h K) h fun t71 h =>
 whenA t63 true (fun K => valA (binOp .eql .num t69 t71) h K) h fun t72 h =>
 valA (pickA t63 t72 (.bool false)) h fun t73 h =>
 whenA t73 true (fun K => C 30 [] h K) h fun t75 h =>
 valA (pickA t73 t75 (.bool false)) h fun t76 h =>
 R t76 h
theorem she5 (C : CallA) (a0 b1 c2 : AV) (h : H) (R : AV → H → Prop) : wpA C an5 (argE [a0, b1, c2]) h (outA [(.tmp 6)] R) = sh5 C a0 b1 c2 h R := by kernel_rfl
/-! bellows/bellowslaw01.WordMarks -/
def an6 : ACode :=
 (.seq (.reg 0 [] [] [sD 6 (.mv (.c (.bool false)))])
 (.seq (.reg 0 [] [] [sD 7 (.mv (.c (.int .u64 0)))])
 (.seq (.seq (.reg 0 [] [] [sD 8 (.mv (.t 1))])
 (.cond (.t 8) (.reg 0 [] [] [sD 7 (.mv (.c (.int .u64 1)))])
 .skip))
 (.seq (.reg 0 [] [] [sD 9 (.mv (.t 0)),
 sD 10 (.mv (.t 1)),
 sD 11 (.call 41 [(.t 9), (.t 10)]),
 sD 12 (.mv (.t 0)),
 sD 13 (.mv (.t 7)),
 sD 14 (.call 42 [(.t 12), (.c (.int .i64 41)), (.c (.int .i64 1)), (.t 13)]),
 sD 15 (.bin .eql .num (.t 11) (.t 14)),
 sD 16 (.mv (.t 15)),
 sG 17 16 true (.mv (.t 0)),
 sG 18 16 true (.mv (.t 2)),
 sG 19 16 true (.call 43 [(.t 17), (.t 18)]),
 sG 20 16 true (.mv (.t 0)),
 sG 21 16 true (.mv (.t 2)),
 sG 22 16 true (.cv none (.toInt .u64) (.t 21)),
 sG 23 16 true (.call 42 [(.t 20), (.c (.int .i64 42)), (.c (.int .i64 20)), (.t 22)]),
 sG 24 16 true (.bin .eql .num (.t 19) (.t 23)),
 sD 25 (.pick (.t 16) (.t 24) (.c (.bool false))),
 sD 26 (.mv (.t 25)),
 sG 27 26 true (.call 30 []),
 sD 28 (.pick (.t 26) (.t 27) (.c (.bool false))),
 sD 6 (.mv (.t 28))])
 .ret))))
def fn6 : IFun := ⟨29, [(.tmp 6)], an6.erase⟩
theorem ok6 : okFun Try.prog 6 fn6 = true := by kernel_rfl
theorem oka6 : okA fn6.ntmps fn6.results an6 = true := by kernel_rfl
def sh6 (C : CallA) (h0 on1 k2 : AV) (h : H) (R : AV → H → Prop) : Prop :=
 joinA (fun (bit7' : AV) (h : H) =>
  C 41 [h0, on1] h fun t11 h =>
  C 42 [h0, (.int .i64 41), (.int .i64 1), bit7'] h fun t14 h =>
  valA (binOp .eql .num t11 t14) h fun t15 h =>
  whenA t15 true (fun K => K h0 h) h fun t17 h =>
  whenA t15 true (fun K => K k2 h) h fun t18 h =>
  whenA t15 true (fun K => C 43 [t17, t18] h K) h fun t19 h =>
  whenA t15 true (fun K => K h0 h) h fun t20 h =>
  whenA t15 true (fun K => K k2 h) h fun t21 h =>
  whenA t15 true (fun K => valA (cvA .u64 t21) h K) h fun t22 h =>
  whenA t15 true (fun K => C 42 [t20, (.int .i64 42), (.int .i64 20), t22] h K) h fun t23 h =>
  whenA t15 true (fun K => valA (binOp .eql .num t19 t23) h K) h fun t24 h =>
  valA (pickA t15 t24 (.bool false)) h fun t25 h =>
  whenA t25 true (fun K => C 30 [] h K) h fun t27 h =>
  valA (pickA t25 t27 (.bool false)) h fun t28 h =>
  R t28 h) fun J =>
 condA on1
  (J (.int .u64 1) h)
  (J (.int .u64 0) h)
theorem she6 (C : CallA) (h0 on1 k2 : AV) (h : H) (R : AV → H → Prop) : wpA C an6 (argE [h0, on1, k2]) h (outA [(.tmp 6)] R) = sh6 C h0 on1 k2 h R := by kernel_rfl
/-! bellows/bellowslaw01.WordBytes -/
def an7 : ACode :=
 (.seq (.reg 0 [] [] [sD 6 (.mv (.c (.bool false)))])
 (.seq (.reg 0 [] [] [sD 14 (.mv (.t 1)),
 sD 15 (.mv (.t 2)),
 sD 16 (.call 44 [(.t 14), (.t 15)]),
 sD 13 (.mv (.t 16)),
 sD 17 (.ext (.t 13) 0),
 sD 18 (.ext (.t 13) 1),
 sD 19 (.ext (.t 13) 2),
 sD 7 (.mv (.t 17)),
 sD 8 (.mv (.t 18)),
 sD 9 (.mv (.t 19))])
 (.seq (.reg 0 [] [] [sD 21 (.mv (.t 1)),
 sD 22 (.mv (.t 2)),
 sD 23 (.call 45 [(.t 21), (.t 22)]),
 sD 20 (.mv (.t 23)),
 sD 24 (.ext (.t 20) 0),
 sD 25 (.ext (.t 20) 1),
 sD 26 (.ext (.t 20) 2),
 sD 10 (.mv (.t 24)),
 sD 11 (.mv (.t 25)),
 sD 12 (.mv (.t 26))])
 (.seq (.reg 0 [0, 1, 2, 3, 4, 5, 6, 7, 8, 9, 10, 11, 12, 13, 14, 15, 16, 17, 18, 19, 20, 21, 22, 23, 24, 25] [[], [0], [0, 1], [], [0, 1, 3], [3, 1, 0, 4], [4, 3, 5, 1, 0, 2], [2, 0, 1, 5, 3, 4, 6], [6, 4, 3, 5, 1, 0, 2, 7], [6, 4, 3, 5, 1, 0, 2, 7], [9, 7, 2, 0, 1, 5, 3, 4, 6, 8], [8, 9, 10, 6, 4, 3, 5, 1, 0, 2, 7], [7, 2, 0, 1, 5, 3, 4, 6, 10, 9, 8, 11], [11, 8, 9, 10, 6, 4, 3, 5, 1, 0, 2, 7, 12], [11, 8, 9, 10, 6, 4, 3, 5, 1, 0, 2, 7, 12], [14, 12, 7, 2, 0, 1, 5, 3, 4, 6, 10, 9, 8, 11, 13], [13, 14, 15, 11, 8, 9, 10, 6, 4, 3, 5, 1, 0, 2, 7, 12], [12, 7, 2, 0, 1, 5, 3, 4, 6, 10, 9, 8, 11, 15, 14, 13, 16], [16, 13, 14, 15, 11, 8, 9, 10, 6, 4, 3, 5, 1, 0, 2, 7, 12, 17], [16, 13, 14, 15, 11, 8, 9, 10, 6, 4, 3, 5, 1, 0, 2, 7, 12, 17], [19, 17, 12, 7, 2, 0, 1, 5, 3, 4, 6, 10, 9, 8, 11, 15, 14, 13, 16, 18], [18, 19, 20, 16, 13, 14, 15, 11, 8, 9, 10, 6, 4, 3, 5, 1, 0, 2, 7, 12, 17], [17, 12, 7, 2, 0, 1, 5, 3, 4, 6, 10, 9, 8, 11, 15, 14, 13, 16, 20, 19, 18, 21], [21, 18, 19, 20, 16, 13, 14, 15, 11, 8, 9, 10, 6, 4, 3, 5, 1, 0, 2, 7, 12, 17, 22], [23, 21, 18, 19, 20, 16, 13, 14, 15, 11, 8, 9, 10, 6, 4, 3, 5, 1, 0, 2, 7, 12, 17, 22], [22, 17, 12, 7, 2, 0, 1, 5, 3, 4, 6, 10, 9, 8, 11, 15, 14, 13, 16, 20, 19, 18, 21, 23, 24]] [sD 27 (.mv (.t 0)),
 sD 28 (.call 46 [(.t 27)]),
 sD 29 (.cv none .b2s (.t 28)),
 sD 30 (.mv (.t 0)),
 ⟨(some 31), none, (.call 47 [(.t 30)]), [⟨none, (.cv none .b2s (.t 28)), 29⟩]⟩,
 sD 32 (.cv none .b2s (.t 31)),
 sD 33 (.bin .eql .num (.t 29) (.t 32)),
 sD 34 (.mv (.t 33)),
 sG 35 34 true (.mv (.t 7)),
 sG 36 34 true (.mv (.t 10)),
 sG 37 34 true (.bin .eql .num (.t 35) (.t 36)),
 sD 38 (.pick (.t 34) (.t 37) (.c (.bool false))),
 sD 39 (.mv (.t 38)),
 sG 40 39 true (.mv (.t 8)),
 sG 41 39 true (.mv (.t 11)),
 sG 42 39 true (.bin .eql .num (.t 40) (.t 41)),
 sD 43 (.pick (.t 39) (.t 42) (.c (.bool false))),
 sD 44 (.mv (.t 43)),
 sG 45 44 true (.mv (.t 9)),
 sG 46 44 true (.mv (.t 12)),
 sG 47 44 true (.bin .eql .bool (.t 45) (.t 46)),
 sD 48 (.pick (.t 44) (.t 47) (.c (.bool false))),
 sD 49 (.mv (.t 48)),
 sG 50 49 true (.call 30 []),
 sD 51 (.pick (.t 49) (.t 50) (.c (.bool false))),
 sD 6 (.mv (.t 51))])
 .ret))))
def fn7 : IFun := ⟨52, [(.tmp 6)], an7.erase⟩
theorem ok7 : okFun Try.prog 7 fn7 = true := by kernel_rfl
theorem oka7 : okA fn7.ntmps fn7.results an7 = true := by kernel_rfl
def sh7 (C : CallA) (n0 b1 at2 : AV) (h : H) (R : AV → H → Prop) : Prop :=
 C 44 [b1, at2] h fun t16 h =>
 valA (extA t16 0) h fun t17 h =>
 valA (extA t16 1) h fun t18 h =>
 valA (extA t16 2) h fun t19 h =>
 C 45 [b1, at2] h fun t23 h =>
 valA (extA t23 0) h fun t24 h =>
 valA (extA t23 1) h fun t25 h =>
 valA (extA t23 2) h fun t26 h =>
 C 46 [n0] h fun t28 h =>
 valA (b2sA h t28) h fun t29 h =>
 C 47 [n0] h fun t31 h =>
 againK (valA (b2sA h t28) h (fun v _ => v = t29)) <|
 valA (b2sA h t31) h fun t32 h =>
 valA (binOp .eql .num t29 t32) h fun t33 h =>
 whenA t33 true (fun K => K t17 h) h fun t35 h =>
 whenA t33 true (fun K => K t24 h) h fun t36 h =>
 whenA t33 true (fun K => valA (binOp .eql .num t35 t36) h K) h fun t37 h =>
 valA (pickA t33 t37 (.bool false)) h fun t38 h =>
 whenA t38 true (fun K => K t18 h) h fun t40 h =>
 whenA t38 true (fun K => K t25 h) h fun t41 h =>
 whenA t38 true (fun K => valA (binOp .eql .num t40 t41) h K) h fun t42 h =>
 valA (pickA t38 t42 (.bool false)) h fun t43 h =>
 whenA t43 true (fun K => K t19 h) h fun t45 h =>
 whenA t43 true (fun K => K t26 h) h fun t46 h =>
 whenA t43 true (fun K => valA (binOp .eql .bool t45 t46) h K) h fun t47 h =>
 valA (pickA t43 t47 (.bool false)) h fun t48 h =>
 whenA t48 true (fun K => C 30 [] h K) h fun t50 h =>
 valA (pickA t48 t50 (.bool false)) h fun t51 h =>
 R t51 h
theorem she7 (C : CallA) (n0 b1 at2 : AV) (h : H) (R : AV → H → Prop) : wpA C an7 (argE [n0, b1, at2]) h (outA [(.tmp 6)] R) = sh7 C n0 b1 at2 h R := by kernel_rfl
/-! bellows/bellowslaw01.WordBack -/
def an8 : ACode :=
 (.seq (.reg 0 [] [] [sD 6 (.mv (.c (.bool false)))])
 (.seq (.seq (.reg 0 [] [] [sD 16 (.mv (.t 0)),
 sD 17 (.len false (.t 16)),
 sD 18 (.bin .gtr .num (.t 17) (.c (.int .i64 100)))])
 (.cond (.t 18) (.reg 0 [] [] [sD 19 (.mv (.t 0)),
 sD 20 (.sli (.row 1) (.t 19) none (some (.c (.int .i64 100))) none),
 sD 0 (.mv (.t 20))])
 .skip))
 (.seq (.reg 0 [] [] [sD 7 (.mv (.c .nilsl))])
 (.seq (.seq (.reg 0 [] [] [sD 21 (.mv (.t 0)),
 sD 22 (.len false (.t 21)),
 sD 23 (.mv (.c (.int .i64 0)))])
 (.block 0 (.loop [7, 23] 14680199 (.seq (.reg 0 [] [] [sD 24 (.bin .lss .num (.t 23) (.t 22))])
 (.seq (.cond (.t 24) .skip
 (.exit 0))
 (.seq (.block 1 (.seq (.reg 0 [] [] [sD 25 (.ia none 1 (.t 21) (.t 23)),
 sD 26 (.ld none (.t 25)),
 sD 9 (.mv (.t 26))])
 (.reg 0 [] [] [sD 27 (.mv (.t 7)),
 sD 28 (.mv (.t 9)),
 sD 29 (.call 46 [(.t 28)]),
 sD 30 (.app 5 1 1 [(.int .u8 0)] (.t 27) (.t 29)),
 sD 7 (.mv (.t 30))])))
 (.reg 0 [] [] [sD 31 (.bin .add .num (.t 23) (.c (.int .i64 1))),
 sD 23 (.mv (.t 31))])))))))
 (.seq (.reg 0 [] [] [sD 10 (.mv (.c (.int .i64 0)))])
 (.seq (.seq (.reg 0 [] [] [sD 32 (.mv (.t 0)),
 sD 33 (.len false (.t 32)),
 sD 34 (.mv (.c (.int .i64 0)))])
 (.block 2 (.loop [10, 34] 30064772230 (.seq (.reg 0 [] [] [sD 35 (.bin .lss .num (.t 34) (.t 33))])
 (.seq (.cond (.t 35) .skip
 (.exit 2))
 (.seq (.block 3 (.seq (.reg 0 [] [] [sD 36 (.ia none 1 (.t 32) (.t 34)),
 sD 37 (.ld none (.t 36)),
 sD 12 (.mv (.t 37))])
 (.seq (.reg 0 [] [] [sD 39 (.mv (.t 7)),
 sD 40 (.mv (.t 10)),
 sD 41 (.call 44 [(.t 39), (.t 40)]),
 sD 38 (.mv (.t 41)),
 sD 42 (.ext (.t 38) 0),
 sD 43 (.ext (.t 38) 1),
 sD 44 (.ext (.t 38) 2),
 sD 13 (.mv (.t 42)),
 sD 14 (.mv (.t 43)),
 sD 15 (.mv (.t 44))])
 (.seq (.seq (.reg 0 [] [] [sD 45 (.mv (.t 15)),
 sD 46 (.un .not (.t 45)),
 sD 47 (.mv (.t 46)),
 sG 48 47 false (.mv (.t 13)),
 sG 49 47 false (.mv (.t 12)),
 sG 50 47 false (.bin .neq .num (.t 48) (.t 49)),
 sD 51 (.pick (.t 47) (.c (.bool true)) (.t 50)),
 sD 52 (.mv (.t 51)),
 sG 53 52 false (.mv (.t 14)),
 sG 54 52 false (.mv (.t 10)),
 sG 55 52 false (.bin .leq .num (.t 53) (.t 54)),
 sD 56 (.pick (.t 52) (.c (.bool true)) (.t 55))])
 (.cond (.t 56) (.seq (.reg 0 [] [] [sD 6 (.mv (.c (.bool false)))])
 .ret)
 .skip))
 (.reg 0 [] [] [sD 57 (.mv (.t 14)),
 sD 10 (.mv (.t 57))])))))
 (.reg 0 [] [] [sD 58 (.bin .add .num (.t 34) (.c (.int .i64 1))),
 sD 34 (.mv (.t 58))])))))))
 (.seq (.reg 0 [0, 1, 2, 3, 4, 5, 6, 7, 8, 9, 10, 11, 12, 13, 14, 15, 16, 17, 18, 19, 20] [[], [], [1], [1, 2, 0], [0, 2, 1, 3], [3, 1, 2, 0, 4], [4, 0, 2, 1, 3, 5], [5, 3, 1, 2, 0, 4, 6], [3, 1, 2, 0, 4], [5, 6, 4, 0, 2, 1, 3, 8], [8, 3, 1, 2, 0, 4, 6, 5, 9], [9, 8, 10, 6, 4, 0, 2, 1, 3, 5, 7], [3, 1, 2, 0, 4], [3, 1, 2, 0, 4], [13, 4, 0, 2, 1, 3, 12], [12, 13, 14, 7, 5, 3, 1, 2, 0, 4, 6, 10, 8, 9, 11], [11, 9, 8, 10, 6, 5, 7, 14, 13, 12, 15, 3, 1, 2, 0, 4], [4, 0, 2, 1, 3, 15, 12, 13, 14, 7, 5, 6, 10, 8, 9, 11, 16], [16, 11, 9, 8, 10, 6, 5, 7, 14, 13, 12, 15, 3, 1, 2, 0, 4, 17], [18, 16, 11, 9, 8, 10, 6, 5, 7, 14, 13, 12, 15, 3, 1, 2, 0, 4, 17], [17, 4, 0, 2, 1, 3, 15, 12, 13, 14, 7, 5, 6, 10, 8, 9, 11, 16, 18, 19]] [sD 59 (.mv (.t 10)),
 sD 60 (.mv (.t 7)),
 sD 61 (.len false (.t 60)),
 sD 62 (.bin .eql .num (.t 59) (.t 61)),
 sD 63 (.mv (.t 62)),
 sG 64 63 true (.mv (.t 1)),
 sG 65 63 true (.call 46 [(.t 64)]),
 sG 66 63 true (.cv none .b2s (.t 65)),
 sG 67 63 true (.mv (.t 2)),
 ⟨(some 68), (some (63, true)), (.call 46 [(.t 67)]), [⟨(some (63, true)), (.cv none .b2s (.t 65)), 66⟩]⟩,
 sG 69 63 true (.cv none .b2s (.t 68)),
 sG 70 63 true (.bin .eql .num (.t 66) (.t 69)),
 sG 71 63 true (.mv (.t 1)),
 sG 72 63 true (.mv (.t 2)),
 sG 73 63 true (.bin .eql .num (.t 71) (.t 72)),
 sG 74 63 true (.bin .eql .bool (.t 70) (.t 73)),
 sD 75 (.pick (.t 63) (.t 74) (.c (.bool false))),
 sD 76 (.mv (.t 75)),
 sG 77 76 true (.call 30 []),
 sD 78 (.pick (.t 76) (.t 77) (.c (.bool false))),
 sD 6 (.mv (.t 78))])
 .ret)))))))
def fn8 : IFun := ⟨79, [(.tmp 6)], an8.erase⟩
theorem ok8 : okFun Try.prog 8 fn8 = true := by kernel_rfl
theorem oka8 : okA fn8.ntmps fn8.results an8 = true := by kernel_rfl
def sh8 (C : CallA) (l0 x1 y2 : AV) (h : H) (R : AV → H → Prop) : Prop :=
 joinA (fun (l0' : AV) (h : H) =>
  joinA (fun (b7' : AV) (h : H) =>
   joinA (fun (at10' : AV) (h : H) =>
    valA (lenA false b7') h fun t61 h =>
    valA (binOp .eql .num at10' t61) h fun t62 h =>
    whenA t62 true (fun K => K x1 h) h fun t64 h =>
    whenA t62 true (fun K => C 46 [t64] h K) h fun t65 h =>
    whenA t62 true (fun K => valA (b2sA h t65) h K) h fun t66 h =>
    whenA t62 true (fun K => K y2 h) h fun t67 h =>
    whenA t62 true (fun K => C 46 [t67] h K) h fun t68 h =>
    againK (whenP t62 true (valA (b2sA h t65) h (fun v _ => v = t66))) <|
    whenA t62 true (fun K => valA (b2sA h t68) h K) h fun t69 h =>
    whenA t62 true (fun K => valA (binOp .eql .num t66 t69) h K) h fun t70 h =>
    whenA t62 true (fun K => K x1 h) h fun t71 h =>
    whenA t62 true (fun K => K y2 h) h fun t72 h =>
    whenA t62 true (fun K => valA (binOp .eql .num t71 t72) h K) h fun t73 h =>
    whenA t62 true (fun K => valA (binOp .eql .bool t70 t73) h K) h fun t74 h =>
    valA (pickA t62 t74 (.bool false)) h fun t75 h =>
    whenA t75 true (fun K => C 30 [] h K) h fun t77 h =>
    valA (pickA t75 t77 (.bool false)) h fun t78 h =>
    R t78 h) fun J =>
   valA (lenA false l0') h fun t33 h =>
   loopA (fun N l h => argA l 0 fun at10 => argA l 1 fun t34 => 
    valA (binOp .lss .num t34 t33) h fun t35 h =>
    condA t35
     (valA (iaA 1 l0' t34) h fun t36 h =>
    valA (ldA h none t36) h fun t37 h =>
    C 44 [b7', at10] h fun t41 h =>
    valA (extA t41 0) h fun t42 h =>
    valA (extA t41 1) h fun t43 h =>
    valA (extA t41 2) h fun t44 h =>
    valA (unOp .not t44) h fun t46 h =>
    whenA t46 false (fun K => K t42 h) h fun t48 h =>
    whenA t46 false (fun K => K t37 h) h fun t49 h =>
    whenA t46 false (fun K => valA (binOp .neq .num t48 t49) h K) h fun t50 h =>
    valA (pickA t46 (.bool true) t50) h fun t51 h =>
    whenA t51 false (fun K => K t43 h) h fun t53 h =>
    whenA t51 false (fun K => K at10 h) h fun t54 h =>
    whenA t51 false (fun K => valA (binOp .leq .num t53 t54) h K) h fun t55 h =>
    valA (pickA t51 (.bool true) t55) h fun t56 h =>
    condA t56
     (R (.bool false) h)
     (valA (binOp .add .num t34 (.int .i64 1)) h fun t58 h =>
    N [t43, t58] h))
     (J at10 h)) [(.int .i64 0), (.int .i64 0)] h) fun J_0 =>
  valA (lenA false l0') h fun t22 h =>
  loopA (fun N_1 l h => argA l 0 fun b7 => argA l 1 fun t23 => 
   valA (binOp .lss .num t23 t22) h fun t24 h =>
   condA t24
    (valA (iaA 1 l0' t23) h fun t25 h =>
   valA (ldA h none t25) h fun t26 h =>
   C 46 [t26] h fun t29 h =>
   appendA h 5 1 1 b7 t29 fun t30 h =>
   valA (binOp .add .num t23 (.int .i64 1)) h fun t31 h =>
   N_1 [t30, t31] h)
    (J_0 b7 h)) [.nilsl, (.int .i64 0)] h) fun J_2 =>
 valA (lenA false l0) h fun t17 h =>
 valA (binOp .gtr .num t17 (.int .i64 100)) h fun t18 h =>
 condA t18
  (valA (sliceOp (.row 1) l0 none (some (.int .i64 100)) none) h fun t20 h =>
  J_2 t20 h)
  (J_2 l0 h)
theorem she8 (C : CallA) (l0 x1 y2 : AV) (h : H) (R : AV → H → Prop) : wpA C an8 (argE [l0, x1, y2]) h (outA [(.tmp 6)] R) = sh8 C l0 x1 y2 h R := by kernel_rfl
/-! bellows/bellowslaw01.WordApart -/
def an9 : ACode :=
 (.seq (.reg 0 [] [] [sD 2 (.bx none 45 (.t 0)),
 sD 4 (.mv (.c (.bool false)))])
 (.seq (.reg 0 [0, 1, 2, 3, 4, 5, 6, 7, 8, 9, 10, 11] [[], [0], [], [2], [], [4], [], [6], [0, 1], [1, 0, 8, 2, 3], [3, 2, 8, 0, 1, 9, 4, 5], [5, 4, 9, 1, 0, 8, 2, 3, 10, 6, 7]] [sD 12 (.fa 0 (.t 2)),
 sD 13 (.ld none (.t 12)),
 sD 14 (.fa 1 (.t 2)),
 sD 15 (.ld none (.t 14)),
 sD 16 (.fa 2 (.t 2)),
 sD 17 (.ld none (.t 16)),
 sD 18 (.fa 3 (.t 2)),
 sD 19 (.ld none (.t 18)),
 sD 5 (.mv (.t 13)),
 sD 6 (.mv (.t 15)),
 sD 7 (.mv (.t 17)),
 sD 8 (.mv (.t 19))])
 (.seq (.reg 0 [] [] [sD 20 (.mv (.t 5)),
 sD 21 (.mv (.t 6)),
 sD 22 (.call 31 [(.t 20), (.t 21)]),
 sD 23 (.mv (.t 1)),
 sD 24 (.call 41 [(.t 22), (.t 23)]),
 sD 25 (.mv (.t 7)),
 sD 26 (.call 43 [(.t 24), (.t 25)]),
 sD 9 (.mv (.t 26))])
 (.seq (.reg 0 [] [] [sD 27 (.mv (.t 9)),
 sD 28 (.mv (.t 8)),
 sD 29 (.call 43 [(.t 27), (.t 28)]),
 sD 10 (.mv (.t 29))])
 (.seq (.reg 0 [] [] [sD 11 (.mv (.c (.int .i64 1048575)))])
 (.seq (.reg 0 [] [] [sD 30 (.mv (.t 9)),
 sD 31 (.call 48 [(.t 30)]),
 sD 32 (.mv (.t 31)),
 sG 33 32 true (.mv (.t 9)),
 sG 34 32 true (.call 33 [(.t 33)]),
 sG 35 32 true (.mv (.t 5)),
 sG 36 32 true (.mv (.t 11)),
 sG 37 32 true (.bin .and .num (.t 35) (.t 36)),
 sG 38 32 true (.bin .eql .num (.t 34) (.t 37)),
 sD 39 (.pick (.t 32) (.t 38) (.c (.bool false))),
 sD 40 (.mv (.t 39)),
 sG 41 40 true (.mv (.t 9)),
 sG 42 40 true (.call 35 [(.t 41)]),
 sG 43 40 true (.mv (.t 6)),
 sG 44 40 true (.mv (.t 11)),
 sG 45 40 true (.bin .and .num (.t 43) (.t 44)),
 sG 46 40 true (.bin .eql .num (.t 42) (.t 45)),
 sD 47 (.pick (.t 40) (.t 46) (.c (.bool false))),
 sD 48 (.mv (.t 47)),
 sG 49 48 true (.mv (.t 9)),
 sG 50 48 true (.call 36 [(.t 49)]),
 sG 51 48 true (.mv (.t 1)),
 sG 52 48 true (.bin .eql .bool (.t 50) (.t 51)),
 sD 53 (.pick (.t 48) (.t 52) (.c (.bool false))),
 sD 54 (.mv (.t 53)),
 sG 55 54 true (.mv (.t 9)),
 sG 56 54 true (.call 37 [(.t 55)]),
 sG 57 54 true (.mv (.t 7)),
 sG 58 54 true (.mv (.t 11)),
 sG 59 54 true (.bin .and .num (.t 57) (.t 58)),
 sG 60 54 true (.bin .eql .num (.t 56) (.t 59)),
 sD 61 (.pick (.t 54) (.t 60) (.c (.bool false))),
 sD 62 (.mv (.t 61)),
 sG 63 62 true (.mv (.t 10)),
 sG 64 62 true (.call 37 [(.t 63)]),
 sG 65 62 true (.mv (.t 8)),
 sG 66 62 true (.mv (.t 11)),
 sG 67 62 true (.bin .and .num (.t 65) (.t 66)),
 sG 68 62 true (.bin .eql .num (.t 64) (.t 67)),
 sD 69 (.pick (.t 62) (.t 68) (.c (.bool false))),
 sD 70 (.mv (.t 69)),
 sG 71 70 true (.mv (.t 10)),
 sG 72 70 true (.mv (.t 7)),
 sG 73 70 true (.call 43 [(.t 71), (.t 72)]),
 sG 74 70 true (.mv (.t 9)),
 sG 75 70 true (.bin .eql .num (.t 73) (.t 74)),
 sD 76 (.pick (.t 70) (.t 75) (.c (.bool false))),
 sD 77 (.mv (.t 76)),
 sG 78 77 true (.mv (.t 9)),
 sG 79 77 true (.mv (.t 1)),
 sG 80 77 true (.un .not (.t 79)),
 sG 81 77 true (.call 41 [(.t 78), (.t 80)]),
 sG 82 77 true (.mv (.t 1)),
 sG 83 77 true (.call 41 [(.t 81), (.t 82)]),
 sG 84 77 true (.mv (.t 9)),
 sG 85 77 true (.bin .eql .num (.t 83) (.t 84)),
 sD 86 (.pick (.t 77) (.t 85) (.c (.bool false))),
 sD 87 (.mv (.t 86)),
 sG 88 87 true (.call 30 []),
 sD 89 (.pick (.t 87) (.t 88) (.c (.bool false))),
 sD 4 (.mv (.t 89))])
 .ret))))))
def fn9 : IFun := ⟨90, [(.tmp 4)], an9.erase⟩
theorem ok9 : okFun Try.prog 9 fn9 = true := by kernel_rfl
theorem oka9 : okA fn9.ntmps fn9.results an9 = true := by kernel_rfl
def sh9 (C : CallA) (x0 on1 : AV) (h : H) (R : AV → H → Prop) : Prop :=
 newA h (AV.cells x0) 45 (fun b => .ptr b 0) fun x2 h =>
 valA (faA 0 x2) h fun t12 h =>
 valA (ldA h none t12) h fun t13 h =>
 valA (faA 1 x2) h fun t14 h =>
 valA (ldA h none t14) h fun t15 h =>
 valA (faA 2 x2) h fun t16 h =>
 valA (ldA h none t16) h fun t17 h =>
 valA (faA 3 x2) h fun t18 h =>
 valA (ldA h none t18) h fun t19 h =>
 C 31 [t13, t15] h fun t22 h =>
 C 41 [t22, on1] h fun t24 h =>
 C 43 [t24, t17] h fun t26 h =>
 C 43 [t26, t19] h fun t29 h =>
 C 48 [t26] h fun t31 h =>
 whenA t31 true (fun K => K t26 h) h fun t33 h =>
 whenA t31 true (fun K => C 33 [t33] h K) h fun t34 h =>
 whenA t31 true (fun K => K t13 h) h fun t35 h =>
 whenA t31 true (fun K => K (.int .i64 1048575) h) h fun t36 h =>
 whenA t31 true (fun K => valA (binOp .and .num t35 t36) h K) h fun t37 h =>
 whenA t31 true (fun K => valA (binOp .eql .num t34 t37) h K) h fun t38 h =>
 valA (pickA t31 t38 (.bool false)) h fun t39 h =>
 whenA t39 true (fun K => K t26 h) h fun t41 h =>
 whenA t39 true (fun K => C 35 [t41] h K) h fun t42 h =>
 whenA t39 true (fun K => K t15 h) h fun t43 h =>
 whenA t39 true (fun K => K (.int .i64 1048575) h) h fun t44 h =>
 whenA t39 true (fun K => valA (binOp .and .num t43 t44) h K) h fun t45 h =>
 whenA t39 true (fun K => valA (binOp .eql .num t42 t45) h K) h fun t46 h =>
 valA (pickA t39 t46 (.bool false)) h fun t47 h =>
 whenA t47 true (fun K => K t26 h) h fun t49 h =>
 whenA t47 true (fun K => C 36 [t49] h K) h fun t50 h =>
 whenA t47 true (fun K => K on1 h) h fun t51 h =>
 whenA t47 true (fun K => valA (binOp .eql .bool t50 t51) h K) h fun t52 h =>
 valA (pickA t47 t52 (.bool false)) h fun t53 h =>
 whenA t53 true (fun K => K t26 h) h fun t55 h =>
 whenA t53 true (fun K => C 37 [t55] h K) h fun t56 h =>
 whenA t53 true (fun K => K t17 h) h fun t57 h =>
 whenA t53 true (fun K => K (.int .i64 1048575) h) h fun t58 h =>
 whenA t53 true (fun K => valA (binOp .and .num t57 t58) h K) h fun t59 h =>
 whenA t53 true (fun K => valA (binOp .eql .num t56 t59) h K) h fun t60 h =>
 valA (pickA t53 t60 (.bool false)) h fun t61 h =>
 whenA t61 true (fun K => K t29 h) h fun t63 h =>
 whenA t61 true (fun K => C 37 [t63] h K) h fun t64 h =>
 whenA t61 true (fun K => K t19 h) h fun t65 h =>
 whenA t61 true (fun K => K (.int .i64 1048575) h) h fun t66 h =>
 whenA t61 true (fun K => valA (binOp .and .num t65 t66) h K) h fun t67 h =>
 whenA t61 true (fun K => valA (binOp .eql .num t64 t67) h K) h fun t68 h =>
 valA (pickA t61 t68 (.bool false)) h fun t69 h =>
 whenA t69 true (fun K => K t29 h) h fun t71 h =>
 whenA t69 true (fun K => K t17 h) h fun t72 h =>
 whenA t69 true (fun K => C 43 [t71, t72] h K) h fun t73 h =>
 whenA t69 true (fun K => K t26 h) h fun t74 h =>
 whenA t69 true (fun K => valA (binOp .eql .num t73 t74) h K) h fun t75 h =>
 valA (pickA t69 t75 (.bool false)) h fun t76 h =>
 whenA t76 true (fun K => K t26 h) h fun t78 h =>
 whenA t76 true (fun K => K on1 h) h fun t79 h =>
 whenA t76 true (fun K => valA (unOp .not t79) h K) h fun t80 h =>
 whenA t76 true (fun K => C 41 [t78, t80] h K) h fun t81 h =>
 whenA t76 true (fun K => K on1 h) h fun t82 h =>
 whenA t76 true (fun K => C 41 [t81, t82] h K) h fun t83 h =>
 whenA t76 true (fun K => K t26 h) h fun t84 h =>
 whenA t76 true (fun K => valA (binOp .eql .num t83 t84) h K) h fun t85 h =>
 valA (pickA t76 t85 (.bool false)) h fun t86 h =>
 whenA t86 true (fun K => C 30 [] h K) h fun t88 h =>
 valA (pickA t86 t88 (.bool false)) h fun t89 h =>
 R t89 h
theorem she9 (C : CallA) (x0 on1 : AV) (h : H) (R : AV → H → Prop) : wpA C an9 (argE [x0, on1]) h (outA [(.tmp 4)] R) = sh9 C x0 on1 h R := by kernel_rfl
/-! bellows/bellowslaw02.HeapNeeds -/
def an10 : ACode :=
 (.seq (.reg 0 [] [] [sD 6 (.mv (.c (.bool false)))])
 (.seq (.reg 0 [] [] [sD 16 (.mv (.t 0)),
 sD 17 (.call 49 [(.c (.int .i64 100)), (.t 16)]),
 sD 15 (.mv (.t 17)),
 sD 18 (.ext (.t 15) 0),
 sD 19 (.ext (.t 15) 1),
 sD 7 (.mv (.t 18)),
 sD 8 (.mv (.t 19))])
 (.seq (.seq (.reg 0 [] [] [sD 20 (.mv (.t 8)),
 sD 21 (.bin .neq .num (.t 20) (.c (.int .i64 0))),
 sD 22 (.mv (.t 21)),
 sG 23 22 false (.mv (.t 7)),
 sG 24 22 false (.bin .eql .ptr (.t 23) (.c .nilp)),
 sD 25 (.pick (.t 22) (.c (.bool true)) (.t 24))])
 (.cond (.t 25) (.seq (.reg 0 [] [] [sD 26 (.mv (.t 8)),
 sD 27 (.mv (.t 0)),
 sD 28 (.call 50 [(.c (.int .i64 100)), (.t 27)]),
 sD 29 (.bin .eql .num (.t 26) (.t 28)),
 sD 30 (.mv (.t 29)),
 sG 31 30 true (.call 51 []),
 sD 32 (.pick (.t 30) (.t 31) (.c (.bool false))),
 sD 6 (.mv (.t 32))])
 .ret)
 .skip))
 (.seq (.reg 0 [] [] [sD 33 (.mv (.t 0)),
 sD 34 (.build [(.int .i64 0), .nilsl, .nilsl] [(0, 1, (.c (.int .i64 100))), (1, 1, (.t 33))]),
 sD 35 (.bx none 56 (.t 34)),
 sD 9 (.mv (.t 35))])
 (.seq (.reg 0 [] [] [sD 37 (.mv (.t 7)),
 sD 38 (.mv (.t 1)),
 sD 39 (.mv (.t 2)),
 sD 40 (.call 52 [(.t 37), (.t 38), (.t 39)]),
 sD 36 (.mv (.t 40)),
 sD 41 (.ext (.t 36) 0),
 sD 42 (.ext (.t 36) 1),
 sD 10 (.mv (.t 41)),
 sD 11 (.mv (.t 42))])
 (.seq (.reg 0 [] [] [sD 44 (.mv (.t 9)),
 sD 45 (.mv (.t 1)),
 sD 46 (.mv (.t 2)),
 sD 47 (.call 53 [(.t 44), (.t 45), (.t 46)]),
 sD 43 (.mv (.t 47)),
 sD 48 (.ext (.t 43) 0),
 sD 49 (.ext (.t 43) 1),
 sD 12 (.mv (.t 48)),
 sD 13 (.mv (.t 49))])
 (.seq (.reg 0 [] [] [sD 14 (.mv (.c (.int .i64 0)))])
 (.seq (.seq (.reg 0 [] [] [sD 50 (.mv (.t 1)),
 sD 51 (.bin .geq .num (.t 50) (.c (.int .i64 0))),
 sD 52 (.mv (.t 51)),
 sG 53 52 true (.mv (.t 1)),
 sG 54 52 true (.mv (.t 0)),
 sG 55 52 true (.len false (.t 54)),
 sG 56 52 true (.bin .lss .num (.t 53) (.t 55)),
 sD 57 (.pick (.t 52) (.t 56) (.c (.bool false)))])
 (.cond (.t 57) (.reg 0 [] [] [sD 58 (.mv (.t 0)),
 sD 59 (.mv (.t 1)),
 sD 60 (.ia none 2 (.t 58) (.t 59)),
 sD 61 (.fa 0 (.t 60)),
 sD 62 (.ld none (.t 61)),
 sD 14 (.mv (.t 62))])
 .skip))
 (.seq (.reg 0 [] [] [sD 63 (.mv (.t 7)),
 sD 64 (.mv (.t 1)),
 sD 65 (.call 54 [(.t 63), (.t 64)]),
 sD 66 (.mv (.t 14)),
 sD 67 (.bin .eql .num (.t 65) (.t 66)),
 sD 68 (.mv (.t 67)),
 sG 69 68 true (.mv (.t 10)),
 sG 70 68 true (.mv (.t 12)),
 sG 71 68 true (.bin .eql .num (.t 69) (.t 70)),
 sD 72 (.pick (.t 68) (.t 71) (.c (.bool false))),
 sD 73 (.mv (.t 72)),
 sG 74 73 true (.mv (.t 11)),
 sG 75 73 true (.mv (.t 13)),
 sG 76 73 true (.bin .eql .num (.t 74) (.t 75)),
 sD 77 (.pick (.t 73) (.t 76) (.c (.bool false))),
 sD 78 (.mv (.t 77)),
 sG 79 78 true (.call 51 []),
 sD 80 (.pick (.t 78) (.t 79) (.c (.bool false))),
 sD 6 (.mv (.t 80))])
 .ret)))))))))
def fn10 : IFun := ⟨81, [(.tmp 6)], an10.erase⟩
theorem ok10 : okFun Try.prog 10 fn10 = true := by kernel_rfl
theorem oka10 : okA fn10.ntmps fn10.results an10 = true := by kernel_rfl
def sh10 (C : CallA) (layouts0 shape1 n2 : AV) (h : H) (R : AV → H → Prop) : Prop :=
 C 49 [(.int .i64 100), layouts0] h fun t17 h =>
 valA (extA t17 0) h fun t18 h =>
 valA (extA t17 1) h fun t19 h =>
 valA (binOp .neq .num t19 (.int .i64 0)) h fun t21 h =>
 whenA t21 false (fun K => K t18 h) h fun t23 h =>
 whenA t21 false (fun K => valA (binOp .eql .ptr t23 .nilp) h K) h fun t24 h =>
 valA (pickA t21 (.bool true) t24) h fun t25 h =>
 condA t25
  (C 50 [(.int .i64 100), layouts0] h fun t28 h =>
  valA (binOp .eql .num t19 t28) h fun t29 h =>
  whenA t29 true (fun K => C 51 [] h K) h fun t31 h =>
  valA (pickA t29 t31 (.bool false)) h fun t32 h =>
  R t32 h)
  (valA (buildA (fillV [(.int .i64 0), .nilsl, .nilsl] [(0, 1, (.int .i64 100)), (1, 1, layouts0)])) h fun t34 h =>
 newA h (AV.cells t34) 56 (fun b => .ptr b 0) fun t35 h =>
 C 52 [t18, shape1, n2] h fun t40 h =>
 valA (extA t40 0) h fun t41 h =>
 valA (extA t40 1) h fun t42 h =>
 C 53 [t35, shape1, n2] h fun t47 h =>
 valA (extA t47 0) h fun t48 h =>
 valA (extA t47 1) h fun t49 h =>
 joinA (fun (kind14' : AV) (h : H) =>
  C 54 [t18, shape1] h fun t65 h =>
  valA (binOp .eql .num t65 kind14') h fun t67 h =>
  whenA t67 true (fun K => K t41 h) h fun t69 h =>
  whenA t67 true (fun K => K t48 h) h fun t70 h =>
  whenA t67 true (fun K => valA (binOp .eql .num t69 t70) h K) h fun t71 h =>
  valA (pickA t67 t71 (.bool false)) h fun t72 h =>
  whenA t72 true (fun K => K t42 h) h fun t74 h =>
  whenA t72 true (fun K => K t49 h) h fun t75 h =>
  whenA t72 true (fun K => valA (binOp .eql .num t74 t75) h K) h fun t76 h =>
  valA (pickA t72 t76 (.bool false)) h fun t77 h =>
  whenA t77 true (fun K => C 51 [] h K) h fun t79 h =>
  valA (pickA t77 t79 (.bool false)) h fun t80 h =>
  R t80 h) fun J =>
 valA (binOp .geq .num shape1 (.int .i64 0)) h fun t51 h =>
 whenA t51 true (fun K => K shape1 h) h fun t53 h =>
 whenA t51 true (fun K => K layouts0 h) h fun t54 h =>
 whenA t51 true (fun K => valA (lenA false t54) h K) h fun t55 h =>
 whenA t51 true (fun K => valA (binOp .lss .num t53 t55) h K) h fun t56 h =>
 valA (pickA t51 t56 (.bool false)) h fun t57 h =>
 condA t57
  (valA (iaA 2 layouts0 shape1) h fun t60 h =>
  valA (faA 0 t60) h fun t61 h =>
  valA (ldA h none t61) h fun t62 h =>
  J t62 h)
  (J (.int .i64 0) h))
theorem she10 (C : CallA) (layouts0 shape1 n2 : AV) (h : H) (R : AV → H → Prop) : wpA C an10 (argE [layouts0, shape1, n2]) h (outA [(.tmp 6)] R) = sh10 C layouts0 shape1 n2 h R := by kernel_rfl
/-! bellows/bellowslaw02.HeapRoom -/
def an11 : ACode :=
 (.seq (.reg 0 [] [] [sD 6 (.mv (.c (.bool false)))])
 (.seq (.reg 0 [] [] [sD 15 (.mv (.t 0)),
 sD 16 (.mn [(.t 15), (.c (.int .i64 4000))]),
 sD 17 (.mx [(.c (.int .i64 0)), (.t 16)]),
 sD 0 (.mv (.t 17))])
 (.seq (.reg 0 [] [] [sD 18 (.mv (.t 2)),
 sD 19 (.cv none (.toInt .u64) (.t 18)),
 sD 20 (.bin .rem .num (.t 19) (.c (.int .u64 2))),
 sD 21 (.cv none (.toInt .i64) (.t 20)),
 sD 22 (.bin .add .num (.c (.int .i64 2)) (.t 21)),
 sD 2 (.mv (.t 22))])
 (.seq (.reg 0 [] [] [sD 24 (.mv (.t 0)),
 sD 25 (.mv (.t 2)),
 sD 26 (.build [(.int .i64 0), (.int .i64 0)] [(0, 1, (.t 25))]),
 sD 27 (.mksl none 60 [(.int .i64 0), (.int .i64 0)] 1 [(0, 2, (.t 26))]),
 sD 28 (.call 49 [(.t 24), (.t 27)]),
 sD 23 (.mv (.t 28)),
 sD 29 (.ext (.t 23) 0),
 sD 30 (.ext (.t 23) 1),
 sD 7 (.mv (.t 29)),
 sD 8 (.mv (.t 30))])
 (.seq (.seq (.reg 0 [] [] [sD 31 (.mv (.t 8)),
 sD 32 (.bin .neq .num (.t 31) (.c (.int .i64 0))),
 sD 33 (.mv (.t 32)),
 sG 34 33 false (.mv (.t 7)),
 sG 35 33 false (.bin .eql .ptr (.t 34) (.c .nilp)),
 sD 36 (.pick (.t 33) (.c (.bool true)) (.t 35))])
 (.cond (.t 36) (.seq (.reg 0 [] [] [sD 6 (.mv (.c (.bool false)))])
 .ret)
 .skip))
 (.seq (.reg 0 [] [] [sD 9 (.mv (.c (.int .i64 0)))])
 (.seq (.seq (.reg 0 [] [] [sD 10 (.mv (.c (.int .i64 0)))])
 (.block 0 (.loop [9, 10] 1671 (.seq (.seq (.reg 0 [] [] [sD 37 (.mv (.t 10)),
 sD 38 (.mv (.t 1)),
 sD 39 (.len false (.t 38)),
 sD 40 (.bin .lss .num (.t 37) (.t 39)),
 sD 41 (.mv (.t 40)),
 sG 42 41 true (.mv (.t 10)),
 sG 43 41 true (.bin .lss .num (.t 42) (.c (.int .i64 200))),
 sD 44 (.pick (.t 41) (.t 43) (.c (.bool false)))])
 (.cond (.t 44) .skip
 (.exit 0)))
 (.seq (.block 1 (.seq (.reg 0 [] [] [sD 47 (.mv (.t 1)),
 sD 48 (.mv (.t 10)),
 sD 49 (.ia none 1 (.t 47) (.t 48)),
 sD 50 (.ld none (.t 49)),
 sD 11 (.mv (.t 50))])
 (.seq (.reg 0 [] [] [sD 52 (.mv (.t 7)),
 sD 53 (.mv (.t 11)),
 sD 54 (.call 55 [(.t 52), (.c (.int .i64 0)), (.t 53)]),
 sD 51 (.mv (.t 54)),
 sD 55 (.ext (.t 51) 0),
 sD 56 (.ext (.t 51) 1),
 sD 12 (.mv (.t 55)),
 sD 13 (.mv (.t 56))])
 (.seq (.reg 0 [] [] [sD 14 (.mv (.c (.int .i64 0)))])
 (.seq (.seq (.reg 0 [] [] [sD 57 (.mv (.t 11)),
 sD 58 (.bin .geq .num (.t 57) (.c (.int .i64 0))),
 sD 59 (.mv (.t 58)),
 sG 60 59 true (.mv (.t 11)),
 sG 61 59 true (.bin .leq .num (.t 60) (.c (.int .i64 65536))),
 sD 62 (.pick (.t 59) (.t 61) (.c (.bool false)))])
 (.cond (.t 62) (.seq (.reg 0 [] [] [sD 63 (.mv (.t 11)),
 sD 64 (.bin .add .num (.c (.int .i64 1)) (.t 63)),
 sD 14 (.mv (.t 64))])
 (.seq (.reg 0 [] [] [sD 65 (.mv (.t 2)),
 sD 66 (.bin .eql .num (.t 65) (.c (.int .i64 3)))])
 (.cond (.t 66) (.reg 0 [] [] [sD 67 (.mv (.t 11)),
 sD 68 (.bin .add .num (.t 67) (.c (.int .i64 7))),
 sD 69 (.bin .quo .num (.t 68) (.c (.int .i64 8))),
 sD 70 (.bin .add .num (.c (.int .i64 1)) (.t 69)),
 sD 14 (.mv (.t 70))])
 .skip)))
 .skip))
 (.seq (.block 2 (.seq (.reg 0 [] [] [sD 88 (.mv (.t 11)),
 sD 89 (.bin .lss .num (.t 88) (.c (.int .i64 0))),
 sD 87 (.mv (.t 89))])
 (.cond (.t 87) (.seq (.reg 0 [] [] [sD 90 (.mv (.t 13)),
 sD 91 (.bin .neq .num (.t 90) (.c (.int .i64 1)))])
 (.cond (.t 91) (.seq (.reg 0 [] [] [sD 6 (.mv (.c (.bool false)))])
 .ret)
 .skip))
 (.seq (.reg 0 [] [] [sD 93 (.mv (.t 11)),
 sD 94 (.bin .gtr .num (.t 93) (.c (.int .i64 65536))),
 sD 92 (.mv (.t 94))])
 (.cond (.t 92) (.seq (.reg 0 [] [] [sD 95 (.mv (.t 13)),
 sD 96 (.bin .neq .num (.t 95) (.c (.int .i64 2)))])
 (.cond (.t 96) (.seq (.reg 0 [] [] [sD 6 (.mv (.c (.bool false)))])
 .ret)
 .skip))
 (.seq (.reg 0 [] [] [sD 98 (.mv (.t 14)),
 sD 99 (.mv (.t 0)),
 sD 100 (.mv (.t 9)),
 sD 101 (.bin .sub .num (.t 99) (.t 100)),
 sD 102 (.bin .gtr .num (.t 98) (.t 101)),
 sD 97 (.mv (.t 102))])
 (.cond (.t 97) (.seq (.reg 0 [] [] [sD 103 (.mv (.t 13)),
 sD 104 (.bin .neq .num (.t 103) (.c (.int .i64 3)))])
 (.cond (.t 104) (.seq (.reg 0 [] [] [sD 6 (.mv (.c (.bool false)))])
 .ret)
 .skip))
 (.seq (.seq (.reg 0 [] [] [sD 71 (.mv (.t 13)),
 sD 72 (.bin .neq .num (.t 71) (.c (.int .i64 0))),
 sD 73 (.mv (.t 72)),
 sG 74 73 false (.mv (.t 12)),
 sG 75 73 false (.mv (.t 9)),
 sG 76 73 false (.bin .neq .num (.t 74) (.t 75)),
 sD 77 (.pick (.t 73) (.c (.bool true)) (.t 76)),
 sD 78 (.mv (.t 77)),
 sG 79 78 false (.mv (.t 7)),
 sG 80 78 false (.mv (.t 12)),
 sG 81 78 false (.call 56 [(.t 79), (.t 80)]),
 sG 82 78 false (.un .not (.t 81)),
 sD 83 (.pick (.t 78) (.c (.bool true)) (.t 82))])
 (.cond (.t 83) (.seq (.reg 0 [] [] [sD 6 (.mv (.c (.bool false)))])
 .ret)
 .skip))
 (.reg 0 [] [] [sD 84 (.mv (.t 9)),
 sD 85 (.mv (.t 14)),
 sD 86 (.bin .add .num (.t 84) (.t 85)),
 sD 9 (.mv (.t 86))])))))))))
 (.seq (.reg 0 [] [] [sD 105 (.mv (.t 7)),
 sD 106 (.call 57 [(.t 105)]),
 sD 107 (.mv (.t 9)),
 sD 108 (.bin .neq .num (.t 106) (.t 107))])
 (.cond (.t 108) (.seq (.reg 0 [] [] [sD 6 (.mv (.c (.bool false)))])
 .ret)
 .skip))))))))
 (.reg 0 [] [] [sD 45 (.mv (.t 10)),
 sD 46 (.bin .add .num (.t 45) (.c (.int .i64 1))),
 sD 10 (.mv (.t 46))]))))))
 (.seq (.reg 0 [] [] [sD 109 (.call 51 []),
 sD 6 (.mv (.t 109))])
 .ret))))))))
def fn11 : IFun := ⟨110, [(.tmp 6)], an11.erase⟩
theorem ok11 : okFun Try.prog 11 fn11 = true := by kernel_rfl
theorem oka11 : okA fn11.ntmps fn11.results an11 = true := by kernel_rfl
def sh11 (C : CallA) (words0 lens1 kind2 : AV) (h : H) (R : AV → H → Prop) : Prop :=
 valA (mnA [words0, (.int .i64 4000)]) h fun t16 h =>
 valA (mxA [(.int .i64 0), t16]) h fun t17 h =>
 valA (cvA .u64 kind2) h fun t19 h =>
 valA (binOp .rem .num t19 (.int .u64 2)) h fun t20 h =>
 valA (cvA .i64 t20) h fun t21 h =>
 valA (binOp .add .num (.int .i64 2) t21) h fun t22 h =>
 valA (buildA (fillV [(.int .i64 0), (.int .i64 0)] [(0, 1, t22)])) h fun t26 h =>
 mkslA h 60 1 (fillV [(.int .i64 0), (.int .i64 0)] [(0, 2, t26)]) fun t27 h =>
 C 49 [t17, t27] h fun t28 h =>
 valA (extA t28 0) h fun t29 h =>
 valA (extA t28 1) h fun t30 h =>
 valA (binOp .neq .num t30 (.int .i64 0)) h fun t32 h =>
 whenA t32 false (fun K => K t29 h) h fun t34 h =>
 whenA t32 false (fun K => valA (binOp .eql .ptr t34 .nilp) h K) h fun t35 h =>
 valA (pickA t32 (.bool true) t35) h fun t36 h =>
 condA t36
  (R (.bool false) h)
  (joinA (fun (h : H) =>
  C 51 [] h fun t109 h =>
  R t109 h) fun J =>
 loopA (fun N l h => argA l 0 fun top9 => argA l 1 fun i10 => 
  valA (lenA false lens1) h fun t39 h =>
  valA (binOp .lss .num i10 t39) h fun t40 h =>
  whenA t40 true (fun K => K i10 h) h fun t42 h =>
  whenA t40 true (fun K => valA (binOp .lss .num t42 (.int .i64 200)) h K) h fun t43 h =>
  valA (pickA t40 t43 (.bool false)) h fun t44 h =>
  condA t44
   (valA (iaA 1 lens1 i10) h fun t49 h =>
  valA (ldA h none t49) h fun t50 h =>
  C 55 [t29, (.int .i64 0), t50] h fun t54 h =>
  valA (extA t54 0) h fun t55 h =>
  valA (extA t54 1) h fun t56 h =>
  joinA (fun (need14'_0 : AV) (h : H) =>
   joinA (fun (top9'_16 : AV) (h : H) =>
    C 57 [t29] h fun t106 h =>
    valA (binOp .neq .num t106 top9'_16) h fun t108 h =>
    condA t108
     (R (.bool false) h)
     (valA (binOp .add .num i10 (.int .i64 1)) h fun t46 h =>
  N [top9'_16, t46] h)) fun J_51 =>
   valA (binOp .lss .num t50 (.int .i64 0)) h fun t89 h =>
   condA t89
    (valA (binOp .neq .num t56 (.int .i64 1)) h fun t91 h =>
    condA t91
     (R (.bool false) h)
     (J_51 top9 h))
    (valA (binOp .gtr .num t50 (.int .i64 65536)) h fun t94 h =>
    condA t94
     (valA (binOp .neq .num t56 (.int .i64 2)) h fun t96 h =>
     condA t96
      (R (.bool false) h)
      (J_51 top9 h))
     (valA (binOp .sub .num t17 top9) h fun t101 h =>
     valA (binOp .gtr .num need14'_0 t101) h fun t102 h =>
     condA t102
      (valA (binOp .neq .num t56 (.int .i64 3)) h fun t104 h =>
      condA t104
       (R (.bool false) h)
       (J_51 top9 h))
      (valA (binOp .neq .num t56 (.int .i64 0)) h fun t72 h =>
      whenA t72 false (fun K => K t55 h) h fun t74 h =>
      whenA t72 false (fun K => K top9 h) h fun t75 h =>
      whenA t72 false (fun K => valA (binOp .neq .num t74 t75) h K) h fun t76 h =>
      valA (pickA t72 (.bool true) t76) h fun t77 h =>
      whenA t77 false (fun K => K t29 h) h fun t79 h =>
      whenA t77 false (fun K => K t55 h) h fun t80 h =>
      whenA t77 false (fun K => C 56 [t79, t80] h K) h fun t81 h =>
      whenA t77 false (fun K => valA (unOp .not t81) h K) h fun t82 h =>
      valA (pickA t77 (.bool true) t82) h fun t83 h =>
      condA t83
       (R (.bool false) h)
       (valA (binOp .add .num top9 need14'_0) h fun t86 h =>
      J_51 t86 h))))) fun J_52 =>
  valA (binOp .geq .num t50 (.int .i64 0)) h fun t58 h =>
  whenA t58 true (fun K => K t50 h) h fun t60 h =>
  whenA t58 true (fun K => valA (binOp .leq .num t60 (.int .i64 65536)) h K) h fun t61 h =>
  valA (pickA t58 t61 (.bool false)) h fun t62 h =>
  condA t62
   (valA (binOp .add .num (.int .i64 1) t50) h fun t64 h =>
   valA (binOp .eql .num t22 (.int .i64 3)) h fun t66 h =>
   condA t66
    (valA (binOp .add .num t50 (.int .i64 7)) h fun t68 h =>
    valA (binOp .quo .num t68 (.int .i64 8)) h fun t69 h =>
    valA (binOp .add .num (.int .i64 1) t69) h fun t70 h =>
    J_52 t70 h)
    (J_52 t64 h))
   (J_52 (.int .i64 0) h))
   (J h)) [(.int .i64 0), (.int .i64 0)] h)
theorem she11 (C : CallA) (words0 lens1 kind2 : AV) (h : H) (R : AV → H → Prop) : wpA C an11 (argE [words0, lens1, kind2]) h (outA [(.tmp 6)] R) = sh11 C words0 lens1 kind2 h R := by kernel_rfl
/-! bellows/bellowslaw02.HeapMakes -/
def an12 : ACode :=
 (.seq (.reg 0 [] [] [sD 4 (.mv (.c (.bool false)))])
 (.seq (.reg 0 [] [] [sD 8 (.mv (.t 0)),
 sD 9 (.mv (.t 1)),
 sD 10 (.call 49 [(.t 8), (.t 9)]),
 sD 7 (.mv (.t 10)),
 sD 11 (.ext (.t 7) 0),
 sD 12 (.ext (.t 7) 1),
 sD 5 (.mv (.t 11)),
 sD 6 (.mv (.t 12))])
 (.seq (.seq (.reg 0 [] [] [sD 13 (.mv (.t 6)),
 sD 14 (.mv (.t 0)),
 sD 15 (.mv (.t 1)),
 sD 16 (.call 50 [(.t 14), (.t 15)]),
 sD 17 (.bin .neq .num (.t 13) (.t 16)),
 sD 18 (.mv (.t 17)),
 sG 19 18 false (.mv (.t 5)),
 sG 20 18 false (.bin .neq .ptr (.t 19) (.c .nilp)),
 sG 21 18 false (.mv (.t 6)),
 sG 22 18 false (.bin .eql .num (.t 21) (.c (.int .i64 0))),
 sG 23 18 false (.bin .neq .bool (.t 20) (.t 22)),
 sD 24 (.pick (.t 18) (.c (.bool true)) (.t 23))])
 (.cond (.t 24) (.seq (.reg 0 [] [] [sD 4 (.mv (.c (.bool false)))])
 .ret)
 .skip))
 (.seq (.reg 0 [] [] [sD 25 (.mv (.t 5)),
 sD 26 (.bin .eql .ptr (.t 25) (.c .nilp)),
 sD 27 (.mv (.t 26)),
 sG 28 27 false (.mv (.t 5)),
 sG 29 27 false (.call 58 [(.t 28)]),
 sG 30 27 false (.mv (.t 0)),
 sG 31 27 false (.bin .eql .num (.t 29) (.t 30)),
 sG 32 27 false (.mv (.t 31)),
 sG 33 32 true (.mv (.t 5)),
 sG 34 32 true (.call 57 [(.t 33)]),
 sG 35 32 true (.bin .eql .num (.t 34) (.c (.int .i64 0))),
 sG 36 27 false (.pick (.t 32) (.t 35) (.c (.bool false))),
 sG 37 27 false (.mv (.t 36)),
 sG 38 37 true (.mv (.t 5)),
 sG 39 37 true (.call 59 [(.t 38)]),
 sG 40 37 true (.len false (.t 39)),
 sG 41 37 true (.bin .eql .num (.t 40) (.c (.int .i64 0))),
 sG 42 27 false (.pick (.t 37) (.t 41) (.c (.bool false))),
 sD 43 (.pick (.t 27) (.c (.bool true)) (.t 42)),
 sD 44 (.mv (.t 43)),
 sG 45 44 true (.call 51 []),
 sD 46 (.pick (.t 44) (.t 45) (.c (.bool false))),
 sD 4 (.mv (.t 46))])
 .ret))))
def fn12 : IFun := ⟨47, [(.tmp 4)], an12.erase⟩
theorem ok12 : okFun Try.prog 12 fn12 = true := by kernel_rfl
theorem oka12 : okA fn12.ntmps fn12.results an12 = true := by kernel_rfl
def sh12 (C : CallA) (words0 layouts1 : AV) (h : H) (R : AV → H → Prop) : Prop :=
 C 49 [words0, layouts1] h fun t10 h =>
 valA (extA t10 0) h fun t11 h =>
 valA (extA t10 1) h fun t12 h =>
 C 50 [words0, layouts1] h fun t16 h =>
 valA (binOp .neq .num t12 t16) h fun t17 h =>
 whenA t17 false (fun K => K t11 h) h fun t19 h =>
 whenA t17 false (fun K => valA (binOp .neq .ptr t19 .nilp) h K) h fun t20 h =>
 whenA t17 false (fun K => K t12 h) h fun t21 h =>
 whenA t17 false (fun K => valA (binOp .eql .num t21 (.int .i64 0)) h K) h fun t22 h =>
 whenA t17 false (fun K => valA (binOp .neq .bool t20 t22) h K) h fun t23 h =>
 valA (pickA t17 (.bool true) t23) h fun t24 h =>
 condA t24
  (R (.bool false) h)
  (valA (binOp .eql .ptr t11 .nilp) h fun t26 h =>
 whenA t26 false (fun K => K t11 h) h fun t28 h =>
 whenA t26 false (fun K => C 58 [t28] h K) h fun t29 h =>
 whenA t26 false (fun K => K words0 h) h fun t30 h =>
 whenA t26 false (fun K => valA (binOp .eql .num t29 t30) h K) h fun t31 h =>
 whenA t26 false (fun K => K t31 h) h fun t32 h =>
 whenA t32 true (fun K => K t11 h) h fun t33 h =>
 whenA t32 true (fun K => C 57 [t33] h K) h fun t34 h =>
 whenA t32 true (fun K => valA (binOp .eql .num t34 (.int .i64 0)) h K) h fun t35 h =>
 whenA t26 false (fun K => valA (pickA t32 t35 (.bool false)) h K) h fun t36 h =>
 whenA t26 false (fun K => K t36 h) h fun t37 h =>
 whenA t37 true (fun K => K t11 h) h fun t38 h =>
 whenA t37 true (fun K => C 59 [t38] h K) h fun t39 h =>
 whenA t37 true (fun K => valA (lenA false t39) h K) h fun t40 h =>
 whenA t37 true (fun K => valA (binOp .eql .num t40 (.int .i64 0)) h K) h fun t41 h =>
 whenA t26 false (fun K => valA (pickA t37 t41 (.bool false)) h K) h fun t42 h =>
 valA (pickA t26 (.bool true) t42) h fun t43 h =>
 whenA t43 true (fun K => C 51 [] h K) h fun t45 h =>
 valA (pickA t43 t45 (.bool false)) h fun t46 h =>
 R t46 h)
theorem she12 (C : CallA) (words0 layouts1 : AV) (h : H) (R : AV → H → Prop) : wpA C an12 (argE [words0, layouts1]) h (outA [(.tmp 4)] R) = sh12 C words0 layouts1 h R := by kernel_rfl
/-! bellows/bellowslaw02.HeapBack -/
def an13 : ACode :=
 (.seq (.reg 0 [] [] [sD 5 (.bx none 72 (.t 2)),
 sD 6 (.mv (.c (.bool false)))])
 (.seq (.reg 0 [] [] [sD 21 (.mv (.t 0)),
 sD 22 (.mv (.t 1)),
 sD 23 (.call 60 [(.c (.int .i64 1000)), (.t 21), (.t 22)]),
 sD 20 (.mv (.t 23)),
 sD 24 (.ext (.t 20) 0),
 sD 25 (.ext (.t 20) 1),
 sD 7 (.mv (.t 24)),
 sD 8 (.mv (.t 25))])
 (.seq (.seq (.reg 0 [] [] [sD 26 (.mv (.t 7)),
 sD 27 (.bin .eql .ptr (.t 26) (.c .nilp))])
 (.cond (.t 27) (.seq (.reg 0 [] [] [sD 28 (.call 51 []),
 sD 6 (.mv (.t 28))])
 .ret)
 .skip))
 (.seq (.reg 0 [0, 1, 2, 3, 4, 5, 6, 7] [[], [0], [0, 1], [1, 0, 2], [], [4], [4, 5, 2, 0, 1, 3], [3, 1, 0, 2, 5, 4, 6]] [sD 29 (.mv (.t 8)),
 sD 30 (.nilc (.t 29)),
 sD 31 (.fa 2 (.t 30)),
 sD 32 (.ld none (.t 31)),
 sD 33 (.fa 1 (.t 5)),
 sD 34 (.ld none (.t 33)),
 sD 35 (.call 61 [(.t 32), (.t 34)]),
 sD 9 (.mv (.t 35))])
 (.seq (.reg 0 [] [] [sD 36 (.mks none 25 [(.int .u64 0)] 8 (.c (.int .i64 1000)) (.c (.int .i64 1000))),
 sD 10 (.mv (.t 36))])
 (.seq (.seq (.reg 0 [] [] [sD 37 (.mv (.t 10)),
 sD 38 (.len false (.t 37)),
 sD 39 (.mv (.c (.int .i64 0)))])
 (.block 0 (.loop [39] 824633722528 (.seq (.reg 0 [] [] [sD 40 (.bin .lss .num (.t 39) (.t 38))])
 (.seq (.cond (.t 40) .skip
 (.exit 0))
 (.seq (.block 1 (.seq (.reg 0 [] [] [sD 41 (.mv (.t 39)),
 sD 11 (.mv (.t 41))])
 (.reg 0 [] [] [sD 42 (.mv (.t 10)),
 sD 43 (.mv (.t 11)),
 sD 44 (.mv (.t 7)),
 sD 45 (.mv (.t 11)),
 sD 46 (.call 62 [(.t 44), (.t 45)]),
 sD 47 (.ia none 1 (.t 42) (.t 43)),
 sN (.st 1 (.t 47) (.t 46))])))
 (.reg 0 [] [] [sD 48 (.bin .add .num (.t 39) (.c (.int .i64 1))),
 sD 39 (.mv (.t 48))])))))))
 (.seq (.reg 0 [] [] [sD 49 (.mv (.t 7)),
 sD 50 (.mv (.t 9)),
 sD 51 (.fa 2 (.t 5)),
 sD 52 (.ld none (.t 51)),
 sD 53 (.fa 3 (.t 5)),
 sD 54 (.ld none (.t 53)),
 sD 55 (.call 63 [(.t 49), (.t 50), (.t 52), (.t 54)]),
 sD 12 (.mv (.t 55))])
 (.seq (.reg 0 [] [] [sD 57 (.mv (.t 7)),
 sD 58 (.mv (.t 9)),
 sD 59 (.fa 2 (.t 5)),
 sD 60 (.ld none (.t 59)),
 sD 61 (.call 64 [(.t 57), (.t 58), (.t 60)]),
 sD 56 (.mv (.t 61)),
 sD 62 (.ext (.t 56) 0),
 sD 63 (.ext (.t 56) 1),
 sD 13 (.mv (.t 62)),
 sD 14 (.mv (.t 63))])
 (.seq (.seq (.reg 0 [] [] [sD 64 (.mv (.t 12)),
 sD 65 (.bin .eql .num (.t 64) (.c (.int .i64 0))),
 sD 66 (.mv (.t 65)),
 sG 67 66 true (.mv (.t 14)),
 sG 68 66 true (.bin .neq .num (.t 67) (.c (.int .i64 0))),
 sG 69 66 true (.mv (.t 68)),
 sG 70 69 false (.mv (.t 13)),
 sG 71 69 false (.fa 3 (.t 5)),
 sG 72 69 false (.ld none (.t 71)),
 sG 73 69 false (.bin .neq .num (.t 70) (.t 72)),
 sG 74 66 true (.pick (.t 69) (.c (.bool true)) (.t 73)),
 sD 75 (.pick (.t 66) (.t 74) (.c (.bool false)))])
 (.cond (.t 75) (.seq (.reg 0 [] [] [sD 6 (.mv (.c (.bool false)))])
 .ret)
 .skip))
 (.seq (.reg 0 [] [] [sD 76 (.mv (.t 7)),
 sD 77 (.mv (.t 9)),
 sD 78 (.fa 2 (.t 5)),
 sD 79 (.ld none (.t 78)),
 sD 80 (.fa 3 (.t 5)),
 sD 81 (.ld none (.t 80)),
 sD 82 (.cv none (.toInt .u8) (.t 81)),
 sD 83 (.call 65 [(.t 76), (.t 77), (.t 79), (.t 82)]),
 sD 15 (.mv (.t 83))])
 (.seq (.reg 0 [] [] [sD 85 (.mv (.t 7)),
 sD 86 (.mv (.t 9)),
 sD 87 (.fa 2 (.t 5)),
 sD 88 (.ld none (.t 87)),
 sD 89 (.call 66 [(.t 85), (.t 86), (.t 88)]),
 sD 84 (.mv (.t 89)),
 sD 90 (.ext (.t 84) 0),
 sD 91 (.ext (.t 84) 1),
 sD 16 (.mv (.t 90)),
 sD 17 (.mv (.t 91))])
 (.seq (.seq (.reg 0 [] [] [sD 92 (.mv (.t 15)),
 sD 93 (.bin .eql .num (.t 92) (.c (.int .i64 0))),
 sD 94 (.mv (.t 93)),
 sG 95 94 true (.mv (.t 17)),
 sG 96 94 true (.bin .neq .num (.t 95) (.c (.int .i64 0))),
 sG 97 94 true (.mv (.t 96)),
 sG 98 97 false (.mv (.t 16)),
 sG 99 97 false (.fa 3 (.t 5)),
 sG 100 97 false (.ld none (.t 99)),
 sG 101 97 false (.cv none (.toInt .u8) (.t 100)),
 sG 102 97 false (.bin .neq .num (.t 98) (.t 101)),
 sG 103 94 true (.pick (.t 97) (.c (.bool true)) (.t 102)),
 sG 104 94 true (.mv (.t 103)),
 sG 105 104 false (.mv (.t 12)),
 sG 106 104 false (.bin .eql .num (.t 105) (.c (.int .i64 0))),
 sG 107 94 true (.pick (.t 104) (.c (.bool true)) (.t 106)),
 sD 108 (.pick (.t 94) (.t 107) (.c (.bool false)))])
 (.cond (.t 108) (.seq (.reg 0 [] [] [sD 6 (.mv (.c (.bool false)))])
 .ret)
 .skip))
 (.seq (.reg 0 [] [] [sD 18 (.mv (.c (.int .i64 0)))])
 (.seq (.seq (.reg 0 [] [] [sD 109 (.mv (.t 10)),
 sD 110 (.len false (.t 109)),
 sD 111 (.mv (.c (.int .i64 0)))])
 (.block 2 (.loop [18, 111] 3894222643901120721397872247215232 (.seq (.reg 0 [] [] [sD 112 (.bin .lss .num (.t 111) (.t 110))])
 (.seq (.cond (.t 112) .skip
 (.exit 2))
 (.seq (.block 3 (.seq (.reg 0 [] [] [sD 113 (.mv (.t 111)),
 sD 19 (.mv (.t 113))])
 (.seq (.reg 0 [0, 1, 3, 4, 5, 6, 2, 7] [[], [], [1, 0], [], [], [4, 3], [3, 4, 5], [5, 4, 3, 6, 0, 1, 2]] [sD 114 (.mv (.t 7)),
 sD 115 (.mv (.t 19)),
 sD 117 (.mv (.t 10)),
 sD 118 (.mv (.t 19)),
 sD 119 (.ia none 1 (.t 117) (.t 118)),
 sD 120 (.ld none (.t 119)),
 ⟨(some 116), none, (.call 62 [(.t 114), (.t 115)]), [⟨none, (.ld none (.t 119)), 120⟩]⟩,
 sD 121 (.bin .neq .num (.t 116) (.t 120))])
 (.cond (.t 121) (.reg 0 [] [] [sD 122 (.mv (.t 18)),
 sD 123 (.bin .add .num (.t 122) (.c (.int .i64 1))),
 sD 18 (.mv (.t 123))])
 .skip))))
 (.reg 0 [] [] [sD 124 (.bin .add .num (.t 111) (.c (.int .i64 1))),
 sD 111 (.mv (.t 124))])))))))
 (.seq (.reg 0 [] [] [sD 125 (.mv (.t 18)),
 sD 126 (.bin .eql .num (.t 125) (.c (.int .i64 0))),
 sD 127 (.mv (.t 126)),
 sG 128 127 false (.mv (.t 18)),
 sG 129 127 false (.bin .eql .num (.t 128) (.c (.int .i64 1))),
 sG 130 127 false (.mv (.t 129)),
 sG 131 130 true (.mv (.t 12)),
 sG 132 130 true (.bin .eql .num (.t 131) (.c (.int .i64 0))),
 sG 133 130 true (.mv (.t 132)),
 sG 134 133 false (.mv (.t 15)),
 sG 135 133 false (.bin .eql .num (.t 134) (.c (.int .i64 0))),
 sG 136 130 true (.pick (.t 133) (.c (.bool true)) (.t 135)),
 sG 137 127 false (.pick (.t 130) (.t 136) (.c (.bool false))),
 sD 138 (.pick (.t 127) (.c (.bool true)) (.t 137)),
 sD 139 (.mv (.t 138)),
 sG 140 139 true (.call 51 []),
 sD 141 (.pick (.t 139) (.t 140) (.c (.bool false))),
 sD 6 (.mv (.t 141))])
 .ret)))))))))))))))
def fn13 : IFun := ⟨142, [(.tmp 6)], an13.erase⟩
theorem ok13 : okFun Try.prog 13 fn13 = true := by kernel_rfl
theorem oka13 : okA fn13.ntmps fn13.results an13 = true := by kernel_rfl
def sh13 (C : CallA) (layouts0 l1 q2 : AV) (h : H) (R : AV → H → Prop) : Prop :=
 newA h (AV.cells q2) 72 (fun b => .ptr b 0) fun q5 h =>
 C 60 [(.int .i64 1000), layouts0, l1] h fun t23 h =>
 valA (extA t23 0) h fun t24 h =>
 valA (extA t23 1) h fun t25 h =>
 valA (binOp .eql .ptr t24 .nilp) h fun t27 h =>
 condA t27
  (C 51 [] h fun t28 h =>
  R t28 h)
  (valA (nilcA t25) h fun t30 h =>
 valA (faA 2 t30) h fun t31 h =>
 valA (ldA h none t31) h fun t32 h =>
 valA (faA 1 q5) h fun t33 h =>
 valA (ldA h none t33) h fun t34 h =>
 C 61 [t32, t34] h fun t35 h =>
 mksA h 25 [(.int .u64 0)] 8 (.int .i64 1000) (.int .i64 1000) fun t36 h =>
 joinA (fun (h : H) =>
  valA (faA 2 q5) h fun t51 h =>
  valA (ldA h none t51) h fun t52 h =>
  valA (faA 3 q5) h fun t53 h =>
  valA (ldA h none t53) h fun t54 h =>
  C 63 [t24, t35, t52, t54] h fun t55 h =>
  valA (faA 2 q5) h fun t59 h =>
  valA (ldA h none t59) h fun t60 h =>
  C 64 [t24, t35, t60] h fun t61 h =>
  valA (extA t61 0) h fun t62 h =>
  valA (extA t61 1) h fun t63 h =>
  valA (binOp .eql .num t55 (.int .i64 0)) h fun t65 h =>
  whenA t65 true (fun K => K t63 h) h fun t67 h =>
  whenA t65 true (fun K => valA (binOp .neq .num t67 (.int .i64 0)) h K) h fun t68 h =>
  whenA t65 true (fun K => K t68 h) h fun t69 h =>
  whenA t69 false (fun K => K t62 h) h fun t70 h =>
  whenA t69 false (fun K => valA (faA 3 q5) h K) h fun t71 h =>
  whenA t69 false (fun K => valA (ldA h none t71) h K) h fun t72 h =>
  whenA t69 false (fun K => valA (binOp .neq .num t70 t72) h K) h fun t73 h =>
  whenA t65 true (fun K => valA (pickA t69 (.bool true) t73) h K) h fun t74 h =>
  valA (pickA t65 t74 (.bool false)) h fun t75 h =>
  condA t75
   (R (.bool false) h)
   (valA (faA 2 q5) h fun t78 h =>
  valA (ldA h none t78) h fun t79 h =>
  valA (faA 3 q5) h fun t80 h =>
  valA (ldA h none t80) h fun t81 h =>
  valA (cvA .u8 t81) h fun t82 h =>
  C 65 [t24, t35, t79, t82] h fun t83 h =>
  valA (faA 2 q5) h fun t87 h =>
  valA (ldA h none t87) h fun t88 h =>
  C 66 [t24, t35, t88] h fun t89 h =>
  valA (extA t89 0) h fun t90 h =>
  valA (extA t89 1) h fun t91 h =>
  valA (binOp .eql .num t83 (.int .i64 0)) h fun t93 h =>
  whenA t93 true (fun K => K t91 h) h fun t95 h =>
  whenA t93 true (fun K => valA (binOp .neq .num t95 (.int .i64 0)) h K) h fun t96 h =>
  whenA t93 true (fun K => K t96 h) h fun t97 h =>
  whenA t97 false (fun K => K t90 h) h fun t98 h =>
  whenA t97 false (fun K => valA (faA 3 q5) h K) h fun t99 h =>
  whenA t97 false (fun K => valA (ldA h none t99) h K) h fun t100 h =>
  whenA t97 false (fun K => valA (cvA .u8 t100) h K) h fun t101 h =>
  whenA t97 false (fun K => valA (binOp .neq .num t98 t101) h K) h fun t102 h =>
  whenA t93 true (fun K => valA (pickA t97 (.bool true) t102) h K) h fun t103 h =>
  whenA t93 true (fun K => K t103 h) h fun t104 h =>
  whenA t104 false (fun K => K t55 h) h fun t105 h =>
  whenA t104 false (fun K => valA (binOp .eql .num t105 (.int .i64 0)) h K) h fun t106 h =>
  whenA t93 true (fun K => valA (pickA t104 (.bool true) t106) h K) h fun t107 h =>
  valA (pickA t93 t107 (.bool false)) h fun t108 h =>
  condA t108
   (R (.bool false) h)
   (joinA (fun (other18' : AV) (h : H) =>
   valA (binOp .eql .num other18' (.int .i64 0)) h fun t126 h =>
   whenA t126 false (fun K => K other18' h) h fun t128 h =>
   whenA t126 false (fun K => valA (binOp .eql .num t128 (.int .i64 1)) h K) h fun t129 h =>
   whenA t126 false (fun K => K t129 h) h fun t130 h =>
   whenA t130 true (fun K => K t55 h) h fun t131 h =>
   whenA t130 true (fun K => valA (binOp .eql .num t131 (.int .i64 0)) h K) h fun t132 h =>
   whenA t130 true (fun K => K t132 h) h fun t133 h =>
   whenA t133 false (fun K => K t83 h) h fun t134 h =>
   whenA t133 false (fun K => valA (binOp .eql .num t134 (.int .i64 0)) h K) h fun t135 h =>
   whenA t130 true (fun K => valA (pickA t133 (.bool true) t135) h K) h fun t136 h =>
   whenA t126 false (fun K => valA (pickA t130 t136 (.bool false)) h K) h fun t137 h =>
   valA (pickA t126 (.bool true) t137) h fun t138 h =>
   whenA t138 true (fun K => C 51 [] h K) h fun t140 h =>
   valA (pickA t138 t140 (.bool false)) h fun t141 h =>
   R t141 h) fun J =>
  valA (lenA false t36) h fun t110 h =>
  loopA (fun N l h => argA l 0 fun other18 => argA l 1 fun t111 => 
   valA (binOp .lss .num t111 t110) h fun t112 h =>
   condA t112
    (joinA (fun (other18'_0 : AV) (h : H) =>
    valA (binOp .add .num t111 (.int .i64 1)) h fun t124 h =>
    N [other18'_0, t124] h) fun J_13 =>
   valA (iaA 1 t36 t111) h fun t119 h =>
   valA (ldA h none t119) h fun t120 h =>
   C 62 [t24, t111] h fun t116 h =>
   againK (valA (ldA h none t119) h (fun v _ => v = t120)) <|
   valA (binOp .neq .num t116 t120) h fun t121 h =>
   condA t121
    (valA (binOp .add .num other18 (.int .i64 1)) h fun t123 h =>
    J_13 t123 h)
    (J_13 other18 h))
    (J other18 h)) [(.int .i64 0), (.int .i64 0)] h))) fun J_14 =>
 valA (lenA false t36) h fun t38 h =>
 loopA (fun N_15 l h => argA l 0 fun t39 => 
  valA (binOp .lss .num t39 t38) h fun t40 h =>
  condA t40
   (C 62 [t24, t39] h fun t46 h =>
  valA (iaA 1 t36 t39) h fun t47 h =>
  memA (stA h 1 t47 t46) .undef fun _ h =>
  valA (binOp .add .num t39 (.int .i64 1)) h fun t48 h =>
  N_15 [t48] h)
   (J_14 h)) [(.int .i64 0)] h)
theorem she13 (C : CallA) (layouts0 l1 q2 : AV) (h : H) (R : AV → H → Prop) : wpA C an13 (argE [layouts0, l1, q2]) h (outA [(.tmp 6)] R) = sh13 C layouts0 l1 q2 h R := by kernel_rfl
/-! bellows/bellowslaw02.HeapTells -/
def an14 : ACode :=
 (.seq (.reg 0 [] [] [sD 5 (.bx none 72 (.t 2)),
 sD 6 (.mv (.c (.bool false)))])
 (.seq (.reg 0 [] [] [sD 23 (.mv (.t 0)),
 sD 24 (.mv (.t 1)),
 sD 25 (.call 60 [(.c (.int .i64 1000)), (.t 23), (.t 24)]),
 sD 22 (.mv (.t 25)),
 sD 26 (.ext (.t 22) 0),
 sD 27 (.ext (.t 22) 1),
 sD 7 (.mv (.t 26)),
 sD 8 (.mv (.t 27))])
 (.seq (.seq (.reg 0 [] [] [sD 28 (.mv (.t 7)),
 sD 29 (.bin .eql .ptr (.t 28) (.c .nilp))])
 (.cond (.t 29) (.seq (.reg 0 [] [] [sD 30 (.call 51 []),
 sD 6 (.mv (.t 30))])
 .ret)
 .skip))
 (.seq (.reg 0 [0, 1, 2, 3, 4, 5, 6, 7] [[], [0], [0, 1], [1, 0, 2], [], [4], [4, 5, 2, 0, 1, 3], [3, 1, 0, 2, 5, 4, 6]] [sD 31 (.mv (.t 8)),
 sD 32 (.nilc (.t 31)),
 sD 33 (.fa 2 (.t 32)),
 sD 34 (.ld none (.t 33)),
 sD 35 (.fa 1 (.t 5)),
 sD 36 (.ld none (.t 35)),
 sD 37 (.call 61 [(.t 34), (.t 36)]),
 sD 9 (.mv (.t 37))])
 (.seq (.reg 0 [] [] [sD 38 (.mv (.t 8)),
 sD 39 (.mv (.t 9)),
 sD 40 (.call 67 [(.t 38), (.t 39)]),
 sD 10 (.mv (.t 40))])
 (.seq (.seq (.reg 0 [0, 1, 2, 3, 4, 5, 6, 7, 8, 9, 11, 12, 13, 10, 14, 15, 16] [[], [], [1, 0], [], [3], [3, 4, 0, 1, 2], [2, 1, 0, 4, 3, 5], [5, 3, 4, 0, 1, 2, 6], [5, 3, 4, 0, 1, 2, 6], [6, 2, 1, 0, 4, 3, 5, 8], [8, 9, 6, 2, 1, 0, 4, 3, 5, 7], [5, 3, 4, 0, 1, 2, 6], [5, 3, 4, 0, 1, 2, 6], [6, 2, 1, 0, 4, 3, 5, 12], [7, 9, 8, 10, 12, 13, 6, 2, 1, 0, 4, 3, 5, 11], [11, 13, 12, 14, 7, 5, 3, 4, 0, 1, 2, 6, 9, 8, 10], [10, 8, 9, 7, 14, 12, 13, 11, 15, 5, 3, 4, 0, 1, 2, 6]] [sD 41 (.mv (.t 7)),
 sD 42 (.mv (.t 9)),
 sD 43 (.call 56 [(.t 41), (.t 42)]),
 sD 44 (.mv (.t 10)),
 sD 45 (.bin .geq .num (.t 44) (.c (.int .i64 0))),
 sD 46 (.bin .neq .bool (.t 43) (.t 45)),
 sD 47 (.mv (.t 46)),
 sG 48 47 false (.mv (.t 7)),
 sG 49 47 false (.fa 3 (.t 5)),
 sG 50 47 false (.ld none (.t 49)),
 sG 52 47 false (.mv (.t 8)),
 sG 53 47 false (.fa 3 (.t 5)),
 sG 54 47 false (.ld none (.t 53)),
 ⟨(some 51), (some (47, false)), (.call 68 [(.t 48), (.t 50)]), [⟨(some (47, false)), (.ld none (.t 53)), 54⟩]⟩,
 sG 55 47 false (.call 69 [(.t 52), (.t 54)]),
 sG 56 47 false (.bin .neq .bool (.t 51) (.t 55)),
 sD 57 (.pick (.t 47) (.c (.bool true)) (.t 56))])
 (.cond (.t 57) (.seq (.reg 0 [] [] [sD 6 (.mv (.c (.bool false)))])
 .ret)
 .skip))
 (.seq (.reg 0 [] [] [sD 59 (.mv (.t 7)),
 sD 60 (.mv (.t 9)),
 sD 61 (.fa 2 (.t 5)),
 sD 62 (.ld none (.t 61)),
 sD 63 (.call 64 [(.t 59), (.t 60), (.t 62)]),
 sD 58 (.mv (.t 63)),
 sD 64 (.ext (.t 58) 0),
 sD 65 (.ext (.t 58) 1),
 sD 11 (.mv (.t 64)),
 sD 12 (.mv (.t 65))])
 (.seq (.reg 0 [] [] [sD 67 (.mv (.t 8)),
 sD 68 (.mv (.t 9)),
 sD 69 (.fa 2 (.t 5)),
 sD 70 (.ld none (.t 69)),
 sD 71 (.call 70 [(.t 67), (.t 68), (.t 70)]),
 sD 66 (.mv (.t 71)),
 sD 72 (.ext (.t 66) 0),
 sD 73 (.ext (.t 66) 1),
 sD 13 (.mv (.t 72)),
 sD 14 (.mv (.t 73))])
 (.seq (.reg 0 [] [] [sD 75 (.mv (.t 7)),
 sD 76 (.mv (.t 9)),
 sD 77 (.fa 2 (.t 5)),
 sD 78 (.ld none (.t 77)),
 sD 79 (.call 66 [(.t 75), (.t 76), (.t 78)]),
 sD 74 (.mv (.t 79)),
 sD 80 (.ext (.t 74) 0),
 sD 81 (.ext (.t 74) 1),
 sD 15 (.mv (.t 80)),
 sD 16 (.mv (.t 81))])
 (.seq (.reg 0 [] [] [sD 83 (.mv (.t 7)),
 sD 84 (.mv (.t 9)),
 sD 85 (.call 71 [(.t 83), (.t 84)]),
 sD 82 (.mv (.t 85)),
 sD 86 (.ext (.t 82) 0),
 sD 87 (.ext (.t 82) 1),
 sD 17 (.mv (.t 86)),
 sD 18 (.mv (.t 87))])
 (.seq (.reg 0 [] [] [sD 89 (.mv (.t 7)),
 sD 90 (.mv (.t 9)),
 sD 91 (.call 72 [(.t 89), (.t 90)]),
 sD 88 (.mv (.t 91)),
 sD 92 (.ext (.t 88) 0),
 sD 93 (.ext (.t 88) 1),
 sD 19 (.mv (.t 92)),
 sD 20 (.mv (.t 93))])
 (.seq (.seq (.reg 0 [] [] [sD 94 (.mv (.t 11)),
 sD 95 (.mv (.t 13)),
 sD 96 (.bin .neq .num (.t 94) (.t 95)),
 sD 97 (.mv (.t 96)),
 sG 98 97 false (.mv (.t 12)),
 sG 99 97 false (.mv (.t 14)),
 sG 100 97 false (.bin .neq .num (.t 98) (.t 99)),
 sD 101 (.pick (.t 97) (.c (.bool true)) (.t 100)),
 sD 102 (.mv (.t 101)),
 sG 103 102 false (.mv (.t 20)),
 sG 104 102 false (.bin .eql .num (.t 103) (.c (.int .i64 0))),
 sG 105 102 false (.mv (.t 10)),
 sG 106 102 false (.bin .geq .num (.t 105) (.c (.int .i64 0))),
 sG 107 102 false (.bin .neq .bool (.t 104) (.t 106)),
 sD 108 (.pick (.t 102) (.c (.bool true)) (.t 107))])
 (.cond (.t 108) (.seq (.reg 0 [] [] [sD 6 (.mv (.c (.bool false)))])
 .ret)
 .skip))
 (.seq (.seq (.reg 0 [0, 1, 2, 3, 4, 5, 6, 7, 8, 9, 10, 11, 12, 13, 14, 15, 16, 17, 18, 19] [[], [0], [0, 1], [1, 0, 2], [2, 0, 1, 3], [3, 1, 0, 2, 4], [4, 2, 0, 1, 3, 5], [1, 0, 2], [2, 0, 1, 7], [7, 1, 0, 2, 8], [8, 2, 0, 1, 7, 9], [1, 0, 2], [11, 9, 7, 1, 0, 2, 8, 10], [10, 8, 2, 0, 1, 7, 9, 11, 12], [12, 11, 9, 7, 1, 0, 2, 8, 10, 13], [13, 10, 8, 7, 9, 11, 12, 14, 5, 3, 1, 0, 2, 4, 6], [6, 4, 2, 0, 1, 3, 5, 14, 12, 11, 9, 7, 8, 10, 13, 15], [15, 13, 10, 8, 7, 9, 11, 12, 14, 5, 3, 1, 0, 2, 4, 6, 16], [16, 6, 4, 2, 0, 1, 3, 5, 14, 12, 11, 9, 7, 8, 10, 13, 15, 17], [17, 15, 13, 10, 8, 7, 9, 11, 12, 14, 5, 3, 4, 6, 16, 18, 1, 0, 2]] [sD 109 (.mv (.t 10)),
 sD 110 (.bin .lss .num (.t 109) (.c (.int .i64 0))),
 sD 111 (.mv (.t 110)),
 sG 112 111 false (.mv (.t 8)),
 sG 113 111 false (.nilc (.t 112)),
 sG 114 111 false (.fa 1 (.t 113)),
 sG 115 111 false (.ld none (.t 114)),
 sG 116 111 false (.mv (.t 8)),
 sG 117 111 false (.nilc (.t 116)),
 sG 118 111 false (.fa 2 (.t 117)),
 sG 119 111 false (.ld none (.t 118)),
 sG 120 111 false (.mv (.t 10)),
 sG 121 111 false (.ia none 5 (.t 119) (.t 120)),
 sG 122 111 false (.fa 1 (.t 121)),
 sG 123 111 false (.ld none (.t 122)),
 sG 124 111 false (.ia none 2 (.t 115) (.t 123)),
 sG 125 111 false (.fa 0 (.t 124)),
 sG 126 111 false (.ld none (.t 125)),
 sG 127 111 false (.bin .neq .num (.t 126) (.c (.int .i64 3))),
 sD 128 (.pick (.t 111) (.c (.bool true)) (.t 127))])
 (.cond (.t 128) (.seq (.reg 0 [] [] [sD 129 (.mv (.t 15)),
 sD 130 (.bin .eql .num (.t 129) (.c (.int .u8 0))),
 sD 131 (.mv (.t 130)),
 sG 132 131 true (.mv (.t 16)),
 sG 133 131 true (.bin .eql .num (.t 132) (.c (.int .i64 1))),
 sD 134 (.pick (.t 131) (.t 133) (.c (.bool false))),
 sD 135 (.mv (.t 134)),
 sG 136 135 true (.mv (.t 17)),
 sG 137 135 true (.bin .eql .num (.t 136) (.c (.str []))),
 sD 138 (.pick (.t 135) (.t 137) (.c (.bool false))),
 sD 139 (.mv (.t 138)),
 sG 140 139 true (.mv (.t 18)),
 sG 141 139 true (.bin .eql .num (.t 140) (.c (.int .i64 1))),
 sD 142 (.pick (.t 139) (.t 141) (.c (.bool false))),
 sD 143 (.mv (.t 142)),
 sG 144 143 true (.call 51 []),
 sD 145 (.pick (.t 143) (.t 144) (.c (.bool false))),
 sD 6 (.mv (.t 145))])
 .ret)
 .skip))
 (.seq (.reg 0 [] [] [sD 146 (.mv (.t 8)),
 sD 147 (.nilc (.t 146)),
 sD 148 (.fa 2 (.t 147)),
 sD 149 (.ld none (.t 148)),
 sD 150 (.mv (.t 10)),
 sD 151 (.ia none 5 (.t 149) (.t 150)),
 sD 152 (.ld (some 5) (.t 151)),
 sD 21 (.al none 89 [(.int .i64 0), (.int .i64 0), (.int .i64 0), .nilsl, .nilsl]),
 sN (.st 5 (.t 21) (.t 152))])
 (.seq (.seq (.reg 0 [] [] [sD 153 (.mv (.t 18)),
 sD 154 (.bin .neq .num (.t 153) (.c (.int .i64 0))),
 sD 155 (.mv (.t 154)),
 sG 156 155 false (.mv (.t 17)),
 sG 157 155 false (.fa 4 (.t 21)),
 sG 158 155 false (.ld none (.t 157)),
 sG 159 155 false (.cv none .b2s (.t 158)),
 sG 160 155 false (.bin .neq .num (.t 156) (.t 159)),
 sD 161 (.pick (.t 155) (.c (.bool true)) (.t 160)),
 sD 162 (.mv (.t 161)),
 sG 163 162 false (.mv (.t 19)),
 sG 164 162 false (.fa 2 (.t 21)),
 sG 165 162 false (.ld none (.t 164)),
 sG 166 162 false (.bin .neq .num (.t 163) (.t 165)),
 sD 167 (.pick (.t 162) (.c (.bool true)) (.t 166))])
 (.cond (.t 167) (.seq (.reg 0 [] [] [sD 6 (.mv (.c (.bool false)))])
 .ret)
 .skip))
 (.seq (.seq (.reg 0 [] [] [sD 168 (.fa 2 (.t 5)),
 sD 169 (.ld none (.t 168)),
 sD 170 (.bin .lss .num (.t 169) (.c (.int .i64 0))),
 sD 171 (.mv (.t 170)),
 sG 172 171 false (.fa 2 (.t 5)),
 sG 173 171 false (.ld none (.t 172)),
 sG 174 171 false (.fa 4 (.t 21)),
 sG 175 171 false (.ld none (.t 174)),
 sG 176 171 false (.len false (.t 175)),
 sG 177 171 false (.bin .geq .num (.t 173) (.t 176)),
 sD 178 (.pick (.t 171) (.c (.bool true)) (.t 177))])
 (.cond (.t 178) (.seq (.reg 0 [] [] [sD 179 (.mv (.t 15)),
 sD 180 (.bin .eql .num (.t 179) (.c (.int .u8 0))),
 sD 181 (.mv (.t 180)),
 sG 182 181 true (.mv (.t 16)),
 sG 183 181 true (.bin .eql .num (.t 182) (.c (.int .i64 1))),
 sD 184 (.pick (.t 181) (.t 183) (.c (.bool false))),
 sD 185 (.mv (.t 184)),
 sG 186 185 true (.call 51 []),
 sD 187 (.pick (.t 185) (.t 186) (.c (.bool false))),
 sD 6 (.mv (.t 187))])
 .ret)
 .skip))
 (.seq (.reg 0 [] [] [sD 188 (.mv (.t 15)),
 sD 189 (.fa 4 (.t 21)),
 sD 190 (.ld none (.t 189)),
 sD 191 (.fa 2 (.t 5)),
 sD 192 (.ld none (.t 191)),
 sD 193 (.ia none 1 (.t 190) (.t 192)),
 sD 194 (.ld none (.t 193)),
 sD 195 (.bin .eql .num (.t 188) (.t 194)),
 sD 196 (.mv (.t 195)),
 sG 197 196 true (.mv (.t 16)),
 sG 198 196 true (.bin .eql .num (.t 197) (.c (.int .i64 0))),
 sD 199 (.pick (.t 196) (.t 198) (.c (.bool false))),
 sD 200 (.mv (.t 199)),
 sG 201 200 true (.call 51 []),
 sD 202 (.pick (.t 200) (.t 201) (.c (.bool false))),
 sD 6 (.mv (.t 202))])
 .ret)))))))))))))))))
def fn14 : IFun := ⟨203, [(.tmp 6)], an14.erase⟩
theorem ok14 : okFun Try.prog 14 fn14 = true := by kernel_rfl
theorem oka14 : okA fn14.ntmps fn14.results an14 = true := by kernel_rfl
def sh14 (C : CallA) (layouts0 l1 q2 : AV) (h : H) (R : AV → H → Prop) : Prop :=
 newA h (AV.cells q2) 72 (fun b => .ptr b 0) fun q5 h =>
 C 60 [(.int .i64 1000), layouts0, l1] h fun t25 h =>
 valA (extA t25 0) h fun t26 h =>
 valA (extA t25 1) h fun t27 h =>
 valA (binOp .eql .ptr t26 .nilp) h fun t29 h =>
 condA t29
  (C 51 [] h fun t30 h =>
  R t30 h)
  (valA (nilcA t27) h fun t32 h =>
 valA (faA 2 t32) h fun t33 h =>
 valA (ldA h none t33) h fun t34 h =>
 valA (faA 1 q5) h fun t35 h =>
 valA (ldA h none t35) h fun t36 h =>
 C 61 [t34, t36] h fun t37 h =>
 C 67 [t27, t37] h fun t40 h =>
 C 56 [t26, t37] h fun t43 h =>
 valA (binOp .geq .num t40 (.int .i64 0)) h fun t45 h =>
 valA (binOp .neq .bool t43 t45) h fun t46 h =>
 whenA t46 false (fun K => K t26 h) h fun t48 h =>
 whenA t46 false (fun K => valA (faA 3 q5) h K) h fun t49 h =>
 whenA t46 false (fun K => valA (ldA h none t49) h K) h fun t50 h =>
 whenA t46 false (fun K => K t27 h) h fun t52 h =>
 whenA t46 false (fun K => valA (faA 3 q5) h K) h fun t53 h =>
 whenA t46 false (fun K => valA (ldA h none t53) h K) h fun t54 h =>
 whenA t46 false (fun K => C 68 [t48, t50] h K) h fun t51 h =>
 againK (whenP t46 false (valA (ldA h none t53) h (fun v _ => v = t54))) <|
 whenA t46 false (fun K => C 69 [t52, t54] h K) h fun t55 h =>
 whenA t46 false (fun K => valA (binOp .neq .bool t51 t55) h K) h fun t56 h =>
 valA (pickA t46 (.bool true) t56) h fun t57 h =>
 condA t57
  (R (.bool false) h)
  (valA (faA 2 q5) h fun t61 h =>
 valA (ldA h none t61) h fun t62 h =>
 C 64 [t26, t37, t62] h fun t63 h =>
 valA (extA t63 0) h fun t64 h =>
 valA (extA t63 1) h fun t65 h =>
 valA (faA 2 q5) h fun t69 h =>
 valA (ldA h none t69) h fun t70 h =>
 C 70 [t27, t37, t70] h fun t71 h =>
 valA (extA t71 0) h fun t72 h =>
 valA (extA t71 1) h fun t73 h =>
 valA (faA 2 q5) h fun t77 h =>
 valA (ldA h none t77) h fun t78 h =>
 C 66 [t26, t37, t78] h fun t79 h =>
 valA (extA t79 0) h fun t80 h =>
 valA (extA t79 1) h fun t81 h =>
 C 71 [t26, t37] h fun t85 h =>
 valA (extA t85 0) h fun t86 h =>
 valA (extA t85 1) h fun t87 h =>
 C 72 [t26, t37] h fun t91 h =>
 valA (extA t91 0) h fun t92 h =>
 valA (extA t91 1) h fun t93 h =>
 valA (binOp .neq .num t64 t72) h fun t96 h =>
 whenA t96 false (fun K => K t65 h) h fun t98 h =>
 whenA t96 false (fun K => K t73 h) h fun t99 h =>
 whenA t96 false (fun K => valA (binOp .neq .num t98 t99) h K) h fun t100 h =>
 valA (pickA t96 (.bool true) t100) h fun t101 h =>
 whenA t101 false (fun K => K t93 h) h fun t103 h =>
 whenA t101 false (fun K => valA (binOp .eql .num t103 (.int .i64 0)) h K) h fun t104 h =>
 whenA t101 false (fun K => K t40 h) h fun t105 h =>
 whenA t101 false (fun K => valA (binOp .geq .num t105 (.int .i64 0)) h K) h fun t106 h =>
 whenA t101 false (fun K => valA (binOp .neq .bool t104 t106) h K) h fun t107 h =>
 valA (pickA t101 (.bool true) t107) h fun t108 h =>
 condA t108
  (R (.bool false) h)
  (valA (binOp .lss .num t40 (.int .i64 0)) h fun t110 h =>
 whenA t110 false (fun K => K t27 h) h fun t112 h =>
 whenA t110 false (fun K => valA (nilcA t112) h K) h fun t113 h =>
 whenA t110 false (fun K => valA (faA 1 t113) h K) h fun t114 h =>
 whenA t110 false (fun K => valA (ldA h none t114) h K) h fun t115 h =>
 whenA t110 false (fun K => K t27 h) h fun t116 h =>
 whenA t110 false (fun K => valA (nilcA t116) h K) h fun t117 h =>
 whenA t110 false (fun K => valA (faA 2 t117) h K) h fun t118 h =>
 whenA t110 false (fun K => valA (ldA h none t118) h K) h fun t119 h =>
 whenA t110 false (fun K => K t40 h) h fun t120 h =>
 whenA t110 false (fun K => valA (iaA 5 t119 t120) h K) h fun t121 h =>
 whenA t110 false (fun K => valA (faA 1 t121) h K) h fun t122 h =>
 whenA t110 false (fun K => valA (ldA h none t122) h K) h fun t123 h =>
 whenA t110 false (fun K => valA (iaA 2 t115 t123) h K) h fun t124 h =>
 whenA t110 false (fun K => valA (faA 0 t124) h K) h fun t125 h =>
 whenA t110 false (fun K => valA (ldA h none t125) h K) h fun t126 h =>
 whenA t110 false (fun K => valA (binOp .neq .num t126 (.int .i64 3)) h K) h fun t127 h =>
 valA (pickA t110 (.bool true) t127) h fun t128 h =>
 condA t128
  (valA (binOp .eql .num t80 (.int .u8 0)) h fun t130 h =>
  whenA t130 true (fun K => K t81 h) h fun t132 h =>
  whenA t130 true (fun K => valA (binOp .eql .num t132 (.int .i64 1)) h K) h fun t133 h =>
  valA (pickA t130 t133 (.bool false)) h fun t134 h =>
  whenA t134 true (fun K => K t86 h) h fun t136 h =>
  whenA t134 true (fun K => valA (binOp .eql .num t136 (.str [])) h K) h fun t137 h =>
  valA (pickA t134 t137 (.bool false)) h fun t138 h =>
  whenA t138 true (fun K => K t87 h) h fun t140 h =>
  whenA t138 true (fun K => valA (binOp .eql .num t140 (.int .i64 1)) h K) h fun t141 h =>
  valA (pickA t138 t141 (.bool false)) h fun t142 h =>
  whenA t142 true (fun K => C 51 [] h K) h fun t144 h =>
  valA (pickA t142 t144 (.bool false)) h fun t145 h =>
  R t145 h)
  (valA (nilcA t27) h fun t147 h =>
 valA (faA 2 t147) h fun t148 h =>
 valA (ldA h none t148) h fun t149 h =>
 valA (iaA 5 t149 t40) h fun t151 h =>
 valA (ldA h (some 5) t151) h fun t152 h =>
 newA h [(.int .i64 0), (.int .i64 0), (.int .i64 0), .nilsl, .nilsl] 89 (fun b => .ptr b 0) fun o21 h =>
 memA (stA h 5 o21 t152) .undef fun _ h =>
 valA (binOp .neq .num t87 (.int .i64 0)) h fun t154 h =>
 whenA t154 false (fun K => K t86 h) h fun t156 h =>
 whenA t154 false (fun K => valA (faA 4 o21) h K) h fun t157 h =>
 whenA t154 false (fun K => valA (ldA h none t157) h K) h fun t158 h =>
 whenA t154 false (fun K => valA (b2sA h t158) h K) h fun t159 h =>
 whenA t154 false (fun K => valA (binOp .neq .num t156 t159) h K) h fun t160 h =>
 valA (pickA t154 (.bool true) t160) h fun t161 h =>
 whenA t161 false (fun K => K t92 h) h fun t163 h =>
 whenA t161 false (fun K => valA (faA 2 o21) h K) h fun t164 h =>
 whenA t161 false (fun K => valA (ldA h none t164) h K) h fun t165 h =>
 whenA t161 false (fun K => valA (binOp .neq .num t163 t165) h K) h fun t166 h =>
 valA (pickA t161 (.bool true) t166) h fun t167 h =>
 condA t167
  (R (.bool false) h)
  (valA (faA 2 q5) h fun t168 h =>
 valA (ldA h none t168) h fun t169 h =>
 valA (binOp .lss .num t169 (.int .i64 0)) h fun t170 h =>
 whenA t170 false (fun K => valA (faA 2 q5) h K) h fun t172 h =>
 whenA t170 false (fun K => valA (ldA h none t172) h K) h fun t173 h =>
 whenA t170 false (fun K => valA (faA 4 o21) h K) h fun t174 h =>
 whenA t170 false (fun K => valA (ldA h none t174) h K) h fun t175 h =>
 whenA t170 false (fun K => valA (lenA false t175) h K) h fun t176 h =>
 whenA t170 false (fun K => valA (binOp .geq .num t173 t176) h K) h fun t177 h =>
 valA (pickA t170 (.bool true) t177) h fun t178 h =>
 condA t178
  (valA (binOp .eql .num t80 (.int .u8 0)) h fun t180 h =>
  whenA t180 true (fun K => K t81 h) h fun t182 h =>
  whenA t180 true (fun K => valA (binOp .eql .num t182 (.int .i64 1)) h K) h fun t183 h =>
  valA (pickA t180 t183 (.bool false)) h fun t184 h =>
  whenA t184 true (fun K => C 51 [] h K) h fun t186 h =>
  valA (pickA t184 t186 (.bool false)) h fun t187 h =>
  R t187 h)
  (valA (faA 4 o21) h fun t189 h =>
 valA (ldA h none t189) h fun t190 h =>
 valA (faA 2 q5) h fun t191 h =>
 valA (ldA h none t191) h fun t192 h =>
 valA (iaA 1 t190 t192) h fun t193 h =>
 valA (ldA h none t193) h fun t194 h =>
 valA (binOp .eql .num t80 t194) h fun t195 h =>
 whenA t195 true (fun K => K t81 h) h fun t197 h =>
 whenA t195 true (fun K => valA (binOp .eql .num t197 (.int .i64 0)) h K) h fun t198 h =>
 valA (pickA t195 t198 (.bool false)) h fun t199 h =>
 whenA t199 true (fun K => C 51 [] h K) h fun t201 h =>
 valA (pickA t199 t201 (.bool false)) h fun t202 h =>
 R t202 h))))))
theorem she14 (C : CallA) (layouts0 l1 q2 : AV) (h : H) (R : AV → H → Prop) : wpA C an14 (argE [layouts0, l1, q2]) h (outA [(.tmp 6)] R) = sh14 C layouts0 l1 q2 h R := by kernel_rfl
/-! bellows/bellowslaw02.HeapDoes -/
def an15 : ACode :=
 (.seq (.reg 0 [] [] [sD 6 (.mv (.c (.bool false)))])
 (.seq (.reg 0 [] [] [sD 12 (.mv (.t 0)),
 sD 13 (.mv (.t 1)),
 sD 14 (.call 60 [(.t 12), (.t 13), (.c .nilsl)]),
 sD 11 (.mv (.t 14)),
 sD 15 (.ext (.t 11) 0),
 sD 16 (.ext (.t 11) 1),
 sD 7 (.mv (.t 15)),
 sD 8 (.mv (.t 16))])
 (.seq (.seq (.reg 0 [] [] [sD 17 (.mv (.t 7)),
 sD 18 (.bin .eql .ptr (.t 17) (.c .nilp))])
 (.cond (.t 18) (.seq (.reg 0 [] [] [sD 19 (.call 51 []),
 sD 6 (.mv (.t 19))])
 .ret)
 .skip))
 (.seq (.seq (.reg 0 [] [] [sD 20 (.mv (.t 2)),
 sD 21 (.call 73 [(.t 20)]),
 sD 22 (.len false (.t 21)),
 sD 23 (.mv (.c (.int .i64 0)))])
 (.block 0 (.loop [23] 14680448 (.seq (.reg 0 [] [] [sD 24 (.bin .lss .num (.t 23) (.t 22))])
 (.seq (.cond (.t 24) .skip
 (.exit 0))
 (.seq (.block 1 (.seq (.reg 0 [] [] [sD 25 (.mv (.t 23)),
 sD 26 (.ia none 5 (.t 21) (.t 23)),
 sD 27 (.ld (some 5) (.t 26)),
 sD 10 (.al none 72 [(.int .i64 0), (.int .i64 0), (.int .i64 0), (.int .u64 0), (.bool false)]),
 sD 9 (.mv (.t 25)),
 sN (.st 5 (.t 10) (.t 27))])
 (.seq (.reg 0 [] [] [sD 28 (.mv (.t 7)),
 sD 29 (.mv (.t 8)),
 sD 30 (.ld (some 5) (.t 10)),
 sD 31 (.call 74 [(.t 28), (.t 29), (.t 30)]),
 sD 32 (.un .not (.t 31)),
 sD 33 (.mv (.t 32)),
 sG 34 33 false (.mv (.t 7)),
 sG 35 33 false (.call 57 [(.t 34)]),
 sG 36 33 false (.mv (.t 8)),
 sG 37 33 false (.call 75 [(.t 36)]),
 sG 38 33 false (.bin .neq .num (.t 35) (.t 37)),
 sD 39 (.pick (.t 33) (.c (.bool true)) (.t 38)),
 sD 40 (.mv (.t 39)),
 sG 41 40 false (.mv (.t 9)),
 sG 42 40 false (.bin .rem .num (.t 41) (.c (.int .i64 16))),
 sG 43 40 false (.bin .eql .num (.t 42) (.c (.int .i64 15))),
 sG 44 40 false (.mv (.t 43)),
 sG 45 44 true (.mv (.t 7)),
 sG 46 44 true (.mv (.t 8)),
 sG 47 44 true (.call 76 [(.t 45), (.t 46)]),
 sG 48 44 true (.un .not (.t 47)),
 sG 49 40 false (.pick (.t 44) (.t 48) (.c (.bool false))),
 sD 50 (.pick (.t 40) (.c (.bool true)) (.t 49))])
 (.cond (.t 50) (.seq (.reg 0 [] [] [sD 6 (.mv (.c (.bool false)))])
 .ret)
 .skip))))
 (.reg 0 [] [] [sD 51 (.bin .add .num (.t 23) (.c (.int .i64 1))),
 sD 23 (.mv (.t 51))])))))))
 (.seq (.reg 0 [] [] [sD 52 (.mv (.t 7)),
 sD 53 (.mv (.t 8)),
 sD 54 (.call 76 [(.t 52), (.t 53)]),
 sD 55 (.mv (.t 54)),
 sG 56 55 true (.call 51 []),
 sD 57 (.pick (.t 55) (.t 56) (.c (.bool false))),
 sD 6 (.mv (.t 57))])
 .ret)))))
def fn15 : IFun := ⟨58, [(.tmp 6)], an15.erase⟩
theorem ok15 : okFun Try.prog 15 fn15 = true := by kernel_rfl
theorem oka15 : okA fn15.ntmps fn15.results an15 = true := by kernel_rfl
def sh15 (C : CallA) (words0 layouts1 l2 : AV) (h : H) (R : AV → H → Prop) : Prop :=
 C 60 [words0, layouts1, .nilsl] h fun t14 h =>
 valA (extA t14 0) h fun t15 h =>
 valA (extA t14 1) h fun t16 h =>
 valA (binOp .eql .ptr t15 .nilp) h fun t18 h =>
 condA t18
  (C 51 [] h fun t19 h =>
  R t19 h)
  (joinA (fun (h : H) =>
  C 76 [t15, t16] h fun t54 h =>
  whenA t54 true (fun K => C 51 [] h K) h fun t56 h =>
  valA (pickA t54 t56 (.bool false)) h fun t57 h =>
  R t57 h) fun J =>
 C 73 [l2] h fun t21 h =>
 valA (lenA false t21) h fun t22 h =>
 loopA (fun N l h => argA l 0 fun t23 => 
  valA (binOp .lss .num t23 t22) h fun t24 h =>
  condA t24
   (valA (iaA 5 t21 t23) h fun t26 h =>
  valA (ldA h (some 5) t26) h fun t27 h =>
  newA h [(.int .i64 0), (.int .i64 0), (.int .i64 0), (.int .u64 0), (.bool false)] 72 (fun b => .ptr b 0) fun o10 h =>
  memA (stA h 5 o10 t27) .undef fun _ h =>
  valA (ldA h (some 5) o10) h fun t30 h =>
  C 74 [t15, t16, t30] h fun t31 h =>
  valA (unOp .not t31) h fun t32 h =>
  whenA t32 false (fun K => K t15 h) h fun t34 h =>
  whenA t32 false (fun K => C 57 [t34] h K) h fun t35 h =>
  whenA t32 false (fun K => K t16 h) h fun t36 h =>
  whenA t32 false (fun K => C 75 [t36] h K) h fun t37 h =>
  whenA t32 false (fun K => valA (binOp .neq .num t35 t37) h K) h fun t38 h =>
  valA (pickA t32 (.bool true) t38) h fun t39 h =>
  whenA t39 false (fun K => K t23 h) h fun t41 h =>
  whenA t39 false (fun K => valA (binOp .rem .num t41 (.int .i64 16)) h K) h fun t42 h =>
  whenA t39 false (fun K => valA (binOp .eql .num t42 (.int .i64 15)) h K) h fun t43 h =>
  whenA t39 false (fun K => K t43 h) h fun t44 h =>
  whenA t44 true (fun K => K t15 h) h fun t45 h =>
  whenA t44 true (fun K => K t16 h) h fun t46 h =>
  whenA t44 true (fun K => C 76 [t45, t46] h K) h fun t47 h =>
  whenA t44 true (fun K => valA (unOp .not t47) h K) h fun t48 h =>
  whenA t39 false (fun K => valA (pickA t44 t48 (.bool false)) h K) h fun t49 h =>
  valA (pickA t39 (.bool true) t49) h fun t50 h =>
  condA t50
   (R (.bool false) h)
   (valA (binOp .add .num t23 (.int .i64 1)) h fun t51 h =>
  N [t51] h))
   (J h)) [(.int .i64 0)] h)
theorem she15 (C : CallA) (words0 layouts1 l2 : AV) (h : H) (R : AV → H → Prop) : wpA C an15 (argE [words0, layouts1, l2]) h (outA [(.tmp 6)] R) = sh15 C words0 layouts1 l2 h R := by kernel_rfl
/-! bellows/bellowslaw02.HeapCloses -/
def an16 : ACode :=
 (.seq (.reg 0 [] [] [sD 1 (.bx none 95 (.t 0)),
 sD 2 (.mv (.c (.bool false)))])
 (.seq (.reg 0 [0, 1, 2, 3, 4, 5, 6, 7, 8, 9, 10, 11] [[], [0], [], [2], [], [4], [], [6], [0, 1], [1, 0, 8, 2, 3], [3, 2, 8, 0, 1, 9, 4, 5], [5, 4, 9, 1, 0, 8, 2, 3, 10, 6, 7]] [sD 15 (.fa 0 (.t 1)),
 sD 16 (.ld none (.t 15)),
 sD 17 (.fa 1 (.t 1)),
 sD 18 (.ld none (.t 17)),
 sD 19 (.fa 2 (.t 1)),
 sD 20 (.ld none (.t 19)),
 sD 21 (.fa 3 (.t 1)),
 sD 22 (.ld none (.t 21)),
 sD 3 (.mv (.t 16)),
 sD 4 (.mv (.t 18)),
 sD 5 (.mv (.t 20)),
 sD 6 (.mv (.t 22))])
 (.seq (.seq (.reg 0 [] [] [sD 23 (.mv (.t 5)),
 sD 24 (.len false (.t 23)),
 sD 25 (.bin .gtr .num (.t 24) (.c (.int .i64 300)))])
 (.cond (.t 25) (.reg 0 [] [] [sD 26 (.mv (.t 5)),
 sD 27 (.sli (.row 1) (.t 26) none (some (.c (.int .i64 300))) none),
 sD 5 (.mv (.t 27))])
 .skip))
 (.seq (.reg 0 [] [] [sD 29 (.mv (.t 3)),
 sD 30 (.mv (.t 4)),
 sD 31 (.call 60 [(.c (.int .i64 300)), (.t 29), (.t 30)]),
 sD 28 (.mv (.t 31)),
 sD 32 (.ext (.t 28) 0),
 sD 33 (.ext (.t 28) 1),
 sD 7 (.mv (.t 32)),
 sD 8 (.mv (.t 33))])
 (.seq (.seq (.reg 0 [] [] [sD 34 (.mv (.t 7)),
 sD 35 (.bin .eql .ptr (.t 34) (.c .nilp))])
 (.cond (.t 35) (.seq (.reg 0 [] [] [sD 36 (.call 51 []),
 sD 2 (.mv (.t 36))])
 .ret)
 .skip))
 (.seq (.reg 0 [] [] [sD 37 (.mv (.t 8)),
 sD 38 (.call 77 [(.t 37)]),
 sD 9 (.mv (.t 38))])
 (.seq (.seq (.reg 0 [] [] [sD 39 (.mv (.t 5)),
 sD 40 (.len false (.t 39)),
 sD 41 (.mv (.c (.int .i64 0)))])
 (.block 0 (.loop [41] 3848290698176 (.seq (.reg 0 [] [] [sD 42 (.bin .lss .num (.t 41) (.t 40))])
 (.seq (.cond (.t 42) .skip
 (.exit 0))
 (.seq (.block 1 (.seq (.reg 0 [] [] [sD 43 (.mv (.t 41)),
 sD 44 (.ia none 1 (.t 39) (.t 41)),
 sD 45 (.ld none (.t 44)),
 sD 10 (.mv (.t 43)),
 sD 11 (.mv (.t 45))])
 (.seq (.reg 0 [] [] [sD 46 (.mv (.t 7)),
 sD 47 (.mv (.t 10)),
 sD 48 (.mv (.t 11)),
 sD 49 (.call 78 [(.t 46), (.t 47), (.t 48)])])
 (.reg 0 [] [] [sD 50 (.mv (.t 9)),
 sD 51 (.mv (.t 10)),
 sD 52 (.mv (.t 11)),
 sD 53 (.ia none 1 (.t 50) (.t 51)),
 sN (.st 1 (.t 53) (.t 52))]))))
 (.reg 0 [] [] [sD 54 (.bin .add .num (.t 41) (.c (.int .i64 1))),
 sD 41 (.mv (.t 54))])))))))
 (.seq (.reg 0 [] [] [sD 55 (.mv (.t 7)),
 sD 56 (.call 78 [(.t 55), (.c (.int .i64 (-1))), (.c (.int .u64 5))])])
 (.seq (.reg 0 [] [] [sD 57 (.mv (.t 7)),
 sD 58 (.call 78 [(.t 57), (.c (.int .i64 300)), (.c (.int .u64 5))])])
 (.seq (.reg 0 [] [] [sD 60 (.mv (.t 9)),
 sD 61 (.mv (.t 6)),
 sD 62 (.mv (.t 8)),
 sD 63 (.nilc (.t 62)),
 sD 64 (.fa 1 (.t 63)),
 sD 65 (.ld none (.t 64)),
 sD 66 (.call 79 [(.t 60), (.t 61), (.t 65)]),
 sD 59 (.mv (.t 66)),
 sD 67 (.ext (.t 59) 0),
 sD 68 (.ext (.t 59) 1),
 sD 12 (.mv (.t 67)),
 sD 13 (.mv (.t 68))])
 (.seq (.reg 0 [] [] [sD 69 (.mv (.t 7)),
 sD 70 (.mv (.t 6)),
 sD 71 (.call 80 [(.t 69), (.t 70)]),
 sD 14 (.mv (.t 71))])
 (.seq (.seq (.reg 0 [] [] [sD 72 (.mv (.t 13)),
 sD 73 (.un .not (.t 72))])
 (.cond (.t 73) (.seq (.reg 0 [] [] [sD 74 (.mv (.t 14)),
 sD 75 (.bin .eql .num (.t 74) (.c (.int .i64 1))),
 sD 76 (.mv (.t 75)),
 sG 77 76 true (.mv (.t 7)),
 sG 78 76 true (.call 57 [(.t 77)]),
 sG 79 76 true (.mv (.t 8)),
 sG 80 76 true (.call 75 [(.t 79)]),
 sG 81 76 true (.bin .eql .num (.t 78) (.t 80)),
 sD 82 (.pick (.t 76) (.t 81) (.c (.bool false))),
 sD 83 (.mv (.t 82)),
 sG 84 83 true (.mv (.t 7)),
 sG 85 83 true (.call 62 [(.t 84), (.c (.int .i64 (-1)))]),
 sG 86 83 true (.bin .eql .num (.t 85) (.c (.int .u64 0))),
 sD 87 (.pick (.t 83) (.t 86) (.c (.bool false))),
 sD 88 (.mv (.t 87)),
 sG 89 88 true (.mv (.t 7)),
 sG 90 88 true (.call 62 [(.t 89), (.c (.int .i64 300))]),
 sG 91 88 true (.bin .eql .num (.t 90) (.c (.int .u64 0))),
 sD 92 (.pick (.t 88) (.t 91) (.c (.bool false))),
 sD 93 (.mv (.t 92)),
 sG 94 93 true (.call 51 []),
 sD 95 (.pick (.t 93) (.t 94) (.c (.bool false))),
 sD 2 (.mv (.t 95))])
 .ret)
 .skip))
 (.seq (.reg 0 [] [] [sD 96 (.mv (.t 14)),
 sD 97 (.bin .eql .num (.t 96) (.c (.int .i64 0))),
 sD 98 (.mv (.t 97)),
 sG 99 98 true (.mv (.t 7)),
 sG 100 98 true (.mv (.t 12)),
 sG 101 98 true (.call 76 [(.t 99), (.t 100)]),
 sD 102 (.pick (.t 98) (.t 101) (.c (.bool false))),
 sD 103 (.mv (.t 102)),
 sG 104 103 true (.call 51 []),
 sD 105 (.pick (.t 103) (.t 104) (.c (.bool false))),
 sD 2 (.mv (.t 105))])
 .ret)))))))))))))
def fn16 : IFun := ⟨106, [(.tmp 2)], an16.erase⟩
theorem ok16 : okFun Try.prog 16 fn16 = true := by kernel_rfl
theorem oka16 : okA fn16.ntmps fn16.results an16 = true := by kernel_rfl
def sh16 (C : CallA) (c0 : AV) (h : H) (R : AV → H → Prop) : Prop :=
 newA h (AV.cells c0) 95 (fun b => .ptr b 0) fun c1 h =>
 valA (faA 0 c1) h fun t15 h =>
 valA (ldA h none t15) h fun t16 h =>
 valA (faA 1 c1) h fun t17 h =>
 valA (ldA h none t17) h fun t18 h =>
 valA (faA 2 c1) h fun t19 h =>
 valA (ldA h none t19) h fun t20 h =>
 valA (faA 3 c1) h fun t21 h =>
 valA (ldA h none t21) h fun t22 h =>
 joinA (fun (words5' : AV) (h : H) =>
  C 60 [(.int .i64 300), t16, t18] h fun t31 h =>
  valA (extA t31 0) h fun t32 h =>
  valA (extA t31 1) h fun t33 h =>
  valA (binOp .eql .ptr t32 .nilp) h fun t35 h =>
  condA t35
   (C 51 [] h fun t36 h =>
   R t36 h)
   (C 77 [t33] h fun t38 h =>
  joinA (fun (h : H) =>
   C 78 [t32, (.int .i64 (-1)), (.int .u64 5)] h fun t56 h =>
   C 78 [t32, (.int .i64 300), (.int .u64 5)] h fun t58 h =>
   valA (nilcA t33) h fun t63 h =>
   valA (faA 1 t63) h fun t64 h =>
   valA (ldA h none t64) h fun t65 h =>
   C 79 [t38, t22, t65] h fun t66 h =>
   valA (extA t66 0) h fun t67 h =>
   valA (extA t66 1) h fun t68 h =>
   C 80 [t32, t22] h fun t71 h =>
   valA (unOp .not t68) h fun t73 h =>
   condA t73
    (valA (binOp .eql .num t71 (.int .i64 1)) h fun t75 h =>
    whenA t75 true (fun K => K t32 h) h fun t77 h =>
    whenA t75 true (fun K => C 57 [t77] h K) h fun t78 h =>
    whenA t75 true (fun K => K t33 h) h fun t79 h =>
    whenA t75 true (fun K => C 75 [t79] h K) h fun t80 h =>
    whenA t75 true (fun K => valA (binOp .eql .num t78 t80) h K) h fun t81 h =>
    valA (pickA t75 t81 (.bool false)) h fun t82 h =>
    whenA t82 true (fun K => K t32 h) h fun t84 h =>
    whenA t82 true (fun K => C 62 [t84, (.int .i64 (-1))] h K) h fun t85 h =>
    whenA t82 true (fun K => valA (binOp .eql .num t85 (.int .u64 0)) h K) h fun t86 h =>
    valA (pickA t82 t86 (.bool false)) h fun t87 h =>
    whenA t87 true (fun K => K t32 h) h fun t89 h =>
    whenA t87 true (fun K => C 62 [t89, (.int .i64 300)] h K) h fun t90 h =>
    whenA t87 true (fun K => valA (binOp .eql .num t90 (.int .u64 0)) h K) h fun t91 h =>
    valA (pickA t87 t91 (.bool false)) h fun t92 h =>
    whenA t92 true (fun K => C 51 [] h K) h fun t94 h =>
    valA (pickA t92 t94 (.bool false)) h fun t95 h =>
    R t95 h)
    (valA (binOp .eql .num t71 (.int .i64 0)) h fun t97 h =>
   whenA t97 true (fun K => K t32 h) h fun t99 h =>
   whenA t97 true (fun K => K t67 h) h fun t100 h =>
   whenA t97 true (fun K => C 76 [t99, t100] h K) h fun t101 h =>
   valA (pickA t97 t101 (.bool false)) h fun t102 h =>
   whenA t102 true (fun K => C 51 [] h K) h fun t104 h =>
   valA (pickA t102 t104 (.bool false)) h fun t105 h =>
   R t105 h)) fun J =>
  valA (lenA false words5') h fun t40 h =>
  loopA (fun N l h => argA l 0 fun t41 => 
   valA (binOp .lss .num t41 t40) h fun t42 h =>
   condA t42
    (valA (iaA 1 words5' t41) h fun t44 h =>
   valA (ldA h none t44) h fun t45 h =>
   C 78 [t32, t41, t45] h fun t49 h =>
   valA (iaA 1 t38 t41) h fun t53 h =>
   memA (stA h 1 t53 t45) .undef fun _ h =>
   valA (binOp .add .num t41 (.int .i64 1)) h fun t54 h =>
   N [t54] h)
    (J h)) [(.int .i64 0)] h)) fun J_0 =>
 valA (lenA false t20) h fun t24 h =>
 valA (binOp .gtr .num t24 (.int .i64 300)) h fun t25 h =>
 condA t25
  (valA (sliceOp (.row 1) t20 none (some (.int .i64 300)) none) h fun t27 h =>
  J_0 t27 h)
  (J_0 t20 h)
theorem she16 (C : CallA) (c0 : AV) (h : H) (R : AV → H → Prop) : wpA C an16 (argE [c0]) h (outA [(.tmp 2)] R) = sh16 C c0 h R := by kernel_rfl
/-! bellows/bellowslaw02.HeapAsIs -/
def an17 : ACode :=
 (.seq (.reg 0 [] [] [sD 6 (.mv (.c (.bool false)))])
 (.seq (.reg 0 [] [] [sD 13 (.mv (.t 0)),
 sD 14 (.mv (.t 1)),
 sD 15 (.call 60 [(.c (.int .i64 1000)), (.t 13), (.t 14)]),
 sD 12 (.mv (.t 15)),
 sD 16 (.ext (.t 12) 0),
 sD 17 (.ext (.t 12) 1),
 sD 7 (.mv (.t 16)),
 sD 8 (.mv (.t 17))])
 (.seq (.seq (.reg 0 [] [] [sD 18 (.mv (.t 7)),
 sD 19 (.bin .eql .ptr (.t 18) (.c .nilp))])
 (.cond (.t 19) (.seq (.reg 0 [] [] [sD 20 (.call 51 []),
 sD 6 (.mv (.t 20))])
 .ret)
 .skip))
 (.seq (.reg 0 [] [] [sD 21 (.mv (.t 7)),
 sD 22 (.call 57 [(.t 21)]),
 sD 9 (.mv (.t 22))])
 (.seq (.seq (.reg 0 [] [] [sD 23 (.mv (.t 7)),
 sD 24 (.mv (.t 9)),
 sD 25 (.call 80 [(.t 23), (.t 24)]),
 sD 26 (.bin .neq .num (.t 25) (.c (.int .i64 0))),
 sD 27 (.mv (.t 26)),
 sG 28 27 false (.mv (.t 7)),
 sG 29 27 false (.mv (.t 8)),
 sG 30 27 false (.call 76 [(.t 28), (.t 29)]),
 sG 31 27 false (.un .not (.t 30)),
 sD 32 (.pick (.t 27) (.c (.bool true)) (.t 31)),
 sD 33 (.mv (.t 32)),
 sG 34 33 false (.mv (.t 7)),
 sG 35 33 false (.call 80 [(.t 34), (.c (.int .i64 (-1)))]),
 sG 36 33 false (.bin .neq .num (.t 35) (.c (.int .i64 1))),
 sD 37 (.pick (.t 33) (.c (.bool true)) (.t 36)),
 sD 38 (.mv (.t 37)),
 sG 39 38 false (.mv (.t 7)),
 sG 40 38 false (.call 80 [(.t 39), (.c (.int .i64 1001))]),
 sG 41 38 false (.bin .neq .num (.t 40) (.c (.int .i64 1))),
 sD 42 (.pick (.t 38) (.c (.bool true)) (.t 41))])
 (.cond (.t 42) (.seq (.reg 0 [] [] [sD 6 (.mv (.c (.bool false)))])
 .ret)
 .skip))
 (.seq (.seq (.reg 0 [] [] [sD 43 (.mv (.t 9)),
 sD 44 (.bin .lss .num (.t 43) (.c (.int .i64 1000))),
 sD 45 (.mv (.t 44)),
 sG 46 45 true (.mv (.t 7)),
 sG 47 45 true (.mv (.t 9)),
 sG 48 45 true (.bin .add .num (.t 47) (.c (.int .i64 1))),
 sG 49 45 true (.call 80 [(.t 46), (.t 48)]),
 sG 50 45 true (.bin .neq .num (.t 49) (.c (.int .i64 1))),
 sD 51 (.pick (.t 45) (.t 50) (.c (.bool false)))])
 (.cond (.t 51) (.seq (.reg 0 [] [] [sD 6 (.mv (.c (.bool false)))])
 .ret)
 .skip))
 (.seq (.seq (.reg 0 [] [] [sD 52 (.mv (.t 8)),
 sD 53 (.nilc (.t 52)),
 sD 54 (.fa 2 (.t 53)),
 sD 55 (.ld none (.t 54)),
 sD 56 (.len false (.t 55)),
 sD 57 (.bin .eql .num (.t 56) (.c (.int .i64 0)))])
 (.cond (.t 57) (.seq (.reg 0 [] [] [sD 58 (.call 51 []),
 sD 6 (.mv (.t 58))])
 .ret)
 .skip))
 (.seq (.reg 0 [0, 1, 2, 3, 4, 5, 6, 7, 8, 9, 10, 11, 12, 13, 14, 15, 16] [[], [0], [0, 1], [1, 0, 2], [], [], [5], [5, 6], [6, 5, 7], [7, 5, 6, 8], [8, 6, 5, 7, 9], [9, 7, 5, 6, 8, 10, 4], [4, 10, 8, 6, 5, 7, 9, 11], [11, 9, 7, 5, 6, 8, 10, 4, 12, 2, 0, 1, 3], [3, 1, 0, 2, 12, 4, 10, 8, 6, 5, 7, 9, 11, 13], [13, 11, 9, 7, 5, 6, 8, 10, 4, 12, 2, 0, 1, 3, 14], [14, 3, 1, 0, 2, 12, 4, 10, 8, 6, 5, 7, 9, 11, 13, 15]] [sD 59 (.mv (.t 8)),
 sD 60 (.nilc (.t 59)),
 sD 61 (.fa 2 (.t 60)),
 sD 62 (.ld none (.t 61)),
 sD 63 (.mv (.t 2)),
 sD 64 (.mv (.t 8)),
 sD 65 (.nilc (.t 64)),
 sD 66 (.fa 2 (.t 65)),
 sD 67 (.ld none (.t 66)),
 sD 68 (.len false (.t 67)),
 sD 69 (.cv none (.toInt .u64) (.t 68)),
 sD 70 (.bin .rem .num (.t 63) (.t 69)),
 sD 71 (.cv none (.toInt .i64) (.t 70)),
 sD 72 (.ia none 5 (.t 62) (.t 71)),
 sD 73 (.fa 0 (.t 72)),
 sD 74 (.ld none (.t 73)),
 sD 10 (.mv (.t 74))])
 (.seq (.reg 0 [] [] [sD 75 (.mv (.t 7)),
 sD 76 (.mv (.t 10)),
 sD 77 (.call 62 [(.t 75), (.t 76)]),
 sD 11 (.mv (.t 77))])
 (.seq (.reg 0 [] [] [sD 78 (.mv (.t 7)),
 sD 79 (.mv (.t 10)),
 sD 80 (.mv (.t 11)),
 sD 81 (.call 41 [(.t 80), (.c (.bool true))]),
 sD 82 (.call 78 [(.t 78), (.t 79), (.t 81)])])
 (.seq (.seq (.reg 0 [] [] [sD 83 (.mv (.t 7)),
 sD 84 (.mv (.t 9)),
 sD 85 (.call 80 [(.t 83), (.t 84)]),
 sD 86 (.bin .neq .num (.t 85) (.c (.int .i64 1)))])
 (.cond (.t 86) (.seq (.reg 0 [] [] [sD 6 (.mv (.c (.bool false)))])
 .ret)
 .skip))
 (.seq (.reg 0 [] [] [sD 87 (.mv (.t 7)),
 sD 88 (.mv (.t 10)),
 sD 89 (.mv (.t 11)),
 sD 90 (.call 43 [(.t 89), (.c (.int .i64 3))]),
 sD 91 (.call 78 [(.t 87), (.t 88), (.t 90)])])
 (.seq (.seq (.reg 0 [] [] [sD 92 (.mv (.t 7)),
 sD 93 (.mv (.t 9)),
 sD 94 (.call 80 [(.t 92), (.t 93)]),
 sD 95 (.bin .neq .num (.t 94) (.c (.int .i64 1)))])
 (.cond (.t 95) (.seq (.reg 0 [] [] [sD 6 (.mv (.c (.bool false)))])
 .ret)
 .skip))
 (.seq (.reg 0 [] [] [sD 96 (.mv (.t 7)),
 sD 97 (.mv (.t 10)),
 sD 98 (.mv (.t 11)),
 sD 99 (.call 78 [(.t 96), (.t 97), (.t 98)])])
 (.seq (.reg 0 [] [] [sD 100 (.mv (.t 7)),
 sD 101 (.mv (.t 9)),
 sD 102 (.call 80 [(.t 100), (.t 101)]),
 sD 103 (.bin .eql .num (.t 102) (.c (.int .i64 0))),
 sD 104 (.mv (.t 103)),
 sG 105 104 true (.mv (.t 7)),
 sG 106 104 true (.mv (.t 8)),
 sG 107 104 true (.call 76 [(.t 105), (.t 106)]),
 sD 108 (.pick (.t 104) (.t 107) (.c (.bool false))),
 sD 109 (.mv (.t 108)),
 sG 110 109 true (.call 51 []),
 sD 111 (.pick (.t 109) (.t 110) (.c (.bool false))),
 sD 6 (.mv (.t 111))])
 .ret)))))))))))))))
def fn17 : IFun := ⟨112, [(.tmp 6)], an17.erase⟩
theorem ok17 : okFun Try.prog 17 fn17 = true := by kernel_rfl
theorem oka17 : okA fn17.ntmps fn17.results an17 = true := by kernel_rfl
def sh17 (C : CallA) (layouts0 l1 which2 : AV) (h : H) (R : AV → H → Prop) : Prop :=
 C 60 [(.int .i64 1000), layouts0, l1] h fun t15 h =>
 valA (extA t15 0) h fun t16 h =>
 valA (extA t15 1) h fun t17 h =>
 valA (binOp .eql .ptr t16 .nilp) h fun t19 h =>
 condA t19
  (C 51 [] h fun t20 h =>
  R t20 h)
  (C 57 [t16] h fun t22 h =>
 C 80 [t16, t22] h fun t25 h =>
 valA (binOp .neq .num t25 (.int .i64 0)) h fun t26 h =>
 whenA t26 false (fun K => K t16 h) h fun t28 h =>
 whenA t26 false (fun K => K t17 h) h fun t29 h =>
 whenA t26 false (fun K => C 76 [t28, t29] h K) h fun t30 h =>
 whenA t26 false (fun K => valA (unOp .not t30) h K) h fun t31 h =>
 valA (pickA t26 (.bool true) t31) h fun t32 h =>
 whenA t32 false (fun K => K t16 h) h fun t34 h =>
 whenA t32 false (fun K => C 80 [t34, (.int .i64 (-1))] h K) h fun t35 h =>
 whenA t32 false (fun K => valA (binOp .neq .num t35 (.int .i64 1)) h K) h fun t36 h =>
 valA (pickA t32 (.bool true) t36) h fun t37 h =>
 whenA t37 false (fun K => K t16 h) h fun t39 h =>
 whenA t37 false (fun K => C 80 [t39, (.int .i64 1001)] h K) h fun t40 h =>
 whenA t37 false (fun K => valA (binOp .neq .num t40 (.int .i64 1)) h K) h fun t41 h =>
 valA (pickA t37 (.bool true) t41) h fun t42 h =>
 condA t42
  (R (.bool false) h)
  (valA (binOp .lss .num t22 (.int .i64 1000)) h fun t44 h =>
 whenA t44 true (fun K => K t16 h) h fun t46 h =>
 whenA t44 true (fun K => K t22 h) h fun t47 h =>
 whenA t44 true (fun K => valA (binOp .add .num t47 (.int .i64 1)) h K) h fun t48 h =>
 whenA t44 true (fun K => C 80 [t46, t48] h K) h fun t49 h =>
 whenA t44 true (fun K => valA (binOp .neq .num t49 (.int .i64 1)) h K) h fun t50 h =>
 valA (pickA t44 t50 (.bool false)) h fun t51 h =>
 condA t51
  (R (.bool false) h)
  (valA (nilcA t17) h fun t53 h =>
 valA (faA 2 t53) h fun t54 h =>
 valA (ldA h none t54) h fun t55 h =>
 valA (lenA false t55) h fun t56 h =>
 valA (binOp .eql .num t56 (.int .i64 0)) h fun t57 h =>
 condA t57
  (C 51 [] h fun t58 h =>
  R t58 h)
  (valA (nilcA t17) h fun t60 h =>
 valA (faA 2 t60) h fun t61 h =>
 valA (ldA h none t61) h fun t62 h =>
 valA (nilcA t17) h fun t65 h =>
 valA (faA 2 t65) h fun t66 h =>
 valA (ldA h none t66) h fun t67 h =>
 valA (lenA false t67) h fun t68 h =>
 valA (cvA .u64 t68) h fun t69 h =>
 valA (binOp .rem .num which2 t69) h fun t70 h =>
 valA (cvA .i64 t70) h fun t71 h =>
 valA (iaA 5 t62 t71) h fun t72 h =>
 valA (faA 0 t72) h fun t73 h =>
 valA (ldA h none t73) h fun t74 h =>
 C 62 [t16, t74] h fun t77 h =>
 C 41 [t77, (.bool true)] h fun t81 h =>
 C 78 [t16, t74, t81] h fun t82 h =>
 C 80 [t16, t22] h fun t85 h =>
 valA (binOp .neq .num t85 (.int .i64 1)) h fun t86 h =>
 condA t86
  (R (.bool false) h)
  (C 43 [t77, (.int .i64 3)] h fun t90 h =>
 C 78 [t16, t74, t90] h fun t91 h =>
 C 80 [t16, t22] h fun t94 h =>
 valA (binOp .neq .num t94 (.int .i64 1)) h fun t95 h =>
 condA t95
  (R (.bool false) h)
  (C 78 [t16, t74, t77] h fun t99 h =>
 C 80 [t16, t22] h fun t102 h =>
 valA (binOp .eql .num t102 (.int .i64 0)) h fun t103 h =>
 whenA t103 true (fun K => K t16 h) h fun t105 h =>
 whenA t103 true (fun K => K t17 h) h fun t106 h =>
 whenA t103 true (fun K => C 76 [t105, t106] h K) h fun t107 h =>
 valA (pickA t103 t107 (.bool false)) h fun t108 h =>
 whenA t108 true (fun K => C 51 [] h K) h fun t110 h =>
 valA (pickA t108 t110 (.bool false)) h fun t111 h =>
 R t111 h))))))
theorem she17 (C : CallA) (layouts0 l1 which2 : AV) (h : H) (R : AV → H → Prop) : wpA C an17 (argE [layouts0, l1, which2]) h (outA [(.tmp 6)] R) = sh17 C layouts0 l1 which2 h R := by kernel_rfl
/-! bellows/bellowslaw02.HeapNobody -/
def an18 : ACode :=
 (.seq (.reg 0 [] [] [sD 6 (.mv (.c (.bool false)))])
 (.seq (.reg 0 [] [] [sD 7 (.mv (.c .nilp))])
 (.seq (.reg 0 [] [] [sD 25 (.mv (.t 7)),
 sD 26 (.mv (.t 0)),
 sD 27 (.mv (.t 1)),
 sD 28 (.call 52 [(.t 25), (.t 26), (.t 27)]),
 sD 24 (.mv (.t 28)),
 sD 29 (.ext (.t 24) 0),
 sD 30 (.ext (.t 24) 1),
 sD 8 (.mv (.t 29)),
 sD 9 (.mv (.t 30))])
 (.seq (.reg 0 [] [] [sD 32 (.mv (.t 7)),
 sD 33 (.mv (.t 0)),
 sD 34 (.mv (.t 1)),
 sD 35 (.call 55 [(.t 32), (.t 33), (.t 34)]),
 sD 31 (.mv (.t 35)),
 sD 36 (.ext (.t 31) 0),
 sD 37 (.ext (.t 31) 1),
 sD 10 (.mv (.t 36)),
 sD 11 (.mv (.t 37))])
 (.seq (.reg 0 [] [] [sD 39 (.mv (.t 7)),
 sD 40 (.mv (.t 0)),
 sD 41 (.call 81 [(.t 39), (.t 40)]),
 sD 38 (.mv (.t 41)),
 sD 42 (.ext (.t 38) 0),
 sD 43 (.ext (.t 38) 1),
 sD 12 (.mv (.t 42)),
 sD 13 (.mv (.t 43))])
 (.seq (.reg 0 [] [] [sD 45 (.mv (.t 7)),
 sD 46 (.mv (.t 0)),
 sD 47 (.call 72 [(.t 45), (.t 46)]),
 sD 44 (.mv (.t 47)),
 sD 48 (.ext (.t 44) 0),
 sD 49 (.ext (.t 44) 1),
 sD 14 (.mv (.t 48)),
 sD 15 (.mv (.t 49))])
 (.seq (.reg 0 [] [] [sD 51 (.mv (.t 7)),
 sD 52 (.mv (.t 0)),
 sD 53 (.mv (.t 1)),
 sD 54 (.call 64 [(.t 51), (.t 52), (.t 53)]),
 sD 50 (.mv (.t 54)),
 sD 55 (.ext (.t 50) 0),
 sD 56 (.ext (.t 50) 1),
 sD 16 (.mv (.t 55)),
 sD 17 (.mv (.t 56))])
 (.seq (.reg 0 [] [] [sD 58 (.mv (.t 7)),
 sD 59 (.mv (.t 0)),
 sD 60 (.mv (.t 1)),
 sD 61 (.call 66 [(.t 58), (.t 59), (.t 60)]),
 sD 57 (.mv (.t 61)),
 sD 62 (.ext (.t 57) 0),
 sD 63 (.ext (.t 57) 1),
 sD 18 (.mv (.t 62)),
 sD 19 (.mv (.t 63))])
 (.seq (.reg 0 [] [] [sD 65 (.mv (.t 7)),
 sD 66 (.mv (.t 0)),
 sD 67 (.call 71 [(.t 65), (.t 66)]),
 sD 64 (.mv (.t 67)),
 sD 68 (.ext (.t 64) 0),
 sD 69 (.ext (.t 64) 1),
 sD 20 (.mv (.t 68)),
 sD 21 (.mv (.t 69))])
 (.seq (.reg 0 [] [] [sD 70 (.mv (.t 7)),
 sD 71 (.mv (.t 0)),
 sD 72 (.mv (.t 2)),
 sD 73 (.call 78 [(.t 70), (.t 71), (.t 72)])])
 (.seq (.seq (.reg 0 [] [] [sD 74 (.mv (.t 9)),
 sD 75 (.mv (.t 11)),
 sD 76 (.mv (.t 13)),
 sD 77 (.mv (.t 15)),
 sD 78 (.mv (.t 17)),
 sD 79 (.mv (.t 19)),
 sD 80 (.mv (.t 21)),
 sD 81 (.mv (.t 7)),
 sD 82 (.mv (.t 0)),
 sD 83 (.mv (.t 1)),
 sD 84 (.mv (.t 2)),
 sD 85 (.call 63 [(.t 81), (.t 82), (.t 83), (.t 84)]),
 sD 86 (.mv (.t 7)),
 sD 87 (.mv (.t 0)),
 sD 88 (.mv (.t 1)),
 sD 89 (.mv (.t 2)),
 sD 90 (.cv none (.toInt .u8) (.t 89)),
 sD 91 (.call 65 [(.t 86), (.t 87), (.t 88), (.t 90)]),
 sD 92 (.mv (.t 7)),
 sD 93 (.mv (.t 0)),
 sD 94 (.call 80 [(.t 92), (.t 93)]),
 sD 95 (.build [(.int .i64 0), (.int .i64 0), (.int .i64 0), (.int .i64 0), (.int .i64 0), (.int .i64 0), (.int .i64 0), (.int .i64 0), (.int .i64 0), (.int .i64 0)] [(0, 1, (.t 74)), (1, 1, (.t 75)), (2, 1, (.t 76)), (3, 1, (.t 77)), (4, 1, (.t 78)), (5, 1, (.t 79)), (6, 1, (.t 80)), (7, 1, (.t 85)), (8, 1, (.t 91)), (9, 1, (.t 94))]),
 sD 96 (.mv (.c (.int .i64 0)))])
 (.block 0 (.loop [96] 118842243771396506390315925637 (.seq (.reg 0 [] [] [sD 97 (.bin .lss .num (.t 96) (.c (.int .i64 10)))])
 (.seq (.cond (.t 97) .skip
 (.exit 0))
 (.seq (.block 1 (.seq (.reg 0 [] [] [sD 98 (.ix (some (10, 1, none)) (.t 95) (.t 96)),
 sD 23 (.mv (.t 98))])
 (.seq (.reg 0 [] [] [sD 99 (.mv (.t 23)),
 sD 100 (.bin .neq .num (.t 99) (.c (.int .i64 1)))])
 (.cond (.t 100) (.seq (.reg 0 [] [] [sD 6 (.mv (.c (.bool false)))])
 .ret)
 .skip))))
 (.reg 0 [] [] [sD 101 (.bin .add .num (.t 96) (.c (.int .i64 1))),
 sD 96 (.mv (.t 101))])))))))
 (.seq (.reg 0 [] [] [sD 102 (.mv (.t 7)),
 sD 103 (.mv (.t 0)),
 sD 104 (.call 56 [(.t 102), (.t 103)]),
 sD 105 (.un .not (.t 104)),
 sD 106 (.mv (.t 105)),
 sG 107 106 true (.mv (.t 7)),
 sG 108 106 true (.mv (.t 2)),
 sG 109 106 true (.call 68 [(.t 107), (.t 108)]),
 sG 110 106 true (.un .not (.t 109)),
 sD 111 (.pick (.t 106) (.t 110) (.c (.bool false))),
 sD 112 (.mv (.t 111)),
 sG 113 112 true (.mv (.t 7)),
 sG 114 112 true (.mv (.t 0)),
 sG 115 112 true (.call 62 [(.t 113), (.t 114)]),
 sG 116 112 true (.bin .eql .num (.t 115) (.c (.int .u64 0))),
 sD 117 (.pick (.t 112) (.t 116) (.c (.bool false))),
 sD 118 (.mv (.t 117)),
 sG 119 118 true (.mv (.t 7)),
 sG 120 118 true (.call 58 [(.t 119)]),
 sG 121 118 true (.bin .eql .num (.t 120) (.c (.int .i64 0))),
 sD 122 (.pick (.t 118) (.t 121) (.c (.bool false))),
 sD 123 (.mv (.t 122)),
 sG 124 123 true (.mv (.t 7)),
 sG 125 123 true (.call 57 [(.t 124)]),
 sG 126 123 true (.bin .eql .num (.t 125) (.c (.int .i64 0))),
 sD 127 (.pick (.t 123) (.t 126) (.c (.bool false))),
 sD 128 (.mv (.t 127)),
 sG 129 128 true (.mv (.t 7)),
 sG 130 128 true (.call 59 [(.t 129)]),
 sG 131 128 true (.len false (.t 130)),
 sG 132 128 true (.bin .eql .num (.t 131) (.c (.int .i64 0))),
 sD 133 (.pick (.t 128) (.t 132) (.c (.bool false))),
 sD 134 (.mv (.t 133)),
 sG 135 134 true (.call 51 []),
 sD 136 (.pick (.t 134) (.t 135) (.c (.bool false))),
 sD 6 (.mv (.t 136))])
 .ret))))))))))))
def fn18 : IFun := ⟨137, [(.tmp 6)], an18.erase⟩
theorem ok18 : okFun Try.prog 18 fn18 = true := by kernel_rfl
theorem oka18 : okA fn18.ntmps fn18.results an18 = true := by kernel_rfl
def sh18 (C : CallA) (a0 b1 w2 : AV) (h : H) (R : AV → H → Prop) : Prop :=
 C 52 [.nilp, a0, b1] h fun t28 h =>
 valA (extA t28 0) h fun t29 h =>
 valA (extA t28 1) h fun t30 h =>
 C 55 [.nilp, a0, b1] h fun t35 h =>
 valA (extA t35 0) h fun t36 h =>
 valA (extA t35 1) h fun t37 h =>
 C 81 [.nilp, a0] h fun t41 h =>
 valA (extA t41 0) h fun t42 h =>
 valA (extA t41 1) h fun t43 h =>
 C 72 [.nilp, a0] h fun t47 h =>
 valA (extA t47 0) h fun t48 h =>
 valA (extA t47 1) h fun t49 h =>
 C 64 [.nilp, a0, b1] h fun t54 h =>
 valA (extA t54 0) h fun t55 h =>
 valA (extA t54 1) h fun t56 h =>
 C 66 [.nilp, a0, b1] h fun t61 h =>
 valA (extA t61 0) h fun t62 h =>
 valA (extA t61 1) h fun t63 h =>
 C 71 [.nilp, a0] h fun t67 h =>
 valA (extA t67 0) h fun t68 h =>
 valA (extA t67 1) h fun t69 h =>
 C 78 [.nilp, a0, w2] h fun t73 h =>
 joinA (fun (h : H) =>
  C 56 [.nilp, a0] h fun t104 h =>
  valA (unOp .not t104) h fun t105 h =>
  whenA t105 true (fun K => K .nilp h) h fun t107 h =>
  whenA t105 true (fun K => K w2 h) h fun t108 h =>
  whenA t105 true (fun K => C 68 [t107, t108] h K) h fun t109 h =>
  whenA t105 true (fun K => valA (unOp .not t109) h K) h fun t110 h =>
  valA (pickA t105 t110 (.bool false)) h fun t111 h =>
  whenA t111 true (fun K => K .nilp h) h fun t113 h =>
  whenA t111 true (fun K => K a0 h) h fun t114 h =>
  whenA t111 true (fun K => C 62 [t113, t114] h K) h fun t115 h =>
  whenA t111 true (fun K => valA (binOp .eql .num t115 (.int .u64 0)) h K) h fun t116 h =>
  valA (pickA t111 t116 (.bool false)) h fun t117 h =>
  whenA t117 true (fun K => K .nilp h) h fun t119 h =>
  whenA t117 true (fun K => C 58 [t119] h K) h fun t120 h =>
  whenA t117 true (fun K => valA (binOp .eql .num t120 (.int .i64 0)) h K) h fun t121 h =>
  valA (pickA t117 t121 (.bool false)) h fun t122 h =>
  whenA t122 true (fun K => K .nilp h) h fun t124 h =>
  whenA t122 true (fun K => C 57 [t124] h K) h fun t125 h =>
  whenA t122 true (fun K => valA (binOp .eql .num t125 (.int .i64 0)) h K) h fun t126 h =>
  valA (pickA t122 t126 (.bool false)) h fun t127 h =>
  whenA t127 true (fun K => K .nilp h) h fun t129 h =>
  whenA t127 true (fun K => C 59 [t129] h K) h fun t130 h =>
  whenA t127 true (fun K => valA (lenA false t130) h K) h fun t131 h =>
  whenA t127 true (fun K => valA (binOp .eql .num t131 (.int .i64 0)) h K) h fun t132 h =>
  valA (pickA t127 t132 (.bool false)) h fun t133 h =>
  whenA t133 true (fun K => C 51 [] h K) h fun t135 h =>
  valA (pickA t133 t135 (.bool false)) h fun t136 h =>
  R t136 h) fun J =>
 C 63 [.nilp, a0, b1, w2] h fun t85 h =>
 valA (cvA .u8 w2) h fun t90 h =>
 C 65 [.nilp, a0, b1, t90] h fun t91 h =>
 C 80 [.nilp, a0] h fun t94 h =>
 valA (buildA (fillV [(.int .i64 0), (.int .i64 0), (.int .i64 0), (.int .i64 0), (.int .i64 0), (.int .i64 0), (.int .i64 0), (.int .i64 0), (.int .i64 0), (.int .i64 0)] [(0, 1, t30), (1, 1, t37), (2, 1, t43), (3, 1, t49), (4, 1, t56), (5, 1, t63), (6, 1, t69), (7, 1, t85), (8, 1, t91), (9, 1, t94)])) h fun t95 h =>
 loopA (fun N l h => argA l 0 fun t96 => 
  valA (binOp .lss .num t96 (.int .i64 10)) h fun t97 h =>
  condA t97
   (valA (ixArrA 10 1 none t95 t96) h fun t98 h =>
  valA (binOp .neq .num t98 (.int .i64 1)) h fun t100 h =>
  condA t100
   (R (.bool false) h)
   (valA (binOp .add .num t96 (.int .i64 1)) h fun t101 h =>
  N [t101] h))
   (J h)) [(.int .i64 0)] h
theorem she18 (C : CallA) (a0 b1 w2 : AV) (h : H) (R : AV → H → Prop) : wpA C an18 (argE [a0, b1, w2]) h (outA [(.tmp 6)] R) = sh18 C a0 b1 w2 h R := by kernel_rfl
/-! bellows/bellowslaw03.GcLong -/
def an19 : ACode :=
 (.seq (.reg 0 [] [] [sD 6 (.mv (.c (.bool false)))])
 (.seq (.reg 0 [] [] [sD 20 (.mv (.t 0)),
 sD 21 (.mn [(.t 20), (.c (.int .i64 400))]),
 sD 22 (.mx [(.c (.int .i64 1)), (.t 21)]),
 sD 0 (.mv (.t 22))])
 (.seq (.reg 0 [] [] [sD 24 (.mv (.t 0)),
 sD 25 (.bin .mul .num (.c (.int .i64 3)) (.t 24)),
 sD 26 (.bin .add .num (.t 25) (.c (.int .i64 3))),
 sD 27 (.build [(.int .i64 0), (.int .i64 0)] [(0, 1, (.c (.int .i64 1))), (1, 1, (.c (.int .i64 2)))]),
 sD 28 (.mksl none 60 [(.int .i64 0), (.int .i64 0)] 1 [(0, 2, (.t 27))]),
 sD 29 (.call 49 [(.t 26), (.t 28)]),
 sD 23 (.mv (.t 29)),
 sD 30 (.ext (.t 23) 0),
 sD 31 (.ext (.t 23) 1),
 sD 7 (.mv (.t 30)),
 sD 8 (.mv (.t 31))])
 (.seq (.seq (.reg 0 [] [] [sD 32 (.mv (.t 8)),
 sD 33 (.bin .neq .num (.t 32) (.c (.int .i64 0))),
 sD 34 (.mv (.t 33)),
 sG 35 34 false (.mv (.t 7)),
 sG 36 34 false (.bin .eql .ptr (.t 35) (.c .nilp)),
 sD 37 (.pick (.t 34) (.c (.bool true)) (.t 36))])
 (.cond (.t 37) (.seq (.reg 0 [] [] [sD 6 (.mv (.c (.bool false)))])
 .ret)
 .skip))
 (.seq (.reg 0 [] [] [sD 38 (.mv (.t 7)),
 sD 39 (.call 55 [(.t 38), (.c (.int .i64 0)), (.c (.int .i64 2))])])
 (.seq (.reg 0 [] [] [sD 9 (.mv (.c .nilsl))])
 (.seq (.seq (.reg 0 [] [] [sD 40 (.mv (.t 0)),
 sD 41 (.mv (.c (.int .i64 0)))])
 (.block 0 (.loop [9, 41] 3298534883975 (.seq (.reg 0 [] [] [sD 42 (.bin .lss .num (.t 41) (.t 40))])
 (.seq (.cond (.t 42) .skip
 (.exit 0))
 (.seq (.block 1 (.seq (.reg 0 [] [] [sD 44 (.mv (.t 7)),
 sD 45 (.call 55 [(.t 44), (.c (.int .i64 0)), (.c (.int .i64 2))]),
 sD 43 (.mv (.t 45)),
 sD 46 (.ext (.t 43) 0),
 sD 47 (.ext (.t 43) 1),
 sD 10 (.mv (.t 46)),
 sD 11 (.mv (.t 47))])
 (.seq (.seq (.reg 0 [] [] [sD 48 (.mv (.t 11)),
 sD 49 (.bin .neq .num (.t 48) (.c (.int .i64 0)))])
 (.cond (.t 49) (.seq (.reg 0 [] [] [sD 6 (.mv (.c (.bool false)))])
 .ret)
 .skip))
 (.reg 0 [] [] [sD 50 (.mv (.t 9)),
 sD 51 (.mv (.t 10)),
 sD 52 (.mksl none 3 [(.int .i64 0)] 1 [(0, 1, (.t 51))]),
 sD 53 (.app 3 1 8 [(.int .i64 0)] (.t 50) (.t 52)),
 sD 9 (.mv (.t 53))]))))
 (.reg 0 [] [] [sD 54 (.bin .add .num (.t 41) (.c (.int .i64 1))),
 sD 41 (.mv (.t 54))])))))))
 (.seq (.seq (.reg 0 [] [] [sD 55 (.mv (.t 0)),
 sD 56 (.mv (.c (.int .i64 0)))])
 (.block 2 (.loop [56] 108086391056892551 (.seq (.reg 0 [] [] [sD 57 (.bin .lss .num (.t 56) (.t 55))])
 (.seq (.cond (.t 57) .skip
 (.exit 2))
 (.seq (.block 3 (.seq (.reg 0 [] [] [sD 58 (.mv (.t 56)),
 sD 12 (.mv (.t 58))])
 (.seq (.reg 0 [] [] [sD 59 (.mv (.t 12)),
 sD 60 (.bin .add .num (.t 59) (.c (.int .i64 1))),
 sD 61 (.mv (.t 0)),
 sD 62 (.bin .rem .num (.t 60) (.t 61)),
 sD 13 (.mv (.t 62))])
 (.seq (.seq (.reg 0 [] [] [sD 63 (.mv (.t 2))])
 (.cond (.t 63) (.reg 0 [] [] [sD 64 (.mv (.t 12)),
 sD 65 (.mv (.t 0)),
 sD 66 (.bin .add .num (.t 64) (.t 65)),
 sD 67 (.bin .sub .num (.t 66) (.c (.int .i64 1))),
 sD 68 (.mv (.t 0)),
 sD 69 (.bin .rem .num (.t 67) (.t 68)),
 sD 13 (.mv (.t 69))])
 .skip))
 (.seq (.reg 0 [0, 1, 2, 3, 4, 5, 6, 7, 8, 9, 10, 11, 12, 13, 14, 15, 16, 17, 18, 19, 20, 21, 22] [[], [], [], [2, 1], [1, 2, 3], [], [], [6, 5], [5, 6, 7], [7, 6, 5, 8], [8, 5, 6, 7, 9, 3, 2, 1, 4, 0], [0, 4, 1, 2, 3, 9, 7, 6, 5, 8, 10], [10, 8, 5, 6, 7, 9, 3, 2, 1, 4, 0, 11], [11, 0, 4, 1, 2, 3, 9, 7, 6, 5, 8, 10, 12], [11, 0, 4, 1, 2, 3, 9, 7, 6, 5, 8, 10, 12], [11, 0, 4, 1, 2, 3, 9, 7, 6, 5, 8, 10, 12], [15, 12, 10, 8, 5, 6, 7, 9, 3, 2, 1, 4, 0, 11, 14], [14, 11, 0, 4, 1, 2, 3, 9, 7, 6, 5, 8, 10, 12, 15, 16], [11, 0, 4, 1, 2, 3, 9, 7, 6, 5, 8, 10, 12], [12, 10, 8, 5, 6, 7, 9, 3, 2, 1, 4, 0, 11, 18], [18, 19, 16, 15, 14, 17, 12, 10, 8, 5, 6, 7, 9, 3, 2, 1, 4, 0, 11, 13], [13, 11, 0, 4, 1, 2, 3, 9, 7, 6, 5, 8, 10, 12, 17, 14, 15, 16, 19, 18, 20], [20, 18, 19, 16, 15, 14, 17, 13, 21, 11, 0, 4, 1, 2, 3, 9, 7, 6, 5, 8, 10, 12]] [sD 70 (.mv (.t 7)),
 sD 71 (.mv (.t 9)),
 sD 72 (.mv (.t 12)),
 sD 73 (.ia none 1 (.t 71) (.t 72)),
 sD 74 (.ld none (.t 73)),
 sD 75 (.mv (.t 9)),
 sD 76 (.mv (.t 13)),
 sD 77 (.ia none 1 (.t 75) (.t 76)),
 sD 78 (.ld none (.t 77)),
 ⟨(some 79), none, (.call 82 [(.t 78)]), [⟨none, (.ld none (.t 73)), 74⟩]⟩,
 sD 80 (.call 63 [(.t 70), (.t 74), (.c (.int .i64 0)), (.t 79)]),
 sD 81 (.bin .neq .num (.t 80) (.c (.int .i64 0))),
 sD 82 (.mv (.t 81)),
 sG 83 82 false (.mv (.t 7)),
 sG 84 82 false (.mv (.t 9)),
 sG 85 82 false (.mv (.t 12)),
 sG 86 82 false (.ia none 1 (.t 84) (.t 85)),
 sG 87 82 false (.ld none (.t 86)),
 sG 88 82 false (.mv (.t 12)),
 ⟨(some 89), (some (82, false)), (.call 83 [(.t 88)]), [⟨(some (82, false)), (.ld none (.t 86)), 87⟩]⟩,
 sG 90 82 false (.call 63 [(.t 83), (.t 87), (.c (.int .i64 1)), (.t 89)]),
 sG 91 82 false (.bin .neq .num (.t 90) (.c (.int .i64 0))),
 sD 92 (.pick (.t 82) (.c (.bool true)) (.t 91))])
 (.cond (.t 92) (.seq (.reg 0 [] [] [sD 6 (.mv (.c (.bool false)))])
 .ret)
 .skip))))))
 (.reg 0 [] [] [sD 93 (.bin .add .num (.t 56) (.c (.int .i64 1))),
 sD 56 (.mv (.t 93))])))))))
 (.seq (.reg 0 [] [] [sD 94 (.mv (.t 1)),
 sD 95 (.cv none (.toInt .u64) (.t 94)),
 sD 96 (.mv (.t 0)),
 sD 97 (.cv none (.toInt .u64) (.t 96)),
 sD 98 (.bin .rem .num (.t 95) (.t 97)),
 sD 99 (.cv none (.toInt .i64) (.t 98)),
 sD 14 (.mv (.t 99))])
 (.seq (.reg 0 [] [] [sD 101 (.mv (.t 7)),
 sD 102 (.mv (.t 9)),
 sD 103 (.mv (.t 14)),
 sD 104 (.ia none 1 (.t 102) (.t 103)),
 sD 105 (.ld none (.t 104)),
 sD 106 (.call 82 [(.t 105)]),
 sD 107 (.mksl none 25 [(.int .u64 0)] 1 [(0, 1, (.t 106))]),
 sD 108 (.call 84 [(.t 101), (.t 107)]),
 sD 100 (.mv (.t 108)),
 sD 109 (.ext (.t 100) 0),
 sD 110 (.ext (.t 100) 1),
 sD 15 (.mv (.t 109)),
 sD 16 (.mv (.t 110))])
 (.seq (.seq (.reg 0 [] [] [sD 111 (.mv (.t 16)),
 sD 112 (.bin .neq .num (.t 111) (.c (.int .i64 0))),
 sD 113 (.mv (.t 112)),
 sG 114 113 false (.mv (.t 15)),
 sG 115 113 false (.len false (.t 114)),
 sG 116 113 false (.bin .neq .num (.t 115) (.c (.int .i64 1))),
 sD 117 (.pick (.t 113) (.c (.bool true)) (.t 116)),
 sD 118 (.mv (.t 117)),
 sG 119 118 false (.mv (.t 7)),
 sG 120 118 false (.call 57 [(.t 119)]),
 sG 121 118 false (.mv (.t 0)),
 sG 122 118 false (.bin .mul .num (.c (.int .i64 3)) (.t 121)),
 sG 123 118 false (.bin .neq .num (.t 120) (.t 122)),
 sD 124 (.pick (.t 118) (.c (.bool true)) (.t 123))])
 (.cond (.t 124) (.seq (.reg 0 [] [] [sD 6 (.mv (.c (.bool false)))])
 .ret)
 .skip))
 (.seq (.reg 0 [] [] [sD 125 (.mv (.t 15)),
 sD 126 (.ia none 1 (.t 125) (.c (.int .i64 0))),
 sD 127 (.ld none (.t 126)),
 sD 17 (.mv (.t 127))])
 (.seq (.seq (.reg 0 [] [] [sD 128 (.mv (.t 0)),
 sD 129 (.mv (.c (.int .i64 0)))])
 (.block 4 (.loop [14, 17, 129] 1020847100762815390390123822295304814725 (.seq (.reg 0 [] [] [sD 130 (.bin .lss .num (.t 129) (.t 128))])
 (.seq (.cond (.t 130) .skip
 (.exit 4))
 (.seq (.block 5 (.seq (.reg 0 [] [] [sD 132 (.mv (.t 7)),
 sD 133 (.mv (.t 17)),
 sD 134 (.call 85 [(.t 133)]),
 sD 135 (.call 64 [(.t 132), (.t 134), (.c (.int .i64 1))]),
 sD 131 (.mv (.t 135)),
 sD 136 (.ext (.t 131) 0),
 sD 137 (.ext (.t 131) 1),
 sD 18 (.mv (.t 136)),
 sD 19 (.mv (.t 137))])
 (.seq (.seq (.reg 0 [] [] [sD 138 (.mv (.t 19)),
 sD 139 (.bin .neq .num (.t 138) (.c (.int .i64 0))),
 sD 140 (.mv (.t 139)),
 sG 141 140 false (.mv (.t 18)),
 sG 142 140 false (.mv (.t 14)),
 sG 143 140 false (.call 83 [(.t 142)]),
 sG 144 140 false (.bin .neq .num (.t 141) (.t 143)),
 sD 145 (.pick (.t 140) (.c (.bool true)) (.t 144))])
 (.cond (.t 145) (.seq (.reg 0 [] [] [sD 6 (.mv (.c (.bool false)))])
 .ret)
 .skip))
 (.seq (.reg 0 [] [] [sD 146 (.mv (.t 14)),
 sD 147 (.bin .add .num (.t 146) (.c (.int .i64 1))),
 sD 148 (.mv (.t 0)),
 sD 149 (.bin .rem .num (.t 147) (.t 148)),
 sD 14 (.mv (.t 149))])
 (.seq (.seq (.reg 0 [] [] [sD 150 (.mv (.t 2))])
 (.cond (.t 150) (.reg 0 [] [] [sD 151 (.mv (.t 14)),
 sD 152 (.mv (.t 0)),
 sD 153 (.bin .add .num (.t 151) (.t 152)),
 sD 154 (.bin .sub .num (.t 153) (.c (.int .i64 2))),
 sD 155 (.mv (.t 0)),
 sD 156 (.bin .rem .num (.t 154) (.t 155)),
 sD 14 (.mv (.t 156))])
 .skip))
 (.reg 0 [] [] [sD 158 (.mv (.t 7)),
 sD 159 (.mv (.t 17)),
 sD 160 (.call 85 [(.t 159)]),
 sD 161 (.call 64 [(.t 158), (.t 160), (.c (.int .i64 0))]),
 sD 157 (.mv (.t 161)),
 sD 162 (.ext (.t 157) 0),
 sD 163 (.ext (.t 157) 1),
 sD 17 (.mv (.t 162))]))))))
 (.reg 0 [] [] [sD 164 (.bin .add .num (.t 129) (.c (.int .i64 1))),
 sD 129 (.mv (.t 164))])))))))
 (.seq (.reg 0 [] [] [sD 165 (.mv (.t 17)),
 sD 166 (.mv (.t 15)),
 sD 167 (.ia none 1 (.t 166) (.c (.int .i64 0))),
 sD 168 (.ld none (.t 167)),
 sD 169 (.bin .eql .num (.t 165) (.t 168)),
 sD 170 (.mv (.t 169)),
 sG 171 170 true (.call 86 []),
 sD 172 (.pick (.t 170) (.t 171) (.c (.bool false))),
 sD 6 (.mv (.t 172))])
 .ret))))))))))))))
def fn19 : IFun := ⟨173, [(.tmp 6)], an19.erase⟩
theorem ok19 : okFun Try.prog 19 fn19 = true := by kernel_rfl
theorem oka19 : okA fn19.ntmps fn19.results an19 = true := by kernel_rfl
def sh19 (C : CallA) (n0 hold1 back2 : AV) (h : H) (R : AV → H → Prop) : Prop :=
 valA (mnA [n0, (.int .i64 400)]) h fun t21 h =>
 valA (mxA [(.int .i64 1), t21]) h fun t22 h =>
 valA (binOp .mul .num (.int .i64 3) t22) h fun t25 h =>
 valA (binOp .add .num t25 (.int .i64 3)) h fun t26 h =>
 valA (buildA (fillV [(.int .i64 0), (.int .i64 0)] [(0, 1, (.int .i64 1)), (1, 1, (.int .i64 2))])) h fun t27 h =>
 mkslA h 60 1 (fillV [(.int .i64 0), (.int .i64 0)] [(0, 2, t27)]) fun t28 h =>
 C 49 [t26, t28] h fun t29 h =>
 valA (extA t29 0) h fun t30 h =>
 valA (extA t29 1) h fun t31 h =>
 valA (binOp .neq .num t31 (.int .i64 0)) h fun t33 h =>
 whenA t33 false (fun K => K t30 h) h fun t35 h =>
 whenA t33 false (fun K => valA (binOp .eql .ptr t35 .nilp) h K) h fun t36 h =>
 valA (pickA t33 (.bool true) t36) h fun t37 h =>
 condA t37
  (R (.bool false) h)
  (C 55 [t30, (.int .i64 0), (.int .i64 2)] h fun t39 h =>
 joinA (fun (at9' : AV) (h : H) =>
  joinA (fun (h : H) =>
   valA (cvA .u64 hold1) h fun t95 h =>
   valA (cvA .u64 t22) h fun t97 h =>
   valA (binOp .rem .num t95 t97) h fun t98 h =>
   valA (cvA .i64 t98) h fun t99 h =>
   valA (iaA 1 at9' t99) h fun t104 h =>
   valA (ldA h none t104) h fun t105 h =>
   C 82 [t105] h fun t106 h =>
   mkslA h 25 1 (fillV [(.int .u64 0)] [(0, 1, t106)]) fun t107 h =>
   C 84 [t30, t107] h fun t108 h =>
   valA (extA t108 0) h fun t109 h =>
   valA (extA t108 1) h fun t110 h =>
   valA (binOp .neq .num t110 (.int .i64 0)) h fun t112 h =>
   whenA t112 false (fun K => K t109 h) h fun t114 h =>
   whenA t112 false (fun K => valA (lenA false t114) h K) h fun t115 h =>
   whenA t112 false (fun K => valA (binOp .neq .num t115 (.int .i64 1)) h K) h fun t116 h =>
   valA (pickA t112 (.bool true) t116) h fun t117 h =>
   whenA t117 false (fun K => K t30 h) h fun t119 h =>
   whenA t117 false (fun K => C 57 [t119] h K) h fun t120 h =>
   whenA t117 false (fun K => K t22 h) h fun t121 h =>
   whenA t117 false (fun K => valA (binOp .mul .num (.int .i64 3) t121) h K) h fun t122 h =>
   whenA t117 false (fun K => valA (binOp .neq .num t120 t122) h K) h fun t123 h =>
   valA (pickA t117 (.bool true) t123) h fun t124 h =>
   condA t124
    (R (.bool false) h)
    (valA (iaA 1 t109 (.int .i64 0)) h fun t126 h =>
   valA (ldA h none t126) h fun t127 h =>
   joinA (fun (w17' : AV) (h : H) =>
    valA (iaA 1 t109 (.int .i64 0)) h fun t167 h =>
    valA (ldA h none t167) h fun t168 h =>
    valA (binOp .eql .num w17' t168) h fun t169 h =>
    whenA t169 true (fun K => C 86 [] h K) h fun t171 h =>
    valA (pickA t169 t171 (.bool false)) h fun t172 h =>
    R t172 h) fun J =>
   loopA (fun N l h => argA l 0 fun i14 => argA l 1 fun w17 => argA l 2 fun t129 => 
    valA (binOp .lss .num t129 t22) h fun t130 h =>
    condA t130
     (C 85 [w17] h fun t134 h =>
    C 64 [t30, t134, (.int .i64 1)] h fun t135 h =>
    valA (extA t135 0) h fun t136 h =>
    valA (extA t135 1) h fun t137 h =>
    valA (binOp .neq .num t137 (.int .i64 0)) h fun t139 h =>
    whenA t139 false (fun K => K t136 h) h fun t141 h =>
    whenA t139 false (fun K => K i14 h) h fun t142 h =>
    whenA t139 false (fun K => C 83 [t142] h K) h fun t143 h =>
    whenA t139 false (fun K => valA (binOp .neq .num t141 t143) h K) h fun t144 h =>
    valA (pickA t139 (.bool true) t144) h fun t145 h =>
    condA t145
     (R (.bool false) h)
     (valA (binOp .add .num i14 (.int .i64 1)) h fun t147 h =>
    valA (binOp .rem .num t147 t22) h fun t149 h =>
    joinA (fun (i14'_2 : AV) (h : H) =>
     C 85 [w17] h fun t160 h =>
     C 64 [t30, t160, (.int .i64 0)] h fun t161 h =>
     valA (extA t161 0) h fun t162 h =>
     valA (extA t161 1) h fun t163 h =>
     valA (binOp .add .num t129 (.int .i64 1)) h fun t164 h =>
    N [i14'_2, t162, t164] h) fun J_10 =>
    condA back2
     (valA (binOp .add .num t149 t22) h fun t153 h =>
     valA (binOp .sub .num t153 (.int .i64 2)) h fun t154 h =>
     valA (binOp .rem .num t154 t22) h fun t156 h =>
     J_10 t156 h)
     (J_10 t149 h)))
     (J w17 h)) [t99, t127, (.int .i64 0)] h)) fun J_11 =>
  loopA (fun N_12 l h => argA l 0 fun t56 => 
   valA (binOp .lss .num t56 t22) h fun t57 h =>
   condA t57
    (valA (binOp .add .num t56 (.int .i64 1)) h fun t60 h =>
   valA (binOp .rem .num t60 t22) h fun t62 h =>
   joinA (fun (k13'_13 : AV) (h : H) =>
    valA (iaA 1 at9' t56) h fun t73 h =>
    valA (ldA h none t73) h fun t74 h =>
    valA (iaA 1 at9' k13'_13) h fun t77 h =>
    valA (ldA h none t77) h fun t78 h =>
    C 82 [t78] h fun t79 h =>
    againK (valA (ldA h none t73) h (fun v _ => v = t74)) <|
    C 63 [t30, t74, (.int .i64 0), t79] h fun t80 h =>
    valA (binOp .neq .num t80 (.int .i64 0)) h fun t81 h =>
    whenA t81 false (fun K => K t30 h) h fun t83 h =>
    whenA t81 false (fun K => K at9' h) h fun t84 h =>
    whenA t81 false (fun K => K t56 h) h fun t85 h =>
    whenA t81 false (fun K => valA (iaA 1 t84 t85) h K) h fun t86 h =>
    whenA t81 false (fun K => valA (ldA h none t86) h K) h fun t87 h =>
    whenA t81 false (fun K => K t56 h) h fun t88 h =>
    whenA t81 false (fun K => C 83 [t88] h K) h fun t89 h =>
    againK (whenP t81 false (valA (ldA h none t86) h (fun v _ => v = t87))) <|
    whenA t81 false (fun K => C 63 [t83, t87, (.int .i64 1), t89] h K) h fun t90 h =>
    whenA t81 false (fun K => valA (binOp .neq .num t90 (.int .i64 0)) h K) h fun t91 h =>
    valA (pickA t81 (.bool true) t91) h fun t92 h =>
    condA t92
     (R (.bool false) h)
     (valA (binOp .add .num t56 (.int .i64 1)) h fun t93 h =>
   N_12 [t93] h)) fun J_21 =>
   condA back2
    (valA (binOp .add .num t56 t22) h fun t66 h =>
    valA (binOp .sub .num t66 (.int .i64 1)) h fun t67 h =>
    valA (binOp .rem .num t67 t22) h fun t69 h =>
    J_21 t69 h)
    (J_21 t62 h))
    (J_11 h)) [(.int .i64 0)] h) fun J_22 =>
 loopA (fun N_23 l h => argA l 0 fun at9 => argA l 1 fun t41 => 
  valA (binOp .lss .num t41 t22) h fun t42 h =>
  condA t42
   (C 55 [t30, (.int .i64 0), (.int .i64 2)] h fun t45 h =>
  valA (extA t45 0) h fun t46 h =>
  valA (extA t45 1) h fun t47 h =>
  valA (binOp .neq .num t47 (.int .i64 0)) h fun t49 h =>
  condA t49
   (R (.bool false) h)
   (mkslA h 3 1 (fillV [(.int .i64 0)] [(0, 1, t46)]) fun t52 h =>
  appendA h 3 1 8 at9 t52 fun t53 h =>
  valA (binOp .add .num t41 (.int .i64 1)) h fun t54 h =>
  N_23 [t53, t54] h))
   (J_22 at9 h)) [.nilsl, (.int .i64 0)] h)
theorem she19 (C : CallA) (n0 hold1 back2 : AV) (h : H) (R : AV → H → Prop) : wpA C an19 (argE [n0, hold1, back2]) h (outA [(.tmp 6)] R) = sh19 C n0 hold1 back2 h R := by kernel_rfl
end Go.Proofs.Ytljkkfcokpimkaa.X
