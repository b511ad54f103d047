/- The plain programs of functions, printed; that they are the model's; what must hold ahead of each. -/
import Derived.Test.YtdljelicbnjfjaaGreatProg
import Derived.Test.YtdljelicbnjfjaaGreatXo
set_option maxRecDepth 100000
set_option linter.unusedVariables false
namespace Go.Proofs.YtdljelicbnjfjaaGreat.X
open Go
/-! bellows/bellowslaw05.VerifyOrder -/
def an6 : ACode :=
 (.seq (.reg 0 [] [] [sD 3 (.bx none 46 (.t 0)),
 sD 4 (.bx none 46 (.t 1)),
 sD 5 (.bx none 46 (.t 2)),
 sD 6 (.mv (.c (.bool false)))])
 (.seq (.reg 0 [0, 2, 4, 1, 3, 5, 6, 7, 8] [[], [0], [], [0, 1, 2], [], [2, 1, 0, 3, 4], [4, 3, 2, 5, 0, 1], [5, 4, 6, 2, 1, 0, 3], [6, 7, 4, 3, 0, 1, 2, 5]] [sD 9 (.ld (some 2) (.t 3)),
 sD 11 (.ld (some 2) (.t 4)),
 sD 13 (.ld (some 2) (.t 5)),
 ⟨(some 10), none, (.call 20 [(.t 9)]), [⟨none, (.ld (some 2) (.t 4)), 11⟩, ⟨none, (.ld (some 2) (.t 5)), 13⟩]⟩,
 ⟨(some 12), none, (.call 20 [(.t 11)]), [⟨none, (.ld (some 2) (.t 5)), 13⟩]⟩,
 sD 14 (.call 20 [(.t 13)]),
 sN (.st 2 (.t 3) (.t 10)),
 sN (.st 2 (.t 4) (.t 12)),
 sN (.st 2 (.t 5) (.t 14))])
 (.seq (.reg 0 [] [] [sD 15 (.ld (some 2) (.t 3)),
 sD 16 (.ld (some 2) (.t 4)),
 sD 17 (.call 21 [(.t 15), (.t 16)]),
 sD 7 (.al none 46 [(.bool false), .nilsl]),
 sN (.st 2 (.t 7) (.t 17))])
 (.seq (.seq (.reg 0 [] [] [sD 18 (.ld (some 2) (.t 3)),
 sD 19 (.ld (some 2) (.t 3)),
 sD 20 (.call 23 [(.t 18), (.t 19)]),
 sD 21 (.un .not (.t 20)),
 sD 22 (.mv (.t 21)),
 sG 23 22 false (.ld (some 2) (.t 3)),
 sG 24 22 false (.ld (some 2) (.t 4)),
 sG 25 22 false (.call 23 [(.t 23), (.t 24)]),
 sG 26 22 false (.mv (.t 25)),
 sG 27 26 true (.ld (some 2) (.t 4)),
 sG 28 26 true (.ld (some 2) (.t 5)),
 sG 29 26 true (.call 23 [(.t 27), (.t 28)]),
 sG 30 22 false (.pick (.t 26) (.t 29) (.c (.bool false))),
 sG 31 22 false (.mv (.t 30)),
 sG 32 31 true (.ld (some 2) (.t 3)),
 sG 33 31 true (.ld (some 2) (.t 5)),
 sG 34 31 true (.call 23 [(.t 32), (.t 33)]),
 sG 35 31 true (.un .not (.t 34)),
 sG 36 22 false (.pick (.t 31) (.t 35) (.c (.bool false))),
 sD 37 (.pick (.t 22) (.c (.bool true)) (.t 36)),
 sD 38 (.mv (.t 37)),
 sG 39 38 false (.ld (some 2) (.t 3)),
 sG 40 38 false (.ld (some 2) (.t 7)),
 sG 41 38 false (.call 23 [(.t 39), (.t 40)]),
 sG 42 38 false (.un .not (.t 41)),
 sD 43 (.pick (.t 38) (.c (.bool true)) (.t 42)),
 sD 44 (.mv (.t 43)),
 sG 45 44 false (.ld (some 2) (.t 4)),
 sG 46 44 false (.ld (some 2) (.t 7)),
 sG 47 44 false (.call 23 [(.t 45), (.t 46)]),
 sG 48 44 false (.un .not (.t 47)),
 sD 49 (.pick (.t 44) (.c (.bool true)) (.t 48))])
 (.cond (.t 49) (.seq (.reg 0 [] [] [sD 6 (.mv (.c (.bool false)))])
 .ret)
 .skip))
 (.seq (.seq (.reg 0 [] [] [sD 50 (.ld (some 2) (.t 3)),
 sD 51 (.ld (some 2) (.t 5)),
 sD 52 (.call 23 [(.t 50), (.t 51)]),
 sD 53 (.mv (.t 52)),
 sG 54 53 true (.ld (some 2) (.t 4)),
 sG 55 53 true (.ld (some 2) (.t 5)),
 sG 56 53 true (.call 23 [(.t 54), (.t 55)]),
 sD 57 (.pick (.t 53) (.t 56) (.c (.bool false))),
 sD 58 (.mv (.t 57)),
 sG 59 58 true (.ld (some 2) (.t 7)),
 sG 60 58 true (.ld (some 2) (.t 5)),
 sG 61 58 true (.call 23 [(.t 59), (.t 60)]),
 sG 62 58 true (.un .not (.t 61)),
 sD 63 (.pick (.t 58) (.t 62) (.c (.bool false)))])
 (.cond (.t 63) (.seq (.reg 0 [] [] [sD 6 (.mv (.c (.bool false)))])
 .ret)
 .skip))
 (.seq (.reg 0 [] [] [sD 64 (.ld (some 2) (.t 4)),
 sD 65 (.ld (some 2) (.t 3)),
 sD 66 (.call 21 [(.t 64), (.t 65)]),
 sD 8 (.al none 46 [(.bool false), .nilsl]),
 sN (.st 2 (.t 8) (.t 66))])
 (.seq (.reg 0 [] [] [sD 67 (.fa 0 (.t 8)),
 sD 68 (.ld none (.t 67)),
 sD 69 (.fa 0 (.t 7)),
 sD 70 (.ld none (.t 69)),
 sD 71 (.bin .eql .bool (.t 68) (.t 70)),
 sD 72 (.mv (.t 71)),
 sG 73 72 true (.fa 1 (.t 8)),
 sG 74 72 true (.ld none (.t 73)),
 sG 75 72 true (.fa 1 (.t 7)),
 sG 76 72 true (.ld none (.t 75)),
 sG 77 72 true (.call 25 [(.t 74), (.t 76)]),
 sD 78 (.pick (.t 72) (.t 77) (.c (.bool false))),
 sD 79 (.mv (.t 78)),
 sG 80 79 true (.call 26 []),
 sD 81 (.pick (.t 79) (.t 80) (.c (.bool false))),
 sD 6 (.mv (.t 81))])
 .ret)))))))
def fn6 : IFun := ⟨82, [(.tmp 6)], an6.erase⟩
theorem ok6 : okFun Tryz.prog 6 fn6 = true := by kernel_rfl
theorem oka6 : okA fn6.ntmps fn6.results an6 = true := by kernel_rfl
def sh6 (C : CallA) (a0 b1 c2 : AV) (h : H) (R : AV → H → Prop) : Prop :=
 boxA h (AV.cells a0) 46 fun a3 h =>
 boxA h (AV.cells b1) 46 fun b4 h =>
 boxA h (AV.cells c2) 46 fun c5 h =>
 valA (ldA h (some 2) a3) h fun t9 h =>
 valA (ldA h (some 2) b4) h fun t11 h =>
 valA (ldA h (some 2) c5) h fun t13 h =>
 C 20 [t9] h fun t10 h =>
 againK (valA (ldA h (some 2) b4) h (fun v _ => v = t11)) <|
 againK (valA (ldA h (some 2) c5) h (fun v _ => v = t13)) <|
 C 20 [t11] h fun t12 h =>
 againK (valA (ldA h (some 2) c5) h (fun v _ => v = t13)) <|
 C 20 [t13] h fun t14 h =>
 memA (stA h 2 a3 t10) .undef fun _ h =>
 memA (stA h 2 b4 t12) .undef fun _ h =>
 memA (stA h 2 c5 t14) .undef fun _ h =>
 valA (ldA h (some 2) a3) h fun t15 h =>
 valA (ldA h (some 2) b4) h fun t16 h =>
 C 21 [t15, t16] h fun t17 h =>
 boxA h [(.bool false), .nilsl] 46 fun j7 h =>
 memA (stA h 2 j7 t17) .undef fun _ h =>
 valA (ldA h (some 2) a3) h fun t18 h =>
 valA (ldA h (some 2) a3) h fun t19 h =>
 C 23 [t18, t19] h fun t20 h =>
 valA (unOp .not t20) h fun t21 h =>
 whenA t21 false (fun K => valA (ldA h (some 2) a3) h K) h fun t23 h =>
 whenA t21 false (fun K => valA (ldA h (some 2) b4) h K) h fun t24 h =>
 whenA t21 false (fun K => C 23 [t23, t24] h K) h fun t25 h =>
 whenA t21 false (fun K => K t25 h) h fun t26 h =>
 whenA t26 true (fun K => valA (ldA h (some 2) b4) h K) h fun t27 h =>
 whenA t26 true (fun K => valA (ldA h (some 2) c5) h K) h fun t28 h =>
 whenA t26 true (fun K => C 23 [t27, t28] h K) h fun t29 h =>
 whenA t21 false (fun K => valA (pickA t26 t29 (.bool false)) h K) h fun t30 h =>
 whenA t21 false (fun K => K t30 h) h fun t31 h =>
 whenA t31 true (fun K => valA (ldA h (some 2) a3) h K) h fun t32 h =>
 whenA t31 true (fun K => valA (ldA h (some 2) c5) h K) h fun t33 h =>
 whenA t31 true (fun K => C 23 [t32, t33] h K) h fun t34 h =>
 whenA t31 true (fun K => valA (unOp .not t34) h K) h fun t35 h =>
 whenA t21 false (fun K => valA (pickA t31 t35 (.bool false)) h K) h fun t36 h =>
 valA (pickA t21 (.bool true) t36) h fun t37 h =>
 whenA t37 false (fun K => valA (ldA h (some 2) a3) h K) h fun t39 h =>
 whenA t37 false (fun K => valA (ldA h (some 2) j7) h K) h fun t40 h =>
 whenA t37 false (fun K => C 23 [t39, t40] h K) h fun t41 h =>
 whenA t37 false (fun K => valA (unOp .not t41) h K) h fun t42 h =>
 valA (pickA t37 (.bool true) t42) h fun t43 h =>
 whenA t43 false (fun K => valA (ldA h (some 2) b4) h K) h fun t45 h =>
 whenA t43 false (fun K => valA (ldA h (some 2) j7) h K) h fun t46 h =>
 whenA t43 false (fun K => C 23 [t45, t46] h K) h fun t47 h =>
 whenA t43 false (fun K => valA (unOp .not t47) h K) h fun t48 h =>
 valA (pickA t43 (.bool true) t48) h fun t49 h =>
 condA t49
 (R (.bool false) h)
 (valA (ldA h (some 2) a3) h fun t50 h =>
 valA (ldA h (some 2) c5) h fun t51 h =>
 C 23 [t50, t51] h fun t52 h =>
 whenA t52 true (fun K => valA (ldA h (some 2) b4) h K) h fun t54 h =>
 whenA t52 true (fun K => valA (ldA h (some 2) c5) h K) h fun t55 h =>
 whenA t52 true (fun K => C 23 [t54, t55] h K) h fun t56 h =>
 valA (pickA t52 t56 (.bool false)) h fun t57 h =>
 whenA t57 true (fun K => valA (ldA h (some 2) j7) h K) h fun t59 h =>
 whenA t57 true (fun K => valA (ldA h (some 2) c5) h K) h fun t60 h =>
 whenA t57 true (fun K => C 23 [t59, t60] h K) h fun t61 h =>
 whenA t57 true (fun K => valA (unOp .not t61) h K) h fun t62 h =>
 valA (pickA t57 t62 (.bool false)) h fun t63 h =>
 condA t63
 (R (.bool false) h)
 (valA (ldA h (some 2) b4) h fun t64 h =>
 valA (ldA h (some 2) a3) h fun t65 h =>
 C 21 [t64, t65] h fun t66 h =>
 boxA h [(.bool false), .nilsl] 46 fun k8 h =>
 memA (stA h 2 k8 t66) .undef fun _ h =>
 valA (faA 0 k8) h fun t67 h =>
 valA (ldA h none t67) h fun t68 h =>
 valA (faA 0 j7) h fun t69 h =>
 valA (ldA h none t69) h fun t70 h =>
 valA (binOp .eql .bool t68 t70) h fun t71 h =>
 whenA t71 true (fun K => valA (faA 1 k8) h K) h fun t73 h =>
 whenA t71 true (fun K => valA (ldA h none t73) h K) h fun t74 h =>
 whenA t71 true (fun K => valA (faA 1 j7) h K) h fun t75 h =>
 whenA t71 true (fun K => valA (ldA h none t75) h K) h fun t76 h =>
 whenA t71 true (fun K => C 25 [t74, t76] h K) h fun t77 h =>
 valA (pickA t71 t77 (.bool false)) h fun t78 h =>
 whenA t78 true (fun K => C 26 [] h K) h fun t80 h =>
 valA (pickA t78 t80 (.bool false)) h fun t81 h =>
 R t81 h))
theorem she6 (C : CallA) (a0 b1 c2 : AV) (h : H) (R : AV → H → Prop) : wpA C an6 (argE [a0, b1, c2]) h (outA [(.tmp 6)] R) = sh6 C a0 b1 c2 h R := by kernel_rfl
/-! bellows/bellowslaw05.short -/
def an20 : ACode :=
 (.seq (.reg 0 [] [] [sD 1 (.bx none 46 (.t 0)),
 sD 2 (.al none 46 [(.bool false), .nilsl])])
 (.seq (.seq (.reg 0 [] [] [sD 3 (.fa 1 (.t 1)),
 sD 4 (.ld none (.t 3)),
 sD 5 (.len false (.t 4)),
 sD 6 (.bin .gtr .num (.t 5) (.c (.int .i64 60)))])
 (.cond (.t 6) (.reg 0 [] [] [sD 7 (.fa 1 (.t 1)),
 sD 8 (.ld none (.t 7)),
 sD 9 (.sli (.row 1) (.t 8) none (some (.c (.int .i64 60))) none),
 sD 10 (.fa 1 (.t 1)),
 sN (.st 1 (.t 10) (.t 9))])
 .skip))
 (.seq (.reg 0 [] [] [sD 11 (.ld (some 2) (.t 1)),
 sN (.st 2 (.t 2) (.t 11))])
 .ret)))
def fn20 : IFun := ⟨12, [(.cell 2 (some 2))], an20.erase⟩
theorem ok20 : okFun Tryz.prog 20 fn20 = true := by kernel_rfl
theorem oka20 : okA fn20.ntmps fn20.results an20 = true := by kernel_rfl
def sh20 (C : CallA) (t0 : AV) (h : H) (R : AV → H → Prop) : Prop :=
 boxA h (AV.cells t0) 46 fun t1 h =>
 boxA h [(.bool false), .nilsl] 46 fun t2 h =>
 joinA (fun (h : H) =>
 valA (ldA h (some 2) t1) h fun t11 h =>
 memA (stA h 2 t2 t11) .undef fun _ h =>
 valA (ldA h (some 2) t2) h fun res _ => R res h) fun J =>
 valA (faA 1 t1) h fun t3 h =>
 valA (ldA h none t3) h fun t4 h =>
 valA (lenA false t4) h fun t5 h =>
 valA (binOp .gtr .num t5 (.int .i64 60)) h fun t6 h =>
 condA t6
 (valA (faA 1 t1) h fun t7 h =>
 valA (ldA h none t7) h fun t8 h =>
 valA (sliceOp (.row 1) t8 none (some (.int .i64 60)) none) h fun t9 h =>
 valA (faA 1 t1) h fun t10 h =>
 memA (stA h 1 t10 t9) .undef fun _ h =>
 J h)
 (J h)
theorem she20 (C : CallA) (t0 : AV) (h : H) (R : AV → H → Prop) : wpA C an20 (argE [t0]) h (outA [(.cell 2 (some 2))] R) = sh20 C t0 h R := by kernel_rfl
/-! bellows/verify.Join -/
def an21 : ACode :=
 (.seq (.reg 0 [] [] [sD 2 (.bx none 46 (.t 0)),
 sD 3 (.bx none 46 (.t 1)),
 sD 4 (.al none 46 [(.bool false), .nilsl])])
 (.seq (.reg 0 [] [] [sD 6 (.fa 1 (.t 2)),
 sD 7 (.ld none (.t 6)),
 sD 8 (.fa 1 (.t 3)),
 sD 9 (.ld none (.t 8)),
 sD 10 (.mksl none 36 [.nilsl, .nilsl] 2 [(0, 1, (.t 7)), (1, 1, (.t 9))]),
 sD 11 (.call 63 [(.t 10)]),
 sD 5 (.mv (.t 11))])
 (.seq (.reg 0 [] [] [sD 12 (.mv (.t 5)),
 sD 13 (.call 64 [(.t 12)])])
 (.seq (.reg 0 [0, 1, 2, 3, 4, 5, 6, 7, 8, 9] [[], [0], [0, 1], [1, 0, 2], [2, 0, 1, 3], [3, 4, 1, 0, 2], [], [1, 0, 2, 6], [6, 7, 2, 0, 1, 4, 3, 5], [5, 3, 4, 1, 0, 2, 7, 6, 8]] [sD 14 (.fa 0 (.t 2)),
 sD 15 (.ld none (.t 14)),
 sD 16 (.mv (.t 15)),
 sG 17 16 false (.fa 0 (.t 3)),
 sG 18 16 false (.ld none (.t 17)),
 sD 19 (.pick (.t 16) (.c (.bool true)) (.t 18)),
 sD 20 (.mv (.t 5)),
 ⟨(some 21), none, (.call 65 [(.t 20)]), [⟨(some (16, false)), (.ld none (.t 17)), 18⟩]⟩,
 sD 22 (.build [(.bool false), .nilsl] [(0, 1, (.t 19)), (1, 1, (.t 21))]),
 sN (.st 2 (.t 4) (.t 22))])
 .ret))))
def fn21 : IFun := ⟨23, [(.cell 4 (some 2))], an21.erase⟩
theorem ok21 : okFun Tryz.prog 21 fn21 = true := by kernel_rfl
theorem oka21 : okA fn21.ntmps fn21.results an21 = true := by kernel_rfl
def sh21 (C : CallA) (a0 b1 : AV) (h : H) (R : AV → H → Prop) : Prop :=
 boxA h (AV.cells a0) 46 fun a2 h =>
 boxA h (AV.cells b1) 46 fun b3 h =>
 boxA h [(.bool false), .nilsl] 46 fun t4 h =>
 valA (faA 1 a2) h fun t6 h =>
 valA (ldA h none t6) h fun t7 h =>
 valA (faA 1 b3) h fun t8 h =>
 valA (ldA h none t8) h fun t9 h =>
 mkslA h 36 2 (fillV [.nilsl, .nilsl] [(0, 1, t7), (1, 1, t9)]) fun t10 h =>
 C 63 [t10] h fun t11 h =>
 C 64 [t11] h fun t13 h =>
 valA (faA 0 a2) h fun t14 h =>
 valA (ldA h none t14) h fun t15 h =>
 whenA t15 false (fun K => valA (faA 0 b3) h K) h fun t17 h =>
 whenA t15 false (fun K => valA (ldA h none t17) h K) h fun t18 h =>
 valA (pickA t15 (.bool true) t18) h fun t19 h =>
 C 65 [t11] h fun t21 h =>
 againK (whenP t15 false (valA (ldA h none t17) h (fun v _ => v = t18))) <|
 valA (buildA (fillV [(.bool false), .nilsl] [(0, 1, t19), (1, 1, t21)])) h fun t22 h =>
 memA (stA h 2 t4 t22) .undef fun _ h =>
 valA (ldA h (some 2) t4) h fun res _ => R res h
theorem she21 (C : CallA) (a0 b1 : AV) (h : H) (R : AV → H → Prop) : wpA C an21 (argE [a0, b1]) h (outA [(.cell 4 (some 2))] R) = sh21 C a0 b1 h R := by kernel_rfl
end Go.Proofs.YtdljelicbnjfjaaGreat.X
