/- The plain programs of functions, printed; that they are the model's; what must hold ahead of each. -/
import Derived.Test.YtdljelicbnjfjaaGreatProg
import Derived.Test.YtdljelicbnjfjaaGreatXo
set_option maxRecDepth 100000
set_option linter.unusedVariables false
namespace Go.Proofs.YtdljelicbnjfjaaGreat.X
open Go
/-! bellows/bellowslaw04.CodeSame -/
def an4 : ACode :=
 (.seq (.reg 0 [] [] [sD 2 (.bx none 28 (.t 0)),
 sD 3 (.bx none 28 (.t 1)),
 sD 4 (.mv (.c (.bool false)))])
 (.seq (.seq (.reg 0 [] [] [sD 10 (.ld (some 7) (.t 2)),
 sD 11 (.call 17 [(.t 10)]),
 sD 12 (.un .not (.t 11)),
 sD 13 (.mv (.t 12)),
 sG 14 13 false (.ld (some 7) (.t 3)),
 sG 15 13 false (.call 17 [(.t 14)]),
 sG 16 13 false (.un .not (.t 15)),
 sD 17 (.pick (.t 13) (.c (.bool true)) (.t 16))])
 (.cond (.t 17) (.seq (.reg 0 [] [] [sD 18 (.call 16 []),
 sD 4 (.mv (.t 18))])
 .ret)
 .skip))
 (.seq (.reg 0 [] [] [sD 5 (.mv (.c (.int .i64 0)))])
 (.seq (.seq (.reg 0 [] [] [sD 19 (.fa 4 (.t 2)),
 sD 20 (.ld none (.t 19)),
 sD 21 (.len false (.t 20)),
 sD 22 (.mv (.c (.int .i64 0)))])
 (.block 0 (.loop [5, 22] 7340076 (.seq (.reg 0 [] [] [sD 23 (.bin .lss .num (.t 22) (.t 21))])
 (.seq (.cond (.t 23) .skip
 (.exit 0))
 (.seq (.block 1 (.seq (.reg 0 [] [] [sD 24 (.ia none 4 (.t 20) (.t 22)),
 sD 25 (.ld (some 4) (.t 24)),
 sD 7 (.al none 39 [.nilsl, (.int .i64 0), (.int .i64 0), .nilsl]),
 sN (.st 4 (.t 7) (.t 25))])
 (.seq (.reg 0 [] [] [sD 26 (.fa 3 (.t 7)),
 sD 27 (.ld none (.t 26)),
 sD 28 (.len false (.t 27)),
 sD 29 (.mv (.c (.int .i64 0)))])
 (.block 2 (.loop [5, 29] 946864172 (.seq (.reg 0 [] [] [sD 30 (.bin .lss .num (.t 29) (.t 28))])
 (.seq (.cond (.t 30) .skip
 (.exit 2))
 (.seq (.block 3 (.seq (.reg 0 [] [] [sD 31 (.ia none 2 (.t 27) (.t 29)),
 sD 32 (.ld (some 2) (.t 31)),
 sD 9 (.al none 42 [.nilsl, .nilsl]),
 sN (.st 2 (.t 9) (.t 32))])
 (.reg 0 [] [] [sD 33 (.mv (.t 5)),
 sD 34 (.fa 1 (.t 9)),
 sD 35 (.ld none (.t 34)),
 sD 36 (.len false (.t 35)),
 sD 37 (.bin .add .num (.t 33) (.t 36)),
 sD 5 (.mv (.t 37))])))
 (.reg 0 [] [] [sD 38 (.bin .add .num (.t 29) (.c (.int .i64 1))),
 sD 29 (.mv (.t 38))])))))))))
 (.reg 0 [] [] [sD 39 (.bin .add .num (.t 22) (.c (.int .i64 1))),
 sD 22 (.mv (.t 39))])))))))
 (.seq (.seq (.reg 0 [0, 1, 2, 3, 4, 5, 6, 7, 8, 9, 10, 11, 12, 14, 15, 13, 16, 17, 18] [[], [0], [], [2, 0, 1], [1, 0, 2, 3], [3, 2, 0, 1, 4], [3, 2, 0, 1, 4], [6, 4, 1, 0, 2, 3, 5], [5, 3, 2, 0, 1, 4, 6, 7], [7, 6, 5, 8, 3, 2, 0, 1, 4], [4, 1, 0, 2, 3, 8, 5, 6, 7, 9], [9, 7, 6, 5, 8, 3, 2, 0, 1, 4, 10], [9, 7, 6, 5, 8, 3, 2, 0, 1, 4, 10], [12, 10, 4, 1, 0, 2, 3, 8, 5, 6, 7, 9, 11], [9, 7, 6, 5, 8, 3, 2, 0, 1, 4, 10], [9, 7, 6, 5, 8, 3, 2, 0, 1, 4, 10], [11, 12, 13, 15, 10, 4, 1, 0, 2, 3, 8, 5, 6, 7, 9, 14], [14, 15, 16, 11, 9, 7, 6, 5, 8, 3, 2, 0, 1, 4, 10, 12, 13], [13, 12, 11, 16, 15, 14, 17, 9, 7, 6, 5, 8, 3, 2, 0, 1, 4, 10]] [sD 40 (.ld (some 7) (.t 2)),
 sD 41 (.call 18 [(.t 40)]),
 sD 42 (.mv (.t 5)),
 sD 43 (.bin .neq .num (.t 41) (.t 42)),
 sD 44 (.mv (.t 43)),
 sG 45 44 false (.ld (some 7) (.t 2)),
 sG 46 44 false (.ld (some 7) (.t 2)),
 sG 47 44 false (.call 15 [(.t 45), (.t 46)]),
 sG 48 44 false (.un .not (.t 47)),
 sD 49 (.pick (.t 44) (.c (.bool true)) (.t 48)),
 sD 50 (.mv (.t 49)),
 sG 51 50 false (.ld (some 7) (.t 2)),
 sG 52 50 false (.ld (some 7) (.t 3)),
 sG 54 50 false (.ld (some 7) (.t 3)),
 sG 55 50 false (.ld (some 7) (.t 2)),
 ⟨(some 53), (some (50, false)), (.call 15 [(.t 51), (.t 52)]), [⟨(some (50, false)), (.ld (some 7) (.t 3)), 54⟩, ⟨(some (50, false)), (.ld (some 7) (.t 2)), 55⟩]⟩,
 sG 56 50 false (.call 15 [(.t 54), (.t 55)]),
 sG 57 50 false (.bin .neq .bool (.t 53) (.t 56)),
 sD 58 (.pick (.t 50) (.c (.bool true)) (.t 57))])
 (.cond (.t 58) (.seq (.reg 0 [] [] [sD 4 (.mv (.c (.bool false)))])
 .ret)
 .skip))
 (.seq (.seq (.reg 0 [] [] [sD 59 (.ld (some 7) (.t 2)),
 sD 60 (.call 19 [(.t 59)]),
 sD 61 (.bin .neq .num (.t 60) (.c (.int .i64 0))),
 sD 62 (.mv (.t 61)),
 sG 63 62 false (.ld (some 7) (.t 3)),
 sG 64 62 false (.call 19 [(.t 63)]),
 sG 65 62 false (.bin .neq .num (.t 64) (.c (.int .i64 0))),
 sD 66 (.pick (.t 62) (.c (.bool true)) (.t 65))])
 (.cond (.t 66) (.seq (.reg 0 [] [] [sD 67 (.call 16 []),
 sD 4 (.mv (.t 67))])
 .ret)
 .skip))
 (.seq (.reg 0 [0, 1, 3, 4, 2, 5, 6, 7, 8, 9, 10] [[], [], [1, 0], [], [], [0, 1, 2, 4, 3], [3, 4, 5, 0, 1, 2], [2, 1, 0, 5, 4, 3, 6], [6, 3, 4, 5, 0, 1, 2, 7], [8, 6, 3, 4, 5, 0, 1, 2, 7], [7, 2, 1, 0, 5, 4, 3, 6, 8, 9]] [sD 68 (.ld (some 7) (.t 2)),
 sD 69 (.ld (some 7) (.t 3)),
 sD 71 (.ld (some 7) (.t 2)),
 sD 72 (.ld (some 7) (.t 3)),
 ⟨(some 70), none, (.call 15 [(.t 68), (.t 69)]), [⟨none, (.ld (some 7) (.t 2)), 71⟩, ⟨none, (.ld (some 7) (.t 3)), 72⟩]⟩,
 sD 73 (.call 14 [(.t 71), (.t 72)]),
 sD 74 (.bin .eql .bool (.t 70) (.t 73)),
 sD 75 (.mv (.t 74)),
 sG 76 75 true (.call 16 []),
 sD 77 (.pick (.t 75) (.t 76) (.c (.bool false))),
 sD 4 (.mv (.t 77))])
 .ret)))))))
def fn4 : IFun := ⟨78, [(.tmp 4)], an4.erase⟩
theorem ok4 : okFun Tryz.prog 4 fn4 = true := by kernel_rfl
theorem oka4 : okA fn4.ntmps fn4.results an4 = true := by kernel_rfl
def sh4 (C : CallA) (a0 b1 : AV) (h : H) (R : AV → H → Prop) : Prop :=
 boxA h (AV.cells a0) 28 fun a2 h =>
 boxA h (AV.cells b1) 28 fun b3 h =>
 valA (ldA h (some 7) a2) h fun t10 h =>
 C 17 [t10] h fun t11 h =>
 valA (unOp .not t11) h fun t12 h =>
 whenA t12 false (fun K => valA (ldA h (some 7) b3) h K) h fun t14 h =>
 whenA t12 false (fun K => C 17 [t14] h K) h fun t15 h =>
 whenA t12 false (fun K => valA (unOp .not t15) h K) h fun t16 h =>
 valA (pickA t12 (.bool true) t16) h fun t17 h =>
 condA t17
  (C 16 [] h fun t18 h =>
  R t18 h)
  (joinA (fun (n5' : AV) (h : H) =>
  valA (ldA h (some 7) a2) h fun t40 h =>
  C 18 [t40] h fun t41 h =>
  valA (binOp .neq .num t41 n5') h fun t43 h =>
  whenA t43 false (fun K => valA (ldA h (some 7) a2) h K) h fun t45 h =>
  whenA t43 false (fun K => valA (ldA h (some 7) a2) h K) h fun t46 h =>
  whenA t43 false (fun K => C 15 [t45, t46] h K) h fun t47 h =>
  whenA t43 false (fun K => valA (unOp .not t47) h K) h fun t48 h =>
  valA (pickA t43 (.bool true) t48) h fun t49 h =>
  whenA t49 false (fun K => valA (ldA h (some 7) a2) h K) h fun t51 h =>
  whenA t49 false (fun K => valA (ldA h (some 7) b3) h K) h fun t52 h =>
  whenA t49 false (fun K => valA (ldA h (some 7) b3) h K) h fun t54 h =>
  whenA t49 false (fun K => valA (ldA h (some 7) a2) h K) h fun t55 h =>
  whenA t49 false (fun K => C 15 [t51, t52] h K) h fun t53 h =>
  againK (whenP t49 false (valA (ldA h (some 7) b3) h (fun v _ => v = t54))) <|
  againK (whenP t49 false (valA (ldA h (some 7) a2) h (fun v _ => v = t55))) <|
  whenA t49 false (fun K => C 15 [t54, t55] h K) h fun t56 h =>
  whenA t49 false (fun K => valA (binOp .neq .bool t53 t56) h K) h fun t57 h =>
  valA (pickA t49 (.bool true) t57) h fun t58 h =>
  condA t58
   (R (.bool false) h)
   (valA (ldA h (some 7) a2) h fun t59 h =>
  C 19 [t59] h fun t60 h =>
  valA (binOp .neq .num t60 (.int .i64 0)) h fun t61 h =>
  whenA t61 false (fun K => valA (ldA h (some 7) b3) h K) h fun t63 h =>
  whenA t61 false (fun K => C 19 [t63] h K) h fun t64 h =>
  whenA t61 false (fun K => valA (binOp .neq .num t64 (.int .i64 0)) h K) h fun t65 h =>
  valA (pickA t61 (.bool true) t65) h fun t66 h =>
  condA t66
   (C 16 [] h fun t67 h =>
   R t67 h)
   (valA (ldA h (some 7) a2) h fun t68 h =>
  valA (ldA h (some 7) b3) h fun t69 h =>
  valA (ldA h (some 7) a2) h fun t71 h =>
  valA (ldA h (some 7) b3) h fun t72 h =>
  C 15 [t68, t69] h fun t70 h =>
  againK (valA (ldA h (some 7) a2) h (fun v _ => v = t71)) <|
  againK (valA (ldA h (some 7) b3) h (fun v _ => v = t72)) <|
  C 14 [t71, t72] h fun t73 h =>
  valA (binOp .eql .bool t70 t73) h fun t74 h =>
  whenA t74 true (fun K => C 16 [] h K) h fun t76 h =>
  valA (pickA t74 t76 (.bool false)) h fun t77 h =>
  R t77 h))) fun J =>
 valA (faA 4 a2) h fun t19 h =>
 valA (ldA h none t19) h fun t20 h =>
 valA (lenA false t20) h fun t21 h =>
 loopA (fun N l h => argA l 0 fun n5 => argA l 1 fun t22 => 
  valA (binOp .lss .num t22 t21) h fun t23 h =>
  condA t23
   (joinA (fun (n5'_0 : AV) (h : H) =>
   valA (binOp .add .num t22 (.int .i64 1)) h fun t39 h =>
   N [n5'_0, t39] h) fun J_18 =>
  valA (iaA 4 t20 t22) h fun t24 h =>
  valA (ldA h (some 4) t24) h fun t25 h =>
  boxA h [.nilsl, (.int .i64 0), (.int .i64 0), .nilsl] 39 fun f7 h =>
  memA (stA h 4 f7 t25) .undef fun _ h =>
  valA (faA 3 f7) h fun t26 h =>
  valA (ldA h none t26) h fun t27 h =>
  valA (lenA false t27) h fun t28 h =>
  loopA (fun N_19 l h => argA l 0 fun n5_20 => argA l 1 fun t29 => 
   valA (binOp .lss .num t29 t28) h fun t30 h =>
   condA t30
    (valA (iaA 2 t27 t29) h fun t31 h =>
   valA (ldA h (some 2) t31) h fun t32 h =>
   boxA h [.nilsl, .nilsl] 42 fun k9 h =>
   memA (stA h 2 k9 t32) .undef fun _ h =>
   valA (faA 1 k9) h fun t34 h =>
   valA (ldA h none t34) h fun t35 h =>
   valA (lenA false t35) h fun t36 h =>
   valA (binOp .add .num n5_20 t36) h fun t37 h =>
   valA (binOp .add .num t29 (.int .i64 1)) h fun t38 h =>
   N_19 [t37, t38] h)
    (J_18 n5_20 h)) [n5, (.int .i64 0)] h)
   (J n5 h)) [(.int .i64 0), (.int .i64 0)] h)
theorem she4 (C : CallA) (a0 b1 : AV) (h : H) (R : AV → H → Prop) : wpA C an4 (argE [a0, b1]) h (outA [(.tmp 4)] R) = sh4 C a0 b1 h R := by kernel_rfl
/-! bellows/code.Decode -/
def an12 : ACode :=
 (.seq (.reg 0 [] [] [sD 2 (.al none 28 [.nilsl, .nilsl, .nilsl, .nilsl, .nilsl, (.int .i64 0), (.int .i64 0)]),
 sD 3 (.mv (.c (.int .i64 0)))])
 (.seq (.seq (.reg 0 [] [] [sD 6 (.mv (.t 0)),
 sD 7 (.len false (.t 6)),
 sD 8 (.bin .lss .num (.t 7) (.c (.int .i64 4))),
 sD 9 (.mv (.t 8)),
 sG 10 9 false (.mv (.t 0)),
 sG 11 9 false (.sli (.row 1) (.t 10) none (some (.c (.int .i64 4))) none),
 sG 12 9 false (.cv none .b2s (.t 11)),
 sG 13 9 false (.bin .neq .num (.t 12) (.c (.str [66, 69, 76, 49]))),
 sD 14 (.pick (.t 9) (.c (.bool true)) (.t 13))])
 (.cond (.t 14) (.seq (.reg 0 [] [] [sD 15 (.build [.nilsl, .nilsl, .nilsl, .nilsl, .nilsl, (.int .i64 0), (.int .i64 0)] []),
 sN (.st 7 (.t 2) (.t 15)),
 sD 3 (.mv (.c (.int .i64 20)))])
 .ret)
 .skip))
 (.seq (.reg 0 [] [] [sD 16 (.mv (.t 0)),
 sD 17 (.build [.nilsl, (.int .i64 0), (.bool false)] [(0, 1, (.t 16)), (1, 1, (.c (.int .i64 4)))]),
 sD 18 (.bx none 67 (.t 17)),
 sD 4 (.mv (.t 18))])
 (.seq (.reg 0 [] [] [sD 5 (.al none 28 [.nilsl, .nilsl, .nilsl, .nilsl, .nilsl, (.int .i64 0), (.int .i64 0)])])
 (.seq (.reg 0 [] [] [sD 19 (.mv (.t 4)),
 sD 20 (.mv (.t 4)),
 sD 21 (.mkf 35 [(.t 20)] []),
 sD 22 (.call 34 [(.t 19), (.t 21)]),
 sD 23 (.fa 0 (.t 5)),
 sN (.st 1 (.t 23) (.t 22))])
 (.seq (.reg 0 [] [] [sD 24 (.mv (.t 4)),
 sD 25 (.mv (.t 4)),
 sD 26 (.mkf 37 [(.t 25)] []),
 sD 27 (.call 36 [(.t 24), (.t 26)]),
 sD 28 (.fa 1 (.t 5)),
 sN (.st 1 (.t 28) (.t 27))])
 (.seq (.reg 0 [] [] [sD 29 (.mv (.t 4)),
 sD 30 (.mv (.t 4)),
 sD 31 (.mkf 39 [(.t 30)] []),
 sD 32 (.call 38 [(.t 29), (.t 31)]),
 sD 33 (.fa 2 (.t 5)),
 sN (.st 1 (.t 33) (.t 32))])
 (.seq (.reg 0 [] [] [sD 34 (.mv (.t 4)),
 sD 35 (.mv (.t 4)),
 sD 36 (.mkf 39 [(.t 35)] []),
 sD 37 (.call 38 [(.t 34), (.t 36)]),
 sD 38 (.fa 3 (.t 5)),
 sN (.st 1 (.t 38) (.t 37))])
 (.seq (.reg 0 [] [] [sD 39 (.mv (.t 4)),
 sD 40 (.mv (.t 4)),
 sD 41 (.mkf 41 [(.t 40)] []),
 sD 42 (.call 40 [(.t 39), (.t 41)]),
 sD 43 (.fa 4 (.t 5)),
 sN (.st 1 (.t 43) (.t 42))])
 (.seq (.reg 0 [] [] [sD 44 (.mv (.t 4)),
 sD 45 (.call 42 [(.t 44)]),
 sD 46 (.fa 5 (.t 5)),
 sN (.st 1 (.t 46) (.t 45))])
 (.seq (.reg 0 [] [] [sD 47 (.mv (.t 4)),
 sD 48 (.call 42 [(.t 47)]),
 sD 49 (.fa 6 (.t 5)),
 sN (.st 1 (.t 49) (.t 48))])
 (.seq (.seq (.reg 0 [] [] [sD 50 (.mv (.t 4)),
 sD 51 (.nilc (.t 50)),
 sD 52 (.fa 2 (.t 51)),
 sD 53 (.ld none (.t 52)),
 sD 54 (.mv (.t 53)),
 sG 55 54 false (.mv (.t 4)),
 sG 56 54 false (.nilc (.t 55)),
 sG 57 54 false (.fa 1 (.t 56)),
 sG 58 54 false (.ld none (.t 57)),
 sG 59 54 false (.mv (.t 0)),
 sG 60 54 false (.len false (.t 59)),
 sG 61 54 false (.bin .neq .num (.t 58) (.t 60)),
 sD 62 (.pick (.t 54) (.c (.bool true)) (.t 61)),
 sD 63 (.mv (.t 62)),
 sG 64 63 false (.ld (some 7) (.t 5)),
 sG 65 63 false (.call 43 [(.t 64)]),
 sG 66 63 false (.bin .neq .num (.t 65) (.c (.int .i64 0))),
 sD 67 (.pick (.t 63) (.c (.bool true)) (.t 66))])
 (.cond (.t 67) (.seq (.reg 0 [] [] [sD 68 (.build [.nilsl, .nilsl, .nilsl, .nilsl, .nilsl, (.int .i64 0), (.int .i64 0)] []),
 sN (.st 7 (.t 2) (.t 68)),
 sD 3 (.mv (.c (.int .i64 20)))])
 .ret)
 .skip))
 (.seq (.reg 0 [] [] [sD 69 (.ld (some 7) (.t 5)),
 sN (.st 7 (.t 2) (.t 69)),
 sD 3 (.mv (.c (.int .i64 0)))])
 .ret)))))))))))))
def fn12 : IFun := ⟨70, [(.cell 2 (some 7)), (.tmp 3)], an12.erase⟩
theorem ok12 : okFun Tryz.prog 12 fn12 = true := by kernel_rfl
theorem oka12 : okA fn12.ntmps fn12.results an12 = true := by kernel_rfl
def sh12 (C : CallA) (b0 : AV) (h : H) (R : AV → H → Prop) : Prop :=
 boxA h [.nilsl, .nilsl, .nilsl, .nilsl, .nilsl, (.int .i64 0), (.int .i64 0)] 28 fun t2 h =>
 valA (lenA false b0) h fun t7 h =>
 valA (binOp .lss .num t7 (.int .i64 4)) h fun t8 h =>
 whenA t8 false (fun K => K b0 h) h fun t10 h =>
 whenA t8 false (fun K => valA (sliceOp (.row 1) t10 none (some (.int .i64 4)) none) h K) h fun t11 h =>
 whenA t8 false (fun K => valA (b2sA h t11) h K) h fun t12 h =>
 whenA t8 false (fun K => valA (binOp .neq .num t12 (.str [66, 69, 76, 49])) h K) h fun t13 h =>
 valA (pickA t8 (.bool true) t13) h fun t14 h =>
 condA t14
  (valA (buildA (fillV [.nilsl, .nilsl, .nilsl, .nilsl, .nilsl, (.int .i64 0), (.int .i64 0)] [])) h fun t15 h =>
  memA (stA h 7 t2 t15) .undef fun _ h =>
  valA (ldA h (some 7) t2) h fun res _ => R (.tup [res, (.int .i64 20)]) h)
  (valA (buildA (fillV [.nilsl, (.int .i64 0), (.bool false)] [(0, 1, b0), (1, 1, (.int .i64 4))])) h fun t17 h =>
 boxA h (AV.cells t17) 67 fun t18 h =>
 boxA h [.nilsl, .nilsl, .nilsl, .nilsl, .nilsl, (.int .i64 0), (.int .i64 0)] 28 fun m5 h =>
 C 34 [t18, (.fn 35 [t18] [])] h fun t22 h =>
 valA (faA 0 m5) h fun t23 h =>
 memA (stA h 1 t23 t22) .undef fun _ h =>
 C 36 [t18, (.fn 37 [t18] [])] h fun t27 h =>
 valA (faA 1 m5) h fun t28 h =>
 memA (stA h 1 t28 t27) .undef fun _ h =>
 C 38 [t18, (.fn 39 [t18] [])] h fun t32 h =>
 valA (faA 2 m5) h fun t33 h =>
 memA (stA h 1 t33 t32) .undef fun _ h =>
 C 38 [t18, (.fn 39 [t18] [])] h fun t37 h =>
 valA (faA 3 m5) h fun t38 h =>
 memA (stA h 1 t38 t37) .undef fun _ h =>
 C 40 [t18, (.fn 41 [t18] [])] h fun t42 h =>
 valA (faA 4 m5) h fun t43 h =>
 memA (stA h 1 t43 t42) .undef fun _ h =>
 C 42 [t18] h fun t45 h =>
 valA (faA 5 m5) h fun t46 h =>
 memA (stA h 1 t46 t45) .undef fun _ h =>
 C 42 [t18] h fun t48 h =>
 valA (faA 6 m5) h fun t49 h =>
 memA (stA h 1 t49 t48) .undef fun _ h =>
 valA (nilcA t18) h fun t51 h =>
 valA (faA 2 t51) h fun t52 h =>
 valA (ldA h none t52) h fun t53 h =>
 whenA t53 false (fun K => K t18 h) h fun t55 h =>
 whenA t53 false (fun K => valA (nilcA t55) h K) h fun t56 h =>
 whenA t53 false (fun K => valA (faA 1 t56) h K) h fun t57 h =>
 whenA t53 false (fun K => valA (ldA h none t57) h K) h fun t58 h =>
 whenA t53 false (fun K => K b0 h) h fun t59 h =>
 whenA t53 false (fun K => valA (lenA false t59) h K) h fun t60 h =>
 whenA t53 false (fun K => valA (binOp .neq .num t58 t60) h K) h fun t61 h =>
 valA (pickA t53 (.bool true) t61) h fun t62 h =>
 whenA t62 false (fun K => valA (ldA h (some 7) m5) h K) h fun t64 h =>
 whenA t62 false (fun K => C 43 [t64] h K) h fun t65 h =>
 whenA t62 false (fun K => valA (binOp .neq .num t65 (.int .i64 0)) h K) h fun t66 h =>
 valA (pickA t62 (.bool true) t66) h fun t67 h =>
 condA t67
  (valA (buildA (fillV [.nilsl, .nilsl, .nilsl, .nilsl, .nilsl, (.int .i64 0), (.int .i64 0)] [])) h fun t68 h =>
  memA (stA h 7 t2 t68) .undef fun _ h =>
  valA (ldA h (some 7) t2) h fun res_0 _ => R (.tup [res_0, (.int .i64 20)]) h)
  (valA (ldA h (some 7) m5) h fun t69 h =>
 memA (stA h 7 t2 t69) .undef fun _ h =>
 valA (ldA h (some 7) t2) h fun res_1 _ => R (.tup [res_1, (.int .i64 0)]) h))
theorem she12 (C : CallA) (b0 : AV) (h : H) (R : AV → H → Prop) : wpA C an12 (argE [b0]) h (outA [(.cell 2 (some 7)), (.tmp 3)] R) = sh12 C b0 h R := by kernel_rfl
/-! bellows/bellowsref04.Same -/
def an14 : ACode :=
 (.seq (.reg 0 [] [] [sD 2 (.bx none 28 (.t 0)),
 sD 3 (.bx none 28 (.t 1)),
 sD 4 (.mv (.c (.bool false)))])
 (.seq (.reg 0 [0, 3, 1, 2, 4, 5, 6, 7] [[], [0], [0, 1], [], [0, 1, 3], [3, 1, 0, 4], [4, 3, 5, 1, 0, 2], [2, 0, 1, 5, 3, 4, 6]] [sD 5 (.ld (some 7) (.t 2)),
 sD 8 (.ld (some 7) (.t 3)),
 ⟨(some 6), none, (.call 49 [(.t 5)]), [⟨none, (.ld (some 7) (.t 3)), 8⟩]⟩,
 sD 7 (.cv none .b2s (.t 6)),
 ⟨(some 9), none, (.call 49 [(.t 8)]), [⟨none, (.cv none .b2s (.t 6)), 7⟩]⟩,
 sD 10 (.cv none .b2s (.t 9)),
 sD 11 (.bin .eql .num (.t 7) (.t 10)),
 sD 4 (.mv (.t 11))])
 .ret))
def fn14 : IFun := ⟨12, [(.tmp 4)], an14.erase⟩
theorem ok14 : okFun Tryz.prog 14 fn14 = true := by kernel_rfl
theorem oka14 : okA fn14.ntmps fn14.results an14 = true := by kernel_rfl
def sh14 (C : CallA) (a0 b1 : AV) (h : H) (R : AV → H → Prop) : Prop :=
 boxA h (AV.cells a0) 28 fun a2 h =>
 boxA h (AV.cells b1) 28 fun b3 h =>
 valA (ldA h (some 7) a2) h fun t5 h =>
 valA (ldA h (some 7) b3) h fun t8 h =>
 C 49 [t5] h fun t6 h =>
 againK (valA (ldA h (some 7) b3) h (fun v _ => v = t8)) <|
 valA (b2sA h t6) h fun t7 h =>
 C 49 [t8] h fun t9 h =>
 againK (valA (b2sA h t6) h (fun v _ => v = t7)) <|
 valA (b2sA h t9) h fun t10 h =>
 valA (binOp .eql .num t7 t10) h fun t11 h =>
 R t11 h
theorem she14 (C : CallA) (a0 b1 : AV) (h : H) (R : AV → H → Prop) : wpA C an14 (argE [a0, b1]) h (outA [(.tmp 4)] R) = sh14 C a0 b1 h R := by kernel_rfl
/-! bellows/code.Same -/
def an15 : ACode :=
 (.seq (.reg 0 [] [] [sD 2 (.bx none 28 (.t 0)),
 sD 3 (.bx none 28 (.t 1)),
 sD 4 (.mv (.c (.bool false)))])
 (.seq (.reg 0 [] [] [sD 5 (.fa 0 (.t 2)),
 sD 6 (.ld none (.t 5)),
 sD 7 (.fa 0 (.t 3)),
 sD 8 (.ld none (.t 7)),
 sD 9 (.call 50 [(.t 6), (.t 8), (.c (.fn 51 [] []))]),
 sD 10 (.mv (.t 9)),
 sG 11 10 true (.fa 1 (.t 2)),
 sG 12 10 true (.ld none (.t 11)),
 sG 13 10 true (.fa 1 (.t 3)),
 sG 14 10 true (.ld none (.t 13)),
 sG 15 10 true (.call 53 [(.t 12), (.t 14), (.c (.fn 54 [] []))]),
 sD 16 (.pick (.t 10) (.t 15) (.c (.bool false))),
 sD 17 (.mv (.t 16)),
 sG 18 17 true (.fa 2 (.t 2)),
 sG 19 17 true (.ld none (.t 18)),
 sG 20 17 true (.fa 2 (.t 3)),
 sG 21 17 true (.ld none (.t 20)),
 sG 22 17 true (.call 55 [(.t 19), (.t 21)]),
 sD 23 (.pick (.t 17) (.t 22) (.c (.bool false))),
 sD 24 (.mv (.t 23)),
 sG 25 24 true (.fa 3 (.t 2)),
 sG 26 24 true (.ld none (.t 25)),
 sG 27 24 true (.fa 3 (.t 3)),
 sG 28 24 true (.ld none (.t 27)),
 sG 29 24 true (.call 55 [(.t 26), (.t 28)]),
 sD 30 (.pick (.t 24) (.t 29) (.c (.bool false))),
 sD 31 (.mv (.t 30)),
 sG 32 31 true (.fa 4 (.t 2)),
 sG 33 31 true (.ld none (.t 32)),
 sG 34 31 true (.fa 4 (.t 3)),
 sG 35 31 true (.ld none (.t 34)),
 sG 36 31 true (.call 56 [(.t 33), (.t 35), (.c (.fn 57 [] []))]),
 sD 37 (.pick (.t 31) (.t 36) (.c (.bool false))),
 sD 38 (.mv (.t 37)),
 sG 39 38 true (.fa 5 (.t 2)),
 sG 40 38 true (.ld none (.t 39)),
 sG 41 38 true (.fa 5 (.t 3)),
 sG 42 38 true (.ld none (.t 41)),
 sG 43 38 true (.bin .eql .num (.t 40) (.t 42)),
 sD 44 (.pick (.t 38) (.t 43) (.c (.bool false))),
 sD 45 (.mv (.t 44)),
 sG 46 45 true (.fa 6 (.t 2)),
 sG 47 45 true (.ld none (.t 46)),
 sG 48 45 true (.fa 6 (.t 3)),
 sG 49 45 true (.ld none (.t 48)),
 sG 50 45 true (.bin .eql .num (.t 47) (.t 49)),
 sD 51 (.pick (.t 45) (.t 50) (.c (.bool false))),
 sD 4 (.mv (.t 51))])
 .ret))
def fn15 : IFun := ⟨52, [(.tmp 4)], an15.erase⟩
theorem ok15 : okFun Tryz.prog 15 fn15 = true := by kernel_rfl
theorem oka15 : okA fn15.ntmps fn15.results an15 = true := by kernel_rfl
def sh15 (C : CallA) (a0 b1 : AV) (h : H) (R : AV → H → Prop) : Prop :=
 boxA h (AV.cells a0) 28 fun a2 h =>
 boxA h (AV.cells b1) 28 fun b3 h =>
 valA (faA 0 a2) h fun t5 h =>
 valA (ldA h none t5) h fun t6 h =>
 valA (faA 0 b3) h fun t7 h =>
 valA (ldA h none t7) h fun t8 h =>
 C 50 [t6, t8, (.fn 51 [] [])] h fun t9 h =>
 whenA t9 true (fun K => valA (faA 1 a2) h K) h fun t11 h =>
 whenA t9 true (fun K => valA (ldA h none t11) h K) h fun t12 h =>
 whenA t9 true (fun K => valA (faA 1 b3) h K) h fun t13 h =>
 whenA t9 true (fun K => valA (ldA h none t13) h K) h fun t14 h =>
 whenA t9 true (fun K => C 53 [t12, t14, (.fn 54 [] [])] h K) h fun t15 h =>
 valA (pickA t9 t15 (.bool false)) h fun t16 h =>
 whenA t16 true (fun K => valA (faA 2 a2) h K) h fun t18 h =>
 whenA t16 true (fun K => valA (ldA h none t18) h K) h fun t19 h =>
 whenA t16 true (fun K => valA (faA 2 b3) h K) h fun t20 h =>
 whenA t16 true (fun K => valA (ldA h none t20) h K) h fun t21 h =>
 whenA t16 true (fun K => C 55 [t19, t21] h K) h fun t22 h =>
 valA (pickA t16 t22 (.bool false)) h fun t23 h =>
 whenA t23 true (fun K => valA (faA 3 a2) h K) h fun t25 h =>
 whenA t23 true (fun K => valA (ldA h none t25) h K) h fun t26 h =>
 whenA t23 true (fun K => valA (faA 3 b3) h K) h fun t27 h =>
 whenA t23 true (fun K => valA (ldA h none t27) h K) h fun t28 h =>
 whenA t23 true (fun K => C 55 [t26, t28] h K) h fun t29 h =>
 valA (pickA t23 t29 (.bool false)) h fun t30 h =>
 whenA t30 true (fun K => valA (faA 4 a2) h K) h fun t32 h =>
 whenA t30 true (fun K => valA (ldA h none t32) h K) h fun t33 h =>
 whenA t30 true (fun K => valA (faA 4 b3) h K) h fun t34 h =>
 whenA t30 true (fun K => valA (ldA h none t34) h K) h fun t35 h =>
 whenA t30 true (fun K => C 56 [t33, t35, (.fn 57 [] [])] h K) h fun t36 h =>
 valA (pickA t30 t36 (.bool false)) h fun t37 h =>
 whenA t37 true (fun K => valA (faA 5 a2) h K) h fun t39 h =>
 whenA t37 true (fun K => valA (ldA h none t39) h K) h fun t40 h =>
 whenA t37 true (fun K => valA (faA 5 b3) h K) h fun t41 h =>
 whenA t37 true (fun K => valA (ldA h none t41) h K) h fun t42 h =>
 whenA t37 true (fun K => valA (binOp .eql .num t40 t42) h K) h fun t43 h =>
 valA (pickA t37 t43 (.bool false)) h fun t44 h =>
 whenA t44 true (fun K => valA (faA 6 a2) h K) h fun t46 h =>
 whenA t44 true (fun K => valA (ldA h none t46) h K) h fun t47 h =>
 whenA t44 true (fun K => valA (faA 6 b3) h K) h fun t48 h =>
 whenA t44 true (fun K => valA (ldA h none t48) h K) h fun t49 h =>
 whenA t44 true (fun K => valA (binOp .eql .num t47 t49) h K) h fun t50 h =>
 valA (pickA t44 t50 (.bool false)) h fun t51 h =>
 R t51 h
theorem she15 (C : CallA) (a0 b1 : AV) (h : H) (R : AV → H → Prop) : wpA C an15 (argE [a0, b1]) h (outA [(.tmp 4)] R) = sh15 C a0 b1 h R := by kernel_rfl
/-! bellows/bellowslaw04.lives -/
def an16 : ACode :=
 (.seq (.reg 0 [] [] [sD 0 (.mv (.c (.bool false)))])
 (.seq (.reg 0 [] [] [sD 8 (.build [.nilsl, .nilsl, .nilsl, .nilsl, .nilsl, (.int .i64 0), (.int .i64 0)] []),
 sD 9 (.call 58 [(.t 8)]),
 sD 7 (.mv (.t 9)),
 sD 10 (.ext (.t 7) 0),
 sD 11 (.ext (.t 7) 1),
 sD 1 (.mv (.t 10)),
 sD 2 (.mv (.t 11))])
 (.seq (.reg 0 [] [] [sD 13 (.mksl none 5 [(.int .u8 0), (.int .u8 0), (.int .u8 0)] 3 [(0, 1, (.c (.int .u8 66))), (1, 1, (.c (.int .u8 69))), (2, 1, (.c (.int .u8 76)))]),
 sD 14 (.cv none .keep (.t 13)),
 sD 15 (.call 12 [(.t 14)]),
 sD 12 (.mv (.t 15)),
 sD 16 (.ext (.t 12) 0),
 sD 17 (.ext (.t 12) 1),
 sD 3 (.al none 28 [.nilsl, .nilsl, .nilsl, .nilsl, .nilsl, (.int .i64 0), (.int .i64 0)]),
 sN (.st 7 (.t 3) (.t 16)),
 sD 4 (.mv (.t 17))])
 (.seq (.reg 0 [] [] [sD 19 (.mv (.t 1)),
 sD 20 (.call 12 [(.t 19)]),
 sD 18 (.mv (.t 20)),
 sD 21 (.ext (.t 18) 0),
 sD 22 (.ext (.t 18) 1),
 sD 5 (.al none 28 [.nilsl, .nilsl, .nilsl, .nilsl, .nilsl, (.int .i64 0), (.int .i64 0)]),
 sN (.st 7 (.t 5) (.t 21)),
 sD 6 (.mv (.t 22))])
 (.seq (.reg 0 [] [] [sD 23 (.mv (.t 2)),
 sD 24 (.bin .eql .num (.t 23) (.c (.int .i64 0))),
 sD 25 (.mv (.t 24)),
 sG 26 25 true (.mv (.t 4)),
 sG 27 25 true (.bin .eql .num (.t 26) (.c (.int .i64 20))),
 sD 28 (.pick (.t 25) (.t 27) (.c (.bool false))),
 sD 29 (.mv (.t 28)),
 sG 30 29 true (.mv (.t 6)),
 sG 31 29 true (.bin .eql .num (.t 30) (.c (.int .i64 0))),
 sD 32 (.pick (.t 29) (.t 31) (.c (.bool false))),
 sD 33 (.mv (.t 32)),
 sG 34 33 true (.mv (.t 1)),
 sG 35 33 true (.cv none .b2s (.t 34)),
 sG 36 33 true (.bin .eql .num (.t 35) (.c (.str [66, 69, 76, 49, 0, 0, 0, 0, 0, 0, 0]))),
 sD 37 (.pick (.t 33) (.t 36) (.c (.bool false))),
 sD 38 (.mv (.t 37)),
 sG 39 38 true (.fa 5 (.t 5)),
 sG 40 38 true (.ld none (.t 39)),
 sG 41 38 true (.bin .eql .num (.t 40) (.c (.int .i64 0))),
 sD 42 (.pick (.t 38) (.t 41) (.c (.bool false))),
 sD 43 (.mv (.t 42)),
 sG 44 43 true (.call 59 [(.c (.int .i64 19))]),
 sG 45 43 true (.bin .eql .num (.t 44) (.c (.str [65, 66, 67]))),
 sD 46 (.pick (.t 43) (.t 45) (.c (.bool false))),
 sD 47 (.mv (.t 46)),
 sG 48 47 true (.build [(.int .i64 0), (.int .i64 0), (.int .i64 0), (.int .i64 0), (.int .i64 0), (.int .i64 0), .nilsl, .nilsl, .nilsl] [(0, 1, (.c (.int .i64 18))), (2, 1, (.c (.int .i64 3)))]),
 sG 49 47 true (.call 60 [(.t 48)]),
 sD 50 (.pick (.t 47) (.t 49) (.c (.bool false))),
 sD 51 (.mv (.t 50)),
 sG 52 51 true (.build [(.int .i64 0), (.int .i64 0), (.int .i64 0), (.int .i64 0), (.int .i64 0), (.int .i64 0), .nilsl, .nilsl, .nilsl] [(0, 1, (.c (.int .i64 18))), (2, 1, (.c (.int .i64 3))), (1, 1, (.c (.int .i64 1)))]),
 sG 53 51 true (.call 60 [(.t 52)]),
 sG 54 51 true (.un .not (.t 53)),
 sD 55 (.pick (.t 51) (.t 54) (.c (.bool false))),
 sD 0 (.mv (.t 55))])
 .ret)))))
def fn16 : IFun := ⟨56, [(.tmp 0)], an16.erase⟩
theorem ok16 : okFun Tryz.prog 16 fn16 = true := by kernel_rfl
theorem oka16 : okA fn16.ntmps fn16.results an16 = true := by kernel_rfl
def sh16 (C : CallA) (h : H) (R : AV → H → Prop) : Prop :=
 valA (buildA (fillV [.nilsl, .nilsl, .nilsl, .nilsl, .nilsl, (.int .i64 0), (.int .i64 0)] [])) h fun t8 h =>
 C 58 [t8] h fun t9 h =>
 valA (extA t9 0) h fun t10 h =>
 valA (extA t9 1) h fun t11 h =>
 mkslA h 5 3 (fillV [(.int .u8 0), (.int .u8 0), (.int .u8 0)] [(0, 1, (.int .u8 66)), (1, 1, (.int .u8 69)), (2, 1, (.int .u8 76))]) fun t13 h =>
 valA (keepA h t13) h fun t14 h =>
 C 12 [t14] h fun t15 h =>
 valA (extA t15 0) h fun t16 h =>
 valA (extA t15 1) h fun t17 h =>
 boxA h [.nilsl, .nilsl, .nilsl, .nilsl, .nilsl, (.int .i64 0), (.int .i64 0)] 28 fun t3 h =>
 memA (stA h 7 t3 t16) .undef fun _ h =>
 C 12 [t10] h fun t20 h =>
 valA (extA t20 0) h fun t21 h =>
 valA (extA t20 1) h fun t22 h =>
 boxA h [.nilsl, .nilsl, .nilsl, .nilsl, .nilsl, (.int .i64 0), (.int .i64 0)] 28 fun m5 h =>
 memA (stA h 7 m5 t21) .undef fun _ h =>
 valA (binOp .eql .num t11 (.int .i64 0)) h fun t24 h =>
 whenA t24 true (fun K => K t17 h) h fun t26 h =>
 whenA t24 true (fun K => valA (binOp .eql .num t26 (.int .i64 20)) h K) h fun t27 h =>
 valA (pickA t24 t27 (.bool false)) h fun t28 h =>
 whenA t28 true (fun K => K t22 h) h fun t30 h =>
 whenA t28 true (fun K => valA (binOp .eql .num t30 (.int .i64 0)) h K) h fun t31 h =>
 valA (pickA t28 t31 (.bool false)) h fun t32 h =>
 whenA t32 true (fun K => K t10 h) h fun t34 h =>
 whenA t32 true (fun K => valA (b2sA h t34) h K) h fun t35 h =>
 whenA t32 true (fun K => valA (binOp .eql .num t35 (.str [66, 69, 76, 49, 0, 0, 0, 0, 0, 0, 0])) h K) h fun t36 h =>
 valA (pickA t32 t36 (.bool false)) h fun t37 h =>
 whenA t37 true (fun K => valA (faA 5 m5) h K) h fun t39 h =>
 whenA t37 true (fun K => valA (ldA h none t39) h K) h fun t40 h =>
 whenA t37 true (fun K => valA (binOp .eql .num t40 (.int .i64 0)) h K) h fun t41 h =>
 valA (pickA t37 t41 (.bool false)) h fun t42 h =>
 whenA t42 true (fun K => C 59 [(.int .i64 19)] h K) h fun t44 h =>
 whenA t42 true (fun K => valA (binOp .eql .num t44 (.str [65, 66, 67])) h K) h fun t45 h =>
 valA (pickA t42 t45 (.bool false)) h fun t46 h =>
 whenA t46 true (fun K => valA (buildA (fillV [(.int .i64 0), (.int .i64 0), (.int .i64 0), (.int .i64 0), (.int .i64 0), (.int .i64 0), .nilsl, .nilsl, .nilsl] [(0, 1, (.int .i64 18)), (2, 1, (.int .i64 3))])) h K) h fun t48 h =>
 whenA t46 true (fun K => C 60 [t48] h K) h fun t49 h =>
 valA (pickA t46 t49 (.bool false)) h fun t50 h =>
 whenA t50 true (fun K => valA (buildA (fillV [(.int .i64 0), (.int .i64 0), (.int .i64 0), (.int .i64 0), (.int .i64 0), (.int .i64 0), .nilsl, .nilsl, .nilsl] [(0, 1, (.int .i64 18)), (2, 1, (.int .i64 3)), (1, 1, (.int .i64 1))])) h K) h fun t52 h =>
 whenA t50 true (fun K => C 60 [t52] h K) h fun t53 h =>
 whenA t50 true (fun K => valA (unOp .not t53) h K) h fun t54 h =>
 valA (pickA t50 t54 (.bool false)) h fun t55 h =>
 R t55 h
theorem she16 (C : CallA) (h : H) (R : AV → H → Prop) : wpA C an16 (argE []) h (outA [(.tmp 0)] R) = sh16 C h R := by kernel_rfl
/-! bellows/bellowslaw04.Light -/
def an17 : ACode :=
 (.seq (.reg 0 [] [] [sD 1 (.bx none 28 (.t 0)),
 sD 2 (.mv (.c (.bool false)))])
 (.seq (.reg 0 [] [] [sD 16 (.fa 0 (.t 1)),
 sD 17 (.ld none (.t 16)),
 sD 18 (.len false (.t 17)),
 sD 19 (.bin .sub .num (.c (.int .i64 40000)) (.t 18)),
 sD 20 (.fa 1 (.t 1)),
 sD 21 (.ld none (.t 20)),
 sD 22 (.len false (.t 21)),
 sD 23 (.bin .sub .num (.t 19) (.t 22)),
 sD 24 (.fa 2 (.t 1)),
 sD 25 (.ld none (.t 24)),
 sD 26 (.len false (.t 25)),
 sD 27 (.bin .sub .num (.t 23) (.t 26)),
 sD 28 (.fa 3 (.t 1)),
 sD 29 (.ld none (.t 28)),
 sD 30 (.len false (.t 29)),
 sD 31 (.bin .sub .num (.t 27) (.t 30)),
 sD 32 (.fa 4 (.t 1)),
 sD 33 (.ld none (.t 32)),
 sD 34 (.len false (.t 33)),
 sD 35 (.bin .sub .num (.t 31) (.t 34)),
 sD 3 (.mv (.t 35))])
 (.seq (.seq (.reg 0 [] [] [sD 36 (.fa 0 (.t 1)),
 sD 37 (.ld none (.t 36)),
 sD 38 (.len false (.t 37)),
 sD 39 (.mv (.c (.int .i64 0)))])
 (.block 0 (.loop [3, 39] 962072674314 (.seq (.reg 0 [] [] [sD 40 (.bin .lss .num (.t 39) (.t 38))])
 (.seq (.cond (.t 40) .skip
 (.exit 0))
 (.seq (.block 1 (.seq (.reg 0 [] [] [sD 41 (.ia none 2 (.t 37) (.t 39)),
 sD 42 (.ld (some 2) (.t 41)),
 sD 5 (.al none 46 [(.bool false), .nilsl]),
 sN (.st 2 (.t 5) (.t 42))])
 (.seq (.reg 0 [] [] [sD 43 (.mv (.t 3)),
 sD 44 (.fa 1 (.t 5)),
 sD 45 (.ld none (.t 44)),
 sD 46 (.len false (.t 45)),
 sD 47 (.bin .sub .num (.t 43) (.t 46)),
 sD 3 (.mv (.t 47))])
 (.seq (.reg 0 [] [] [sD 48 (.mv (.t 3)),
 sD 49 (.bin .lss .num (.t 48) (.c (.int .i64 0)))])
 (.cond (.t 49) (.seq (.reg 0 [] [] [sD 2 (.mv (.c (.bool false)))])
 .ret)
 .skip)))))
 (.reg 0 [] [] [sD 50 (.bin .add .num (.t 39) (.c (.int .i64 1))),
 sD 39 (.mv (.t 50))])))))))
 (.seq (.seq (.reg 0 [] [] [sD 51 (.fa 1 (.t 1)),
 sD 52 (.ld none (.t 51)),
 sD 53 (.len false (.t 52)),
 sD 54 (.mv (.c (.int .i64 0)))])
 (.block 2 (.loop [3, 54] 31525197391593482 (.seq (.reg 0 [] [] [sD 55 (.bin .lss .num (.t 54) (.t 53))])
 (.seq (.cond (.t 55) .skip
 (.exit 2))
 (.seq (.block 3 (.seq (.reg 0 [] [] [sD 56 (.ia none 3 (.t 52) (.t 54)),
 sD 57 (.ld (some 3) (.t 56)),
 sD 7 (.al none 61 [(.int .i64 0), .nilsl, (.str [])]),
 sN (.st 3 (.t 7) (.t 57))])
 (.seq (.reg 0 [] [] [sD 58 (.mv (.t 3)),
 sD 59 (.fa 1 (.t 7)),
 sD 60 (.ld none (.t 59)),
 sD 61 (.len false (.t 60)),
 sD 62 (.fa 2 (.t 7)),
 sD 63 (.ld none (.t 62)),
 sD 64 (.len true (.t 63)),
 sD 65 (.bin .add .num (.t 61) (.t 64)),
 sD 66 (.bin .sub .num (.t 58) (.t 65)),
 sD 3 (.mv (.t 66))])
 (.seq (.reg 0 [] [] [sD 67 (.mv (.t 3)),
 sD 68 (.bin .lss .num (.t 67) (.c (.int .i64 0)))])
 (.cond (.t 68) (.seq (.reg 0 [] [] [sD 2 (.mv (.c (.bool false)))])
 .ret)
 .skip)))))
 (.reg 0 [] [] [sD 69 (.bin .add .num (.t 54) (.c (.int .i64 1))),
 sD 54 (.mv (.t 69))])))))))
 (.seq (.seq (.reg 1 [1, 2, 4, 5, 0, 3, 6, 7, 8] [[], [], [1], [1, 2, 0], [], [4], [4, 5, 0, 2, 1, 3], [3, 1, 2, 0, 5, 4, 6], []] [sD 71 (.fa 2 (.t 1)),
 sD 72 (.ld none (.t 71)),
 sD 74 (.fa 3 (.t 1)),
 sD 75 (.ld none (.t 74)),
 sD 70 (.mksl (some 0) 9 [] 0 []),
 ⟨(some 73), none, (.app 9 1 16 [(.str [])] (.t 70) (.t 72)), [⟨none, (.ld none (.t 74)), 75⟩]⟩,
 sD 76 (.app 9 1 16 [(.str [])] (.t 73) (.t 75)),
 sD 77 (.len false (.t 76)),
 sD 78 (.mv (.c (.int .i64 0)))])
 (.block 4 (.loop [3, 78] 528905046081400263933962 (.seq (.reg 0 [] [] [sD 79 (.bin .lss .num (.t 78) (.t 77))])
 (.seq (.cond (.t 79) .skip
 (.exit 4))
 (.seq (.block 5 (.seq (.reg 0 [] [] [sD 80 (.ia none 1 (.t 76) (.t 78)),
 sD 81 (.ld none (.t 80)),
 sD 9 (.mv (.t 81))])
 (.seq (.reg 0 [] [] [sD 82 (.mv (.t 3)),
 sD 83 (.mv (.t 9)),
 sD 84 (.len true (.t 83)),
 sD 85 (.bin .sub .num (.t 82) (.t 84)),
 sD 3 (.mv (.t 85))])
 (.seq (.reg 0 [] [] [sD 86 (.mv (.t 3)),
 sD 87 (.bin .lss .num (.t 86) (.c (.int .i64 0)))])
 (.cond (.t 87) (.seq (.reg 0 [] [] [sD 2 (.mv (.c (.bool false)))])
 .ret)
 .skip)))))
 (.reg 0 [] [] [sD 88 (.bin .add .num (.t 78) (.c (.int .i64 1))),
 sD 78 (.mv (.t 88))])))))))
 (.seq (.seq (.reg 0 [] [] [sD 89 (.fa 4 (.t 1)),
 sD 90 (.ld none (.t 89)),
 sD 91 (.len false (.t 90)),
 sD 92 (.mv (.c (.int .i64 0)))])
 (.block 6 (.loop [3, 92] 8665580274997661924293869576 (.seq (.reg 0 [] [] [sD 93 (.bin .lss .num (.t 92) (.t 91))])
 (.seq (.cond (.t 93) .skip
 (.exit 6))
 (.seq (.block 7 (.seq (.reg 0 [] [] [sD 94 (.ia none 4 (.t 90) (.t 92)),
 sD 95 (.ld (some 4) (.t 94)),
 sD 11 (.al none 39 [.nilsl, (.int .i64 0), (.int .i64 0), .nilsl]),
 sN (.st 4 (.t 11) (.t 95))])
 (.seq (.seq (.reg 0 [] [] [sD 96 (.mv (.t 3)),
 sD 97 (.fa 0 (.t 11)),
 sD 98 (.ld none (.t 97)),
 sD 99 (.len false (.t 98)),
 sD 100 (.fa 3 (.t 11)),
 sD 101 (.ld none (.t 100)),
 sD 102 (.len false (.t 101)),
 sD 103 (.bin .add .num (.t 99) (.t 102)),
 sD 104 (.bin .sub .num (.t 96) (.t 103)),
 sD 3 (.mv (.t 104))])
 (.seq (.reg 0 [] [] [sD 105 (.mv (.t 3)),
 sD 106 (.bin .lss .num (.t 105) (.c (.int .i64 0)))])
 (.cond (.t 106) (.seq (.reg 0 [] [] [sD 2 (.mv (.c (.bool false)))])
 .ret)
 .skip)))
 (.seq (.reg 0 [] [] [sD 107 (.fa 3 (.t 11)),
 sD 108 (.ld none (.t 107)),
 sD 109 (.len false (.t 108)),
 sD 110 (.mv (.c (.int .i64 0)))])
 (.block 8 (.loop [3, 110] 2271638541189262085144016437903368 (.seq (.reg 0 [] [] [sD 111 (.bin .lss .num (.t 110) (.t 109))])
 (.seq (.cond (.t 111) .skip
 (.exit 8))
 (.seq (.block 9 (.seq (.reg 0 [] [] [sD 112 (.ia none 2 (.t 108) (.t 110)),
 sD 113 (.ld (some 2) (.t 112)),
 sD 13 (.al none 42 [.nilsl, .nilsl]),
 sN (.st 2 (.t 13) (.t 113))])
 (.seq (.seq (.reg 0 [] [] [sD 114 (.mv (.t 3)),
 sD 115 (.fa 0 (.t 13)),
 sD 116 (.ld none (.t 115)),
 sD 117 (.len false (.t 116)),
 sD 118 (.fa 1 (.t 13)),
 sD 119 (.ld none (.t 118)),
 sD 120 (.len false (.t 119)),
 sD 121 (.bin .add .num (.t 117) (.t 120)),
 sD 122 (.bin .sub .num (.t 114) (.t 121)),
 sD 3 (.mv (.t 122))])
 (.seq (.reg 0 [] [] [sD 123 (.mv (.t 3)),
 sD 124 (.bin .lss .num (.t 123) (.c (.int .i64 0)))])
 (.cond (.t 124) (.seq (.reg 0 [] [] [sD 2 (.mv (.c (.bool false)))])
 .ret)
 .skip)))
 (.seq (.reg 0 [] [] [sD 125 (.fa 1 (.t 13)),
 sD 126 (.ld none (.t 125)),
 sD 127 (.len false (.t 126)),
 sD 128 (.mv (.c (.int .i64 0)))])
 (.block 10 (.loop [3, 128] 595496413750183500322990707022032273416 (.seq (.reg 0 [] [] [sD 129 (.bin .lss .num (.t 128) (.t 127))])
 (.seq (.cond (.t 129) .skip
 (.exit 10))
 (.seq (.block 11 (.seq (.reg 0 [] [] [sD 130 (.ia none 9 (.t 126) (.t 128)),
 sD 131 (.ld (some 9) (.t 130)),
 sD 15 (.al none 55 [(.int .i64 0), (.int .i64 0), (.int .i64 0), (.int .i64 0), (.int .i64 0), (.int .i64 0), .nilsl, .nilsl, .nilsl]),
 sN (.st 9 (.t 15) (.t 131))])
 (.seq (.reg 0 [] [] [sD 132 (.mv (.t 3)),
 sD 133 (.fa 6 (.t 15)),
 sD 134 (.ld none (.t 133)),
 sD 135 (.len false (.t 134)),
 sD 136 (.fa 7 (.t 15)),
 sD 137 (.ld none (.t 136)),
 sD 138 (.len false (.t 137)),
 sD 139 (.bin .add .num (.t 135) (.t 138)),
 sD 140 (.fa 8 (.t 15)),
 sD 141 (.ld none (.t 140)),
 sD 142 (.len false (.t 141)),
 sD 143 (.bin .add .num (.t 139) (.t 142)),
 sD 144 (.bin .sub .num (.t 132) (.t 143)),
 sD 3 (.mv (.t 144))])
 (.seq (.reg 0 [] [] [sD 145 (.mv (.t 3)),
 sD 146 (.bin .lss .num (.t 145) (.c (.int .i64 0)))])
 (.cond (.t 146) (.seq (.reg 0 [] [] [sD 2 (.mv (.c (.bool false)))])
 .ret)
 .skip)))))
 (.reg 0 [] [] [sD 147 (.bin .add .num (.t 128) (.c (.int .i64 1))),
 sD 128 (.mv (.t 147))]))))))))))
 (.reg 0 [] [] [sD 148 (.bin .add .num (.t 110) (.c (.int .i64 1))),
 sD 110 (.mv (.t 148))]))))))))))
 (.reg 0 [] [] [sD 149 (.bin .add .num (.t 92) (.c (.int .i64 1))),
 sD 92 (.mv (.t 149))])))))))
 (.seq (.reg 0 [] [] [sD 150 (.mv (.t 3)),
 sD 151 (.bin .geq .num (.t 150) (.c (.int .i64 0))),
 sD 2 (.mv (.t 151))])
 .ret)))))))
def fn17 : IFun := ⟨152, [(.tmp 2)], an17.erase⟩
theorem ok17 : okFun Tryz.prog 17 fn17 = true := by kernel_rfl
theorem oka17 : okA fn17.ntmps fn17.results an17 = true := by kernel_rfl
def sh17 (C : CallA) (m0 : AV) (h : H) (R : AV → H → Prop) : Prop :=
 boxA h (AV.cells m0) 28 fun m1 h =>
 valA (faA 0 m1) h fun t16 h =>
 valA (ldA h none t16) h fun t17 h =>
 valA (lenA false t17) h fun t18 h =>
 valA (binOp .sub .num (.int .i64 40000) t18) h fun t19 h =>
 valA (faA 1 m1) h fun t20 h =>
 valA (ldA h none t20) h fun t21 h =>
 valA (lenA false t21) h fun t22 h =>
 valA (binOp .sub .num t19 t22) h fun t23 h =>
 valA (faA 2 m1) h fun t24 h =>
 valA (ldA h none t24) h fun t25 h =>
 valA (lenA false t25) h fun t26 h =>
 valA (binOp .sub .num t23 t26) h fun t27 h =>
 valA (faA 3 m1) h fun t28 h =>
 valA (ldA h none t28) h fun t29 h =>
 valA (lenA false t29) h fun t30 h =>
 valA (binOp .sub .num t27 t30) h fun t31 h =>
 valA (faA 4 m1) h fun t32 h =>
 valA (ldA h none t32) h fun t33 h =>
 valA (lenA false t33) h fun t34 h =>
 valA (binOp .sub .num t31 t34) h fun t35 h =>
 joinA (fun (n3' : AV) (h : H) =>
  joinA (fun (n3'_1 : AV) (h : H) =>
   joinA (fun (n3'_3 : AV) (h : H) =>
    joinA (fun (n3'_5 : AV) (h : H) =>
     valA (binOp .geq .num n3'_5 (.int .i64 0)) h fun t151 h =>
     R t151 h) fun J =>
    valA (faA 4 m1) h fun t89 h =>
    valA (ldA h none t89) h fun t90 h =>
    valA (lenA false t90) h fun t91 h =>
    loopA (fun N l h => argA l 0 fun n3 => argA l 1 fun t92 => 
     valA (binOp .lss .num t92 t91) h fun t93 h =>
     condA t93
      (joinA (fun (n3'_7 : AV) (h : H) =>
      valA (binOp .add .num t92 (.int .i64 1)) h fun t149 h =>
      N [n3'_7, t149] h) fun J_66 =>
     valA (iaA 4 t90 t92) h fun t94 h =>
     valA (ldA h (some 4) t94) h fun t95 h =>
     boxA h [.nilsl, (.int .i64 0), (.int .i64 0), .nilsl] 39 fun f11 h =>
     memA (stA h 4 f11 t95) .undef fun _ h =>
     valA (faA 0 f11) h fun t97 h =>
     valA (ldA h none t97) h fun t98 h =>
     valA (lenA false t98) h fun t99 h =>
     valA (faA 3 f11) h fun t100 h =>
     valA (ldA h none t100) h fun t101 h =>
     valA (lenA false t101) h fun t102 h =>
     valA (binOp .add .num t99 t102) h fun t103 h =>
     valA (binOp .sub .num n3 t103) h fun t104 h =>
     valA (binOp .lss .num t104 (.int .i64 0)) h fun t106 h =>
     condA t106
      (R (.bool false) h)
      (valA (faA 3 f11) h fun t107 h =>
     valA (ldA h none t107) h fun t108 h =>
     valA (lenA false t108) h fun t109 h =>
     loopA (fun N_67 l h => argA l 0 fun n3_68 => argA l 1 fun t110 => 
      valA (binOp .lss .num t110 t109) h fun t111 h =>
      condA t111
       (joinA (fun (n3'_70 : AV) (h : H) =>
       valA (binOp .add .num t110 (.int .i64 1)) h fun t148 h =>
       N_67 [n3'_70, t148] h) fun J_109 =>
      valA (iaA 2 t108 t110) h fun t112 h =>
      valA (ldA h (some 2) t112) h fun t113 h =>
      boxA h [.nilsl, .nilsl] 42 fun b13 h =>
      memA (stA h 2 b13 t113) .undef fun _ h =>
      valA (faA 0 b13) h fun t115 h =>
      valA (ldA h none t115) h fun t116 h =>
      valA (lenA false t116) h fun t117 h =>
      valA (faA 1 b13) h fun t118 h =>
      valA (ldA h none t118) h fun t119 h =>
      valA (lenA false t119) h fun t120 h =>
      valA (binOp .add .num t117 t120) h fun t121 h =>
      valA (binOp .sub .num n3_68 t121) h fun t122 h =>
      valA (binOp .lss .num t122 (.int .i64 0)) h fun t124 h =>
      condA t124
       (R (.bool false) h)
       (valA (faA 1 b13) h fun t125 h =>
      valA (ldA h none t125) h fun t126 h =>
      valA (lenA false t126) h fun t127 h =>
      loopA (fun N_110 l h => argA l 0 fun n3_111 => argA l 1 fun t128 => 
       valA (binOp .lss .num t128 t127) h fun t129 h =>
       condA t129
        (valA (iaA 9 t126 t128) h fun t130 h =>
       valA (ldA h (some 9) t130) h fun t131 h =>
       boxA h [(.int .i64 0), (.int .i64 0), (.int .i64 0), (.int .i64 0), (.int .i64 0), (.int .i64 0), .nilsl, .nilsl, .nilsl] 55 fun x15 h =>
       memA (stA h 9 x15 t131) .undef fun _ h =>
       valA (faA 6 x15) h fun t133 h =>
       valA (ldA h none t133) h fun t134 h =>
       valA (lenA false t134) h fun t135 h =>
       valA (faA 7 x15) h fun t136 h =>
       valA (ldA h none t136) h fun t137 h =>
       valA (lenA false t137) h fun t138 h =>
       valA (binOp .add .num t135 t138) h fun t139 h =>
       valA (faA 8 x15) h fun t140 h =>
       valA (ldA h none t140) h fun t141 h =>
       valA (lenA false t141) h fun t142 h =>
       valA (binOp .add .num t139 t142) h fun t143 h =>
       valA (binOp .sub .num n3_111 t143) h fun t144 h =>
       valA (binOp .lss .num t144 (.int .i64 0)) h fun t146 h =>
       condA t146
        (R (.bool false) h)
        (valA (binOp .add .num t128 (.int .i64 1)) h fun t147 h =>
       N_110 [t144, t147] h))
        (J_109 n3_111 h)) [t122, (.int .i64 0)] h))
       (J_66 n3_68 h)) [t104, (.int .i64 0)] h))
      (J n3 h)) [n3'_3, (.int .i64 0)] h) fun J_112 =>
   valA (faA 2 m1) h fun t71 h =>
   valA (ldA h none t71) h fun t72 h =>
   valA (faA 3 m1) h fun t74 h =>
   valA (ldA h none t74) h fun t75 h =>
   mkslA h 9 0 (fillV [] []) fun t70 h =>
   appendA h 9 1 16 t70 t72 fun t73 h =>
   againK (valA (ldA h none t74) h (fun v _ => v = t75)) <|
   appendA h 9 1 16 t73 t75 fun t76 h =>
   valA (lenA false t76) h fun t77 h =>
   loopA (fun N_113 l h => argA l 0 fun n3_114 => argA l 1 fun t78 => 
    valA (binOp .lss .num t78 t77) h fun t79 h =>
    condA t79
     (valA (iaA 1 t76 t78) h fun t80 h =>
    valA (ldA h none t80) h fun t81 h =>
    valA (lenA true t81) h fun t84 h =>
    valA (binOp .sub .num n3_114 t84) h fun t85 h =>
    valA (binOp .lss .num t85 (.int .i64 0)) h fun t87 h =>
    condA t87
     (R (.bool false) h)
     (valA (binOp .add .num t78 (.int .i64 1)) h fun t88 h =>
    N_113 [t85, t88] h))
     (J_112 n3_114 h)) [n3'_1, (.int .i64 0)] h) fun J_115 =>
  valA (faA 1 m1) h fun t51 h =>
  valA (ldA h none t51) h fun t52 h =>
  valA (lenA false t52) h fun t53 h =>
  loopA (fun N_116 l h => argA l 0 fun n3_117 => argA l 1 fun t54 => 
   valA (binOp .lss .num t54 t53) h fun t55 h =>
   condA t55
    (valA (iaA 3 t52 t54) h fun t56 h =>
   valA (ldA h (some 3) t56) h fun t57 h =>
   boxA h [(.int .i64 0), .nilsl, (.str [])] 61 fun s7 h =>
   memA (stA h 3 s7 t57) .undef fun _ h =>
   valA (faA 1 s7) h fun t59 h =>
   valA (ldA h none t59) h fun t60 h =>
   valA (lenA false t60) h fun t61 h =>
   valA (faA 2 s7) h fun t62 h =>
   valA (ldA h none t62) h fun t63 h =>
   valA (lenA true t63) h fun t64 h =>
   valA (binOp .add .num t61 t64) h fun t65 h =>
   valA (binOp .sub .num n3_117 t65) h fun t66 h =>
   valA (binOp .lss .num t66 (.int .i64 0)) h fun t68 h =>
   condA t68
    (R (.bool false) h)
    (valA (binOp .add .num t54 (.int .i64 1)) h fun t69 h =>
   N_116 [t66, t69] h))
    (J_115 n3_117 h)) [n3', (.int .i64 0)] h) fun J_118 =>
 valA (faA 0 m1) h fun t36 h =>
 valA (ldA h none t36) h fun t37 h =>
 valA (lenA false t37) h fun t38 h =>
 loopA (fun N_119 l h => argA l 0 fun n3_120 => argA l 1 fun t39 => 
  valA (binOp .lss .num t39 t38) h fun t40 h =>
  condA t40
   (valA (iaA 2 t37 t39) h fun t41 h =>
  valA (ldA h (some 2) t41) h fun t42 h =>
  boxA h [(.bool false), .nilsl] 46 fun t5 h =>
  memA (stA h 2 t5 t42) .undef fun _ h =>
  valA (faA 1 t5) h fun t44 h =>
  valA (ldA h none t44) h fun t45 h =>
  valA (lenA false t45) h fun t46 h =>
  valA (binOp .sub .num n3_120 t46) h fun t47 h =>
  valA (binOp .lss .num t47 (.int .i64 0)) h fun t49 h =>
  condA t49
   (R (.bool false) h)
   (valA (binOp .add .num t39 (.int .i64 1)) h fun t50 h =>
  N_119 [t47, t50] h))
   (J_118 n3_120 h)) [t35, (.int .i64 0)] h
theorem she17 (C : CallA) (m0 : AV) (h : H) (R : AV → H → Prop) : wpA C an17 (argE [m0]) h (outA [(.tmp 2)] R) = sh17 C m0 h R := by kernel_rfl
/-! bellows/code.Size -/
def an18 : ACode :=
 (.seq (.reg 0 [] [] [sD 1 (.bx none 28 (.t 0)),
 sD 2 (.mv (.c (.int .i64 0)))])
 (.seq (.reg 0 [] [] [sD 3 (.mv (.c (.int .i64 0)))])
 (.seq (.seq (.reg 0 [] [] [sD 8 (.fa 4 (.t 1)),
 sD 9 (.ld none (.t 8)),
 sD 10 (.len false (.t 9)),
 sD 11 (.mv (.c (.int .i64 0)))])
 (.block 0 (.loop [3, 11] 3592 (.seq (.reg 0 [] [] [sD 12 (.bin .lss .num (.t 11) (.t 10))])
 (.seq (.cond (.t 12) .skip
 (.exit 0))
 (.seq (.block 1 (.seq (.reg 0 [] [] [sD 13 (.ia none 4 (.t 9) (.t 11)),
 sD 14 (.ld (some 4) (.t 13)),
 sD 5 (.al none 39 [.nilsl, (.int .i64 0), (.int .i64 0), .nilsl]),
 sN (.st 4 (.t 5) (.t 14))])
 (.seq (.reg 0 [] [] [sD 15 (.fa 3 (.t 5)),
 sD 16 (.ld none (.t 15)),
 sD 17 (.len false (.t 16)),
 sD 18 (.mv (.c (.int .i64 0)))])
 (.block 2 (.loop [3, 18] 462344 (.seq (.reg 0 [] [] [sD 19 (.bin .lss .num (.t 18) (.t 17))])
 (.seq (.cond (.t 19) .skip
 (.exit 2))
 (.seq (.block 3 (.seq (.reg 0 [] [] [sD 20 (.ia none 2 (.t 16) (.t 18)),
 sD 21 (.ld (some 2) (.t 20)),
 sD 7 (.al none 42 [.nilsl, .nilsl]),
 sN (.st 2 (.t 7) (.t 21))])
 (.reg 0 [] [] [sD 22 (.mv (.t 3)),
 sD 23 (.fa 1 (.t 7)),
 sD 24 (.ld none (.t 23)),
 sD 25 (.len false (.t 24)),
 sD 26 (.bin .add .num (.t 22) (.t 25)),
 sD 3 (.mv (.t 26))])))
 (.reg 0 [] [] [sD 27 (.bin .add .num (.t 18) (.c (.int .i64 1))),
 sD 18 (.mv (.t 27))])))))))))
 (.reg 0 [] [] [sD 28 (.bin .add .num (.t 11) (.c (.int .i64 1))),
 sD 11 (.mv (.t 28))])))))))
 (.seq (.reg 0 [] [] [sD 29 (.mv (.t 3)),
 sD 2 (.mv (.t 29))])
 .ret))))
def fn18 : IFun := ⟨30, [(.tmp 2)], an18.erase⟩
theorem ok18 : okFun Tryz.prog 18 fn18 = true := by kernel_rfl
theorem oka18 : okA fn18.ntmps fn18.results an18 = true := by kernel_rfl
def sh18 (C : CallA) (m0 : AV) (h : H) (R : AV → H → Prop) : Prop :=
 boxA h (AV.cells m0) 28 fun m1 h =>
 joinA (fun (n3' : AV) (h : H) =>
  R n3' h) fun J =>
 valA (faA 4 m1) h fun t8 h =>
 valA (ldA h none t8) h fun t9 h =>
 valA (lenA false t9) h fun t10 h =>
 loopA (fun N l h => argA l 0 fun n3 => argA l 1 fun t11 => 
  valA (binOp .lss .num t11 t10) h fun t12 h =>
  condA t12
   (joinA (fun (n3'_0 : AV) (h : H) =>
   valA (binOp .add .num t11 (.int .i64 1)) h fun t28 h =>
   N [n3'_0, t28] h) fun J_18 =>
  valA (iaA 4 t9 t11) h fun t13 h =>
  valA (ldA h (some 4) t13) h fun t14 h =>
  boxA h [.nilsl, (.int .i64 0), (.int .i64 0), .nilsl] 39 fun f5 h =>
  memA (stA h 4 f5 t14) .undef fun _ h =>
  valA (faA 3 f5) h fun t15 h =>
  valA (ldA h none t15) h fun t16 h =>
  valA (lenA false t16) h fun t17 h =>
  loopA (fun N_19 l h => argA l 0 fun n3_20 => argA l 1 fun t18 => 
   valA (binOp .lss .num t18 t17) h fun t19 h =>
   condA t19
    (valA (iaA 2 t16 t18) h fun t20 h =>
   valA (ldA h (some 2) t20) h fun t21 h =>
   boxA h [.nilsl, .nilsl] 42 fun b7 h =>
   memA (stA h 2 b7 t21) .undef fun _ h =>
   valA (faA 1 b7) h fun t23 h =>
   valA (ldA h none t23) h fun t24 h =>
   valA (lenA false t24) h fun t25 h =>
   valA (binOp .add .num n3_20 t25) h fun t26 h =>
   valA (binOp .add .num t18 (.int .i64 1)) h fun t27 h =>
   N_19 [t26, t27] h)
    (J_18 n3_20 h)) [n3, (.int .i64 0)] h)
   (J n3 h)) [(.int .i64 0), (.int .i64 0)] h
theorem she18 (C : CallA) (m0 : AV) (h : H) (R : AV → H → Prop) : wpA C an18 (argE [m0]) h (outA [(.tmp 2)] R) = sh18 C m0 h R := by kernel_rfl
/-! bellows/bellowsref04.Check -/
def an19 : ACode :=
 (.seq (.reg 0 [] [] [sD 1 (.bx none 28 (.t 0)),
 sD 2 (.mv (.c (.int .i64 0)))])
 (.seq (.seq (.reg 0 [] [] [sD 9 (.ld (some 7) (.t 1)),
 sD 10 (.call 61 [(.t 9)])])
 (.cond (.t 10) (.seq (.reg 0 [] [] [sD 2 (.mv (.c (.int .i64 2)))])
 .ret)
 .skip))
 (.seq (.seq (.reg 0 [] [] [sD 11 (.fa 4 (.t 1)),
 sD 12 (.ld none (.t 11)),
 sD 13 (.len false (.t 12)),
 sD 14 (.mv (.c (.int .i64 0)))])
 (.block 0 (.loop [14] 28672 (.seq (.reg 0 [] [] [sD 15 (.bin .lss .num (.t 14) (.t 13))])
 (.seq (.cond (.t 15) .skip
 (.exit 0))
 (.seq (.block 1 (.seq (.reg 0 [] [] [sD 16 (.ia none 4 (.t 12) (.t 14)),
 sD 17 (.ld (some 4) (.t 16)),
 sD 4 (.al none 39 [.nilsl, (.int .i64 0), (.int .i64 0), .nilsl]),
 sN (.st 4 (.t 4) (.t 17))])
 (.seq (.reg 0 [] [] [sD 18 (.fa 3 (.t 4)),
 sD 19 (.ld none (.t 18)),
 sD 20 (.len false (.t 19)),
 sD 21 (.mv (.c (.int .i64 0)))])
 (.block 2 (.loop [21] 3698688 (.seq (.reg 0 [] [] [sD 22 (.bin .lss .num (.t 21) (.t 20))])
 (.seq (.cond (.t 22) .skip
 (.exit 2))
 (.seq (.block 3 (.seq (.reg 0 [] [] [sD 23 (.ia none 2 (.t 19) (.t 21)),
 sD 24 (.ld (some 2) (.t 23)),
 sD 6 (.al none 42 [.nilsl, .nilsl]),
 sN (.st 2 (.t 6) (.t 24))])
 (.seq (.reg 0 [] [] [sD 25 (.fa 1 (.t 6)),
 sD 26 (.ld none (.t 25)),
 sD 27 (.len false (.t 26)),
 sD 28 (.mv (.c (.int .i64 0)))])
 (.block 4 (.loop [28] 473460736 (.seq (.reg 0 [] [] [sD 29 (.bin .lss .num (.t 28) (.t 27))])
 (.seq (.cond (.t 29) .skip
 (.exit 4))
 (.seq (.block 5 (.seq (.reg 0 [] [] [sD 30 (.ia none 9 (.t 26) (.t 28)),
 sD 31 (.ld (some 9) (.t 30)),
 sD 8 (.al none 55 [(.int .i64 0), (.int .i64 0), (.int .i64 0), (.int .i64 0), (.int .i64 0), (.int .i64 0), .nilsl, .nilsl, .nilsl]),
 sN (.st 9 (.t 8) (.t 31))])
 (.seq (.reg 0 [] [] [sD 32 (.ld (some 9) (.t 8)),
 sD 33 (.call 62 [(.t 32)]),
 sD 34 (.un .not (.t 33))])
 (.cond (.t 34) (.seq (.reg 0 [] [] [sD 2 (.mv (.c (.int .i64 1)))])
 .ret)
 .skip))))
 (.reg 0 [] [] [sD 35 (.bin .add .num (.t 28) (.c (.int .i64 1))),
 sD 28 (.mv (.t 35))])))))))))
 (.reg 0 [] [] [sD 36 (.bin .add .num (.t 21) (.c (.int .i64 1))),
 sD 21 (.mv (.t 36))])))))))))
 (.reg 0 [] [] [sD 37 (.bin .add .num (.t 14) (.c (.int .i64 1))),
 sD 14 (.mv (.t 37))])))))))
 (.seq (.reg 0 [] [] [sD 2 (.mv (.c (.int .i64 0)))])
 .ret))))
def fn19 : IFun := ⟨38, [(.tmp 2)], an19.erase⟩
theorem ok19 : okFun Tryz.prog 19 fn19 = true := by kernel_rfl
theorem oka19 : okA fn19.ntmps fn19.results an19 = true := by kernel_rfl
def sh19 (C : CallA) (m0 : AV) (h : H) (R : AV → H → Prop) : Prop :=
 boxA h (AV.cells m0) 28 fun m1 h =>
 valA (ldA h (some 7) m1) h fun t9 h =>
 C 61 [t9] h fun t10 h =>
 condA t10
  (R (.int .i64 2) h)
  (joinA (fun (h : H) =>
  R (.int .i64 0) h) fun J =>
 valA (faA 4 m1) h fun t11 h =>
 valA (ldA h none t11) h fun t12 h =>
 valA (lenA false t12) h fun t13 h =>
 loopA (fun N l h => argA l 0 fun t14 => 
  valA (binOp .lss .num t14 t13) h fun t15 h =>
  condA t15
   (joinA (fun (h : H) =>
   valA (binOp .add .num t14 (.int .i64 1)) h fun t37 h =>
   N [t37] h) fun J_25 =>
  valA (iaA 4 t12 t14) h fun t16 h =>
  valA (ldA h (some 4) t16) h fun t17 h =>
  boxA h [.nilsl, (.int .i64 0), (.int .i64 0), .nilsl] 39 fun f4 h =>
  memA (stA h 4 f4 t17) .undef fun _ h =>
  valA (faA 3 f4) h fun t18 h =>
  valA (ldA h none t18) h fun t19 h =>
  valA (lenA false t19) h fun t20 h =>
  loopA (fun N_26 l h => argA l 0 fun t21 => 
   valA (binOp .lss .num t21 t20) h fun t22 h =>
   condA t22
    (joinA (fun (h : H) =>
    valA (binOp .add .num t21 (.int .i64 1)) h fun t36 h =>
    N_26 [t36] h) fun J_43 =>
   valA (iaA 2 t19 t21) h fun t23 h =>
   valA (ldA h (some 2) t23) h fun t24 h =>
   boxA h [.nilsl, .nilsl] 42 fun b6 h =>
   memA (stA h 2 b6 t24) .undef fun _ h =>
   valA (faA 1 b6) h fun t25 h =>
   valA (ldA h none t25) h fun t26 h =>
   valA (lenA false t26) h fun t27 h =>
   loopA (fun N_44 l h => argA l 0 fun t28 => 
    valA (binOp .lss .num t28 t27) h fun t29 h =>
    condA t29
     (valA (iaA 9 t26 t28) h fun t30 h =>
    valA (ldA h (some 9) t30) h fun t31 h =>
    boxA h [(.int .i64 0), (.int .i64 0), (.int .i64 0), (.int .i64 0), (.int .i64 0), (.int .i64 0), .nilsl, .nilsl, .nilsl] 55 fun x8 h =>
    memA (stA h 9 x8 t31) .undef fun _ h =>
    valA (ldA h (some 9) x8) h fun t32 h =>
    C 62 [t32] h fun t33 h =>
    valA (unOp .not t33) h fun t34 h =>
    condA t34
     (R (.int .i64 1) h)
     (valA (binOp .add .num t28 (.int .i64 1)) h fun t35 h =>
    N_44 [t35] h))
     (J_43 h)) [(.int .i64 0)] h)
    (J_25 h)) [(.int .i64 0)] h)
   (J h)) [(.int .i64 0)] h)
theorem she19 (C : CallA) (m0 : AV) (h : H) (R : AV → H → Prop) : wpA C an19 (argE [m0]) h (outA [(.tmp 2)] R) = sh19 C m0 h R := by kernel_rfl
/-! bellows/code.some[bellows/api.Type] -/
def an34 : ACode :=
 (.seq (.reg 0 [] [] [sD 4 (.mv (.c .nilsl))])
 (.seq (.reg 0 [] [] [sD 5 (.mv (.c .nilsl))])
 (.seq (.seq (.reg 0 [] [] [sD 6 (.mv (.t 0)),
 sD 7 (.call 82 [(.t 6)]),
 sD 8 (.mv (.c (.int .i64 0)))])
 (.block 0 (.loop [5, 8] 419 (.seq (.reg 0 [] [] [sD 9 (.bin .lss .num (.t 8) (.t 7))])
 (.seq (.cond (.t 9) .skip
 (.exit 0))
 (.seq (.block 1 (.seq (.seq (.reg 0 [] [] [sD 10 (.mv (.t 0)),
 sD 11 (.nilc (.t 10)),
 sD 12 (.fa 2 (.t 11)),
 sD 13 (.ld none (.t 12))])
 (.cond (.t 13) (.seq (.reg 0 [] [] [sD 4 (.mv (.c .nilsl))])
 .ret)
 .skip))
 (.reg 0 [] [] [sD 14 (.mv (.t 5)),
 sD 15 (.mv (.t 1)),
 sD 16 (.callv (.t 15) []),
 sD 17 (.mksl none 46 [(.bool false), .nilsl] 1 [(0, 2, (.t 16))]),
 sD 18 (.app 46 2 32 [(.bool false), .nilsl] (.t 14) (.t 17)),
 sD 5 (.mv (.t 18))])))
 (.reg 0 [] [] [sD 19 (.bin .add .num (.t 8) (.c (.int .i64 1))),
 sD 8 (.mv (.t 19))])))))))
 (.seq (.reg 0 [] [] [sD 20 (.mv (.t 5)),
 sD 4 (.mv (.t 20))])
 .ret))))
def fn34 : IFun := ⟨21, [(.tmp 4)], an34.erase⟩
theorem ok34 : okFun Tryz.prog 34 fn34 = true := by kernel_rfl
theorem oka34 : okA fn34.ntmps fn34.results an34 = true := by kernel_rfl
def sh34 (C : CallA) (r0 each1 : AV) (h : H) (R : AV → H → Prop) : Prop :=
 joinA (fun (l5' : AV) (h : H) =>
  R l5' h) fun J =>
 C 82 [r0] h fun t7 h =>
 loopA (fun N l h => argA l 0 fun l5 => argA l 1 fun t8 => 
  valA (binOp .lss .num t8 t7) h fun t9 h =>
  condA t9
   (valA (nilcA r0) h fun t11 h =>
  valA (faA 2 t11) h fun t12 h =>
  valA (ldA h none t12) h fun t13 h =>
  condA t13
   (R .nilsl h)
   (callvA C each1 [] h fun t16 h =>
  mkslA h 46 1 (fillV [(.bool false), .nilsl] [(0, 2, t16)]) fun t17 h =>
  appendA h 46 2 32 l5 t17 fun t18 h =>
  valA (binOp .add .num t8 (.int .i64 1)) h fun t19 h =>
  N [t18, t19] h))
   (J l5 h)) [.nilsl, (.int .i64 0)] h
theorem she34 (C : CallA) (r0 each1 : AV) (h : H) (R : AV → H → Prop) : wpA C an34 (argE [r0, each1]) h (outA [(.tmp 4)] R) = sh34 C r0 each1 h R := by kernel_rfl
/-! (*bellows/code.reader).kind -/
def an35 : ACode :=
 (.seq (.reg 0 [] [] [sD 2 (.al none 46 [(.bool false), .nilsl])])
 (.seq (.reg 0 [] [] [sD 4 (.mv (.t 0)),
 sD 5 (.call 42 [(.t 4)]),
 sD 3 (.mv (.t 5))])
 (.seq (.reg 0 [] [] [sD 6 (.mv (.t 0)),
 sD 7 (.mv (.t 0)),
 sD 8 (.nilc (.t 7)),
 sD 9 (.fa 2 (.t 8)),
 sD 10 (.ld none (.t 9)),
 sD 11 (.mv (.t 10)),
 sG 12 11 false (.mv (.t 3)),
 sG 13 11 false (.bin .lss .num (.t 12) (.c (.int .i64 0))),
 sD 14 (.pick (.t 11) (.c (.bool true)) (.t 13)),
 sD 15 (.mv (.t 14)),
 sG 16 15 false (.mv (.t 3)),
 sG 17 15 false (.bin .gtr .num (.t 16) (.c (.int .i64 1))),
 sD 18 (.pick (.t 15) (.c (.bool true)) (.t 17)),
 sD 19 (.nilc (.t 6)),
 sD 20 (.fa 2 (.t 19)),
 sN (.st 1 (.t 20) (.t 18))])
 (.seq (.reg 0 [] [] [sD 21 (.mv (.t 3)),
 sD 22 (.bin .eql .num (.t 21) (.c (.int .i64 1))),
 sD 23 (.mv (.t 0)),
 sD 24 (.call 83 [(.t 23)]),
 sD 25 (.build [(.bool false), .nilsl] [(0, 1, (.t 22)), (1, 1, (.t 24))]),
 sN (.st 2 (.t 2) (.t 25))])
 .ret))))
def fn35 : IFun := ⟨26, [(.cell 2 (some 2))], an35.erase⟩
theorem ok35 : okFun Tryz.prog 35 fn35 = true := by kernel_rfl
theorem oka35 : okA fn35.ntmps fn35.results an35 = true := by kernel_rfl
def sh35 (C : CallA) (r0 : AV) (h : H) (R : AV → H → Prop) : Prop :=
 boxA h [(.bool false), .nilsl] 46 fun t2 h =>
 C 42 [r0] h fun t5 h =>
 valA (nilcA r0) h fun t8 h =>
 valA (faA 2 t8) h fun t9 h =>
 valA (ldA h none t9) h fun t10 h =>
 whenA t10 false (fun K => K t5 h) h fun t12 h =>
 whenA t10 false (fun K => valA (binOp .lss .num t12 (.int .i64 0)) h K) h fun t13 h =>
 valA (pickA t10 (.bool true) t13) h fun t14 h =>
 whenA t14 false (fun K => K t5 h) h fun t16 h =>
 whenA t14 false (fun K => valA (binOp .gtr .num t16 (.int .i64 1)) h K) h fun t17 h =>
 valA (pickA t14 (.bool true) t17) h fun t18 h =>
 valA (nilcA r0) h fun t19 h =>
 valA (faA 2 t19) h fun t20 h =>
 memA (stA h 1 t20 t18) .undef fun _ h =>
 valA (binOp .eql .num t5 (.int .i64 1)) h fun t22 h =>
 C 83 [r0] h fun t24 h =>
 valA (buildA (fillV [(.bool false), .nilsl] [(0, 1, t22), (1, 1, t24)])) h fun t25 h =>
 memA (stA h 2 t2 t25) .undef fun _ h =>
 valA (ldA h (some 2) t2) h fun res _ => R res h
theorem she35 (C : CallA) (r0 : AV) (h : H) (R : AV → H → Prop) : wpA C an35 (argE [r0]) h (outA [(.cell 2 (some 2))] R) = sh35 C r0 h R := by kernel_rfl
/-! bellows/code.some[bellows/api.Shape] -/
def an36 : ACode :=
 (.seq (.reg 0 [] [] [sD 4 (.mv (.c .nilsl))])
 (.seq (.reg 0 [] [] [sD 5 (.mv (.c .nilsl))])
 (.seq (.seq (.reg 0 [] [] [sD 6 (.mv (.t 0)),
 sD 7 (.call 82 [(.t 6)]),
 sD 8 (.mv (.c (.int .i64 0)))])
 (.block 0 (.loop [5, 8] 419 (.seq (.reg 0 [] [] [sD 9 (.bin .lss .num (.t 8) (.t 7))])
 (.seq (.cond (.t 9) .skip
 (.exit 0))
 (.seq (.block 1 (.seq (.seq (.reg 0 [] [] [sD 10 (.mv (.t 0)),
 sD 11 (.nilc (.t 10)),
 sD 12 (.fa 2 (.t 11)),
 sD 13 (.ld none (.t 12))])
 (.cond (.t 13) (.seq (.reg 0 [] [] [sD 4 (.mv (.c .nilsl))])
 .ret)
 .skip))
 (.reg 0 [] [] [sD 14 (.mv (.t 5)),
 sD 15 (.mv (.t 1)),
 sD 16 (.callv (.t 15) []),
 sD 17 (.mksl none 61 [(.int .i64 0), .nilsl, (.str [])] 1 [(0, 3, (.t 16))]),
 sD 18 (.app 61 3 48 [(.int .i64 0), .nilsl, (.str [])] (.t 14) (.t 17)),
 sD 5 (.mv (.t 18))])))
 (.reg 0 [] [] [sD 19 (.bin .add .num (.t 8) (.c (.int .i64 1))),
 sD 8 (.mv (.t 19))])))))))
 (.seq (.reg 0 [] [] [sD 20 (.mv (.t 5)),
 sD 4 (.mv (.t 20))])
 .ret))))
def fn36 : IFun := ⟨21, [(.tmp 4)], an36.erase⟩
theorem ok36 : okFun Tryz.prog 36 fn36 = true := by kernel_rfl
theorem oka36 : okA fn36.ntmps fn36.results an36 = true := by kernel_rfl
def sh36 (C : CallA) (r0 each1 : AV) (h : H) (R : AV → H → Prop) : Prop :=
 joinA (fun (l5' : AV) (h : H) =>
  R l5' h) fun J =>
 C 82 [r0] h fun t7 h =>
 loopA (fun N l h => argA l 0 fun l5 => argA l 1 fun t8 => 
  valA (binOp .lss .num t8 t7) h fun t9 h =>
  condA t9
   (valA (nilcA r0) h fun t11 h =>
  valA (faA 2 t11) h fun t12 h =>
  valA (ldA h none t12) h fun t13 h =>
  condA t13
   (R .nilsl h)
   (callvA C each1 [] h fun t16 h =>
  mkslA h 61 1 (fillV [(.int .i64 0), .nilsl, (.str [])] [(0, 3, t16)]) fun t17 h =>
  appendA h 61 3 48 l5 t17 fun t18 h =>
  valA (binOp .add .num t8 (.int .i64 1)) h fun t19 h =>
  N [t18, t19] h))
   (J l5 h)) [.nilsl, (.int .i64 0)] h
theorem she36 (C : CallA) (r0 each1 : AV) (h : H) (R : AV → H → Prop) : wpA C an36 (argE [r0, each1]) h (outA [(.tmp 4)] R) = sh36 C r0 each1 h R := by kernel_rfl
/-! (*bellows/code.reader).shape -/
def an37 : ACode :=
 (.seq (.reg 0 [] [] [sD 2 (.al none 61 [(.int .i64 0), .nilsl, (.str [])])])
 (.seq (.reg 0 [] [] [sD 3 (.mv (.t 0)),
 sD 4 (.call 42 [(.t 3)]),
 sD 5 (.fa 0 (.t 2)),
 sN (.st 1 (.t 5) (.t 4))])
 (.seq (.reg 0 [] [] [sD 6 (.mv (.t 0)),
 sD 7 (.call 83 [(.t 6)]),
 sD 8 (.fa 1 (.t 2)),
 sN (.st 1 (.t 8) (.t 7))])
 (.seq (.reg 0 [] [] [sD 9 (.mv (.t 0)),
 sD 10 (.call 39 [(.t 9)]),
 sD 11 (.fa 2 (.t 2)),
 sN (.st 1 (.t 11) (.t 10))])
 (.seq (.reg 0 [] [] [sD 12 (.ld (some 3) (.t 2)),
 sN (.st 3 (.t 2) (.t 12))])
 .ret)))))
def fn37 : IFun := ⟨13, [(.cell 2 (some 3))], an37.erase⟩
theorem ok37 : okFun Tryz.prog 37 fn37 = true := by kernel_rfl
theorem oka37 : okA fn37.ntmps fn37.results an37 = true := by kernel_rfl
def sh37 (C : CallA) (r0 : AV) (h : H) (R : AV → H → Prop) : Prop :=
 boxA h [(.int .i64 0), .nilsl, (.str [])] 61 fun s2 h =>
 C 42 [r0] h fun t4 h =>
 valA (faA 0 s2) h fun t5 h =>
 memA (stA h 1 t5 t4) .undef fun _ h =>
 C 83 [r0] h fun t7 h =>
 valA (faA 1 s2) h fun t8 h =>
 memA (stA h 1 t8 t7) .undef fun _ h =>
 C 39 [r0] h fun t10 h =>
 valA (faA 2 s2) h fun t11 h =>
 memA (stA h 1 t11 t10) .undef fun _ h =>
 valA (ldA h (some 3) s2) h fun t12 h =>
 memA (stA h 3 s2 t12) .undef fun _ h =>
 valA (ldA h (some 3) s2) h fun res _ => R res h
theorem she37 (C : CallA) (r0 : AV) (h : H) (R : AV → H → Prop) : wpA C an37 (argE [r0]) h (outA [(.cell 2 (some 3))] R) = sh37 C r0 h R := by kernel_rfl
/-! bellows/code.some[string] -/
def an38 : ACode :=
 (.seq (.reg 0 [] [] [sD 4 (.mv (.c .nilsl))])
 (.seq (.reg 0 [] [] [sD 5 (.mv (.c .nilsl))])
 (.seq (.seq (.reg 0 [] [] [sD 6 (.mv (.t 0)),
 sD 7 (.call 82 [(.t 6)]),
 sD 8 (.mv (.c (.int .i64 0)))])
 (.block 0 (.loop [5, 8] 419 (.seq (.reg 0 [] [] [sD 9 (.bin .lss .num (.t 8) (.t 7))])
 (.seq (.cond (.t 9) .skip
 (.exit 0))
 (.seq (.block 1 (.seq (.seq (.reg 0 [] [] [sD 10 (.mv (.t 0)),
 sD 11 (.nilc (.t 10)),
 sD 12 (.fa 2 (.t 11)),
 sD 13 (.ld none (.t 12))])
 (.cond (.t 13) (.seq (.reg 0 [] [] [sD 4 (.mv (.c .nilsl))])
 .ret)
 .skip))
 (.reg 0 [] [] [sD 14 (.mv (.t 5)),
 sD 15 (.mv (.t 1)),
 sD 16 (.callv (.t 15) []),
 sD 17 (.mksl none 9 [(.str [])] 1 [(0, 1, (.t 16))]),
 sD 18 (.app 9 1 16 [(.str [])] (.t 14) (.t 17)),
 sD 5 (.mv (.t 18))])))
 (.reg 0 [] [] [sD 19 (.bin .add .num (.t 8) (.c (.int .i64 1))),
 sD 8 (.mv (.t 19))])))))))
 (.seq (.reg 0 [] [] [sD 20 (.mv (.t 5)),
 sD 4 (.mv (.t 20))])
 .ret))))
def fn38 : IFun := ⟨21, [(.tmp 4)], an38.erase⟩
theorem ok38 : okFun Tryz.prog 38 fn38 = true := by kernel_rfl
theorem oka38 : okA fn38.ntmps fn38.results an38 = true := by kernel_rfl
def sh38 (C : CallA) (r0 each1 : AV) (h : H) (R : AV → H → Prop) : Prop :=
 joinA (fun (l5' : AV) (h : H) =>
  R l5' h) fun J =>
 C 82 [r0] h fun t7 h =>
 loopA (fun N l h => argA l 0 fun l5 => argA l 1 fun t8 => 
  valA (binOp .lss .num t8 t7) h fun t9 h =>
  condA t9
   (valA (nilcA r0) h fun t11 h =>
  valA (faA 2 t11) h fun t12 h =>
  valA (ldA h none t12) h fun t13 h =>
  condA t13
   (R .nilsl h)
   (callvA C each1 [] h fun t16 h =>
  mkslA h 9 1 (fillV [(.str [])] [(0, 1, t16)]) fun t17 h =>
  appendA h 9 1 16 l5 t17 fun t18 h =>
  valA (binOp .add .num t8 (.int .i64 1)) h fun t19 h =>
  N [t18, t19] h))
   (J l5 h)) [.nilsl, (.int .i64 0)] h
theorem she38 (C : CallA) (r0 each1 : AV) (h : H) (R : AV → H → Prop) : wpA C an38 (argE [r0, each1]) h (outA [(.tmp 4)] R) = sh38 C r0 each1 h R := by kernel_rfl
/-! (*bellows/code.reader).text -/
def an39 : ACode :=
 (.seq (.reg 0 [] [] [sD 2 (.mv (.c (.str [])))])
 (.seq (.reg 0 [] [] [sD 5 (.mv (.t 0)),
 sD 6 (.call 82 [(.t 5)]),
 sD 3 (.mv (.t 6))])
 (.seq (.reg 0 [0, 1, 2, 3, 4, 5, 6, 7, 8, 9, 10, 11, 12, 13, 14, 15, 16] [[], [0], [0, 1], [1, 0, 2], [], [4], [4, 5], [5, 4, 6], [], [8], [8, 9], [9, 8, 10], [], [12, 10, 8, 9, 11], [11, 9, 8, 10, 12, 13, 6, 4, 5, 7, 2, 0, 1, 3], [3, 1, 0, 2, 7, 5, 4, 6, 13, 12, 10, 8, 9, 11, 14], [14, 11, 9, 8, 10, 12, 13, 6, 4, 5, 7, 2, 0, 1, 3, 15]] [sD 7 (.mv (.t 0)),
 sD 8 (.nilc (.t 7)),
 sD 9 (.fa 0 (.t 8)),
 sD 10 (.ld none (.t 9)),
 sD 11 (.mv (.t 0)),
 sD 12 (.nilc (.t 11)),
 sD 13 (.fa 1 (.t 12)),
 sD 14 (.ld none (.t 13)),
 sD 15 (.mv (.t 0)),
 sD 16 (.nilc (.t 15)),
 sD 17 (.fa 1 (.t 16)),
 sD 18 (.ld none (.t 17)),
 sD 19 (.mv (.t 3)),
 sD 20 (.bin .add .num (.t 18) (.t 19)),
 sD 21 (.sli (.row 1) (.t 10) (some (.t 14)) (some (.t 20)) none),
 sD 22 (.cv none .b2s (.t 21)),
 sD 4 (.mv (.t 22))])
 (.seq (.reg 0 [] [] [sD 23 (.mv (.t 0)),
 sD 24 (.nilc (.t 23)),
 sD 25 (.fa 1 (.t 24)),
 sD 26 (.ld none (.t 25)),
 sD 27 (.mv (.t 3)),
 sD 28 (.bin .add .num (.t 26) (.t 27)),
 sD 29 (.nilc (.t 23)),
 sD 30 (.fa 1 (.t 29)),
 sN (.st 1 (.t 30) (.t 28))])
 (.seq (.reg 0 [] [] [sD 31 (.mv (.t 4)),
 sD 2 (.mv (.t 31))])
 .ret)))))
def fn39 : IFun := ⟨32, [(.tmp 2)], an39.erase⟩
theorem ok39 : okFun Tryz.prog 39 fn39 = true := by kernel_rfl
theorem oka39 : okA fn39.ntmps fn39.results an39 = true := by kernel_rfl
def sh39 (C : CallA) (r0 : AV) (h : H) (R : AV → H → Prop) : Prop :=
 C 82 [r0] h fun t6 h =>
 valA (nilcA r0) h fun t8 h =>
 valA (faA 0 t8) h fun t9 h =>
 valA (ldA h none t9) h fun t10 h =>
 valA (nilcA r0) h fun t12 h =>
 valA (faA 1 t12) h fun t13 h =>
 valA (ldA h none t13) h fun t14 h =>
 valA (nilcA r0) h fun t16 h =>
 valA (faA 1 t16) h fun t17 h =>
 valA (ldA h none t17) h fun t18 h =>
 valA (binOp .add .num t18 t6) h fun t20 h =>
 valA (sliceOp (.row 1) t10 (some t14) (some t20) none) h fun t21 h =>
 valA (b2sA h t21) h fun t22 h =>
 valA (nilcA r0) h fun t24 h =>
 valA (faA 1 t24) h fun t25 h =>
 valA (ldA h none t25) h fun t26 h =>
 valA (binOp .add .num t26 t6) h fun t28 h =>
 valA (nilcA r0) h fun t29 h =>
 valA (faA 1 t29) h fun t30 h =>
 memA (stA h 1 t30 t28) .undef fun _ h =>
 R t22 h
theorem she39 (C : CallA) (r0 : AV) (h : H) (R : AV → H → Prop) : wpA C an39 (argE [r0]) h (outA [(.tmp 2)] R) = sh39 C r0 h R := by kernel_rfl
/-! bellows/code.some[bellows/api.Func] -/
def an40 : ACode :=
 (.seq (.reg 0 [] [] [sD 4 (.mv (.c .nilsl))])
 (.seq (.reg 0 [] [] [sD 5 (.mv (.c .nilsl))])
 (.seq (.seq (.reg 0 [] [] [sD 6 (.mv (.t 0)),
 sD 7 (.call 82 [(.t 6)]),
 sD 8 (.mv (.c (.int .i64 0)))])
 (.block 0 (.loop [5, 8] 419 (.seq (.reg 0 [] [] [sD 9 (.bin .lss .num (.t 8) (.t 7))])
 (.seq (.cond (.t 9) .skip
 (.exit 0))
 (.seq (.block 1 (.seq (.seq (.reg 0 [] [] [sD 10 (.mv (.t 0)),
 sD 11 (.nilc (.t 10)),
 sD 12 (.fa 2 (.t 11)),
 sD 13 (.ld none (.t 12))])
 (.cond (.t 13) (.seq (.reg 0 [] [] [sD 4 (.mv (.c .nilsl))])
 .ret)
 .skip))
 (.reg 0 [] [] [sD 14 (.mv (.t 5)),
 sD 15 (.mv (.t 1)),
 sD 16 (.callv (.t 15) []),
 sD 17 (.mksl none 39 [.nilsl, (.int .i64 0), (.int .i64 0), .nilsl] 1 [(0, 4, (.t 16))]),
 sD 18 (.app 39 4 64 [.nilsl, (.int .i64 0), (.int .i64 0), .nilsl] (.t 14) (.t 17)),
 sD 5 (.mv (.t 18))])))
 (.reg 0 [] [] [sD 19 (.bin .add .num (.t 8) (.c (.int .i64 1))),
 sD 8 (.mv (.t 19))])))))))
 (.seq (.reg 0 [] [] [sD 20 (.mv (.t 5)),
 sD 4 (.mv (.t 20))])
 .ret))))
def fn40 : IFun := ⟨21, [(.tmp 4)], an40.erase⟩
theorem ok40 : okFun Tryz.prog 40 fn40 = true := by kernel_rfl
theorem oka40 : okA fn40.ntmps fn40.results an40 = true := by kernel_rfl
def sh40 (C : CallA) (r0 each1 : AV) (h : H) (R : AV → H → Prop) : Prop :=
 joinA (fun (l5' : AV) (h : H) =>
  R l5' h) fun J =>
 C 82 [r0] h fun t7 h =>
 loopA (fun N l h => argA l 0 fun l5 => argA l 1 fun t8 => 
  valA (binOp .lss .num t8 t7) h fun t9 h =>
  condA t9
   (valA (nilcA r0) h fun t11 h =>
  valA (faA 2 t11) h fun t12 h =>
  valA (ldA h none t12) h fun t13 h =>
  condA t13
   (R .nilsl h)
   (callvA C each1 [] h fun t16 h =>
  mkslA h 39 1 (fillV [.nilsl, (.int .i64 0), (.int .i64 0), .nilsl] [(0, 4, t16)]) fun t17 h =>
  appendA h 39 4 64 l5 t17 fun t18 h =>
  valA (binOp .add .num t8 (.int .i64 1)) h fun t19 h =>
  N [t18, t19] h))
   (J l5 h)) [.nilsl, (.int .i64 0)] h
theorem she40 (C : CallA) (r0 each1 : AV) (h : H) (R : AV → H → Prop) : wpA C an40 (argE [r0, each1]) h (outA [(.tmp 4)] R) = sh40 C r0 each1 h R := by kernel_rfl
/-! (*bellows/code.reader).function -/
def an41 : ACode :=
 (.seq (.reg 0 [] [] [sD 2 (.al none 39 [.nilsl, (.int .i64 0), (.int .i64 0), .nilsl])])
 (.seq (.reg 0 [] [] [sD 3 (.mv (.t 0)),
 sD 4 (.call 83 [(.t 3)]),
 sD 5 (.fa 0 (.t 2)),
 sN (.st 1 (.t 5) (.t 4))])
 (.seq (.reg 0 [] [] [sD 6 (.mv (.t 0)),
 sD 7 (.call 42 [(.t 6)]),
 sD 8 (.fa 1 (.t 2)),
 sN (.st 1 (.t 8) (.t 7))])
 (.seq (.reg 0 [] [] [sD 9 (.mv (.t 0)),
 sD 10 (.call 42 [(.t 9)]),
 sD 11 (.fa 2 (.t 2)),
 sN (.st 1 (.t 11) (.t 10))])
 (.seq (.reg 0 [] [] [sD 12 (.mv (.t 0)),
 sD 13 (.mv (.t 0)),
 sD 14 (.mkf 85 [(.t 13)] []),
 sD 15 (.call 84 [(.t 12), (.t 14)]),
 sD 16 (.fa 3 (.t 2)),
 sN (.st 1 (.t 16) (.t 15))])
 (.seq (.reg 0 [] [] [sD 17 (.ld (some 4) (.t 2)),
 sN (.st 4 (.t 2) (.t 17))])
 .ret))))))
def fn41 : IFun := ⟨18, [(.cell 2 (some 4))], an41.erase⟩
theorem ok41 : okFun Tryz.prog 41 fn41 = true := by kernel_rfl
theorem oka41 : okA fn41.ntmps fn41.results an41 = true := by kernel_rfl
def sh41 (C : CallA) (r0 : AV) (h : H) (R : AV → H → Prop) : Prop :=
 boxA h [.nilsl, (.int .i64 0), (.int .i64 0), .nilsl] 39 fun f2 h =>
 C 83 [r0] h fun t4 h =>
 valA (faA 0 f2) h fun t5 h =>
 memA (stA h 1 t5 t4) .undef fun _ h =>
 C 42 [r0] h fun t7 h =>
 valA (faA 1 f2) h fun t8 h =>
 memA (stA h 1 t8 t7) .undef fun _ h =>
 C 42 [r0] h fun t10 h =>
 valA (faA 2 f2) h fun t11 h =>
 memA (stA h 1 t11 t10) .undef fun _ h =>
 C 84 [r0, (.fn 85 [r0] [])] h fun t15 h =>
 valA (faA 3 f2) h fun t16 h =>
 memA (stA h 1 t16 t15) .undef fun _ h =>
 valA (ldA h (some 4) f2) h fun t17 h =>
 memA (stA h 4 f2 t17) .undef fun _ h =>
 valA (ldA h (some 4) f2) h fun res _ => R res h
theorem she41 (C : CallA) (r0 : AV) (h : H) (R : AV → H → Prop) : wpA C an41 (argE [r0]) h (outA [(.cell 2 (some 4))] R) = sh41 C r0 h R := by kernel_rfl
/-! (*bellows/code.reader).num -/
def an42 : ACode :=
 (.seq (.reg 0 [] [] [sD 2 (.mv (.c (.int .i64 0)))])
 (.seq (.reg 0 [] [] [sD 3 (.mv (.t 0)),
 sD 4 (.call 86 [(.t 3)]),
 sD 2 (.mv (.t 4))])
 .ret))
def fn42 : IFun := ⟨5, [(.tmp 2)], an42.erase⟩
theorem ok42 : okFun Tryz.prog 42 fn42 = true := by kernel_rfl
theorem oka42 : okA fn42.ntmps fn42.results an42 = true := by kernel_rfl
def sh42 (C : CallA) (r0 : AV) (h : H) (R : AV → H → Prop) : Prop :=
 C 86 [r0] h fun t4 h =>
 R t4 h
theorem she42 (C : CallA) (r0 : AV) (h : H) (R : AV → H → Prop) : wpA C an42 (argE [r0]) h (outA [(.tmp 2)] R) = sh42 C r0 h R := by kernel_rfl
/-! bellows/code.Check -/
def an43 : ACode :=
 (.seq (.reg 0 [] [] [sD 1 (.bx none 28 (.t 0)),
 sD 2 (.mv (.c (.int .i64 0)))])
 (.seq (.seq (.reg 0 [] [] [sD 7 (.ld (some 7) (.t 1)),
 sD 8 (.call 87 [(.t 7)])])
 (.cond (.t 8) (.seq (.reg 0 [] [] [sD 2 (.mv (.c (.int .i64 2)))])
 .ret)
 .skip))
 (.seq (.seq (.reg 0 [] [] [sD 9 (.fa 4 (.t 1)),
 sD 10 (.ld none (.t 9)),
 sD 11 (.len false (.t 10)),
 sD 12 (.mv (.c (.int .i64 0)))])
 (.block 0 (.loop [12] 7168 (.seq (.reg 0 [] [] [sD 13 (.bin .lss .num (.t 12) (.t 11))])
 (.seq (.cond (.t 13) .skip
 (.exit 0))
 (.seq (.block 1 (.seq (.reg 0 [] [] [sD 14 (.ia none 4 (.t 10) (.t 12)),
 sD 15 (.ld (some 4) (.t 14)),
 sD 4 (.al none 39 [.nilsl, (.int .i64 0), (.int .i64 0), .nilsl]),
 sN (.st 4 (.t 4) (.t 15))])
 (.seq (.reg 0 [] [] [sD 16 (.fa 3 (.t 4)),
 sD 17 (.ld none (.t 16)),
 sD 18 (.len false (.t 17)),
 sD 19 (.mv (.c (.int .i64 0)))])
 (.block 2 (.loop [19] 924672 (.seq (.reg 0 [] [] [sD 20 (.bin .lss .num (.t 19) (.t 18))])
 (.seq (.cond (.t 20) .skip
 (.exit 2))
 (.seq (.block 3 (.seq (.reg 0 [] [] [sD 21 (.ia none 2 (.t 17) (.t 19)),
 sD 22 (.ld (some 2) (.t 21)),
 sD 6 (.al none 42 [.nilsl, .nilsl]),
 sN (.st 2 (.t 6) (.t 22))])
 (.seq (.reg 0 [] [] [sD 23 (.fa 1 (.t 6)),
 sD 24 (.ld none (.t 23)),
 sD 25 (.call 88 [(.t 24), (.c (.fn 89 [] []))])])
 (.cond (.t 25) (.seq (.reg 0 [] [] [sD 2 (.mv (.c (.int .i64 1)))])
 .ret)
 .skip))))
 (.reg 0 [] [] [sD 26 (.bin .add .num (.t 19) (.c (.int .i64 1))),
 sD 19 (.mv (.t 26))])))))))))
 (.reg 0 [] [] [sD 27 (.bin .add .num (.t 12) (.c (.int .i64 1))),
 sD 12 (.mv (.t 27))])))))))
 (.seq (.reg 0 [] [] [sD 2 (.mv (.c (.int .i64 0)))])
 .ret))))
def fn43 : IFun := ⟨28, [(.tmp 2)], an43.erase⟩
theorem ok43 : okFun Tryz.prog 43 fn43 = true := by kernel_rfl
theorem oka43 : okA fn43.ntmps fn43.results an43 = true := by kernel_rfl
def sh43 (C : CallA) (m0 : AV) (h : H) (R : AV → H → Prop) : Prop :=
 boxA h (AV.cells m0) 28 fun m1 h =>
 valA (ldA h (some 7) m1) h fun t7 h =>
 C 87 [t7] h fun t8 h =>
 condA t8
  (R (.int .i64 2) h)
  (joinA (fun (h : H) =>
  R (.int .i64 0) h) fun J =>
 valA (faA 4 m1) h fun t9 h =>
 valA (ldA h none t9) h fun t10 h =>
 valA (lenA false t10) h fun t11 h =>
 loopA (fun N l h => argA l 0 fun t12 => 
  valA (binOp .lss .num t12 t11) h fun t13 h =>
  condA t13
   (joinA (fun (h : H) =>
   valA (binOp .add .num t12 (.int .i64 1)) h fun t27 h =>
   N [t27] h) fun J_16 =>
  valA (iaA 4 t10 t12) h fun t14 h =>
  valA (ldA h (some 4) t14) h fun t15 h =>
  boxA h [.nilsl, (.int .i64 0), (.int .i64 0), .nilsl] 39 fun f4 h =>
  memA (stA h 4 f4 t15) .undef fun _ h =>
  valA (faA 3 f4) h fun t16 h =>
  valA (ldA h none t16) h fun t17 h =>
  valA (lenA false t17) h fun t18 h =>
  loopA (fun N_17 l h => argA l 0 fun t19 => 
   valA (binOp .lss .num t19 t18) h fun t20 h =>
   condA t20
    (valA (iaA 2 t17 t19) h fun t21 h =>
   valA (ldA h (some 2) t21) h fun t22 h =>
   boxA h [.nilsl, .nilsl] 42 fun b6 h =>
   memA (stA h 2 b6 t22) .undef fun _ h =>
   valA (faA 1 b6) h fun t23 h =>
   valA (ldA h none t23) h fun t24 h =>
   C 88 [t24, (.fn 89 [] [])] h fun t25 h =>
   condA t25
    (R (.int .i64 1) h)
    (valA (binOp .add .num t19 (.int .i64 1)) h fun t26 h =>
   N_17 [t26] h))
    (J_16 h)) [(.int .i64 0)] h)
   (J h)) [(.int .i64 0)] h)
theorem she43 (C : CallA) (m0 : AV) (h : H) (R : AV → H → Prop) : wpA C an43 (argE [m0]) h (outA [(.tmp 2)] R) = sh43 C m0 h R := by kernel_rfl
/-! bellows/bellowsref04.Bytes -/
def an49 : ACode :=
 (.seq (.reg 0 [] [] [sD 1 (.bx none 28 (.t 0)),
 sD 2 (.mv (.c .nilsl))])
 (.seq (.reg 0 [] [] [sD 19 (.mksl none 5 [(.int .u8 0), (.int .u8 0), (.int .u8 0), (.int .u8 0)] 4 [(0, 1, (.c (.int .u8 66))), (1, 1, (.c (.int .u8 69))), (2, 1, (.c (.int .u8 76))), (3, 1, (.c (.int .u8 49)))]),
 sD 20 (.cv none .keep (.t 19)),
 sD 21 (.fa 0 (.t 1)),
 sD 22 (.ld none (.t 21)),
 sD 23 (.len false (.t 22)),
 sD 24 (.call 92 [(.t 20), (.t 23)]),
 sD 3 (.mv (.t 24))])
 (.seq (.seq (.reg 0 [] [] [sD 25 (.fa 0 (.t 1)),
 sD 26 (.ld none (.t 25)),
 sD 27 (.len false (.t 26)),
 sD 28 (.mv (.c (.int .i64 0)))])
 (.block 0 (.loop [3, 28] 469762058 (.seq (.reg 0 [] [] [sD 29 (.bin .lss .num (.t 28) (.t 27))])
 (.seq (.cond (.t 29) .skip
 (.exit 0))
 (.seq (.block 1 (.seq (.reg 0 [] [] [sD 30 (.ia none 2 (.t 26) (.t 28)),
 sD 31 (.ld (some 2) (.t 30)),
 sD 5 (.al none 46 [(.bool false), .nilsl]),
 sN (.st 2 (.t 5) (.t 31))])
 (.seq (.reg 0 [] [] [sD 6 (.mv (.c (.int .i64 0)))])
 (.seq (.seq (.reg 0 [] [] [sD 32 (.fa 0 (.t 5)),
 sD 33 (.ld none (.t 32))])
 (.cond (.t 33) (.reg 0 [] [] [sD 6 (.mv (.c (.int .i64 1)))])
 .skip))
 (.reg 0 [0, 1, 3, 4, 2, 5, 6] [[], [], [1, 0], [], [3], [3, 4, 0, 1, 2], [2, 1, 0, 4, 3, 5]] [sD 34 (.mv (.t 3)),
 sD 35 (.mv (.t 6)),
 sD 37 (.fa 1 (.t 5)),
 sD 38 (.ld none (.t 37)),
 ⟨(some 36), none, (.call 92 [(.t 34), (.t 35)]), [⟨none, (.ld none (.t 37)), 38⟩]⟩,
 sD 39 (.call 93 [(.t 36), (.t 38)]),
 sD 3 (.mv (.t 39))])))))
 (.reg 0 [] [] [sD 40 (.bin .add .num (.t 28) (.c (.int .i64 1))),
 sD 28 (.mv (.t 40))])))))))
 (.seq (.reg 0 [] [] [sD 41 (.mv (.t 3)),
 sD 42 (.fa 1 (.t 1)),
 sD 43 (.ld none (.t 42)),
 sD 44 (.len false (.t 43)),
 sD 45 (.call 92 [(.t 41), (.t 44)]),
 sD 3 (.mv (.t 45))])
 (.seq (.seq (.reg 0 [] [] [sD 46 (.fa 1 (.t 1)),
 sD 47 (.ld none (.t 46)),
 sD 48 (.len false (.t 47)),
 sD 49 (.mv (.c (.int .i64 0)))])
 (.block 2 (.loop [3, 49] 985162418487306 (.seq (.reg 0 [] [] [sD 50 (.bin .lss .num (.t 49) (.t 48))])
 (.seq (.cond (.t 50) .skip
 (.exit 2))
 (.seq (.block 3 (.seq (.reg 0 [] [] [sD 51 (.ia none 3 (.t 47) (.t 49)),
 sD 52 (.ld (some 3) (.t 51)),
 sD 8 (.al none 61 [(.int .i64 0), .nilsl, (.str [])]),
 sN (.st 3 (.t 8) (.t 52))])
 (.reg 0 [0, 1, 2, 4, 5, 7, 8, 3, 6, 9, 10] [[], [], [1], [1, 2, 0], [], [4], [4, 5, 0, 2, 1, 3], [], [7], [7, 8, 3, 1, 2, 0, 5, 4, 6], [6, 4, 5, 0, 2, 1, 3, 8, 7, 9]] [sD 53 (.mv (.t 3)),
 sD 54 (.fa 0 (.t 8)),
 sD 55 (.ld none (.t 54)),
 sD 57 (.fa 1 (.t 8)),
 sD 58 (.ld none (.t 57)),
 sD 60 (.fa 2 (.t 8)),
 sD 61 (.ld none (.t 60)),
 ⟨(some 56), none, (.call 92 [(.t 53), (.t 55)]), [⟨none, (.ld none (.t 57)), 58⟩, ⟨none, (.ld none (.t 60)), 61⟩]⟩,
 ⟨(some 59), none, (.call 93 [(.t 56), (.t 58)]), [⟨none, (.ld none (.t 60)), 61⟩]⟩,
 sD 62 (.call 94 [(.t 59), (.t 61)]),
 sD 3 (.mv (.t 62))])))
 (.reg 0 [] [] [sD 63 (.bin .add .num (.t 49) (.c (.int .i64 1))),
 sD 49 (.mv (.t 63))])))))))
 (.seq (.reg 0 [] [] [sD 64 (.mv (.t 3)),
 sD 65 (.fa 2 (.t 1)),
 sD 66 (.ld none (.t 65)),
 sD 67 (.len false (.t 66)),
 sD 68 (.call 92 [(.t 64), (.t 67)]),
 sD 3 (.mv (.t 68))])
 (.seq (.seq (.reg 0 [] [] [sD 69 (.fa 2 (.t 1)),
 sD 70 (.ld none (.t 69)),
 sD 71 (.len false (.t 70)),
 sD 72 (.mv (.c (.int .i64 0)))])
 (.block 4 (.loop [3, 72] 8264141345021879123978 (.seq (.reg 0 [] [] [sD 73 (.bin .lss .num (.t 72) (.t 71))])
 (.seq (.cond (.t 73) .skip
 (.exit 4))
 (.seq (.block 5 (.seq (.reg 0 [] [] [sD 74 (.ia none 1 (.t 70) (.t 72)),
 sD 75 (.ld none (.t 74)),
 sD 10 (.mv (.t 75))])
 (.reg 0 [] [] [sD 76 (.mv (.t 3)),
 sD 77 (.mv (.t 10)),
 sD 78 (.call 94 [(.t 76), (.t 77)]),
 sD 3 (.mv (.t 78))])))
 (.reg 0 [] [] [sD 79 (.bin .add .num (.t 72) (.c (.int .i64 1))),
 sD 72 (.mv (.t 79))])))))))
 (.seq (.reg 0 [] [] [sD 80 (.mv (.t 3)),
 sD 81 (.fa 3 (.t 1)),
 sD 82 (.ld none (.t 81)),
 sD 83 (.len false (.t 82)),
 sD 84 (.call 92 [(.t 80), (.t 83)]),
 sD 3 (.mv (.t 84))])
 (.seq (.seq (.reg 0 [] [] [sD 85 (.fa 3 (.t 1)),
 sD 86 (.ld none (.t 85)),
 sD 87 (.len false (.t 86)),
 sD 88 (.mv (.c (.int .i64 0)))])
 (.block 6 (.loop [3, 88] 541598767187353870268366858 (.seq (.reg 0 [] [] [sD 89 (.bin .lss .num (.t 88) (.t 87))])
 (.seq (.cond (.t 89) .skip
 (.exit 6))
 (.seq (.block 7 (.seq (.reg 0 [] [] [sD 90 (.ia none 1 (.t 86) (.t 88)),
 sD 91 (.ld none (.t 90)),
 sD 12 (.mv (.t 91))])
 (.reg 0 [] [] [sD 92 (.mv (.t 3)),
 sD 93 (.mv (.t 12)),
 sD 94 (.call 94 [(.t 92), (.t 93)]),
 sD 3 (.mv (.t 94))])))
 (.reg 0 [] [] [sD 95 (.bin .add .num (.t 88) (.c (.int .i64 1))),
 sD 88 (.mv (.t 95))])))))))
 (.seq (.reg 0 [] [] [sD 96 (.mv (.t 3)),
 sD 97 (.fa 4 (.t 1)),
 sD 98 (.ld none (.t 97)),
 sD 99 (.len false (.t 98)),
 sD 100 (.call 92 [(.t 96), (.t 99)]),
 sD 3 (.mv (.t 100))])
 (.seq (.seq (.reg 0 [] [] [sD 101 (.fa 4 (.t 1)),
 sD 102 (.ld none (.t 101)),
 sD 103 (.len false (.t 102)),
 sD 104 (.mv (.c (.int .i64 0)))])
 (.block 8 (.loop [3, 104] 35494216806390423241907689750538 (.seq (.reg 0 [] [] [sD 105 (.bin .lss .num (.t 104) (.t 103))])
 (.seq (.cond (.t 105) .skip
 (.exit 8))
 (.seq (.block 9 (.seq (.reg 0 [] [] [sD 106 (.ia none 4 (.t 102) (.t 104)),
 sD 107 (.ld (some 4) (.t 106)),
 sD 14 (.al none 39 [.nilsl, (.int .i64 0), (.int .i64 0), .nilsl]),
 sN (.st 4 (.t 14) (.t 107))])
 (.seq (.reg 0 [0, 1, 2, 4, 5, 7, 8, 10, 11, 3, 6, 9, 12, 13, 14] [[], [], [1], [1, 2, 0], [], [4], [4, 5, 0, 2, 1, 3], [], [7], [7, 8, 3, 1, 2, 0, 5, 4, 6], [], [10], [10, 11], [11, 10, 12, 6, 4, 5, 0, 2, 1, 3, 8, 7, 9], [9, 7, 8, 3, 1, 2, 0, 5, 4, 6, 12, 10, 11, 13]] [sD 108 (.mv (.t 3)),
 sD 109 (.fa 0 (.t 14)),
 sD 110 (.ld none (.t 109)),
 sD 112 (.fa 1 (.t 14)),
 sD 113 (.ld none (.t 112)),
 sD 115 (.fa 2 (.t 14)),
 sD 116 (.ld none (.t 115)),
 sD 118 (.fa 3 (.t 14)),
 sD 119 (.ld none (.t 118)),
 ⟨(some 111), none, (.call 93 [(.t 108), (.t 110)]), [⟨none, (.ld none (.t 112)), 113⟩, ⟨none, (.ld none (.t 115)), 116⟩, ⟨none, (.ld none (.t 118)), 119⟩]⟩,
 ⟨(some 114), none, (.call 92 [(.t 111), (.t 113)]), [⟨none, (.ld none (.t 115)), 116⟩, ⟨none, (.ld none (.t 118)), 119⟩]⟩,
 ⟨(some 117), none, (.call 92 [(.t 114), (.t 116)]), [⟨none, (.ld none (.t 118)), 119⟩]⟩,
 sD 120 (.len false (.t 119)),
 sD 121 (.call 92 [(.t 117), (.t 120)]),
 sD 3 (.mv (.t 121))])
 (.seq (.reg 0 [] [] [sD 122 (.fa 3 (.t 14)),
 sD 123 (.ld none (.t 122)),
 sD 124 (.len false (.t 123)),
 sD 125 (.mv (.c (.int .i64 0)))])
 (.block 10 (.loop [3, 125] 74436803258172095273036437283389046794 (.seq (.reg 0 [] [] [sD 126 (.bin .lss .num (.t 125) (.t 124))])
 (.seq (.cond (.t 126) .skip
 (.exit 10))
 (.seq (.block 11 (.seq (.reg 0 [] [] [sD 127 (.ia none 2 (.t 123) (.t 125)),
 sD 128 (.ld (some 2) (.t 127)),
 sD 16 (.al none 42 [.nilsl, .nilsl]),
 sN (.st 2 (.t 16) (.t 128))])
 (.seq (.reg 0 [0, 1, 2, 4, 5, 3, 6, 7, 8] [[], [], [1], [1, 2, 0], [], [4], [4, 5], [5, 4, 6, 0, 2, 1, 3], [3, 1, 2, 0, 6, 4, 5, 7]] [sD 129 (.mv (.t 3)),
 sD 130 (.fa 0 (.t 16)),
 sD 131 (.ld none (.t 130)),
 sD 133 (.fa 1 (.t 16)),
 sD 134 (.ld none (.t 133)),
 ⟨(some 132), none, (.call 93 [(.t 129), (.t 131)]), [⟨none, (.ld none (.t 133)), 134⟩]⟩,
 sD 135 (.len false (.t 134)),
 sD 136 (.call 92 [(.t 132), (.t 135)]),
 sD 3 (.mv (.t 136))])
 (.seq (.reg 0 [] [] [sD 137 (.fa 1 (.t 16)),
 sD 138 (.ld none (.t 137)),
 sD 139 (.len false (.t 138)),
 sD 140 (.mv (.c (.int .i64 0)))])
 (.block 12 (.loop [3, 140] 2439218442892545078200742222508197928763402 (.seq (.reg 0 [] [] [sD 141 (.bin .lss .num (.t 140) (.t 139))])
 (.seq (.cond (.t 141) .skip
 (.exit 12))
 (.seq (.block 13 (.seq (.reg 0 [] [] [sD 142 (.ia none 9 (.t 138) (.t 140)),
 sD 143 (.ld (some 9) (.t 142)),
 sD 18 (.al none 55 [(.int .i64 0), (.int .i64 0), (.int .i64 0), (.int .i64 0), (.int .i64 0), (.int .i64 0), .nilsl, .nilsl, .nilsl]),
 sN (.st 9 (.t 18) (.t 143))])
 (.reg 0 [] [] [sD 144 (.mv (.t 3)),
 sD 145 (.ld (some 9) (.t 18)),
 sD 146 (.call 95 [(.t 144), (.t 145)]),
 sD 3 (.mv (.t 146))])))
 (.reg 0 [] [] [sD 147 (.bin .add .num (.t 140) (.c (.int .i64 1))),
 sD 140 (.mv (.t 147))]))))))))))
 (.reg 0 [] [] [sD 148 (.bin .add .num (.t 125) (.c (.int .i64 1))),
 sD 125 (.mv (.t 148))]))))))))))
 (.reg 0 [] [] [sD 149 (.bin .add .num (.t 104) (.c (.int .i64 1))),
 sD 104 (.mv (.t 149))])))))))
 (.seq (.reg 0 [0, 1, 2, 4, 5, 3, 6, 7] [[], [], [1], [1, 2, 0], [], [4], [4, 5, 0, 2, 1, 3], [3, 1, 2, 0, 5, 4, 6]] [sD 150 (.mv (.t 3)),
 sD 151 (.fa 5 (.t 1)),
 sD 152 (.ld none (.t 151)),
 sD 154 (.fa 6 (.t 1)),
 sD 155 (.ld none (.t 154)),
 ⟨(some 153), none, (.call 92 [(.t 150), (.t 152)]), [⟨none, (.ld none (.t 154)), 155⟩]⟩,
 sD 156 (.call 92 [(.t 153), (.t 155)]),
 sD 2 (.mv (.t 156))])
 .ret))))))))))))
def fn49 : IFun := ⟨157, [(.tmp 2)], an49.erase⟩
theorem ok49 : okFun Tryz.prog 49 fn49 = true := by kernel_rfl
theorem oka49 : okA fn49.ntmps fn49.results an49 = true := by kernel_rfl
def sh49 (C : CallA) (m0 : AV) (h : H) (R : AV → H → Prop) : Prop :=
 boxA h (AV.cells m0) 28 fun m1 h =>
 mkslA h 5 4 (fillV [(.int .u8 0), (.int .u8 0), (.int .u8 0), (.int .u8 0)] [(0, 1, (.int .u8 66)), (1, 1, (.int .u8 69)), (2, 1, (.int .u8 76)), (3, 1, (.int .u8 49))]) fun t19 h =>
 valA (keepA h t19) h fun t20 h =>
 valA (faA 0 m1) h fun t21 h =>
 valA (ldA h none t21) h fun t22 h =>
 valA (lenA false t22) h fun t23 h =>
 C 92 [t20, t23] h fun t24 h =>
 joinA (fun (b3' : AV) (h : H) =>
  valA (faA 1 m1) h fun t42 h =>
  valA (ldA h none t42) h fun t43 h =>
  valA (lenA false t43) h fun t44 h =>
  C 92 [b3', t44] h fun t45 h =>
  joinA (fun (b3'_0 : AV) (h : H) =>
   valA (faA 2 m1) h fun t65 h =>
   valA (ldA h none t65) h fun t66 h =>
   valA (lenA false t66) h fun t67 h =>
   C 92 [b3'_0, t67] h fun t68 h =>
   joinA (fun (b3'_1 : AV) (h : H) =>
    valA (faA 3 m1) h fun t81 h =>
    valA (ldA h none t81) h fun t82 h =>
    valA (lenA false t82) h fun t83 h =>
    C 92 [b3'_1, t83] h fun t84 h =>
    joinA (fun (b3'_2 : AV) (h : H) =>
     valA (faA 4 m1) h fun t97 h =>
     valA (ldA h none t97) h fun t98 h =>
     valA (lenA false t98) h fun t99 h =>
     C 92 [b3'_2, t99] h fun t100 h =>
     joinA (fun (b3'_3 : AV) (h : H) =>
      valA (faA 5 m1) h fun t151 h =>
      valA (ldA h none t151) h fun t152 h =>
      valA (faA 6 m1) h fun t154 h =>
      valA (ldA h none t154) h fun t155 h =>
      C 92 [b3'_3, t152] h fun t153 h =>
      againK (valA (ldA h none t154) h (fun v _ => v = t155)) <|
      C 92 [t153, t155] h fun t156 h =>
      R t156 h) fun J =>
     valA (faA 4 m1) h fun t101 h =>
     valA (ldA h none t101) h fun t102 h =>
     valA (lenA false t102) h fun t103 h =>
     loopA (fun N l h => argA l 0 fun b3 => argA l 1 fun t104 => 
      valA (binOp .lss .num t104 t103) h fun t105 h =>
      condA t105
       (joinA (fun (b3'_4 : AV) (h : H) =>
       valA (binOp .add .num t104 (.int .i64 1)) h fun t149 h =>
       N [b3'_4, t149] h) fun J_51 =>
      valA (iaA 4 t102 t104) h fun t106 h =>
      valA (ldA h (some 4) t106) h fun t107 h =>
      boxA h [.nilsl, (.int .i64 0), (.int .i64 0), .nilsl] 39 fun f14 h =>
      memA (stA h 4 f14 t107) .undef fun _ h =>
      valA (faA 0 f14) h fun t109 h =>
      valA (ldA h none t109) h fun t110 h =>
      valA (faA 1 f14) h fun t112 h =>
      valA (ldA h none t112) h fun t113 h =>
      valA (faA 2 f14) h fun t115 h =>
      valA (ldA h none t115) h fun t116 h =>
      valA (faA 3 f14) h fun t118 h =>
      valA (ldA h none t118) h fun t119 h =>
      C 93 [b3, t110] h fun t111 h =>
      againK (valA (ldA h none t112) h (fun v _ => v = t113)) <|
      againK (valA (ldA h none t115) h (fun v _ => v = t116)) <|
      againK (valA (ldA h none t118) h (fun v _ => v = t119)) <|
      C 92 [t111, t113] h fun t114 h =>
      againK (valA (ldA h none t115) h (fun v _ => v = t116)) <|
      againK (valA (ldA h none t118) h (fun v _ => v = t119)) <|
      C 92 [t114, t116] h fun t117 h =>
      againK (valA (ldA h none t118) h (fun v _ => v = t119)) <|
      valA (lenA false t119) h fun t120 h =>
      C 92 [t117, t120] h fun t121 h =>
      valA (faA 3 f14) h fun t122 h =>
      valA (ldA h none t122) h fun t123 h =>
      valA (lenA false t123) h fun t124 h =>
      loopA (fun N_52 l h => argA l 0 fun b3_53 => argA l 1 fun t125 => 
       valA (binOp .lss .num t125 t124) h fun t126 h =>
       condA t126
        (joinA (fun (b3'_54 : AV) (h : H) =>
        valA (binOp .add .num t125 (.int .i64 1)) h fun t148 h =>
        N_52 [b3'_54, t148] h) fun J_78 =>
       valA (iaA 2 t123 t125) h fun t127 h =>
       valA (ldA h (some 2) t127) h fun t128 h =>
       boxA h [.nilsl, .nilsl] 42 fun k16 h =>
       memA (stA h 2 k16 t128) .undef fun _ h =>
       valA (faA 0 k16) h fun t130 h =>
       valA (ldA h none t130) h fun t131 h =>
       valA (faA 1 k16) h fun t133 h =>
       valA (ldA h none t133) h fun t134 h =>
       C 93 [b3_53, t131] h fun t132 h =>
       againK (valA (ldA h none t133) h (fun v _ => v = t134)) <|
       valA (lenA false t134) h fun t135 h =>
       C 92 [t132, t135] h fun t136 h =>
       valA (faA 1 k16) h fun t137 h =>
       valA (ldA h none t137) h fun t138 h =>
       valA (lenA false t138) h fun t139 h =>
       loopA (fun N_79 l h => argA l 0 fun b3_80 => argA l 1 fun t140 => 
        valA (binOp .lss .num t140 t139) h fun t141 h =>
        condA t141
         (valA (iaA 9 t138 t140) h fun t142 h =>
        valA (ldA h (some 9) t142) h fun t143 h =>
        boxA h [(.int .i64 0), (.int .i64 0), (.int .i64 0), (.int .i64 0), (.int .i64 0), (.int .i64 0), .nilsl, .nilsl, .nilsl] 55 fun x18 h =>
        memA (stA h 9 x18 t143) .undef fun _ h =>
        valA (ldA h (some 9) x18) h fun t145 h =>
        C 95 [b3_80, t145] h fun t146 h =>
        valA (binOp .add .num t140 (.int .i64 1)) h fun t147 h =>
        N_79 [t146, t147] h)
         (J_78 b3_80 h)) [t136, (.int .i64 0)] h)
        (J_51 b3_53 h)) [t121, (.int .i64 0)] h)
       (J b3 h)) [t100, (.int .i64 0)] h) fun J_81 =>
    valA (faA 3 m1) h fun t85 h =>
    valA (ldA h none t85) h fun t86 h =>
    valA (lenA false t86) h fun t87 h =>
    loopA (fun N_82 l h => argA l 0 fun b3_83 => argA l 1 fun t88 => 
     valA (binOp .lss .num t88 t87) h fun t89 h =>
     condA t89
      (valA (iaA 1 t86 t88) h fun t90 h =>
     valA (ldA h none t90) h fun t91 h =>
     C 94 [b3_83, t91] h fun t94 h =>
     valA (binOp .add .num t88 (.int .i64 1)) h fun t95 h =>
     N_82 [t94, t95] h)
      (J_81 b3_83 h)) [t84, (.int .i64 0)] h) fun J_84 =>
   valA (faA 2 m1) h fun t69 h =>
   valA (ldA h none t69) h fun t70 h =>
   valA (lenA false t70) h fun t71 h =>
   loopA (fun N_85 l h => argA l 0 fun b3_86 => argA l 1 fun t72 => 
    valA (binOp .lss .num t72 t71) h fun t73 h =>
    condA t73
     (valA (iaA 1 t70 t72) h fun t74 h =>
    valA (ldA h none t74) h fun t75 h =>
    C 94 [b3_86, t75] h fun t78 h =>
    valA (binOp .add .num t72 (.int .i64 1)) h fun t79 h =>
    N_85 [t78, t79] h)
     (J_84 b3_86 h)) [t68, (.int .i64 0)] h) fun J_87 =>
  valA (faA 1 m1) h fun t46 h =>
  valA (ldA h none t46) h fun t47 h =>
  valA (lenA false t47) h fun t48 h =>
  loopA (fun N_88 l h => argA l 0 fun b3_89 => argA l 1 fun t49 => 
   valA (binOp .lss .num t49 t48) h fun t50 h =>
   condA t50
    (valA (iaA 3 t47 t49) h fun t51 h =>
   valA (ldA h (some 3) t51) h fun t52 h =>
   boxA h [(.int .i64 0), .nilsl, (.str [])] 61 fun s8 h =>
   memA (stA h 3 s8 t52) .undef fun _ h =>
   valA (faA 0 s8) h fun t54 h =>
   valA (ldA h none t54) h fun t55 h =>
   valA (faA 1 s8) h fun t57 h =>
   valA (ldA h none t57) h fun t58 h =>
   valA (faA 2 s8) h fun t60 h =>
   valA (ldA h none t60) h fun t61 h =>
   C 92 [b3_89, t55] h fun t56 h =>
   againK (valA (ldA h none t57) h (fun v _ => v = t58)) <|
   againK (valA (ldA h none t60) h (fun v _ => v = t61)) <|
   C 93 [t56, t58] h fun t59 h =>
   againK (valA (ldA h none t60) h (fun v _ => v = t61)) <|
   C 94 [t59, t61] h fun t62 h =>
   valA (binOp .add .num t49 (.int .i64 1)) h fun t63 h =>
   N_88 [t62, t63] h)
    (J_87 b3_89 h)) [t45, (.int .i64 0)] h) fun J_90 =>
 valA (faA 0 m1) h fun t25 h =>
 valA (ldA h none t25) h fun t26 h =>
 valA (lenA false t26) h fun t27 h =>
 loopA (fun N_91 l h => argA l 0 fun b3_92 => argA l 1 fun t28 => 
  valA (binOp .lss .num t28 t27) h fun t29 h =>
  condA t29
   (valA (iaA 2 t26 t28) h fun t30 h =>
  valA (ldA h (some 2) t30) h fun t31 h =>
  boxA h [(.bool false), .nilsl] 46 fun t5 h =>
  memA (stA h 2 t5 t31) .undef fun _ h =>
  joinA (fun (imm6'_93 : AV) (h : H) =>
   valA (faA 1 t5) h fun t37 h =>
   valA (ldA h none t37) h fun t38 h =>
   C 92 [b3_92, imm6'_93] h fun t36 h =>
   againK (valA (ldA h none t37) h (fun v _ => v = t38)) <|
   C 93 [t36, t38] h fun t39 h =>
   valA (binOp .add .num t28 (.int .i64 1)) h fun t40 h =>
  N_91 [t39, t40] h) fun J_96 =>
  valA (faA 0 t5) h fun t32 h =>
  valA (ldA h none t32) h fun t33 h =>
  condA t33
   (J_96 (.int .i64 1) h)
   (J_96 (.int .i64 0) h))
   (J_90 b3_92 h)) [t24, (.int .i64 0)] h
theorem she49 (C : CallA) (m0 : AV) (h : H) (R : AV → H → Prop) : wpA C an49 (argE [m0]) h (outA [(.tmp 2)] R) = sh49 C m0 h R := by kernel_rfl
/-! slices.EqualFunc[[]bellows/api.Type,[]bellows/api.Type,bellows/api.Type,bellows/api.Type] -/
def an50 : ACode :=
 (.seq (.reg 0 [] [] [sD 6 (.mv (.c (.bool false)))])
 (.seq (.seq (.reg 0 [] [] [sD 10 (.mv (.t 0)),
 sD 11 (.len false (.t 10)),
 sD 12 (.mv (.t 1)),
 sD 13 (.len false (.t 12)),
 sD 14 (.bin .neq .num (.t 11) (.t 13))])
 (.cond (.t 14) (.seq (.reg 0 [] [] [sD 6 (.mv (.c (.bool false)))])
 .ret)
 .skip))
 (.seq (.seq (.reg 0 [] [] [sD 15 (.mv (.t 0)),
 sD 16 (.len false (.t 15)),
 sD 17 (.mv (.c (.int .i64 0)))])
 (.block 0 (.loop [17] 229382 (.seq (.reg 0 [] [] [sD 18 (.bin .lss .num (.t 17) (.t 16))])
 (.seq (.cond (.t 18) .skip
 (.exit 0))
 (.seq (.block 1 (.seq (.reg 0 [] [] [sD 19 (.mv (.t 17)),
 sD 20 (.ia none 2 (.t 15) (.t 17)),
 sD 21 (.ld (some 2) (.t 20)),
 sD 8 (.al none 46 [(.bool false), .nilsl]),
 sD 7 (.mv (.t 19)),
 sN (.st 2 (.t 8) (.t 21))])
 (.seq (.reg 0 [] [] [sD 22 (.mv (.t 1)),
 sD 23 (.mv (.t 7)),
 sD 24 (.ia none 2 (.t 22) (.t 23)),
 sD 25 (.ld (some 2) (.t 24)),
 sD 9 (.al none 46 [(.bool false), .nilsl]),
 sN (.st 2 (.t 9) (.t 25))])
 (.seq (.reg 0 [] [] [sD 26 (.mv (.t 2)),
 sD 27 (.ld (some 2) (.t 8)),
 sD 28 (.ld (some 2) (.t 9)),
 sD 29 (.callv (.t 26) [(.t 27), (.t 28)]),
 sD 30 (.un .not (.t 29))])
 (.cond (.t 30) (.seq (.reg 0 [] [] [sD 6 (.mv (.c (.bool false)))])
 .ret)
 .skip)))))
 (.reg 0 [] [] [sD 31 (.bin .add .num (.t 17) (.c (.int .i64 1))),
 sD 17 (.mv (.t 31))])))))))
 (.seq (.reg 0 [] [] [sD 6 (.mv (.c (.bool true)))])
 .ret))))
def fn50 : IFun := ⟨32, [(.tmp 6)], an50.erase⟩
theorem ok50 : okFun Tryz.prog 50 fn50 = true := by kernel_rfl
theorem oka50 : okA fn50.ntmps fn50.results an50 = true := by kernel_rfl
def sh50 (C : CallA) (s10 s21 eq2 : AV) (h : H) (R : AV → H → Prop) : Prop :=
 valA (lenA false s10) h fun t11 h =>
 valA (lenA false s21) h fun t13 h =>
 valA (binOp .neq .num t11 t13) h fun t14 h =>
 condA t14
  (R (.bool false) h)
  (joinA (fun (h : H) =>
  R (.bool true) h) fun J =>
 valA (lenA false s10) h fun t16 h =>
 loopA (fun N l h => argA l 0 fun t17 => 
  valA (binOp .lss .num t17 t16) h fun t18 h =>
  condA t18
   (valA (iaA 2 s10 t17) h fun t20 h =>
  valA (ldA h (some 2) t20) h fun t21 h =>
  boxA h [(.bool false), .nilsl] 46 fun v18 h =>
  memA (stA h 2 v18 t21) .undef fun _ h =>
  valA (iaA 2 s21 t17) h fun t24 h =>
  valA (ldA h (some 2) t24) h fun t25 h =>
  boxA h [(.bool false), .nilsl] 46 fun v29 h =>
  memA (stA h 2 v29 t25) .undef fun _ h =>
  valA (ldA h (some 2) v18) h fun t27 h =>
  valA (ldA h (some 2) v29) h fun t28 h =>
  callvA C eq2 [t27, t28] h fun t29 h =>
  valA (unOp .not t29) h fun t30 h =>
  condA t30
   (R (.bool false) h)
   (valA (binOp .add .num t17 (.int .i64 1)) h fun t31 h =>
  N [t31] h))
   (J h)) [(.int .i64 0)] h)
theorem she50 (C : CallA) (s10 s21 eq2 : AV) (h : H) (R : AV → H → Prop) : wpA C an50 (argE [s10, s21, eq2]) h (outA [(.tmp 6)] R) = sh50 C s10 s21 eq2 h R := by kernel_rfl
/-! bellows/code.Same$1 -/
def an51 : ACode :=
 (.seq (.reg 0 [] [] [sD 2 (.bx none 46 (.t 0)),
 sD 3 (.bx none 46 (.t 1)),
 sD 4 (.mv (.c (.bool false)))])
 (.seq (.reg 0 [] [] [sD 5 (.fa 0 (.t 2)),
 sD 6 (.ld none (.t 5)),
 sD 7 (.fa 0 (.t 3)),
 sD 8 (.ld none (.t 7)),
 sD 9 (.bin .eql .bool (.t 6) (.t 8)),
 sD 10 (.mv (.t 9)),
 sG 11 10 true (.fa 1 (.t 2)),
 sG 12 10 true (.ld none (.t 11)),
 sG 13 10 true (.fa 1 (.t 3)),
 sG 14 10 true (.ld none (.t 13)),
 sG 15 10 true (.call 52 [(.t 12), (.t 14)]),
 sD 16 (.pick (.t 10) (.t 15) (.c (.bool false))),
 sD 4 (.mv (.t 16))])
 .ret))
def fn51 : IFun := ⟨17, [(.tmp 4)], an51.erase⟩
theorem ok51 : okFun Tryz.prog 51 fn51 = true := by kernel_rfl
theorem oka51 : okA fn51.ntmps fn51.results an51 = true := by kernel_rfl
def sh51 (C : CallA) (x0 y1 : AV) (h : H) (R : AV → H → Prop) : Prop :=
 boxA h (AV.cells x0) 46 fun x2 h =>
 boxA h (AV.cells y1) 46 fun y3 h =>
 valA (faA 0 x2) h fun t5 h =>
 valA (ldA h none t5) h fun t6 h =>
 valA (faA 0 y3) h fun t7 h =>
 valA (ldA h none t7) h fun t8 h =>
 valA (binOp .eql .bool t6 t8) h fun t9 h =>
 whenA t9 true (fun K => valA (faA 1 x2) h K) h fun t11 h =>
 whenA t9 true (fun K => valA (ldA h none t11) h K) h fun t12 h =>
 whenA t9 true (fun K => valA (faA 1 y3) h K) h fun t13 h =>
 whenA t9 true (fun K => valA (ldA h none t13) h K) h fun t14 h =>
 whenA t9 true (fun K => C 52 [t12, t14] h K) h fun t15 h =>
 valA (pickA t9 t15 (.bool false)) h fun t16 h =>
 R t16 h
theorem she51 (C : CallA) (x0 y1 : AV) (h : H) (R : AV → H → Prop) : wpA C an51 (argE [x0, y1]) h (outA [(.tmp 4)] R) = sh51 C x0 y1 h R := by kernel_rfl
/-! slices.Equal[[]int,int] -/
def an52 : ACode :=
 (.seq (.reg 0 [] [] [sD 4 (.mv (.c (.bool false)))])
 (.seq (.seq (.reg 0 [] [] [sD 6 (.mv (.t 0)),
 sD 7 (.len false (.t 6)),
 sD 8 (.mv (.t 1)),
 sD 9 (.len false (.t 8)),
 sD 10 (.bin .neq .num (.t 7) (.t 9))])
 (.cond (.t 10) (.seq (.reg 0 [] [] [sD 4 (.mv (.c (.bool false)))])
 .ret)
 .skip))
 (.seq (.seq (.reg 0 [] [] [sD 11 (.mv (.t 0)),
 sD 12 (.len false (.t 11)),
 sD 13 (.mv (.c (.int .i64 0)))])
 (.block 0 (.loop [13] 12291 (.seq (.reg 0 [] [] [sD 14 (.bin .lss .num (.t 13) (.t 12))])
 (.seq (.cond (.t 14) .skip
 (.exit 0))
 (.seq (.block 1 (.seq (.reg 0 [] [] [sD 15 (.mv (.t 13)),
 sD 5 (.mv (.t 15))])
 (.seq (.reg 0 [0, 1, 2, 3, 4, 5, 6, 7, 8] [[], [], [1, 0], [0, 1, 2], [], [], [5, 4], [4, 5, 6], [6, 5, 4, 7, 2, 1, 0, 3]] [sD 16 (.mv (.t 0)),
 sD 17 (.mv (.t 5)),
 sD 18 (.ia none 1 (.t 16) (.t 17)),
 sD 19 (.ld none (.t 18)),
 sD 20 (.mv (.t 1)),
 sD 21 (.mv (.t 5)),
 sD 22 (.ia none 1 (.t 20) (.t 21)),
 sD 23 (.ld none (.t 22)),
 sD 24 (.bin .neq .num (.t 19) (.t 23))])
 (.cond (.t 24) (.seq (.reg 0 [] [] [sD 4 (.mv (.c (.bool false)))])
 .ret)
 .skip))))
 (.reg 0 [] [] [sD 25 (.bin .add .num (.t 13) (.c (.int .i64 1))),
 sD 13 (.mv (.t 25))])))))))
 (.seq (.reg 0 [] [] [sD 4 (.mv (.c (.bool true)))])
 .ret))))
def fn52 : IFun := ⟨26, [(.tmp 4)], an52.erase⟩
theorem ok52 : okFun Tryz.prog 52 fn52 = true := by kernel_rfl
theorem oka52 : okA fn52.ntmps fn52.results an52 = true := by kernel_rfl
def sh52 (C : CallA) (s10 s21 : AV) (h : H) (R : AV → H → Prop) : Prop :=
 valA (lenA false s10) h fun t7 h =>
 valA (lenA false s21) h fun t9 h =>
 valA (binOp .neq .num t7 t9) h fun t10 h =>
 condA t10
  (R (.bool false) h)
  (joinA (fun (h : H) =>
  R (.bool true) h) fun J =>
 valA (lenA false s10) h fun t12 h =>
 loopA (fun N l h => argA l 0 fun t13 => 
  valA (binOp .lss .num t13 t12) h fun t14 h =>
  condA t14
   (valA (iaA 1 s10 t13) h fun t18 h =>
  valA (ldA h none t18) h fun t19 h =>
  valA (iaA 1 s21 t13) h fun t22 h =>
  valA (ldA h none t22) h fun t23 h =>
  valA (binOp .neq .num t19 t23) h fun t24 h =>
  condA t24
   (R (.bool false) h)
   (valA (binOp .add .num t13 (.int .i64 1)) h fun t25 h =>
  N [t25] h))
   (J h)) [(.int .i64 0)] h)
theorem she52 (C : CallA) (s10 s21 : AV) (h : H) (R : AV → H → Prop) : wpA C an52 (argE [s10, s21]) h (outA [(.tmp 4)] R) = sh52 C s10 s21 h R := by kernel_rfl
end Go.Proofs.YtdljelicbnjfjaaGreat.X
