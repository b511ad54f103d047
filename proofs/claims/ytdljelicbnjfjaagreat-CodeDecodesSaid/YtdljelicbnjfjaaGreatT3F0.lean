/- The plain programs of functions, printed; that they are the model's; what must hold ahead of each. -/
import Derived.Test.YtdljelicbnjfjaaGreatProg
import Derived.Test.YtdljelicbnjfjaaGreatXo
set_option maxRecDepth 100000
set_option linter.unusedVariables false
namespace Go.Proofs.YtdljelicbnjfjaaGreat.X
open Go
/-! bellows/bellowslaw04.CodeDecodes -/
def an3 : ACode :=
 (.seq (.reg 0 [] [] [sD 2 (.mv (.c (.bool false)))])
 (.seq (.seq (.reg 0 [] [] [sD 7 (.mv (.t 0)),
 sD 8 (.len false (.t 7)),
 sD 9 (.bin .gtr .num (.t 8) (.c (.int .i64 40000)))])
 (.cond (.t 9) (.reg 0 [] [] [sD 10 (.mv (.t 0)),
 sD 11 (.sli (.row 1) (.t 10) none (some (.c (.int .i64 40000))) none),
 sD 0 (.mv (.t 11))])
 .skip))
 (.seq (.reg 0 [] [] [sD 13 (.mv (.t 0)),
 sD 14 (.call 12 [(.t 13)]),
 sD 12 (.mv (.t 14)),
 sD 15 (.ext (.t 12) 0),
 sD 16 (.ext (.t 12) 1),
 sD 3 (.al none 28 [.nilsl, .nilsl, .nilsl, .nilsl, .nilsl, (.int .i64 0), (.int .i64 0)]),
 sN (.st 7 (.t 3) (.t 15)),
 sD 4 (.mv (.t 16))])
 (.seq (.reg 0 [] [] [sD 18 (.mv (.t 0)),
 sD 19 (.call 13 [(.t 18)]),
 sD 17 (.mv (.t 19)),
 sD 20 (.ext (.t 17) 0),
 sD 21 (.ext (.t 17) 1),
 sD 5 (.al none 28 [.nilsl, .nilsl, .nilsl, .nilsl, .nilsl, (.int .i64 0), (.int .i64 0)]),
 sN (.st 7 (.t 5) (.t 20)),
 sD 6 (.mv (.t 21))])
 (.seq (.reg 0 [] [] [sD 22 (.mv (.t 4)),
 sD 23 (.mv (.t 6)),
 sD 24 (.bin .eql .num (.t 22) (.t 23)),
 sD 25 (.mv (.t 24)),
 sG 26 25 true (.ld (some 7) (.t 3)),
 sG 27 25 true (.ld (some 7) (.t 5)),
 sG 28 25 true (.call 14 [(.t 26), (.t 27)]),
 sD 29 (.pick (.t 25) (.t 28) (.c (.bool false))),
 sD 30 (.mv (.t 29)),
 sG 31 30 true (.ld (some 7) (.t 3)),
 sG 32 30 true (.ld (some 7) (.t 5)),
 sG 33 30 true (.call 15 [(.t 31), (.t 32)]),
 sD 34 (.pick (.t 30) (.t 33) (.c (.bool false))),
 sD 35 (.mv (.t 34)),
 sG 36 35 true (.call 16 []),
 sD 37 (.pick (.t 35) (.t 36) (.c (.bool false))),
 sD 2 (.mv (.t 37))])
 .ret)))))
def fn3 : IFun := ⟨38, [(.tmp 2)], an3.erase⟩
theorem ok3 : okFun Tryz.prog 3 fn3 = true := by kernel_rfl
theorem oka3 : okA fn3.ntmps fn3.results an3 = true := by kernel_rfl
def sh3 (C : CallA) (b0 : AV) (h : H) (R : AV → H → Prop) : Prop :=
 joinA (fun (b0' : AV) (h : H) =>
 C 12 [b0'] h fun t14 h =>
 valA (extA t14 0) h fun t15 h =>
 valA (extA t14 1) h fun t16 h =>
 boxA h [.nilsl, .nilsl, .nilsl, .nilsl, .nilsl, (.int .i64 0), (.int .i64 0)] 28 fun m3 h =>
 memA (stA h 7 m3 t15) .undef fun _ h =>
 C 13 [b0'] h fun t19 h =>
 valA (extA t19 0) h fun t20 h =>
 valA (extA t19 1) h fun t21 h =>
 boxA h [.nilsl, .nilsl, .nilsl, .nilsl, .nilsl, (.int .i64 0), (.int .i64 0)] 28 fun x5 h =>
 memA (stA h 7 x5 t20) .undef fun _ h =>
 valA (binOp .eql .num t16 t21) h fun t24 h =>
 whenA t24 true (fun K => valA (ldA h (some 7) m3) h K) h fun t26 h =>
 whenA t24 true (fun K => valA (ldA h (some 7) x5) h K) h fun t27 h =>
 whenA t24 true (fun K => C 14 [t26, t27] h K) h fun t28 h =>
 valA (pickA t24 t28 (.bool false)) h fun t29 h =>
 whenA t29 true (fun K => valA (ldA h (some 7) m3) h K) h fun t31 h =>
 whenA t29 true (fun K => valA (ldA h (some 7) x5) h K) h fun t32 h =>
 whenA t29 true (fun K => C 15 [t31, t32] h K) h fun t33 h =>
 valA (pickA t29 t33 (.bool false)) h fun t34 h =>
 whenA t34 true (fun K => C 16 [] h K) h fun t36 h =>
 valA (pickA t34 t36 (.bool false)) h fun t37 h =>
 R t37 h) fun J =>
 valA (lenA false b0) h fun t8 h =>
 valA (binOp .gtr .num t8 (.int .i64 40000)) h fun t9 h =>
 condA t9
 (valA (sliceOp (.row 1) b0 none (some (.int .i64 40000)) none) h fun t11 h =>
 J t11 h)
 (J b0 h)
theorem she3 (C : CallA) (b0 : AV) (h : H) (R : AV → H → Prop) : wpA C an3 (argE [b0]) h (outA [(.tmp 2)] R) = sh3 C b0 h R := by kernel_rfl
/-! bellows/code.Decode -/
def an12 : ACode :=
 (.seq (.reg 0 [] [] [sD 2 (.al none 28 [.nilsl, .nilsl, .nilsl, .nilsl, .nilsl, (.int .i64 0), (.int .i64 0)]),
 sD 3 (.mv (.c (.int .i64 0)))])
 (.seq (.seq (.reg 0 [] [] [sD 6 (.mv (.t 0)),
 sD 7 (.len false (.t 6)),
 sD 8 (.bin .lss .num (.t 7) (.c (.int .i64 4))),
 sD 9 (.mv (.t 8)),
 sG 10 9 false (.mv (.t 0)),
 sG 11 9 false (.sli (.row 1) (.t 10) none (some (.c (.int .i64 4))) none),
 sG 12 9 false (.cv none .b2s (.t 11)),
 sG 13 9 false (.bin .neq .num (.t 12) (.c (.str [66, 69, 76, 49]))),
 sD 14 (.pick (.t 9) (.c (.bool true)) (.t 13))])
 (.cond (.t 14) (.seq (.reg 0 [] [] [sD 15 (.build [.nilsl, .nilsl, .nilsl, .nilsl, .nilsl, (.int .i64 0), (.int .i64 0)] []),
 sN (.st 7 (.t 2) (.t 15)),
 sD 3 (.mv (.c (.int .i64 20)))])
 .ret)
 .skip))
 (.seq (.reg 0 [] [] [sD 16 (.mv (.t 0)),
 sD 17 (.build [.nilsl, (.int .i64 0), (.bool false)] [(0, 1, (.t 16)), (1, 1, (.c (.int .i64 4)))]),
 sD 18 (.bx none 67 (.t 17)),
 sD 4 (.mv (.t 18))])
 (.seq (.reg 0 [] [] [sD 5 (.al none 28 [.nilsl, .nilsl, .nilsl, .nilsl, .nilsl, (.int .i64 0), (.int .i64 0)])])
 (.seq (.reg 0 [] [] [sD 19 (.mv (.t 4)),
 sD 20 (.mv (.t 4)),
 sD 21 (.mkf 35 [(.t 20)] []),
 sD 22 (.call 34 [(.t 19), (.t 21)]),
 sD 23 (.fa 0 (.t 5)),
 sN (.st 1 (.t 23) (.t 22))])
 (.seq (.reg 0 [] [] [sD 24 (.mv (.t 4)),
 sD 25 (.mv (.t 4)),
 sD 26 (.mkf 37 [(.t 25)] []),
 sD 27 (.call 36 [(.t 24), (.t 26)]),
 sD 28 (.fa 1 (.t 5)),
 sN (.st 1 (.t 28) (.t 27))])
 (.seq (.reg 0 [] [] [sD 29 (.mv (.t 4)),
 sD 30 (.mv (.t 4)),
 sD 31 (.mkf 39 [(.t 30)] []),
 sD 32 (.call 38 [(.t 29), (.t 31)]),
 sD 33 (.fa 2 (.t 5)),
 sN (.st 1 (.t 33) (.t 32))])
 (.seq (.reg 0 [] [] [sD 34 (.mv (.t 4)),
 sD 35 (.mv (.t 4)),
 sD 36 (.mkf 39 [(.t 35)] []),
 sD 37 (.call 38 [(.t 34), (.t 36)]),
 sD 38 (.fa 3 (.t 5)),
 sN (.st 1 (.t 38) (.t 37))])
 (.seq (.reg 0 [] [] [sD 39 (.mv (.t 4)),
 sD 40 (.mv (.t 4)),
 sD 41 (.mkf 41 [(.t 40)] []),
 sD 42 (.call 40 [(.t 39), (.t 41)]),
 sD 43 (.fa 4 (.t 5)),
 sN (.st 1 (.t 43) (.t 42))])
 (.seq (.reg 0 [] [] [sD 44 (.mv (.t 4)),
 sD 45 (.call 42 [(.t 44)]),
 sD 46 (.fa 5 (.t 5)),
 sN (.st 1 (.t 46) (.t 45))])
 (.seq (.reg 0 [] [] [sD 47 (.mv (.t 4)),
 sD 48 (.call 42 [(.t 47)]),
 sD 49 (.fa 6 (.t 5)),
 sN (.st 1 (.t 49) (.t 48))])
 (.seq (.seq (.reg 0 [] [] [sD 50 (.mv (.t 4)),
 sD 51 (.nilc (.t 50)),
 sD 52 (.fa 2 (.t 51)),
 sD 53 (.ld none (.t 52)),
 sD 54 (.mv (.t 53)),
 sG 55 54 false (.mv (.t 4)),
 sG 56 54 false (.nilc (.t 55)),
 sG 57 54 false (.fa 1 (.t 56)),
 sG 58 54 false (.ld none (.t 57)),
 sG 59 54 false (.mv (.t 0)),
 sG 60 54 false (.len false (.t 59)),
 sG 61 54 false (.bin .neq .num (.t 58) (.t 60)),
 sD 62 (.pick (.t 54) (.c (.bool true)) (.t 61)),
 sD 63 (.mv (.t 62)),
 sG 64 63 false (.ld (some 7) (.t 5)),
 sG 65 63 false (.call 43 [(.t 64)]),
 sG 66 63 false (.bin .neq .num (.t 65) (.c (.int .i64 0))),
 sD 67 (.pick (.t 63) (.c (.bool true)) (.t 66))])
 (.cond (.t 67) (.seq (.reg 0 [] [] [sD 68 (.build [.nilsl, .nilsl, .nilsl, .nilsl, .nilsl, (.int .i64 0), (.int .i64 0)] []),
 sN (.st 7 (.t 2) (.t 68)),
 sD 3 (.mv (.c (.int .i64 20)))])
 .ret)
 .skip))
 (.seq (.reg 0 [] [] [sD 69 (.ld (some 7) (.t 5)),
 sN (.st 7 (.t 2) (.t 69)),
 sD 3 (.mv (.c (.int .i64 0)))])
 .ret)))))))))))))
def fn12 : IFun := ⟨70, [(.cell 2 (some 7)), (.tmp 3)], an12.erase⟩
theorem ok12 : okFun Tryz.prog 12 fn12 = true := by kernel_rfl
theorem oka12 : okA fn12.ntmps fn12.results an12 = true := by kernel_rfl
def sh12 (C : CallA) (b0 : AV) (h : H) (R : AV → H → Prop) : Prop :=
 boxA h [.nilsl, .nilsl, .nilsl, .nilsl, .nilsl, (.int .i64 0), (.int .i64 0)] 28 fun t2 h =>
 valA (lenA false b0) h fun t7 h =>
 valA (binOp .lss .num t7 (.int .i64 4)) h fun t8 h =>
 whenA t8 false (fun K => K b0 h) h fun t10 h =>
 whenA t8 false (fun K => valA (sliceOp (.row 1) t10 none (some (.int .i64 4)) none) h K) h fun t11 h =>
 whenA t8 false (fun K => valA (b2sA h t11) h K) h fun t12 h =>
 whenA t8 false (fun K => valA (binOp .neq .num t12 (.str [66, 69, 76, 49])) h K) h fun t13 h =>
 valA (pickA t8 (.bool true) t13) h fun t14 h =>
 condA t14
 (valA (buildA (fillV [.nilsl, .nilsl, .nilsl, .nilsl, .nilsl, (.int .i64 0), (.int .i64 0)] [])) h fun t15 h =>
 memA (stA h 7 t2 t15) .undef fun _ h =>
 valA (ldA h (some 7) t2) h fun res _ => R (.tup [res, (.int .i64 20)]) h)
 (valA (buildA (fillV [.nilsl, (.int .i64 0), (.bool false)] [(0, 1, b0), (1, 1, (.int .i64 4))])) h fun t17 h =>
 boxA h (AV.cells t17) 67 fun t18 h =>
 boxA h [.nilsl, .nilsl, .nilsl, .nilsl, .nilsl, (.int .i64 0), (.int .i64 0)] 28 fun m5 h =>
 C 34 [t18, (.fn 35 [t18] [])] h fun t22 h =>
 valA (faA 0 m5) h fun t23 h =>
 memA (stA h 1 t23 t22) .undef fun _ h =>
 C 36 [t18, (.fn 37 [t18] [])] h fun t27 h =>
 valA (faA 1 m5) h fun t28 h =>
 memA (stA h 1 t28 t27) .undef fun _ h =>
 C 38 [t18, (.fn 39 [t18] [])] h fun t32 h =>
 valA (faA 2 m5) h fun t33 h =>
 memA (stA h 1 t33 t32) .undef fun _ h =>
 C 38 [t18, (.fn 39 [t18] [])] h fun t37 h =>
 valA (faA 3 m5) h fun t38 h =>
 memA (stA h 1 t38 t37) .undef fun _ h =>
 C 40 [t18, (.fn 41 [t18] [])] h fun t42 h =>
 valA (faA 4 m5) h fun t43 h =>
 memA (stA h 1 t43 t42) .undef fun _ h =>
 C 42 [t18] h fun t45 h =>
 valA (faA 5 m5) h fun t46 h =>
 memA (stA h 1 t46 t45) .undef fun _ h =>
 C 42 [t18] h fun t48 h =>
 valA (faA 6 m5) h fun t49 h =>
 memA (stA h 1 t49 t48) .undef fun _ h =>
 valA (nilcA t18) h fun t51 h =>
 valA (faA 2 t51) h fun t52 h =>
 valA (ldA h none t52) h fun t53 h =>
 whenA t53 false (fun K => K t18 h) h fun t55 h =>
 whenA t53 false (fun K => valA (nilcA t55) h K) h fun t56 h =>
 whenA t53 false (fun K => valA (faA 1 t56) h K) h fun t57 h =>
 whenA t53 false (fun K => valA (ldA h none t57) h K) h fun t58 h =>
 whenA t53 false (fun K => K b0 h) h fun t59 h =>
 whenA t53 false (fun K => valA (lenA false t59) h K) h fun t60 h =>
 whenA t53 false (fun K => valA (binOp .neq .num t58 t60) h K) h fun t61 h =>
 valA (pickA t53 (.bool true) t61) h fun t62 h =>
 whenA t62 false (fun K => valA (ldA h (some 7) m5) h K) h fun t64 h =>
 whenA t62 false (fun K => C 43 [t64] h K) h fun t65 h =>
 whenA t62 false (fun K => valA (binOp .neq .num t65 (.int .i64 0)) h K) h fun t66 h =>
 valA (pickA t62 (.bool true) t66) h fun t67 h =>
 condA t67
 (valA (buildA (fillV [.nilsl, .nilsl, .nilsl, .nilsl, .nilsl, (.int .i64 0), (.int .i64 0)] [])) h fun t68 h =>
 memA (stA h 7 t2 t68) .undef fun _ h =>
 valA (ldA h (some 7) t2) h fun res_0 _ => R (.tup [res_0, (.int .i64 20)]) h)
 (valA (ldA h (some 7) m5) h fun t69 h =>
 memA (stA h 7 t2 t69) .undef fun _ h =>
 valA (ldA h (some 7) t2) h fun res_1 _ => R (.tup [res_1, (.int .i64 0)]) h))
theorem she12 (C : CallA) (b0 : AV) (h : H) (R : AV → H → Prop) : wpA C an12 (argE [b0]) h (outA [(.cell 2 (some 7)), (.tmp 3)] R) = sh12 C b0 h R := by kernel_rfl
/-! bellows/bellowsref04.Decode -/
def an13 : ACode :=
 (.seq (.reg 0 [] [] [sD 2 (.al none 28 [.nilsl, .nilsl, .nilsl, .nilsl, .nilsl, (.int .i64 0), (.int .i64 0)]),
 sD 3 (.mv (.c (.int .i64 0)))])
 (.seq (.seq (.reg 0 [] [] [sD 13 (.mv (.t 0)),
 sD 14 (.len false (.t 13)),
 sD 15 (.bin .lss .num (.t 14) (.c (.int .i64 4)))])
 (.cond (.t 15) (.seq (.reg 0 [] [] [sD 16 (.build [.nilsl, .nilsl, .nilsl, .nilsl, .nilsl, (.int .i64 0), (.int .i64 0)] []),
 sN (.st 7 (.t 2) (.t 16)),
 sD 3 (.mv (.c (.int .i64 20)))])
 .ret)
 .skip))
 (.seq (.reg 0 [] [] [sD 17 (.mv (.t 0)),
 sD 18 (.build [.nilsl, (.int .i64 0), (.bool false)] [(0, 1, (.t 17)), (1, 1, (.c (.int .i64 4)))]),
 sD 19 (.bx none 79 (.t 18)),
 sD 4 (.mv (.t 19))])
 (.seq (.reg 0 [] [] [sD 20 (.build [.nilsl, .nilsl, .nilsl, .nilsl, .nilsl, (.int .i64 0), (.int .i64 0)] []),
 sD 5 (.al none 28 [.nilsl, .nilsl, .nilsl, .nilsl, .nilsl, (.int .i64 0), (.int .i64 0)]),
 sN (.st 7 (.t 5) (.t 20))])
 (.seq (.reg 0 [] [] [sD 21 (.mv (.t 4)),
 sD 22 (.call 44 [(.t 21)]),
 sD 6 (.mv (.t 22))])
 (.seq (.seq (.reg 0 [] [] [sD 7 (.mv (.c (.int .i64 0)))])
 (.block 0 (.loop [7] 245 (.seq (.seq (.reg 0 [] [] [sD 23 (.mv (.t 7)),
 sD 24 (.mv (.t 6)),
 sD 25 (.bin .lss .num (.t 23) (.t 24)),
 sD 26 (.mv (.t 25)),
 sG 27 26 true (.mv (.t 4)),
 sG 28 26 true (.nilc (.t 27)),
 sG 29 26 true (.fa 2 (.t 28)),
 sG 30 26 true (.ld none (.t 29)),
 sG 31 26 true (.un .not (.t 30)),
 sD 32 (.pick (.t 26) (.t 31) (.c (.bool false)))])
 (.cond (.t 32) .skip
 (.exit 0)))
 (.seq (.block 1 (.reg 1 [0, 1, 2, 3, 4, 5, 6, 7, 8, 9, 10, 11] [[], [0], [], [2], [2, 3], [], [2, 3, 5], [5, 6, 3, 2, 4], [4, 2, 3, 6, 5, 7], [7, 5, 6, 3, 2, 4, 8, 0, 1], [9, 8, 7, 6, 5, 4, 3, 2, 1, 0], [0, 1, 2, 3, 4, 5, 6, 7, 8, 9, 10]] [sD 35 (.fa 0 (.t 5)),
 sD 36 (.ld none (.t 35)),
 sD 37 (.mv (.t 4)),
 ⟨(some 38), none, (.call 45 [(.t 37)]), [⟨none, (.ld none (.t 35)), 36⟩]⟩,
 sD 39 (.bin .eql .num (.t 38) (.c (.int .i64 1))),
 sD 40 (.mv (.t 4)),
 ⟨(some 41), none, (.call 46 [(.t 40)]), [⟨none, (.ld none (.t 35)), 36⟩]⟩,
 sD 42 (.build [(.bool false), .nilsl] [(0, 1, (.t 39)), (1, 1, (.t 41))]),
 sD 43 (.mksl (some 0) 46 [(.bool false), .nilsl] 1 [(0, 2, (.t 42))]),
 sD 44 (.app 46 2 32 [(.bool false), .nilsl] (.t 36) (.t 43)),
 sD 45 (.fa 0 (.t 5)),
 sN (.st 1 (.t 45) (.t 44))]))
 (.reg 0 [] [] [sD 33 (.mv (.t 7)),
 sD 34 (.bin .add .num (.t 33) (.c (.int .i64 1))),
 sD 7 (.mv (.t 34))]))))))
 (.seq (.reg 0 [] [] [sD 46 (.mv (.t 4)),
 sD 47 (.call 44 [(.t 46)]),
 sD 6 (.mv (.t 47))])
 (.seq (.seq (.reg 0 [] [] [sD 8 (.mv (.c (.int .i64 0)))])
 (.block 2 (.loop [8] 373 (.seq (.seq (.reg 0 [] [] [sD 48 (.mv (.t 8)),
 sD 49 (.mv (.t 6)),
 sD 50 (.bin .lss .num (.t 48) (.t 49)),
 sD 51 (.mv (.t 50)),
 sG 52 51 true (.mv (.t 4)),
 sG 53 51 true (.nilc (.t 52)),
 sG 54 51 true (.fa 2 (.t 53)),
 sG 55 51 true (.ld none (.t 54)),
 sG 56 51 true (.un .not (.t 55)),
 sD 57 (.pick (.t 51) (.t 56) (.c (.bool false)))])
 (.cond (.t 57) .skip
 (.exit 2)))
 (.seq (.block 3 (.seq (.reg 0 [] [] [sD 60 (.mv (.t 4)),
 sD 61 (.call 45 [(.t 60)]),
 sD 62 (.build [(.int .i64 0), .nilsl, (.str [])] [(0, 1, (.t 61))]),
 sD 9 (.al none 61 [(.int .i64 0), .nilsl, (.str [])]),
 sN (.st 3 (.t 9) (.t 62))])
 (.seq (.reg 0 [] [] [sD 63 (.mv (.t 4)),
 sD 64 (.call 46 [(.t 63)]),
 sD 65 (.fa 1 (.t 9)),
 sN (.st 1 (.t 65) (.t 64))])
 (.seq (.reg 0 [] [] [sD 66 (.mv (.t 4)),
 sD 67 (.call 47 [(.t 66)]),
 sD 68 (.fa 2 (.t 9)),
 sN (.st 1 (.t 68) (.t 67))])
 (.reg 0 [] [] [sD 69 (.fa 1 (.t 5)),
 sD 70 (.ld none (.t 69)),
 sD 71 (.ld (some 3) (.t 9)),
 sD 72 (.mksl none 61 [(.int .i64 0), .nilsl, (.str [])] 1 [(0, 3, (.t 71))]),
 sD 73 (.app 61 3 48 [(.int .i64 0), .nilsl, (.str [])] (.t 70) (.t 72)),
 sD 74 (.fa 1 (.t 5)),
 sN (.st 1 (.t 74) (.t 73))])))))
 (.reg 0 [] [] [sD 58 (.mv (.t 8)),
 sD 59 (.bin .add .num (.t 58) (.c (.int .i64 1))),
 sD 8 (.mv (.t 59))]))))))
 (.seq (.reg 0 [] [] [sD 75 (.mv (.t 4)),
 sD 76 (.call 44 [(.t 75)]),
 sD 6 (.mv (.t 76))])
 (.seq (.seq (.reg 0 [] [] [sD 10 (.mv (.c (.int .i64 0)))])
 (.block 4 (.loop [10] 1141 (.seq (.seq (.reg 0 [] [] [sD 77 (.mv (.t 10)),
 sD 78 (.mv (.t 6)),
 sD 79 (.bin .lss .num (.t 77) (.t 78)),
 sD 80 (.mv (.t 79)),
 sG 81 80 true (.mv (.t 4)),
 sG 82 80 true (.nilc (.t 81)),
 sG 83 80 true (.fa 2 (.t 82)),
 sG 84 80 true (.ld none (.t 83)),
 sG 85 80 true (.un .not (.t 84)),
 sD 86 (.pick (.t 80) (.t 85) (.c (.bool false)))])
 (.cond (.t 86) .skip
 (.exit 4)))
 (.seq (.block 5 (.reg 1 [0, 1, 2, 3, 4, 5, 6, 7] [[], [0], [], [2], [2, 3], [3, 2, 4, 0, 1], [5, 4, 3, 2, 1, 0], [0, 1, 2, 3, 4, 5, 6]] [sD 89 (.fa 2 (.t 5)),
 sD 90 (.ld none (.t 89)),
 sD 91 (.mv (.t 4)),
 ⟨(some 92), none, (.call 47 [(.t 91)]), [⟨none, (.ld none (.t 89)), 90⟩]⟩,
 sD 93 (.mksl (some 0) 9 [(.str [])] 1 [(0, 1, (.t 92))]),
 sD 94 (.app 9 1 16 [(.str [])] (.t 90) (.t 93)),
 sD 95 (.fa 2 (.t 5)),
 sN (.st 1 (.t 95) (.t 94))]))
 (.reg 0 [] [] [sD 87 (.mv (.t 10)),
 sD 88 (.bin .add .num (.t 87) (.c (.int .i64 1))),
 sD 10 (.mv (.t 88))]))))))
 (.seq (.reg 0 [] [] [sD 96 (.mv (.t 4)),
 sD 97 (.call 44 [(.t 96)]),
 sD 6 (.mv (.t 97))])
 (.seq (.seq (.reg 0 [] [] [sD 11 (.mv (.c (.int .i64 0)))])
 (.block 6 (.loop [11] 2165 (.seq (.seq (.reg 0 [] [] [sD 98 (.mv (.t 11)),
 sD 99 (.mv (.t 6)),
 sD 100 (.bin .lss .num (.t 98) (.t 99)),
 sD 101 (.mv (.t 100)),
 sG 102 101 true (.mv (.t 4)),
 sG 103 101 true (.nilc (.t 102)),
 sG 104 101 true (.fa 2 (.t 103)),
 sG 105 101 true (.ld none (.t 104)),
 sG 106 101 true (.un .not (.t 105)),
 sD 107 (.pick (.t 101) (.t 106) (.c (.bool false)))])
 (.cond (.t 107) .skip
 (.exit 6)))
 (.seq (.block 7 (.reg 1 [0, 1, 2, 3, 4, 5, 6, 7] [[], [0], [], [2], [2, 3], [3, 2, 4, 0, 1], [5, 4, 3, 2, 1, 0], [0, 1, 2, 3, 4, 5, 6]] [sD 110 (.fa 3 (.t 5)),
 sD 111 (.ld none (.t 110)),
 sD 112 (.mv (.t 4)),
 ⟨(some 113), none, (.call 47 [(.t 112)]), [⟨none, (.ld none (.t 110)), 111⟩]⟩,
 sD 114 (.mksl (some 0) 9 [(.str [])] 1 [(0, 1, (.t 113))]),
 sD 115 (.app 9 1 16 [(.str [])] (.t 111) (.t 114)),
 sD 116 (.fa 3 (.t 5)),
 sN (.st 1 (.t 116) (.t 115))]))
 (.reg 0 [] [] [sD 108 (.mv (.t 11)),
 sD 109 (.bin .add .num (.t 108) (.c (.int .i64 1))),
 sD 11 (.mv (.t 109))]))))))
 (.seq (.reg 0 [] [] [sD 117 (.mv (.t 4)),
 sD 118 (.call 44 [(.t 117)]),
 sD 6 (.mv (.t 118))])
 (.seq (.seq (.reg 0 [] [] [sD 12 (.mv (.c (.int .i64 0)))])
 (.block 8 (.loop [12] 4213 (.seq (.seq (.reg 0 [] [] [sD 119 (.mv (.t 12)),
 sD 120 (.mv (.t 6)),
 sD 121 (.bin .lss .num (.t 119) (.t 120)),
 sD 122 (.mv (.t 121)),
 sG 123 122 true (.mv (.t 4)),
 sG 124 122 true (.nilc (.t 123)),
 sG 125 122 true (.fa 2 (.t 124)),
 sG 126 122 true (.ld none (.t 125)),
 sG 127 122 true (.un .not (.t 126)),
 sD 128 (.pick (.t 122) (.t 127) (.c (.bool false)))])
 (.cond (.t 128) .skip
 (.exit 8)))
 (.seq (.block 9 (.reg 1 [0, 1, 2, 3, 4, 5, 6, 7] [[], [0], [], [2], [2, 3], [3, 2, 4, 0, 1], [5, 4, 3, 2, 1, 0], [0, 1, 2, 3, 4, 5, 6]] [sD 131 (.fa 4 (.t 5)),
 sD 132 (.ld none (.t 131)),
 sD 133 (.mv (.t 4)),
 ⟨(some 134), none, (.call 48 [(.t 133)]), [⟨none, (.ld none (.t 131)), 132⟩]⟩,
 sD 135 (.mksl (some 0) 39 [.nilsl, (.int .i64 0), (.int .i64 0), .nilsl] 1 [(0, 4, (.t 134))]),
 sD 136 (.app 39 4 64 [.nilsl, (.int .i64 0), (.int .i64 0), .nilsl] (.t 132) (.t 135)),
 sD 137 (.fa 4 (.t 5)),
 sN (.st 1 (.t 137) (.t 136))]))
 (.reg 0 [] [] [sD 129 (.mv (.t 12)),
 sD 130 (.bin .add .num (.t 129) (.c (.int .i64 1))),
 sD 12 (.mv (.t 130))]))))))
 (.seq (.reg 0 [] [] [sD 138 (.mv (.t 4)),
 sD 139 (.call 45 [(.t 138)]),
 sD 140 (.fa 5 (.t 5)),
 sN (.st 1 (.t 140) (.t 139))])
 (.seq (.reg 0 [] [] [sD 141 (.mv (.t 4)),
 sD 142 (.call 45 [(.t 141)]),
 sD 143 (.fa 6 (.t 5)),
 sN (.st 1 (.t 143) (.t 142))])
 (.seq (.seq (.reg 0 [0, 1, 2, 3, 4, 5, 6, 7, 8, 9, 10, 13, 14, 11, 12, 15, 16] [[], [0], [0, 1], [1, 0, 2], [2, 0, 1, 3], [3, 1, 0, 2, 4], [4, 2, 0, 1, 3, 5], [5, 3, 1, 0, 2, 4, 6], [6, 5, 7, 3, 1, 0, 2, 4], [4, 2, 0, 1, 3, 7, 5, 6, 8], [8, 6, 5, 7, 3, 1, 0, 2, 4, 9], [9, 4, 2, 0, 1, 3, 7, 5, 6, 8, 10], [10, 8, 6, 5, 7, 3, 1, 0, 2, 4, 9, 11], [8, 6, 5, 7, 3, 1, 0, 2, 4, 9], [9, 4, 2, 0, 1, 3, 7, 5, 6, 8, 13], [13, 14, 11, 9, 4, 2, 0, 1, 3, 7, 5, 6, 8, 10, 12], [12, 10, 11, 14, 13, 15, 8, 6, 5, 7, 3, 1, 0, 2, 4, 9]] [sD 144 (.mv (.t 4)),
 sD 145 (.nilc (.t 144)),
 sD 146 (.fa 2 (.t 145)),
 sD 147 (.ld none (.t 146)),
 sD 148 (.mv (.t 147)),
 sG 149 148 false (.ld (some 7) (.t 5)),
 sG 150 148 false (.call 19 [(.t 149)]),
 sG 151 148 false (.bin .neq .num (.t 150) (.c (.int .i64 0))),
 sD 152 (.pick (.t 148) (.c (.bool true)) (.t 151)),
 sD 153 (.mv (.t 152)),
 sG 154 153 false (.ld (some 7) (.t 5)),
 sG 157 153 false (.mv (.t 0)),
 sG 158 153 false (.cv none .b2s (.t 157)),
 ⟨(some 155), (some (153, false)), (.call 49 [(.t 154)]), [⟨(some (153, false)), (.cv none .b2s (.t 157)), 158⟩]⟩,
 sG 156 153 false (.cv none .b2s (.t 155)),
 sG 159 153 false (.bin .neq .num (.t 156) (.t 158)),
 sD 160 (.pick (.t 153) (.c (.bool true)) (.t 159))])
 (.cond (.t 160) (.seq (.reg 0 [] [] [sD 161 (.build [.nilsl, .nilsl, .nilsl, .nilsl, .nilsl, (.int .i64 0), (.int .i64 0)] []),
 sN (.st 7 (.t 2) (.t 161)),
 sD 3 (.mv (.c (.int .i64 20)))])
 .ret)
 .skip))
 (.seq (.reg 0 [] [] [sD 162 (.ld (some 7) (.t 5)),
 sN (.st 7 (.t 2) (.t 162)),
 sD 3 (.mv (.c (.int .i64 0)))])
 .ret))))))))))))))))))
def fn13 : IFun := ⟨163, [(.cell 2 (some 7)), (.tmp 3)], an13.erase⟩
theorem ok13 : okFun Tryz.prog 13 fn13 = true := by kernel_rfl
theorem oka13 : okA fn13.ntmps fn13.results an13 = true := by kernel_rfl
def sh13 (C : CallA) (b0 : AV) (h : H) (R : AV → H → Prop) : Prop :=
 boxA h [.nilsl, .nilsl, .nilsl, .nilsl, .nilsl, (.int .i64 0), (.int .i64 0)] 28 fun t2 h =>
 valA (lenA false b0) h fun t14 h =>
 valA (binOp .lss .num t14 (.int .i64 4)) h fun t15 h =>
 condA t15
 (valA (buildA (fillV [.nilsl, .nilsl, .nilsl, .nilsl, .nilsl, (.int .i64 0), (.int .i64 0)] [])) h fun t16 h =>
 memA (stA h 7 t2 t16) .undef fun _ h =>
 valA (ldA h (some 7) t2) h fun res _ => R (.tup [res, (.int .i64 20)]) h)
 (valA (buildA (fillV [.nilsl, (.int .i64 0), (.bool false)] [(0, 1, b0), (1, 1, (.int .i64 4))])) h fun t18 h =>
 boxA h (AV.cells t18) 79 fun t19 h =>
 valA (buildA (fillV [.nilsl, .nilsl, .nilsl, .nilsl, .nilsl, (.int .i64 0), (.int .i64 0)] [])) h fun t20 h =>
 boxA h [.nilsl, .nilsl, .nilsl, .nilsl, .nilsl, (.int .i64 0), (.int .i64 0)] 28 fun m5 h =>
 memA (stA h 7 m5 t20) .undef fun _ h =>
 C 44 [t19] h fun t22 h =>
 joinA (fun (h : H) =>
 C 44 [t19] h fun t47 h =>
 joinA (fun (h : H) =>
 C 44 [t19] h fun t76 h =>
 joinA (fun (h : H) =>
 C 44 [t19] h fun t97 h =>
 joinA (fun (h : H) =>
 C 44 [t19] h fun t118 h =>
 joinA (fun (h : H) =>
 C 45 [t19] h fun t139 h =>
 valA (faA 5 m5) h fun t140 h =>
 memA (stA h 1 t140 t139) .undef fun _ h =>
 C 45 [t19] h fun t142 h =>
 valA (faA 6 m5) h fun t143 h =>
 memA (stA h 1 t143 t142) .undef fun _ h =>
 valA (nilcA t19) h fun t145 h =>
 valA (faA 2 t145) h fun t146 h =>
 valA (ldA h none t146) h fun t147 h =>
 whenA t147 false (fun K => valA (ldA h (some 7) m5) h K) h fun t149 h =>
 whenA t147 false (fun K => C 19 [t149] h K) h fun t150 h =>
 whenA t147 false (fun K => valA (binOp .neq .num t150 (.int .i64 0)) h K) h fun t151 h =>
 valA (pickA t147 (.bool true) t151) h fun t152 h =>
 whenA t152 false (fun K => valA (ldA h (some 7) m5) h K) h fun t154 h =>
 whenA t152 false (fun K => K b0 h) h fun t157 h =>
 whenA t152 false (fun K => valA (b2sA h t157) h K) h fun t158 h =>
 whenA t152 false (fun K => C 49 [t154] h K) h fun t155 h =>
 againK (whenP t152 false (valA (b2sA h t157) h (fun v _ => v = t158))) <|
 whenA t152 false (fun K => valA (b2sA h t155) h K) h fun t156 h =>
 whenA t152 false (fun K => valA (binOp .neq .num t156 t158) h K) h fun t159 h =>
 valA (pickA t152 (.bool true) t159) h fun t160 h =>
 condA t160
 (valA (buildA (fillV [.nilsl, .nilsl, .nilsl, .nilsl, .nilsl, (.int .i64 0), (.int .i64 0)] [])) h fun t161 h =>
 memA (stA h 7 t2 t161) .undef fun _ h =>
 valA (ldA h (some 7) t2) h fun res_0 _ => R (.tup [res_0, (.int .i64 20)]) h)
 (valA (ldA h (some 7) m5) h fun t162 h =>
 memA (stA h 7 t2 t162) .undef fun _ h =>
 valA (ldA h (some 7) t2) h fun res_1 _ => R (.tup [res_1, (.int .i64 0)]) h)) fun J =>
 loopA (fun N l h => argA l 0 fun i12 => 
 valA (binOp .lss .num i12 t118) h fun t121 h =>
 whenA t121 true (fun K => K t19 h) h fun t123 h =>
 whenA t121 true (fun K => valA (nilcA t123) h K) h fun t124 h =>
 whenA t121 true (fun K => valA (faA 2 t124) h K) h fun t125 h =>
 whenA t121 true (fun K => valA (ldA h none t125) h K) h fun t126 h =>
 whenA t121 true (fun K => valA (unOp .not t126) h K) h fun t127 h =>
 valA (pickA t121 t127 (.bool false)) h fun t128 h =>
 condA t128
 (valA (faA 4 m5) h fun t131 h =>
 valA (ldA h none t131) h fun t132 h =>
 C 48 [t19] h fun t134 h =>
 againK (valA (ldA h none t131) h (fun v _ => v = t132)) <|
 mkslA h 39 1 (fillV [.nilsl, (.int .i64 0), (.int .i64 0), .nilsl] [(0, 4, t134)]) fun t135 h =>
 appendA h 39 4 64 t132 t135 fun t136 h =>
 valA (faA 4 m5) h fun t137 h =>
 memA (stA h 1 t137 t136) .undef fun _ h =>
 valA (binOp .add .num i12 (.int .i64 1)) h fun t130 h =>
 N [t130] h)
 (J h)) [(.int .i64 0)] h) fun J_2 =>
 loopA (fun N_3 l h => argA l 0 fun i11 => 
 valA (binOp .lss .num i11 t97) h fun t100 h =>
 whenA t100 true (fun K => K t19 h) h fun t102 h =>
 whenA t100 true (fun K => valA (nilcA t102) h K) h fun t103 h =>
 whenA t100 true (fun K => valA (faA 2 t103) h K) h fun t104 h =>
 whenA t100 true (fun K => valA (ldA h none t104) h K) h fun t105 h =>
 whenA t100 true (fun K => valA (unOp .not t105) h K) h fun t106 h =>
 valA (pickA t100 t106 (.bool false)) h fun t107 h =>
 condA t107
 (valA (faA 3 m5) h fun t110 h =>
 valA (ldA h none t110) h fun t111 h =>
 C 47 [t19] h fun t113 h =>
 againK (valA (ldA h none t110) h (fun v _ => v = t111)) <|
 mkslA h 9 1 (fillV [(.str [])] [(0, 1, t113)]) fun t114 h =>
 appendA h 9 1 16 t111 t114 fun t115 h =>
 valA (faA 3 m5) h fun t116 h =>
 memA (stA h 1 t116 t115) .undef fun _ h =>
 valA (binOp .add .num i11 (.int .i64 1)) h fun t109 h =>
 N_3 [t109] h)
 (J_2 h)) [(.int .i64 0)] h) fun J_4 =>
 loopA (fun N_5 l h => argA l 0 fun i10 => 
 valA (binOp .lss .num i10 t76) h fun t79 h =>
 whenA t79 true (fun K => K t19 h) h fun t81 h =>
 whenA t79 true (fun K => valA (nilcA t81) h K) h fun t82 h =>
 whenA t79 true (fun K => valA (faA 2 t82) h K) h fun t83 h =>
 whenA t79 true (fun K => valA (ldA h none t83) h K) h fun t84 h =>
 whenA t79 true (fun K => valA (unOp .not t84) h K) h fun t85 h =>
 valA (pickA t79 t85 (.bool false)) h fun t86 h =>
 condA t86
 (valA (faA 2 m5) h fun t89 h =>
 valA (ldA h none t89) h fun t90 h =>
 C 47 [t19] h fun t92 h =>
 againK (valA (ldA h none t89) h (fun v _ => v = t90)) <|
 mkslA h 9 1 (fillV [(.str [])] [(0, 1, t92)]) fun t93 h =>
 appendA h 9 1 16 t90 t93 fun t94 h =>
 valA (faA 2 m5) h fun t95 h =>
 memA (stA h 1 t95 t94) .undef fun _ h =>
 valA (binOp .add .num i10 (.int .i64 1)) h fun t88 h =>
 N_5 [t88] h)
 (J_4 h)) [(.int .i64 0)] h) fun J_6 =>
 loopA (fun N_7 l h => argA l 0 fun i8 => 
 valA (binOp .lss .num i8 t47) h fun t50 h =>
 whenA t50 true (fun K => K t19 h) h fun t52 h =>
 whenA t50 true (fun K => valA (nilcA t52) h K) h fun t53 h =>
 whenA t50 true (fun K => valA (faA 2 t53) h K) h fun t54 h =>
 whenA t50 true (fun K => valA (ldA h none t54) h K) h fun t55 h =>
 whenA t50 true (fun K => valA (unOp .not t55) h K) h fun t56 h =>
 valA (pickA t50 t56 (.bool false)) h fun t57 h =>
 condA t57
 (C 45 [t19] h fun t61 h =>
 valA (buildA (fillV [(.int .i64 0), .nilsl, (.str [])] [(0, 1, t61)])) h fun t62 h =>
 boxA h [(.int .i64 0), .nilsl, (.str [])] 61 fun s9 h =>
 memA (stA h 3 s9 t62) .undef fun _ h =>
 C 46 [t19] h fun t64 h =>
 valA (faA 1 s9) h fun t65 h =>
 memA (stA h 1 t65 t64) .undef fun _ h =>
 C 47 [t19] h fun t67 h =>
 valA (faA 2 s9) h fun t68 h =>
 memA (stA h 1 t68 t67) .undef fun _ h =>
 valA (faA 1 m5) h fun t69 h =>
 valA (ldA h none t69) h fun t70 h =>
 valA (ldA h (some 3) s9) h fun t71 h =>
 mkslA h 61 1 (fillV [(.int .i64 0), .nilsl, (.str [])] [(0, 3, t71)]) fun t72 h =>
 appendA h 61 3 48 t70 t72 fun t73 h =>
 valA (faA 1 m5) h fun t74 h =>
 memA (stA h 1 t74 t73) .undef fun _ h =>
 valA (binOp .add .num i8 (.int .i64 1)) h fun t59 h =>
 N_7 [t59] h)
 (J_6 h)) [(.int .i64 0)] h) fun J_8 =>
 loopA (fun N_9 l h => argA l 0 fun i7 => 
 valA (binOp .lss .num i7 t22) h fun t25 h =>
 whenA t25 true (fun K => K t19 h) h fun t27 h =>
 whenA t25 true (fun K => valA (nilcA t27) h K) h fun t28 h =>
 whenA t25 true (fun K => valA (faA 2 t28) h K) h fun t29 h =>
 whenA t25 true (fun K => valA (ldA h none t29) h K) h fun t30 h =>
 whenA t25 true (fun K => valA (unOp .not t30) h K) h fun t31 h =>
 valA (pickA t25 t31 (.bool false)) h fun t32 h =>
 condA t32
 (valA (faA 0 m5) h fun t35 h =>
 valA (ldA h none t35) h fun t36 h =>
 C 45 [t19] h fun t38 h =>
 againK (valA (ldA h none t35) h (fun v _ => v = t36)) <|
 valA (binOp .eql .num t38 (.int .i64 1)) h fun t39 h =>
 C 46 [t19] h fun t41 h =>
 againK (valA (ldA h none t35) h (fun v _ => v = t36)) <|
 valA (buildA (fillV [(.bool false), .nilsl] [(0, 1, t39), (1, 1, t41)])) h fun t42 h =>
 mkslA h 46 1 (fillV [(.bool false), .nilsl] [(0, 2, t42)]) fun t43 h =>
 appendA h 46 2 32 t36 t43 fun t44 h =>
 valA (faA 0 m5) h fun t45 h =>
 memA (stA h 1 t45 t44) .undef fun _ h =>
 valA (binOp .add .num i7 (.int .i64 1)) h fun t34 h =>
 N_9 [t34] h)
 (J_8 h)) [(.int .i64 0)] h)
theorem she13 (C : CallA) (b0 : AV) (h : H) (R : AV → H → Prop) : wpA C an13 (argE [b0]) h (outA [(.cell 2 (some 7)), (.tmp 3)] R) = sh13 C b0 h R := by kernel_rfl
/-! bellows/bellowsref04.Same -/
def an14 : ACode :=
 (.seq (.reg 0 [] [] [sD 2 (.bx none 28 (.t 0)),
 sD 3 (.bx none 28 (.t 1)),
 sD 4 (.mv (.c (.bool false)))])
 (.seq (.reg 0 [0, 3, 1, 2, 4, 5, 6, 7] [[], [0], [0, 1], [], [0, 1, 3], [3, 1, 0, 4], [4, 3, 5, 1, 0, 2], [2, 0, 1, 5, 3, 4, 6]] [sD 5 (.ld (some 7) (.t 2)),
 sD 8 (.ld (some 7) (.t 3)),
 ⟨(some 6), none, (.call 49 [(.t 5)]), [⟨none, (.ld (some 7) (.t 3)), 8⟩]⟩,
 sD 7 (.cv none .b2s (.t 6)),
 ⟨(some 9), none, (.call 49 [(.t 8)]), [⟨none, (.cv none .b2s (.t 6)), 7⟩]⟩,
 sD 10 (.cv none .b2s (.t 9)),
 sD 11 (.bin .eql .num (.t 7) (.t 10)),
 sD 4 (.mv (.t 11))])
 .ret))
def fn14 : IFun := ⟨12, [(.tmp 4)], an14.erase⟩
theorem ok14 : okFun Tryz.prog 14 fn14 = true := by kernel_rfl
theorem oka14 : okA fn14.ntmps fn14.results an14 = true := by kernel_rfl
def sh14 (C : CallA) (a0 b1 : AV) (h : H) (R : AV → H → Prop) : Prop :=
 boxA h (AV.cells a0) 28 fun a2 h =>
 boxA h (AV.cells b1) 28 fun b3 h =>
 valA (ldA h (some 7) a2) h fun t5 h =>
 valA (ldA h (some 7) b3) h fun t8 h =>
 C 49 [t5] h fun t6 h =>
 againK (valA (ldA h (some 7) b3) h (fun v _ => v = t8)) <|
 valA (b2sA h t6) h fun t7 h =>
 C 49 [t8] h fun t9 h =>
 againK (valA (b2sA h t6) h (fun v _ => v = t7)) <|
 valA (b2sA h t9) h fun t10 h =>
 valA (binOp .eql .num t7 t10) h fun t11 h =>
 R t11 h
theorem she14 (C : CallA) (a0 b1 : AV) (h : H) (R : AV → H → Prop) : wpA C an14 (argE [a0, b1]) h (outA [(.tmp 4)] R) = sh14 C a0 b1 h R := by kernel_rfl
/-! bellows/code.Same -/
def an15 : ACode :=
 (.seq (.reg 0 [] [] [sD 2 (.bx none 28 (.t 0)),
 sD 3 (.bx none 28 (.t 1)),
 sD 4 (.mv (.c (.bool false)))])
 (.seq (.reg 0 [] [] [sD 5 (.fa 0 (.t 2)),
 sD 6 (.ld none (.t 5)),
 sD 7 (.fa 0 (.t 3)),
 sD 8 (.ld none (.t 7)),
 sD 9 (.call 50 [(.t 6), (.t 8), (.c (.fn 51 [] []))]),
 sD 10 (.mv (.t 9)),
 sG 11 10 true (.fa 1 (.t 2)),
 sG 12 10 true (.ld none (.t 11)),
 sG 13 10 true (.fa 1 (.t 3)),
 sG 14 10 true (.ld none (.t 13)),
 sG 15 10 true (.call 53 [(.t 12), (.t 14), (.c (.fn 54 [] []))]),
 sD 16 (.pick (.t 10) (.t 15) (.c (.bool false))),
 sD 17 (.mv (.t 16)),
 sG 18 17 true (.fa 2 (.t 2)),
 sG 19 17 true (.ld none (.t 18)),
 sG 20 17 true (.fa 2 (.t 3)),
 sG 21 17 true (.ld none (.t 20)),
 sG 22 17 true (.call 55 [(.t 19), (.t 21)]),
 sD 23 (.pick (.t 17) (.t 22) (.c (.bool false))),
 sD 24 (.mv (.t 23)),
 sG 25 24 true (.fa 3 (.t 2)),
 sG 26 24 true (.ld none (.t 25)),
 sG 27 24 true (.fa 3 (.t 3)),
 sG 28 24 true (.ld none (.t 27)),
 sG 29 24 true (.call 55 [(.t 26), (.t 28)]),
 sD 30 (.pick (.t 24) (.t 29) (.c (.bool false))),
 sD 31 (.mv (.t 30)),
 sG 32 31 true (.fa 4 (.t 2)),
 sG 33 31 true (.ld none (.t 32)),
 sG 34 31 true (.fa 4 (.t 3)),
 sG 35 31 true (.ld none (.t 34)),
 sG 36 31 true (.call 56 [(.t 33), (.t 35), (.c (.fn 57 [] []))]),
 sD 37 (.pick (.t 31) (.t 36) (.c (.bool false))),
 sD 38 (.mv (.t 37)),
 sG 39 38 true (.fa 5 (.t 2)),
 sG 40 38 true (.ld none (.t 39)),
 sG 41 38 true (.fa 5 (.t 3)),
 sG 42 38 true (.ld none (.t 41)),
 sG 43 38 true (.bin .eql .num (.t 40) (.t 42)),
 sD 44 (.pick (.t 38) (.t 43) (.c (.bool false))),
 sD 45 (.mv (.t 44)),
 sG 46 45 true (.fa 6 (.t 2)),
 sG 47 45 true (.ld none (.t 46)),
 sG 48 45 true (.fa 6 (.t 3)),
 sG 49 45 true (.ld none (.t 48)),
 sG 50 45 true (.bin .eql .num (.t 47) (.t 49)),
 sD 51 (.pick (.t 45) (.t 50) (.c (.bool false))),
 sD 4 (.mv (.t 51))])
 .ret))
def fn15 : IFun := ⟨52, [(.tmp 4)], an15.erase⟩
theorem ok15 : okFun Tryz.prog 15 fn15 = true := by kernel_rfl
theorem oka15 : okA fn15.ntmps fn15.results an15 = true := by kernel_rfl
def sh15 (C : CallA) (a0 b1 : AV) (h : H) (R : AV → H → Prop) : Prop :=
 boxA h (AV.cells a0) 28 fun a2 h =>
 boxA h (AV.cells b1) 28 fun b3 h =>
 valA (faA 0 a2) h fun t5 h =>
 valA (ldA h none t5) h fun t6 h =>
 valA (faA 0 b3) h fun t7 h =>
 valA (ldA h none t7) h fun t8 h =>
 C 50 [t6, t8, (.fn 51 [] [])] h fun t9 h =>
 whenA t9 true (fun K => valA (faA 1 a2) h K) h fun t11 h =>
 whenA t9 true (fun K => valA (ldA h none t11) h K) h fun t12 h =>
 whenA t9 true (fun K => valA (faA 1 b3) h K) h fun t13 h =>
 whenA t9 true (fun K => valA (ldA h none t13) h K) h fun t14 h =>
 whenA t9 true (fun K => C 53 [t12, t14, (.fn 54 [] [])] h K) h fun t15 h =>
 valA (pickA t9 t15 (.bool false)) h fun t16 h =>
 whenA t16 true (fun K => valA (faA 2 a2) h K) h fun t18 h =>
 whenA t16 true (fun K => valA (ldA h none t18) h K) h fun t19 h =>
 whenA t16 true (fun K => valA (faA 2 b3) h K) h fun t20 h =>
 whenA t16 true (fun K => valA (ldA h none t20) h K) h fun t21 h =>
 whenA t16 true (fun K => C 55 [t19, t21] h K) h fun t22 h =>
 valA (pickA t16 t22 (.bool false)) h fun t23 h =>
 whenA t23 true (fun K => valA (faA 3 a2) h K) h fun t25 h =>
 whenA t23 true (fun K => valA (ldA h none t25) h K) h fun t26 h =>
 whenA t23 true (fun K => valA (faA 3 b3) h K) h fun t27 h =>
 whenA t23 true (fun K => valA (ldA h none t27) h K) h fun t28 h =>
 whenA t23 true (fun K => C 55 [t26, t28] h K) h fun t29 h =>
 valA (pickA t23 t29 (.bool false)) h fun t30 h =>
 whenA t30 true (fun K => valA (faA 4 a2) h K) h fun t32 h =>
 whenA t30 true (fun K => valA (ldA h none t32) h K) h fun t33 h =>
 whenA t30 true (fun K => valA (faA 4 b3) h K) h fun t34 h =>
 whenA t30 true (fun K => valA (ldA h none t34) h K) h fun t35 h =>
 whenA t30 true (fun K => C 56 [t33, t35, (.fn 57 [] [])] h K) h fun t36 h =>
 valA (pickA t30 t36 (.bool false)) h fun t37 h =>
 whenA t37 true (fun K => valA (faA 5 a2) h K) h fun t39 h =>
 whenA t37 true (fun K => valA (ldA h none t39) h K) h fun t40 h =>
 whenA t37 true (fun K => valA (faA 5 b3) h K) h fun t41 h =>
 whenA t37 true (fun K => valA (ldA h none t41) h K) h fun t42 h =>
 whenA t37 true (fun K => valA (binOp .eql .num t40 t42) h K) h fun t43 h =>
 valA (pickA t37 t43 (.bool false)) h fun t44 h =>
 whenA t44 true (fun K => valA (faA 6 a2) h K) h fun t46 h =>
 whenA t44 true (fun K => valA (ldA h none t46) h K) h fun t47 h =>
 whenA t44 true (fun K => valA (faA 6 b3) h K) h fun t48 h =>
 whenA t44 true (fun K => valA (ldA h none t48) h K) h fun t49 h =>
 whenA t44 true (fun K => valA (binOp .eql .num t47 t49) h K) h fun t50 h =>
 valA (pickA t44 t50 (.bool false)) h fun t51 h =>
 R t51 h
theorem she15 (C : CallA) (a0 b1 : AV) (h : H) (R : AV → H → Prop) : wpA C an15 (argE [a0, b1]) h (outA [(.tmp 4)] R) = sh15 C a0 b1 h R := by kernel_rfl
/-! bellows/bellowslaw04.lives -/
def an16 : ACode :=
 (.seq (.reg 0 [] [] [sD 0 (.mv (.c (.bool false)))])
 (.seq (.reg 0 [] [] [sD 8 (.build [.nilsl, .nilsl, .nilsl, .nilsl, .nilsl, (.int .i64 0), (.int .i64 0)] []),
 sD 9 (.call 58 [(.t 8)]),
 sD 7 (.mv (.t 9)),
 sD 10 (.ext (.t 7) 0),
 sD 11 (.ext (.t 7) 1),
 sD 1 (.mv (.t 10)),
 sD 2 (.mv (.t 11))])
 (.seq (.reg 0 [] [] [sD 13 (.mksl none 5 [(.int .u8 0), (.int .u8 0), (.int .u8 0)] 3 [(0, 1, (.c (.int .u8 66))), (1, 1, (.c (.int .u8 69))), (2, 1, (.c (.int .u8 76)))]),
 sD 14 (.cv none .keep (.t 13)),
 sD 15 (.call 12 [(.t 14)]),
 sD 12 (.mv (.t 15)),
 sD 16 (.ext (.t 12) 0),
 sD 17 (.ext (.t 12) 1),
 sD 3 (.al none 28 [.nilsl, .nilsl, .nilsl, .nilsl, .nilsl, (.int .i64 0), (.int .i64 0)]),
 sN (.st 7 (.t 3) (.t 16)),
 sD 4 (.mv (.t 17))])
 (.seq (.reg 0 [] [] [sD 19 (.mv (.t 1)),
 sD 20 (.call 12 [(.t 19)]),
 sD 18 (.mv (.t 20)),
 sD 21 (.ext (.t 18) 0),
 sD 22 (.ext (.t 18) 1),
 sD 5 (.al none 28 [.nilsl, .nilsl, .nilsl, .nilsl, .nilsl, (.int .i64 0), (.int .i64 0)]),
 sN (.st 7 (.t 5) (.t 21)),
 sD 6 (.mv (.t 22))])
 (.seq (.reg 0 [] [] [sD 23 (.mv (.t 2)),
 sD 24 (.bin .eql .num (.t 23) (.c (.int .i64 0))),
 sD 25 (.mv (.t 24)),
 sG 26 25 true (.mv (.t 4)),
 sG 27 25 true (.bin .eql .num (.t 26) (.c (.int .i64 20))),
 sD 28 (.pick (.t 25) (.t 27) (.c (.bool false))),
 sD 29 (.mv (.t 28)),
 sG 30 29 true (.mv (.t 6)),
 sG 31 29 true (.bin .eql .num (.t 30) (.c (.int .i64 0))),
 sD 32 (.pick (.t 29) (.t 31) (.c (.bool false))),
 sD 33 (.mv (.t 32)),
 sG 34 33 true (.mv (.t 1)),
 sG 35 33 true (.cv none .b2s (.t 34)),
 sG 36 33 true (.bin .eql .num (.t 35) (.c (.str [66, 69, 76, 49, 0, 0, 0, 0, 0, 0, 0]))),
 sD 37 (.pick (.t 33) (.t 36) (.c (.bool false))),
 sD 38 (.mv (.t 37)),
 sG 39 38 true (.fa 5 (.t 5)),
 sG 40 38 true (.ld none (.t 39)),
 sG 41 38 true (.bin .eql .num (.t 40) (.c (.int .i64 0))),
 sD 42 (.pick (.t 38) (.t 41) (.c (.bool false))),
 sD 43 (.mv (.t 42)),
 sG 44 43 true (.call 59 [(.c (.int .i64 19))]),
 sG 45 43 true (.bin .eql .num (.t 44) (.c (.str [65, 66, 67]))),
 sD 46 (.pick (.t 43) (.t 45) (.c (.bool false))),
 sD 47 (.mv (.t 46)),
 sG 48 47 true (.build [(.int .i64 0), (.int .i64 0), (.int .i64 0), (.int .i64 0), (.int .i64 0), (.int .i64 0), .nilsl, .nilsl, .nilsl] [(0, 1, (.c (.int .i64 18))), (2, 1, (.c (.int .i64 3)))]),
 sG 49 47 true (.call 60 [(.t 48)]),
 sD 50 (.pick (.t 47) (.t 49) (.c (.bool false))),
 sD 51 (.mv (.t 50)),
 sG 52 51 true (.build [(.int .i64 0), (.int .i64 0), (.int .i64 0), (.int .i64 0), (.int .i64 0), (.int .i64 0), .nilsl, .nilsl, .nilsl] [(0, 1, (.c (.int .i64 18))), (2, 1, (.c (.int .i64 3))), (1, 1, (.c (.int .i64 1)))]),
 sG 53 51 true (.call 60 [(.t 52)]),
 sG 54 51 true (.un .not (.t 53)),
 sD 55 (.pick (.t 51) (.t 54) (.c (.bool false))),
 sD 0 (.mv (.t 55))])
 .ret)))))
def fn16 : IFun := ⟨56, [(.tmp 0)], an16.erase⟩
theorem ok16 : okFun Tryz.prog 16 fn16 = true := by kernel_rfl
theorem oka16 : okA fn16.ntmps fn16.results an16 = true := by kernel_rfl
def sh16 (C : CallA) (h : H) (R : AV → H → Prop) : Prop :=
 valA (buildA (fillV [.nilsl, .nilsl, .nilsl, .nilsl, .nilsl, (.int .i64 0), (.int .i64 0)] [])) h fun t8 h =>
 C 58 [t8] h fun t9 h =>
 valA (extA t9 0) h fun t10 h =>
 valA (extA t9 1) h fun t11 h =>
 mkslA h 5 3 (fillV [(.int .u8 0), (.int .u8 0), (.int .u8 0)] [(0, 1, (.int .u8 66)), (1, 1, (.int .u8 69)), (2, 1, (.int .u8 76))]) fun t13 h =>
 valA (keepA h t13) h fun t14 h =>
 C 12 [t14] h fun t15 h =>
 valA (extA t15 0) h fun t16 h =>
 valA (extA t15 1) h fun t17 h =>
 boxA h [.nilsl, .nilsl, .nilsl, .nilsl, .nilsl, (.int .i64 0), (.int .i64 0)] 28 fun t3 h =>
 memA (stA h 7 t3 t16) .undef fun _ h =>
 C 12 [t10] h fun t20 h =>
 valA (extA t20 0) h fun t21 h =>
 valA (extA t20 1) h fun t22 h =>
 boxA h [.nilsl, .nilsl, .nilsl, .nilsl, .nilsl, (.int .i64 0), (.int .i64 0)] 28 fun m5 h =>
 memA (stA h 7 m5 t21) .undef fun _ h =>
 valA (binOp .eql .num t11 (.int .i64 0)) h fun t24 h =>
 whenA t24 true (fun K => K t17 h) h fun t26 h =>
 whenA t24 true (fun K => valA (binOp .eql .num t26 (.int .i64 20)) h K) h fun t27 h =>
 valA (pickA t24 t27 (.bool false)) h fun t28 h =>
 whenA t28 true (fun K => K t22 h) h fun t30 h =>
 whenA t28 true (fun K => valA (binOp .eql .num t30 (.int .i64 0)) h K) h fun t31 h =>
 valA (pickA t28 t31 (.bool false)) h fun t32 h =>
 whenA t32 true (fun K => K t10 h) h fun t34 h =>
 whenA t32 true (fun K => valA (b2sA h t34) h K) h fun t35 h =>
 whenA t32 true (fun K => valA (binOp .eql .num t35 (.str [66, 69, 76, 49, 0, 0, 0, 0, 0, 0, 0])) h K) h fun t36 h =>
 valA (pickA t32 t36 (.bool false)) h fun t37 h =>
 whenA t37 true (fun K => valA (faA 5 m5) h K) h fun t39 h =>
 whenA t37 true (fun K => valA (ldA h none t39) h K) h fun t40 h =>
 whenA t37 true (fun K => valA (binOp .eql .num t40 (.int .i64 0)) h K) h fun t41 h =>
 valA (pickA t37 t41 (.bool false)) h fun t42 h =>
 whenA t42 true (fun K => C 59 [(.int .i64 19)] h K) h fun t44 h =>
 whenA t42 true (fun K => valA (binOp .eql .num t44 (.str [65, 66, 67])) h K) h fun t45 h =>
 valA (pickA t42 t45 (.bool false)) h fun t46 h =>
 whenA t46 true (fun K => valA (buildA (fillV [(.int .i64 0), (.int .i64 0), (.int .i64 0), (.int .i64 0), (.int .i64 0), (.int .i64 0), .nilsl, .nilsl, .nilsl] [(0, 1, (.int .i64 18)), (2, 1, (.int .i64 3))])) h K) h fun t48 h =>
 whenA t46 true (fun K => C 60 [t48] h K) h fun t49 h =>
 valA (pickA t46 t49 (.bool false)) h fun t50 h =>
 whenA t50 true (fun K => valA (buildA (fillV [(.int .i64 0), (.int .i64 0), (.int .i64 0), (.int .i64 0), (.int .i64 0), (.int .i64 0), .nilsl, .nilsl, .nilsl] [(0, 1, (.int .i64 18)), (2, 1, (.int .i64 3)), (1, 1, (.int .i64 1))])) h K) h fun t52 h =>
 whenA t50 true (fun K => C 60 [t52] h K) h fun t53 h =>
 whenA t50 true (fun K => valA (unOp .not t53) h K) h fun t54 h =>
 valA (pickA t50 t54 (.bool false)) h fun t55 h =>
 R t55 h
theorem she16 (C : CallA) (h : H) (R : AV → H → Prop) : wpA C an16 (argE []) h (outA [(.tmp 0)] R) = sh16 C h R := by kernel_rfl
/-! bellows/bellowsref04.Check -/
def an19 : ACode :=
 (.seq (.reg 0 [] [] [sD 1 (.bx none 28 (.t 0)),
 sD 2 (.mv (.c (.int .i64 0)))])
 (.seq (.seq (.reg 0 [] [] [sD 9 (.ld (some 7) (.t 1)),
 sD 10 (.call 61 [(.t 9)])])
 (.cond (.t 10) (.seq (.reg 0 [] [] [sD 2 (.mv (.c (.int .i64 2)))])
 .ret)
 .skip))
 (.seq (.seq (.reg 0 [] [] [sD 11 (.fa 4 (.t 1)),
 sD 12 (.ld none (.t 11)),
 sD 13 (.len false (.t 12)),
 sD 14 (.mv (.c (.int .i64 0)))])
 (.block 0 (.loop [14] 28672 (.seq (.reg 0 [] [] [sD 15 (.bin .lss .num (.t 14) (.t 13))])
 (.seq (.cond (.t 15) .skip
 (.exit 0))
 (.seq (.block 1 (.seq (.reg 0 [] [] [sD 16 (.ia none 4 (.t 12) (.t 14)),
 sD 17 (.ld (some 4) (.t 16)),
 sD 4 (.al none 39 [.nilsl, (.int .i64 0), (.int .i64 0), .nilsl]),
 sN (.st 4 (.t 4) (.t 17))])
 (.seq (.reg 0 [] [] [sD 18 (.fa 3 (.t 4)),
 sD 19 (.ld none (.t 18)),
 sD 20 (.len false (.t 19)),
 sD 21 (.mv (.c (.int .i64 0)))])
 (.block 2 (.loop [21] 3698688 (.seq (.reg 0 [] [] [sD 22 (.bin .lss .num (.t 21) (.t 20))])
 (.seq (.cond (.t 22) .skip
 (.exit 2))
 (.seq (.block 3 (.seq (.reg 0 [] [] [sD 23 (.ia none 2 (.t 19) (.t 21)),
 sD 24 (.ld (some 2) (.t 23)),
 sD 6 (.al none 42 [.nilsl, .nilsl]),
 sN (.st 2 (.t 6) (.t 24))])
 (.seq (.reg 0 [] [] [sD 25 (.fa 1 (.t 6)),
 sD 26 (.ld none (.t 25)),
 sD 27 (.len false (.t 26)),
 sD 28 (.mv (.c (.int .i64 0)))])
 (.block 4 (.loop [28] 473460736 (.seq (.reg 0 [] [] [sD 29 (.bin .lss .num (.t 28) (.t 27))])
 (.seq (.cond (.t 29) .skip
 (.exit 4))
 (.seq (.block 5 (.seq (.reg 0 [] [] [sD 30 (.ia none 9 (.t 26) (.t 28)),
 sD 31 (.ld (some 9) (.t 30)),
 sD 8 (.al none 55 [(.int .i64 0), (.int .i64 0), (.int .i64 0), (.int .i64 0), (.int .i64 0), (.int .i64 0), .nilsl, .nilsl, .nilsl]),
 sN (.st 9 (.t 8) (.t 31))])
 (.seq (.reg 0 [] [] [sD 32 (.ld (some 9) (.t 8)),
 sD 33 (.call 62 [(.t 32)]),
 sD 34 (.un .not (.t 33))])
 (.cond (.t 34) (.seq (.reg 0 [] [] [sD 2 (.mv (.c (.int .i64 1)))])
 .ret)
 .skip))))
 (.reg 0 [] [] [sD 35 (.bin .add .num (.t 28) (.c (.int .i64 1))),
 sD 28 (.mv (.t 35))])))))))))
 (.reg 0 [] [] [sD 36 (.bin .add .num (.t 21) (.c (.int .i64 1))),
 sD 21 (.mv (.t 36))])))))))))
 (.reg 0 [] [] [sD 37 (.bin .add .num (.t 14) (.c (.int .i64 1))),
 sD 14 (.mv (.t 37))])))))))
 (.seq (.reg 0 [] [] [sD 2 (.mv (.c (.int .i64 0)))])
 .ret))))
def fn19 : IFun := ⟨38, [(.tmp 2)], an19.erase⟩
theorem ok19 : okFun Tryz.prog 19 fn19 = true := by kernel_rfl
theorem oka19 : okA fn19.ntmps fn19.results an19 = true := by kernel_rfl
def sh19 (C : CallA) (m0 : AV) (h : H) (R : AV → H → Prop) : Prop :=
 boxA h (AV.cells m0) 28 fun m1 h =>
 valA (ldA h (some 7) m1) h fun t9 h =>
 C 61 [t9] h fun t10 h =>
 condA t10
 (R (.int .i64 2) h)
 (joinA (fun (h : H) =>
 R (.int .i64 0) h) fun J =>
 valA (faA 4 m1) h fun t11 h =>
 valA (ldA h none t11) h fun t12 h =>
 valA (lenA false t12) h fun t13 h =>
 loopA (fun N l h => argA l 0 fun t14 => 
 valA (binOp .lss .num t14 t13) h fun t15 h =>
 condA t15
 (joinA (fun (h : H) =>
 valA (binOp .add .num t14 (.int .i64 1)) h fun t37 h =>
 N [t37] h) fun J_25 =>
 valA (iaA 4 t12 t14) h fun t16 h =>
 valA (ldA h (some 4) t16) h fun t17 h =>
 boxA h [.nilsl, (.int .i64 0), (.int .i64 0), .nilsl] 39 fun f4 h =>
 memA (stA h 4 f4 t17) .undef fun _ h =>
 valA (faA 3 f4) h fun t18 h =>
 valA (ldA h none t18) h fun t19 h =>
 valA (lenA false t19) h fun t20 h =>
 loopA (fun N_26 l h => argA l 0 fun t21 => 
 valA (binOp .lss .num t21 t20) h fun t22 h =>
 condA t22
 (joinA (fun (h : H) =>
 valA (binOp .add .num t21 (.int .i64 1)) h fun t36 h =>
 N_26 [t36] h) fun J_43 =>
 valA (iaA 2 t19 t21) h fun t23 h =>
 valA (ldA h (some 2) t23) h fun t24 h =>
 boxA h [.nilsl, .nilsl] 42 fun b6 h =>
 memA (stA h 2 b6 t24) .undef fun _ h =>
 valA (faA 1 b6) h fun t25 h =>
 valA (ldA h none t25) h fun t26 h =>
 valA (lenA false t26) h fun t27 h =>
 loopA (fun N_44 l h => argA l 0 fun t28 => 
 valA (binOp .lss .num t28 t27) h fun t29 h =>
 condA t29
 (valA (iaA 9 t26 t28) h fun t30 h =>
 valA (ldA h (some 9) t30) h fun t31 h =>
 boxA h [(.int .i64 0), (.int .i64 0), (.int .i64 0), (.int .i64 0), (.int .i64 0), (.int .i64 0), .nilsl, .nilsl, .nilsl] 55 fun x8 h =>
 memA (stA h 9 x8 t31) .undef fun _ h =>
 valA (ldA h (some 9) x8) h fun t32 h =>
 C 62 [t32] h fun t33 h =>
 valA (unOp .not t33) h fun t34 h =>
 condA t34
 (R (.int .i64 1) h)
 (valA (binOp .add .num t28 (.int .i64 1)) h fun t35 h =>
 N_44 [t35] h))
 (J_43 h)) [(.int .i64 0)] h)
 (J_25 h)) [(.int .i64 0)] h)
 (J h)) [(.int .i64 0)] h)
theorem she19 (C : CallA) (m0 : AV) (h : H) (R : AV → H → Prop) : wpA C an19 (argE [m0]) h (outA [(.tmp 2)] R) = sh19 C m0 h R := by kernel_rfl
/-! bellows/code.some[bellows/api.Type] -/
def an34 : ACode :=
 (.seq (.reg 0 [] [] [sD 4 (.mv (.c .nilsl))])
 (.seq (.reg 0 [] [] [sD 5 (.mv (.c .nilsl))])
 (.seq (.seq (.reg 0 [] [] [sD 6 (.mv (.t 0)),
 sD 7 (.call 82 [(.t 6)]),
 sD 8 (.mv (.c (.int .i64 0)))])
 (.block 0 (.loop [5, 8] 419 (.seq (.reg 0 [] [] [sD 9 (.bin .lss .num (.t 8) (.t 7))])
 (.seq (.cond (.t 9) .skip
 (.exit 0))
 (.seq (.block 1 (.seq (.seq (.reg 0 [] [] [sD 10 (.mv (.t 0)),
 sD 11 (.nilc (.t 10)),
 sD 12 (.fa 2 (.t 11)),
 sD 13 (.ld none (.t 12))])
 (.cond (.t 13) (.seq (.reg 0 [] [] [sD 4 (.mv (.c .nilsl))])
 .ret)
 .skip))
 (.reg 0 [] [] [sD 14 (.mv (.t 5)),
 sD 15 (.mv (.t 1)),
 sD 16 (.callv (.t 15) []),
 sD 17 (.mksl none 46 [(.bool false), .nilsl] 1 [(0, 2, (.t 16))]),
 sD 18 (.app 46 2 32 [(.bool false), .nilsl] (.t 14) (.t 17)),
 sD 5 (.mv (.t 18))])))
 (.reg 0 [] [] [sD 19 (.bin .add .num (.t 8) (.c (.int .i64 1))),
 sD 8 (.mv (.t 19))])))))))
 (.seq (.reg 0 [] [] [sD 20 (.mv (.t 5)),
 sD 4 (.mv (.t 20))])
 .ret))))
def fn34 : IFun := ⟨21, [(.tmp 4)], an34.erase⟩
theorem ok34 : okFun Tryz.prog 34 fn34 = true := by kernel_rfl
theorem oka34 : okA fn34.ntmps fn34.results an34 = true := by kernel_rfl
def sh34 (C : CallA) (r0 each1 : AV) (h : H) (R : AV → H → Prop) : Prop :=
 joinA (fun (l5' : AV) (h : H) =>
 R l5' h) fun J =>
 C 82 [r0] h fun t7 h =>
 loopA (fun N l h => argA l 0 fun l5 => argA l 1 fun t8 => 
 valA (binOp .lss .num t8 t7) h fun t9 h =>
 condA t9
 (valA (nilcA r0) h fun t11 h =>
 valA (faA 2 t11) h fun t12 h =>
 valA (ldA h none t12) h fun t13 h =>
 condA t13
 (R .nilsl h)
 (callvA C each1 [] h fun t16 h =>
 mkslA h 46 1 (fillV [(.bool false), .nilsl] [(0, 2, t16)]) fun t17 h =>
 appendA h 46 2 32 l5 t17 fun t18 h =>
 valA (binOp .add .num t8 (.int .i64 1)) h fun t19 h =>
 N [t18, t19] h))
 (J l5 h)) [.nilsl, (.int .i64 0)] h
theorem she34 (C : CallA) (r0 each1 : AV) (h : H) (R : AV → H → Prop) : wpA C an34 (argE [r0, each1]) h (outA [(.tmp 4)] R) = sh34 C r0 each1 h R := by kernel_rfl
/-! (*bellows/code.reader).kind -/
def an35 : ACode :=
 (.seq (.reg 0 [] [] [sD 2 (.al none 46 [(.bool false), .nilsl])])
 (.seq (.reg 0 [] [] [sD 4 (.mv (.t 0)),
 sD 5 (.call 42 [(.t 4)]),
 sD 3 (.mv (.t 5))])
 (.seq (.reg 0 [] [] [sD 6 (.mv (.t 0)),
 sD 7 (.mv (.t 0)),
 sD 8 (.nilc (.t 7)),
 sD 9 (.fa 2 (.t 8)),
 sD 10 (.ld none (.t 9)),
 sD 11 (.mv (.t 10)),
 sG 12 11 false (.mv (.t 3)),
 sG 13 11 false (.bin .lss .num (.t 12) (.c (.int .i64 0))),
 sD 14 (.pick (.t 11) (.c (.bool true)) (.t 13)),
 sD 15 (.mv (.t 14)),
 sG 16 15 false (.mv (.t 3)),
 sG 17 15 false (.bin .gtr .num (.t 16) (.c (.int .i64 1))),
 sD 18 (.pick (.t 15) (.c (.bool true)) (.t 17)),
 sD 19 (.nilc (.t 6)),
 sD 20 (.fa 2 (.t 19)),
 sN (.st 1 (.t 20) (.t 18))])
 (.seq (.reg 0 [] [] [sD 21 (.mv (.t 3)),
 sD 22 (.bin .eql .num (.t 21) (.c (.int .i64 1))),
 sD 23 (.mv (.t 0)),
 sD 24 (.call 83 [(.t 23)]),
 sD 25 (.build [(.bool false), .nilsl] [(0, 1, (.t 22)), (1, 1, (.t 24))]),
 sN (.st 2 (.t 2) (.t 25))])
 .ret))))
def fn35 : IFun := ⟨26, [(.cell 2 (some 2))], an35.erase⟩
theorem ok35 : okFun Tryz.prog 35 fn35 = true := by kernel_rfl
theorem oka35 : okA fn35.ntmps fn35.results an35 = true := by kernel_rfl
def sh35 (C : CallA) (r0 : AV) (h : H) (R : AV → H → Prop) : Prop :=
 boxA h [(.bool false), .nilsl] 46 fun t2 h =>
 C 42 [r0] h fun t5 h =>
 valA (nilcA r0) h fun t8 h =>
 valA (faA 2 t8) h fun t9 h =>
 valA (ldA h none t9) h fun t10 h =>
 whenA t10 false (fun K => K t5 h) h fun t12 h =>
 whenA t10 false (fun K => valA (binOp .lss .num t12 (.int .i64 0)) h K) h fun t13 h =>
 valA (pickA t10 (.bool true) t13) h fun t14 h =>
 whenA t14 false (fun K => K t5 h) h fun t16 h =>
 whenA t14 false (fun K => valA (binOp .gtr .num t16 (.int .i64 1)) h K) h fun t17 h =>
 valA (pickA t14 (.bool true) t17) h fun t18 h =>
 valA (nilcA r0) h fun t19 h =>
 valA (faA 2 t19) h fun t20 h =>
 memA (stA h 1 t20 t18) .undef fun _ h =>
 valA (binOp .eql .num t5 (.int .i64 1)) h fun t22 h =>
 C 83 [r0] h fun t24 h =>
 valA (buildA (fillV [(.bool false), .nilsl] [(0, 1, t22), (1, 1, t24)])) h fun t25 h =>
 memA (stA h 2 t2 t25) .undef fun _ h =>
 valA (ldA h (some 2) t2) h fun res _ => R res h
theorem she35 (C : CallA) (r0 : AV) (h : H) (R : AV → H → Prop) : wpA C an35 (argE [r0]) h (outA [(.cell 2 (some 2))] R) = sh35 C r0 h R := by kernel_rfl
/-! bellows/code.some[bellows/api.Shape] -/
def an36 : ACode :=
 (.seq (.reg 0 [] [] [sD 4 (.mv (.c .nilsl))])
 (.seq (.reg 0 [] [] [sD 5 (.mv (.c .nilsl))])
 (.seq (.seq (.reg 0 [] [] [sD 6 (.mv (.t 0)),
 sD 7 (.call 82 [(.t 6)]),
 sD 8 (.mv (.c (.int .i64 0)))])
 (.block 0 (.loop [5, 8] 419 (.seq (.reg 0 [] [] [sD 9 (.bin .lss .num (.t 8) (.t 7))])
 (.seq (.cond (.t 9) .skip
 (.exit 0))
 (.seq (.block 1 (.seq (.seq (.reg 0 [] [] [sD 10 (.mv (.t 0)),
 sD 11 (.nilc (.t 10)),
 sD 12 (.fa 2 (.t 11)),
 sD 13 (.ld none (.t 12))])
 (.cond (.t 13) (.seq (.reg 0 [] [] [sD 4 (.mv (.c .nilsl))])
 .ret)
 .skip))
 (.reg 0 [] [] [sD 14 (.mv (.t 5)),
 sD 15 (.mv (.t 1)),
 sD 16 (.callv (.t 15) []),
 sD 17 (.mksl none 61 [(.int .i64 0), .nilsl, (.str [])] 1 [(0, 3, (.t 16))]),
 sD 18 (.app 61 3 48 [(.int .i64 0), .nilsl, (.str [])] (.t 14) (.t 17)),
 sD 5 (.mv (.t 18))])))
 (.reg 0 [] [] [sD 19 (.bin .add .num (.t 8) (.c (.int .i64 1))),
 sD 8 (.mv (.t 19))])))))))
 (.seq (.reg 0 [] [] [sD 20 (.mv (.t 5)),
 sD 4 (.mv (.t 20))])
 .ret))))
def fn36 : IFun := ⟨21, [(.tmp 4)], an36.erase⟩
theorem ok36 : okFun Tryz.prog 36 fn36 = true := by kernel_rfl
theorem oka36 : okA fn36.ntmps fn36.results an36 = true := by kernel_rfl
def sh36 (C : CallA) (r0 each1 : AV) (h : H) (R : AV → H → Prop) : Prop :=
 joinA (fun (l5' : AV) (h : H) =>
 R l5' h) fun J =>
 C 82 [r0] h fun t7 h =>
 loopA (fun N l h => argA l 0 fun l5 => argA l 1 fun t8 => 
 valA (binOp .lss .num t8 t7) h fun t9 h =>
 condA t9
 (valA (nilcA r0) h fun t11 h =>
 valA (faA 2 t11) h fun t12 h =>
 valA (ldA h none t12) h fun t13 h =>
 condA t13
 (R .nilsl h)
 (callvA C each1 [] h fun t16 h =>
 mkslA h 61 1 (fillV [(.int .i64 0), .nilsl, (.str [])] [(0, 3, t16)]) fun t17 h =>
 appendA h 61 3 48 l5 t17 fun t18 h =>
 valA (binOp .add .num t8 (.int .i64 1)) h fun t19 h =>
 N [t18, t19] h))
 (J l5 h)) [.nilsl, (.int .i64 0)] h
theorem she36 (C : CallA) (r0 each1 : AV) (h : H) (R : AV → H → Prop) : wpA C an36 (argE [r0, each1]) h (outA [(.tmp 4)] R) = sh36 C r0 each1 h R := by kernel_rfl
/-! (*bellows/code.reader).shape -/
def an37 : ACode :=
 (.seq (.reg 0 [] [] [sD 2 (.al none 61 [(.int .i64 0), .nilsl, (.str [])])])
 (.seq (.reg 0 [] [] [sD 3 (.mv (.t 0)),
 sD 4 (.call 42 [(.t 3)]),
 sD 5 (.fa 0 (.t 2)),
 sN (.st 1 (.t 5) (.t 4))])
 (.seq (.reg 0 [] [] [sD 6 (.mv (.t 0)),
 sD 7 (.call 83 [(.t 6)]),
 sD 8 (.fa 1 (.t 2)),
 sN (.st 1 (.t 8) (.t 7))])
 (.seq (.reg 0 [] [] [sD 9 (.mv (.t 0)),
 sD 10 (.call 39 [(.t 9)]),
 sD 11 (.fa 2 (.t 2)),
 sN (.st 1 (.t 11) (.t 10))])
 (.seq (.reg 0 [] [] [sD 12 (.ld (some 3) (.t 2)),
 sN (.st 3 (.t 2) (.t 12))])
 .ret)))))
def fn37 : IFun := ⟨13, [(.cell 2 (some 3))], an37.erase⟩
theorem ok37 : okFun Tryz.prog 37 fn37 = true := by kernel_rfl
theorem oka37 : okA fn37.ntmps fn37.results an37 = true := by kernel_rfl
def sh37 (C : CallA) (r0 : AV) (h : H) (R : AV → H → Prop) : Prop :=
 boxA h [(.int .i64 0), .nilsl, (.str [])] 61 fun s2 h =>
 C 42 [r0] h fun t4 h =>
 valA (faA 0 s2) h fun t5 h =>
 memA (stA h 1 t5 t4) .undef fun _ h =>
 C 83 [r0] h fun t7 h =>
 valA (faA 1 s2) h fun t8 h =>
 memA (stA h 1 t8 t7) .undef fun _ h =>
 C 39 [r0] h fun t10 h =>
 valA (faA 2 s2) h fun t11 h =>
 memA (stA h 1 t11 t10) .undef fun _ h =>
 valA (ldA h (some 3) s2) h fun t12 h =>
 memA (stA h 3 s2 t12) .undef fun _ h =>
 valA (ldA h (some 3) s2) h fun res _ => R res h
theorem she37 (C : CallA) (r0 : AV) (h : H) (R : AV → H → Prop) : wpA C an37 (argE [r0]) h (outA [(.cell 2 (some 3))] R) = sh37 C r0 h R := by kernel_rfl
/-! bellows/code.some[string] -/
def an38 : ACode :=
 (.seq (.reg 0 [] [] [sD 4 (.mv (.c .nilsl))])
 (.seq (.reg 0 [] [] [sD 5 (.mv (.c .nilsl))])
 (.seq (.seq (.reg 0 [] [] [sD 6 (.mv (.t 0)),
 sD 7 (.call 82 [(.t 6)]),
 sD 8 (.mv (.c (.int .i64 0)))])
 (.block 0 (.loop [5, 8] 419 (.seq (.reg 0 [] [] [sD 9 (.bin .lss .num (.t 8) (.t 7))])
 (.seq (.cond (.t 9) .skip
 (.exit 0))
 (.seq (.block 1 (.seq (.seq (.reg 0 [] [] [sD 10 (.mv (.t 0)),
 sD 11 (.nilc (.t 10)),
 sD 12 (.fa 2 (.t 11)),
 sD 13 (.ld none (.t 12))])
 (.cond (.t 13) (.seq (.reg 0 [] [] [sD 4 (.mv (.c .nilsl))])
 .ret)
 .skip))
 (.reg 0 [] [] [sD 14 (.mv (.t 5)),
 sD 15 (.mv (.t 1)),
 sD 16 (.callv (.t 15) []),
 sD 17 (.mksl none 9 [(.str [])] 1 [(0, 1, (.t 16))]),
 sD 18 (.app 9 1 16 [(.str [])] (.t 14) (.t 17)),
 sD 5 (.mv (.t 18))])))
 (.reg 0 [] [] [sD 19 (.bin .add .num (.t 8) (.c (.int .i64 1))),
 sD 8 (.mv (.t 19))])))))))
 (.seq (.reg 0 [] [] [sD 20 (.mv (.t 5)),
 sD 4 (.mv (.t 20))])
 .ret))))
def fn38 : IFun := ⟨21, [(.tmp 4)], an38.erase⟩
theorem ok38 : okFun Tryz.prog 38 fn38 = true := by kernel_rfl
theorem oka38 : okA fn38.ntmps fn38.results an38 = true := by kernel_rfl
def sh38 (C : CallA) (r0 each1 : AV) (h : H) (R : AV → H → Prop) : Prop :=
 joinA (fun (l5' : AV) (h : H) =>
 R l5' h) fun J =>
 C 82 [r0] h fun t7 h =>
 loopA (fun N l h => argA l 0 fun l5 => argA l 1 fun t8 => 
 valA (binOp .lss .num t8 t7) h fun t9 h =>
 condA t9
 (valA (nilcA r0) h fun t11 h =>
 valA (faA 2 t11) h fun t12 h =>
 valA (ldA h none t12) h fun t13 h =>
 condA t13
 (R .nilsl h)
 (callvA C each1 [] h fun t16 h =>
 mkslA h 9 1 (fillV [(.str [])] [(0, 1, t16)]) fun t17 h =>
 appendA h 9 1 16 l5 t17 fun t18 h =>
 valA (binOp .add .num t8 (.int .i64 1)) h fun t19 h =>
 N [t18, t19] h))
 (J l5 h)) [.nilsl, (.int .i64 0)] h
theorem she38 (C : CallA) (r0 each1 : AV) (h : H) (R : AV → H → Prop) : wpA C an38 (argE [r0, each1]) h (outA [(.tmp 4)] R) = sh38 C r0 each1 h R := by kernel_rfl
/-! (*bellows/code.reader).text -/
def an39 : ACode :=
 (.seq (.reg 0 [] [] [sD 2 (.mv (.c (.str [])))])
 (.seq (.reg 0 [] [] [sD 5 (.mv (.t 0)),
 sD 6 (.call 82 [(.t 5)]),
 sD 3 (.mv (.t 6))])
 (.seq (.reg 0 [0, 1, 2, 3, 4, 5, 6, 7, 8, 9, 10, 11, 12, 13, 14, 15, 16] [[], [0], [0, 1], [1, 0, 2], [], [4], [4, 5], [5, 4, 6], [], [8], [8, 9], [9, 8, 10], [], [12, 10, 8, 9, 11], [11, 9, 8, 10, 12, 13, 6, 4, 5, 7, 2, 0, 1, 3], [3, 1, 0, 2, 7, 5, 4, 6, 13, 12, 10, 8, 9, 11, 14], [14, 11, 9, 8, 10, 12, 13, 6, 4, 5, 7, 2, 0, 1, 3, 15]] [sD 7 (.mv (.t 0)),
 sD 8 (.nilc (.t 7)),
 sD 9 (.fa 0 (.t 8)),
 sD 10 (.ld none (.t 9)),
 sD 11 (.mv (.t 0)),
 sD 12 (.nilc (.t 11)),
 sD 13 (.fa 1 (.t 12)),
 sD 14 (.ld none (.t 13)),
 sD 15 (.mv (.t 0)),
 sD 16 (.nilc (.t 15)),
 sD 17 (.fa 1 (.t 16)),
 sD 18 (.ld none (.t 17)),
 sD 19 (.mv (.t 3)),
 sD 20 (.bin .add .num (.t 18) (.t 19)),
 sD 21 (.sli (.row 1) (.t 10) (some (.t 14)) (some (.t 20)) none),
 sD 22 (.cv none .b2s (.t 21)),
 sD 4 (.mv (.t 22))])
 (.seq (.reg 0 [] [] [sD 23 (.mv (.t 0)),
 sD 24 (.nilc (.t 23)),
 sD 25 (.fa 1 (.t 24)),
 sD 26 (.ld none (.t 25)),
 sD 27 (.mv (.t 3)),
 sD 28 (.bin .add .num (.t 26) (.t 27)),
 sD 29 (.nilc (.t 23)),
 sD 30 (.fa 1 (.t 29)),
 sN (.st 1 (.t 30) (.t 28))])
 (.seq (.reg 0 [] [] [sD 31 (.mv (.t 4)),
 sD 2 (.mv (.t 31))])
 .ret)))))
def fn39 : IFun := ⟨32, [(.tmp 2)], an39.erase⟩
theorem ok39 : okFun Tryz.prog 39 fn39 = true := by kernel_rfl
theorem oka39 : okA fn39.ntmps fn39.results an39 = true := by kernel_rfl
def sh39 (C : CallA) (r0 : AV) (h : H) (R : AV → H → Prop) : Prop :=
 C 82 [r0] h fun t6 h =>
 valA (nilcA r0) h fun t8 h =>
 valA (faA 0 t8) h fun t9 h =>
 valA (ldA h none t9) h fun t10 h =>
 valA (nilcA r0) h fun t12 h =>
 valA (faA 1 t12) h fun t13 h =>
 valA (ldA h none t13) h fun t14 h =>
 valA (nilcA r0) h fun t16 h =>
 valA (faA 1 t16) h fun t17 h =>
 valA (ldA h none t17) h fun t18 h =>
 valA (binOp .add .num t18 t6) h fun t20 h =>
 valA (sliceOp (.row 1) t10 (some t14) (some t20) none) h fun t21 h =>
 valA (b2sA h t21) h fun t22 h =>
 valA (nilcA r0) h fun t24 h =>
 valA (faA 1 t24) h fun t25 h =>
 valA (ldA h none t25) h fun t26 h =>
 valA (binOp .add .num t26 t6) h fun t28 h =>
 valA (nilcA r0) h fun t29 h =>
 valA (faA 1 t29) h fun t30 h =>
 memA (stA h 1 t30 t28) .undef fun _ h =>
 R t22 h
theorem she39 (C : CallA) (r0 : AV) (h : H) (R : AV → H → Prop) : wpA C an39 (argE [r0]) h (outA [(.tmp 2)] R) = sh39 C r0 h R := by kernel_rfl
/-! bellows/code.some[bellows/api.Func] -/
def an40 : ACode :=
 (.seq (.reg 0 [] [] [sD 4 (.mv (.c .nilsl))])
 (.seq (.reg 0 [] [] [sD 5 (.mv (.c .nilsl))])
 (.seq (.seq (.reg 0 [] [] [sD 6 (.mv (.t 0)),
 sD 7 (.call 82 [(.t 6)]),
 sD 8 (.mv (.c (.int .i64 0)))])
 (.block 0 (.loop [5, 8] 419 (.seq (.reg 0 [] [] [sD 9 (.bin .lss .num (.t 8) (.t 7))])
 (.seq (.cond (.t 9) .skip
 (.exit 0))
 (.seq (.block 1 (.seq (.seq (.reg 0 [] [] [sD 10 (.mv (.t 0)),
 sD 11 (.nilc (.t 10)),
 sD 12 (.fa 2 (.t 11)),
 sD 13 (.ld none (.t 12))])
 (.cond (.t 13) (.seq (.reg 0 [] [] [sD 4 (.mv (.c .nilsl))])
 .ret)
 .skip))
 (.reg 0 [] [] [sD 14 (.mv (.t 5)),
 sD 15 (.mv (.t 1)),
 sD 16 (.callv (.t 15) []),
 sD 17 (.mksl none 39 [.nilsl, (.int .i64 0), (.int .i64 0), .nilsl] 1 [(0, 4, (.t 16))]),
 sD 18 (.app 39 4 64 [.nilsl, (.int .i64 0), (.int .i64 0), .nilsl] (.t 14) (.t 17)),
 sD 5 (.mv (.t 18))])))
 (.reg 0 [] [] [sD 19 (.bin .add .num (.t 8) (.c (.int .i64 1))),
 sD 8 (.mv (.t 19))])))))))
 (.seq (.reg 0 [] [] [sD 20 (.mv (.t 5)),
 sD 4 (.mv (.t 20))])
 .ret))))
def fn40 : IFun := ⟨21, [(.tmp 4)], an40.erase⟩
theorem ok40 : okFun Tryz.prog 40 fn40 = true := by kernel_rfl
theorem oka40 : okA fn40.ntmps fn40.results an40 = true := by kernel_rfl
def sh40 (C : CallA) (r0 each1 : AV) (h : H) (R : AV → H → Prop) : Prop :=
 joinA (fun (l5' : AV) (h : H) =>
 R l5' h) fun J =>
 C 82 [r0] h fun t7 h =>
 loopA (fun N l h => argA l 0 fun l5 => argA l 1 fun t8 => 
 valA (binOp .lss .num t8 t7) h fun t9 h =>
 condA t9
 (valA (nilcA r0) h fun t11 h =>
 valA (faA 2 t11) h fun t12 h =>
 valA (ldA h none t12) h fun t13 h =>
 condA t13
 (R .nilsl h)
 (callvA C each1 [] h fun t16 h =>
 mkslA h 39 1 (fillV [.nilsl, (.int .i64 0), (.int .i64 0), .nilsl] [(0, 4, t16)]) fun t17 h =>
 appendA h 39 4 64 l5 t17 fun t18 h =>
 valA (binOp .add .num t8 (.int .i64 1)) h fun t19 h =>
 N [t18, t19] h))
 (J l5 h)) [.nilsl, (.int .i64 0)] h
theorem she40 (C : CallA) (r0 each1 : AV) (h : H) (R : AV → H → Prop) : wpA C an40 (argE [r0, each1]) h (outA [(.tmp 4)] R) = sh40 C r0 each1 h R := by kernel_rfl
/-! (*bellows/code.reader).function -/
def an41 : ACode :=
 (.seq (.reg 0 [] [] [sD 2 (.al none 39 [.nilsl, (.int .i64 0), (.int .i64 0), .nilsl])])
 (.seq (.reg 0 [] [] [sD 3 (.mv (.t 0)),
 sD 4 (.call 83 [(.t 3)]),
 sD 5 (.fa 0 (.t 2)),
 sN (.st 1 (.t 5) (.t 4))])
 (.seq (.reg 0 [] [] [sD 6 (.mv (.t 0)),
 sD 7 (.call 42 [(.t 6)]),
 sD 8 (.fa 1 (.t 2)),
 sN (.st 1 (.t 8) (.t 7))])
 (.seq (.reg 0 [] [] [sD 9 (.mv (.t 0)),
 sD 10 (.call 42 [(.t 9)]),
 sD 11 (.fa 2 (.t 2)),
 sN (.st 1 (.t 11) (.t 10))])
 (.seq (.reg 0 [] [] [sD 12 (.mv (.t 0)),
 sD 13 (.mv (.t 0)),
 sD 14 (.mkf 85 [(.t 13)] []),
 sD 15 (.call 84 [(.t 12), (.t 14)]),
 sD 16 (.fa 3 (.t 2)),
 sN (.st 1 (.t 16) (.t 15))])
 (.seq (.reg 0 [] [] [sD 17 (.ld (some 4) (.t 2)),
 sN (.st 4 (.t 2) (.t 17))])
 .ret))))))
def fn41 : IFun := ⟨18, [(.cell 2 (some 4))], an41.erase⟩
theorem ok41 : okFun Tryz.prog 41 fn41 = true := by kernel_rfl
theorem oka41 : okA fn41.ntmps fn41.results an41 = true := by kernel_rfl
def sh41 (C : CallA) (r0 : AV) (h : H) (R : AV → H → Prop) : Prop :=
 boxA h [.nilsl, (.int .i64 0), (.int .i64 0), .nilsl] 39 fun f2 h =>
 C 83 [r0] h fun t4 h =>
 valA (faA 0 f2) h fun t5 h =>
 memA (stA h 1 t5 t4) .undef fun _ h =>
 C 42 [r0] h fun t7 h =>
 valA (faA 1 f2) h fun t8 h =>
 memA (stA h 1 t8 t7) .undef fun _ h =>
 C 42 [r0] h fun t10 h =>
 valA (faA 2 f2) h fun t11 h =>
 memA (stA h 1 t11 t10) .undef fun _ h =>
 C 84 [r0, (.fn 85 [r0] [])] h fun t15 h =>
 valA (faA 3 f2) h fun t16 h =>
 memA (stA h 1 t16 t15) .undef fun _ h =>
 valA (ldA h (some 4) f2) h fun t17 h =>
 memA (stA h 4 f2 t17) .undef fun _ h =>
 valA (ldA h (some 4) f2) h fun res _ => R res h
theorem she41 (C : CallA) (r0 : AV) (h : H) (R : AV → H → Prop) : wpA C an41 (argE [r0]) h (outA [(.cell 2 (some 4))] R) = sh41 C r0 h R := by kernel_rfl
/-! (*bellows/code.reader).num -/
def an42 : ACode :=
 (.seq (.reg 0 [] [] [sD 2 (.mv (.c (.int .i64 0)))])
 (.seq (.reg 0 [] [] [sD 3 (.mv (.t 0)),
 sD 4 (.call 86 [(.t 3)]),
 sD 2 (.mv (.t 4))])
 .ret))
def fn42 : IFun := ⟨5, [(.tmp 2)], an42.erase⟩
theorem ok42 : okFun Tryz.prog 42 fn42 = true := by kernel_rfl
theorem oka42 : okA fn42.ntmps fn42.results an42 = true := by kernel_rfl
def sh42 (C : CallA) (r0 : AV) (h : H) (R : AV → H → Prop) : Prop :=
 C 86 [r0] h fun t4 h =>
 R t4 h
theorem she42 (C : CallA) (r0 : AV) (h : H) (R : AV → H → Prop) : wpA C an42 (argE [r0]) h (outA [(.tmp 2)] R) = sh42 C r0 h R := by kernel_rfl
/-! bellows/code.Check -/
def an43 : ACode :=
 (.seq (.reg 0 [] [] [sD 1 (.bx none 28 (.t 0)),
 sD 2 (.mv (.c (.int .i64 0)))])
 (.seq (.seq (.reg 0 [] [] [sD 7 (.ld (some 7) (.t 1)),
 sD 8 (.call 87 [(.t 7)])])
 (.cond (.t 8) (.seq (.reg 0 [] [] [sD 2 (.mv (.c (.int .i64 2)))])
 .ret)
 .skip))
 (.seq (.seq (.reg 0 [] [] [sD 9 (.fa 4 (.t 1)),
 sD 10 (.ld none (.t 9)),
 sD 11 (.len false (.t 10)),
 sD 12 (.mv (.c (.int .i64 0)))])
 (.block 0 (.loop [12] 7168 (.seq (.reg 0 [] [] [sD 13 (.bin .lss .num (.t 12) (.t 11))])
 (.seq (.cond (.t 13) .skip
 (.exit 0))
 (.seq (.block 1 (.seq (.reg 0 [] [] [sD 14 (.ia none 4 (.t 10) (.t 12)),
 sD 15 (.ld (some 4) (.t 14)),
 sD 4 (.al none 39 [.nilsl, (.int .i64 0), (.int .i64 0), .nilsl]),
 sN (.st 4 (.t 4) (.t 15))])
 (.seq (.reg 0 [] [] [sD 16 (.fa 3 (.t 4)),
 sD 17 (.ld none (.t 16)),
 sD 18 (.len false (.t 17)),
 sD 19 (.mv (.c (.int .i64 0)))])
 (.block 2 (.loop [19] 924672 (.seq (.reg 0 [] [] [sD 20 (.bin .lss .num (.t 19) (.t 18))])
 (.seq (.cond (.t 20) .skip
 (.exit 2))
 (.seq (.block 3 (.seq (.reg 0 [] [] [sD 21 (.ia none 2 (.t 17) (.t 19)),
 sD 22 (.ld (some 2) (.t 21)),
 sD 6 (.al none 42 [.nilsl, .nilsl]),
 sN (.st 2 (.t 6) (.t 22))])
 (.seq (.reg 0 [] [] [sD 23 (.fa 1 (.t 6)),
 sD 24 (.ld none (.t 23)),
 sD 25 (.call 88 [(.t 24), (.c (.fn 89 [] []))])])
 (.cond (.t 25) (.seq (.reg 0 [] [] [sD 2 (.mv (.c (.int .i64 1)))])
 .ret)
 .skip))))
 (.reg 0 [] [] [sD 26 (.bin .add .num (.t 19) (.c (.int .i64 1))),
 sD 19 (.mv (.t 26))])))))))))
 (.reg 0 [] [] [sD 27 (.bin .add .num (.t 12) (.c (.int .i64 1))),
 sD 12 (.mv (.t 27))])))))))
 (.seq (.reg 0 [] [] [sD 2 (.mv (.c (.int .i64 0)))])
 .ret))))
def fn43 : IFun := ⟨28, [(.tmp 2)], an43.erase⟩
theorem ok43 : okFun Tryz.prog 43 fn43 = true := by kernel_rfl
theorem oka43 : okA fn43.ntmps fn43.results an43 = true := by kernel_rfl
def sh43 (C : CallA) (m0 : AV) (h : H) (R : AV → H → Prop) : Prop :=
 boxA h (AV.cells m0) 28 fun m1 h =>
 valA (ldA h (some 7) m1) h fun t7 h =>
 C 87 [t7] h fun t8 h =>
 condA t8
 (R (.int .i64 2) h)
 (joinA (fun (h : H) =>
 R (.int .i64 0) h) fun J =>
 valA (faA 4 m1) h fun t9 h =>
 valA (ldA h none t9) h fun t10 h =>
 valA (lenA false t10) h fun t11 h =>
 loopA (fun N l h => argA l 0 fun t12 => 
 valA (binOp .lss .num t12 t11) h fun t13 h =>
 condA t13
 (joinA (fun (h : H) =>
 valA (binOp .add .num t12 (.int .i64 1)) h fun t27 h =>
 N [t27] h) fun J_16 =>
 valA (iaA 4 t10 t12) h fun t14 h =>
 valA (ldA h (some 4) t14) h fun t15 h =>
 boxA h [.nilsl, (.int .i64 0), (.int .i64 0), .nilsl] 39 fun f4 h =>
 memA (stA h 4 f4 t15) .undef fun _ h =>
 valA (faA 3 f4) h fun t16 h =>
 valA (ldA h none t16) h fun t17 h =>
 valA (lenA false t17) h fun t18 h =>
 loopA (fun N_17 l h => argA l 0 fun t19 => 
 valA (binOp .lss .num t19 t18) h fun t20 h =>
 condA t20
 (valA (iaA 2 t17 t19) h fun t21 h =>
 valA (ldA h (some 2) t21) h fun t22 h =>
 boxA h [.nilsl, .nilsl] 42 fun b6 h =>
 memA (stA h 2 b6 t22) .undef fun _ h =>
 valA (faA 1 b6) h fun t23 h =>
 valA (ldA h none t23) h fun t24 h =>
 C 88 [t24, (.fn 89 [] [])] h fun t25 h =>
 condA t25
 (R (.int .i64 1) h)
 (valA (binOp .add .num t19 (.int .i64 1)) h fun t26 h =>
 N_17 [t26] h))
 (J_16 h)) [(.int .i64 0)] h)
 (J h)) [(.int .i64 0)] h)
theorem she43 (C : CallA) (m0 : AV) (h : H) (R : AV → H → Prop) : wpA C an43 (argE [m0]) h (outA [(.tmp 2)] R) = sh43 C m0 h R := by kernel_rfl
/-! (*bellows/bellowsref04.taker).count -/
def an44 : ACode :=
 (.seq (.reg 0 [] [] [sD 2 (.mv (.c (.int .i64 0)))])
 (.seq (.reg 0 [] [] [sD 4 (.mv (.t 0)),
 sD 5 (.call 45 [(.t 4)]),
 sD 3 (.mv (.t 5))])
 (.seq (.seq (.reg 0 [0, 1, 2, 3, 4, 5, 6, 7, 8, 9, 10, 11, 12, 13, 14, 15] [[], [0], [0, 1], [1, 0, 2], [1, 0, 2], [2, 0, 1, 4], [4, 1, 0, 2, 5], [5, 2, 0, 1, 4, 6], [6, 4, 1, 0, 2, 5, 7], [1, 0, 2], [2, 0, 1, 9], [9, 1, 0, 2, 10], [10, 2, 0, 1, 9, 11], [11, 9, 10, 12, 7, 5, 2, 0, 1, 4, 6, 8], [8, 6, 4, 5, 7, 12, 10, 9, 11, 13, 2, 0, 1, 3], [3, 13, 11, 9, 10, 12, 7, 5, 4, 6, 8, 14, 1, 0, 2]] [sD 6 (.mv (.t 3)),
 sD 7 (.bin .lss .num (.t 6) (.c (.int .i64 0))),
 sD 8 (.mv (.t 7)),
 sG 9 8 false (.mv (.t 3)),
 sG 10 8 false (.mv (.t 0)),
 sG 11 8 false (.nilc (.t 10)),
 sG 12 8 false (.fa 0 (.t 11)),
 sG 13 8 false (.ld none (.t 12)),
 sG 14 8 false (.len false (.t 13)),
 sG 15 8 false (.mv (.t 0)),
 sG 16 8 false (.nilc (.t 15)),
 sG 17 8 false (.fa 1 (.t 16)),
 sG 18 8 false (.ld none (.t 17)),
 sG 19 8 false (.bin .sub .num (.t 14) (.t 18)),
 sG 20 8 false (.bin .gtr .num (.t 9) (.t 19)),
 sD 21 (.pick (.t 8) (.c (.bool true)) (.t 20))])
 (.cond (.t 21) (.seq (.reg 0 [] [] [sD 22 (.mv (.t 0)),
 sD 23 (.nilc (.t 22)),
 sD 24 (.fa 2 (.t 23)),
 sN (.st 1 (.t 24) (.c (.bool true)))])
 (.seq (.reg 0 [] [] [sD 2 (.mv (.c (.int .i64 0)))])
 .ret))
 .skip))
 (.seq (.reg 0 [] [] [sD 25 (.mv (.t 3)),
 sD 2 (.mv (.t 25))])
 .ret))))
def fn44 : IFun := ⟨26, [(.tmp 2)], an44.erase⟩
theorem ok44 : okFun Tryz.prog 44 fn44 = true := by kernel_rfl
theorem oka44 : okA fn44.ntmps fn44.results an44 = true := by kernel_rfl
def sh44 (C : CallA) (t0 : AV) (h : H) (R : AV → H → Prop) : Prop :=
 C 45 [t0] h fun t5 h =>
 valA (binOp .lss .num t5 (.int .i64 0)) h fun t7 h =>
 whenA t7 false (fun K => K t5 h) h fun t9 h =>
 whenA t7 false (fun K => K t0 h) h fun t10 h =>
 whenA t7 false (fun K => valA (nilcA t10) h K) h fun t11 h =>
 whenA t7 false (fun K => valA (faA 0 t11) h K) h fun t12 h =>
 whenA t7 false (fun K => valA (ldA h none t12) h K) h fun t13 h =>
 whenA t7 false (fun K => valA (lenA false t13) h K) h fun t14 h =>
 whenA t7 false (fun K => K t0 h) h fun t15 h =>
 whenA t7 false (fun K => valA (nilcA t15) h K) h fun t16 h =>
 whenA t7 false (fun K => valA (faA 1 t16) h K) h fun t17 h =>
 whenA t7 false (fun K => valA (ldA h none t17) h K) h fun t18 h =>
 whenA t7 false (fun K => valA (binOp .sub .num t14 t18) h K) h fun t19 h =>
 whenA t7 false (fun K => valA (binOp .gtr .num t9 t19) h K) h fun t20 h =>
 valA (pickA t7 (.bool true) t20) h fun t21 h =>
 condA t21
 (valA (nilcA t0) h fun t23 h =>
 valA (faA 2 t23) h fun t24 h =>
 memA (stA h 1 t24 (.bool true)) .undef fun _ h =>
 R (.int .i64 0) h)
 (R t5 h)
theorem she44 (C : CallA) (t0 : AV) (h : H) (R : AV → H → Prop) : wpA C an44 (argE [t0]) h (outA [(.tmp 2)] R) = sh44 C t0 h R := by kernel_rfl
/-! (*bellows/bellowsref04.taker).num -/
def an45 : ACode :=
 (.seq (.reg 0 [] [] [sD 2 (.mv (.c (.int .i64 0)))])
 (.seq (.seq (.reg 0 [] [] [sD 6 (.mv (.t 0)),
 sD 7 (.nilc (.t 6)),
 sD 8 (.fa 2 (.t 7)),
 sD 9 (.ld none (.t 8))])
 (.cond (.t 9) (.seq (.reg 0 [] [] [sD 2 (.mv (.c (.int .i64 0)))])
 .ret)
 .skip))
 (.seq (.reg 0 [0, 1, 2, 3, 4, 5, 6, 7, 8, 9, 10, 11, 12, 13, 14, 15] [[], [0], [0, 1], [1, 0, 2], [], [4], [4, 5], [5, 4, 6], [6, 4, 5, 7, 2, 0, 1, 3], [3, 1, 0, 2, 7, 5, 4, 6, 8], [8, 6, 4, 5, 7, 2, 0, 1, 3, 9], [8, 6, 4, 5, 7, 2, 0, 1, 3, 9], [8, 6, 4, 5, 7, 2, 0, 1, 3, 9], [9, 3, 1, 0, 2, 7, 5, 4, 6, 8, 10], [10, 13, 9, 3, 1, 0, 2, 7, 5, 4, 6, 8, 11], [11, 13, 10, 14, 9, 3, 1, 0, 2, 7, 5, 4, 6, 8, 12]] [sD 11 (.mv (.t 0)),
 sD 12 (.nilc (.t 11)),
 sD 13 (.fa 0 (.t 12)),
 sD 14 (.ld none (.t 13)),
 sD 15 (.mv (.t 0)),
 sD 16 (.nilc (.t 15)),
 sD 17 (.fa 1 (.t 16)),
 sD 18 (.ld none (.t 17)),
 sD 19 (.call 90 [(.t 14), (.t 18)]),
 sD 10 (.mv (.t 19)),
 sD 20 (.ext (.t 10) 0),
 sD 21 (.ext (.t 10) 1),
 sD 22 (.ext (.t 10) 2),
 sD 3 (.mv (.t 20)),
 sD 4 (.mv (.t 21)),
 sD 5 (.mv (.t 22))])
 (.seq (.seq (.reg 0 [] [] [sD 23 (.mv (.t 5)),
 sD 24 (.un .not (.t 23))])
 (.cond (.t 24) (.seq (.reg 0 [] [] [sD 25 (.mv (.t 0)),
 sD 26 (.nilc (.t 25)),
 sD 27 (.fa 2 (.t 26)),
 sN (.st 1 (.t 27) (.c (.bool true)))])
 (.seq (.reg 0 [] [] [sD 2 (.mv (.c (.int .i64 0)))])
 .ret))
 .skip))
 (.seq (.reg 0 [] [] [sD 28 (.mv (.t 0)),
 sD 29 (.mv (.t 4)),
 sD 30 (.nilc (.t 28)),
 sD 31 (.fa 1 (.t 30)),
 sN (.st 1 (.t 31) (.t 29))])
 (.seq (.reg 0 [] [] [sD 32 (.mv (.t 3)),
 sD 2 (.mv (.t 32))])
 .ret))))))
def fn45 : IFun := ⟨33, [(.tmp 2)], an45.erase⟩
theorem ok45 : okFun Tryz.prog 45 fn45 = true := by kernel_rfl
theorem oka45 : okA fn45.ntmps fn45.results an45 = true := by kernel_rfl
def sh45 (C : CallA) (t0 : AV) (h : H) (R : AV → H → Prop) : Prop :=
 valA (nilcA t0) h fun t7 h =>
 valA (faA 2 t7) h fun t8 h =>
 valA (ldA h none t8) h fun t9 h =>
 condA t9
 (R (.int .i64 0) h)
 (valA (nilcA t0) h fun t12 h =>
 valA (faA 0 t12) h fun t13 h =>
 valA (ldA h none t13) h fun t14 h =>
 valA (nilcA t0) h fun t16 h =>
 valA (faA 1 t16) h fun t17 h =>
 valA (ldA h none t17) h fun t18 h =>
 C 90 [t14, t18] h fun t19 h =>
 valA (extA t19 0) h fun t20 h =>
 valA (extA t19 1) h fun t21 h =>
 valA (extA t19 2) h fun t22 h =>
 valA (unOp .not t22) h fun t24 h =>
 condA t24
 (valA (nilcA t0) h fun t26 h =>
 valA (faA 2 t26) h fun t27 h =>
 memA (stA h 1 t27 (.bool true)) .undef fun _ h =>
 R (.int .i64 0) h)
 (valA (nilcA t0) h fun t30 h =>
 valA (faA 1 t30) h fun t31 h =>
 memA (stA h 1 t31 t21) .undef fun _ h =>
 R t20 h))
theorem she45 (C : CallA) (t0 : AV) (h : H) (R : AV → H → Prop) : wpA C an45 (argE [t0]) h (outA [(.tmp 2)] R) = sh45 C t0 h R := by kernel_rfl
/-! (*bellows/bellowsref04.taker).nums -/
def an46 : ACode :=
 (.seq (.reg 0 [] [] [sD 2 (.mv (.c .nilsl))])
 (.seq (.reg 0 [] [] [sD 3 (.mv (.c .nilsl))])
 (.seq (.reg 0 [] [] [sD 6 (.mv (.t 0)),
 sD 7 (.call 44 [(.t 6)]),
 sD 4 (.mv (.t 7))])
 (.seq (.seq (.reg 0 [] [] [sD 5 (.mv (.c (.int .i64 0)))])
 (.block 0 (.loop [3, 5] 57 (.seq (.seq (.reg 0 [] [] [sD 8 (.mv (.t 5)),
 sD 9 (.mv (.t 4)),
 sD 10 (.bin .lss .num (.t 8) (.t 9))])
 (.cond (.t 10) .skip
 (.exit 0)))
 (.seq (.block 1 (.reg 0 [] [] [sD 13 (.mv (.t 3)),
 sD 14 (.mv (.t 0)),
 sD 15 (.call 45 [(.t 14)]),
 sD 16 (.mksl none 3 [(.int .i64 0)] 1 [(0, 1, (.t 15))]),
 sD 17 (.app 3 1 8 [(.int .i64 0)] (.t 13) (.t 16)),
 sD 3 (.mv (.t 17))]))
 (.reg 0 [] [] [sD 11 (.mv (.t 5)),
 sD 12 (.bin .add .num (.t 11) (.c (.int .i64 1))),
 sD 5 (.mv (.t 12))]))))))
 (.seq (.reg 0 [] [] [sD 18 (.mv (.t 3)),
 sD 2 (.mv (.t 18))])
 .ret)))))
def fn46 : IFun := ⟨19, [(.tmp 2)], an46.erase⟩
theorem ok46 : okFun Tryz.prog 46 fn46 = true := by kernel_rfl
theorem oka46 : okA fn46.ntmps fn46.results an46 = true := by kernel_rfl
def sh46 (C : CallA) (t0 : AV) (h : H) (R : AV → H → Prop) : Prop :=
 C 44 [t0] h fun t7 h =>
 joinA (fun (l3' : AV) (h : H) =>
 R l3' h) fun J =>
 loopA (fun N l h => argA l 0 fun l3 => argA l 1 fun i5 => 
 valA (binOp .lss .num i5 t7) h fun t10 h =>
 condA t10
 (C 45 [t0] h fun t15 h =>
 mkslA h 3 1 (fillV [(.int .i64 0)] [(0, 1, t15)]) fun t16 h =>
 appendA h 3 1 8 l3 t16 fun t17 h =>
 valA (binOp .add .num i5 (.int .i64 1)) h fun t12 h =>
 N [t17, t12] h)
 (J l3 h)) [.nilsl, (.int .i64 0)] h
theorem she46 (C : CallA) (t0 : AV) (h : H) (R : AV → H → Prop) : wpA C an46 (argE [t0]) h (outA [(.tmp 2)] R) = sh46 C t0 h R := by kernel_rfl
/-! (*bellows/bellowsref04.taker).text -/
def an47 : ACode :=
 (.seq (.reg 0 [] [] [sD 2 (.mv (.c (.str [])))])
 (.seq (.reg 0 [] [] [sD 5 (.mv (.t 0)),
 sD 6 (.call 44 [(.t 5)]),
 sD 3 (.mv (.t 6))])
 (.seq (.reg 0 [0, 1, 2, 3, 4, 5, 6, 7, 8, 9, 10, 11, 12, 13, 14, 15, 16] [[], [0], [0, 1], [1, 0, 2], [], [4], [4, 5], [5, 4, 6], [], [8], [8, 9], [9, 8, 10], [], [12, 10, 8, 9, 11], [11, 9, 8, 10, 12, 13, 6, 4, 5, 7, 2, 0, 1, 3], [3, 1, 0, 2, 7, 5, 4, 6, 13, 12, 10, 8, 9, 11, 14], [14, 11, 9, 8, 10, 12, 13, 6, 4, 5, 7, 2, 0, 1, 3, 15]] [sD 7 (.mv (.t 0)),
 sD 8 (.nilc (.t 7)),
 sD 9 (.fa 0 (.t 8)),
 sD 10 (.ld none (.t 9)),
 sD 11 (.mv (.t 0)),
 sD 12 (.nilc (.t 11)),
 sD 13 (.fa 1 (.t 12)),
 sD 14 (.ld none (.t 13)),
 sD 15 (.mv (.t 0)),
 sD 16 (.nilc (.t 15)),
 sD 17 (.fa 1 (.t 16)),
 sD 18 (.ld none (.t 17)),
 sD 19 (.mv (.t 3)),
 sD 20 (.bin .add .num (.t 18) (.t 19)),
 sD 21 (.sli (.row 1) (.t 10) (some (.t 14)) (some (.t 20)) none),
 sD 22 (.cv none .b2s (.t 21)),
 sD 4 (.mv (.t 22))])
 (.seq (.reg 0 [] [] [sD 23 (.mv (.t 0)),
 sD 24 (.nilc (.t 23)),
 sD 25 (.fa 1 (.t 24)),
 sD 26 (.ld none (.t 25)),
 sD 27 (.mv (.t 3)),
 sD 28 (.bin .add .num (.t 26) (.t 27)),
 sD 29 (.nilc (.t 23)),
 sD 30 (.fa 1 (.t 29)),
 sN (.st 1 (.t 30) (.t 28))])
 (.seq (.reg 0 [] [] [sD 31 (.mv (.t 4)),
 sD 2 (.mv (.t 31))])
 .ret)))))
def fn47 : IFun := ⟨32, [(.tmp 2)], an47.erase⟩
theorem ok47 : okFun Tryz.prog 47 fn47 = true := by kernel_rfl
theorem oka47 : okA fn47.ntmps fn47.results an47 = true := by kernel_rfl
def sh47 (C : CallA) (t0 : AV) (h : H) (R : AV → H → Prop) : Prop :=
 C 44 [t0] h fun t6 h =>
 valA (nilcA t0) h fun t8 h =>
 valA (faA 0 t8) h fun t9 h =>
 valA (ldA h none t9) h fun t10 h =>
 valA (nilcA t0) h fun t12 h =>
 valA (faA 1 t12) h fun t13 h =>
 valA (ldA h none t13) h fun t14 h =>
 valA (nilcA t0) h fun t16 h =>
 valA (faA 1 t16) h fun t17 h =>
 valA (ldA h none t17) h fun t18 h =>
 valA (binOp .add .num t18 t6) h fun t20 h =>
 valA (sliceOp (.row 1) t10 (some t14) (some t20) none) h fun t21 h =>
 valA (b2sA h t21) h fun t22 h =>
 valA (nilcA t0) h fun t24 h =>
 valA (faA 1 t24) h fun t25 h =>
 valA (ldA h none t25) h fun t26 h =>
 valA (binOp .add .num t26 t6) h fun t28 h =>
 valA (nilcA t0) h fun t29 h =>
 valA (faA 1 t29) h fun t30 h =>
 memA (stA h 1 t30 t28) .undef fun _ h =>
 R t22 h
theorem she47 (C : CallA) (t0 : AV) (h : H) (R : AV → H → Prop) : wpA C an47 (argE [t0]) h (outA [(.tmp 2)] R) = sh47 C t0 h R := by kernel_rfl
/-! (*bellows/bellowsref04.taker).function -/
def an48 : ACode :=
 (.seq (.reg 0 [] [] [sD 2 (.al none 39 [.nilsl, (.int .i64 0), (.int .i64 0), .nilsl])])
 (.seq (.reg 0 [] [] [sD 9 (.mv (.t 0)),
 sD 10 (.call 46 [(.t 9)]),
 sD 11 (.build [.nilsl, (.int .i64 0), (.int .i64 0), .nilsl] [(0, 1, (.t 10))]),
 sD 3 (.al none 39 [.nilsl, (.int .i64 0), (.int .i64 0), .nilsl]),
 sN (.st 4 (.t 3) (.t 11))])
 (.seq (.reg 0 [] [] [sD 12 (.mv (.t 0)),
 sD 13 (.call 45 [(.t 12)]),
 sD 14 (.fa 1 (.t 3)),
 sN (.st 1 (.t 14) (.t 13))])
 (.seq (.reg 0 [] [] [sD 15 (.mv (.t 0)),
 sD 16 (.call 45 [(.t 15)]),
 sD 17 (.fa 2 (.t 3)),
 sN (.st 1 (.t 17) (.t 16))])
 (.seq (.reg 0 [] [] [sD 18 (.mv (.t 0)),
 sD 19 (.call 44 [(.t 18)]),
 sD 4 (.mv (.t 19))])
 (.seq (.seq (.reg 0 [] [] [sD 5 (.mv (.c (.int .i64 0)))])
 (.block 0 (.loop [5] 61 (.seq (.seq (.reg 0 [] [] [sD 20 (.mv (.t 5)),
 sD 21 (.mv (.t 4)),
 sD 22 (.bin .lss .num (.t 20) (.t 21)),
 sD 23 (.mv (.t 22)),
 sG 24 23 true (.mv (.t 0)),
 sG 25 23 true (.nilc (.t 24)),
 sG 26 23 true (.fa 2 (.t 25)),
 sG 27 23 true (.ld none (.t 26)),
 sG 28 23 true (.un .not (.t 27)),
 sD 29 (.pick (.t 23) (.t 28) (.c (.bool false)))])
 (.cond (.t 29) .skip
 (.exit 0)))
 (.seq (.block 1 (.seq (.reg 0 [] [] [sD 32 (.mv (.t 0)),
 sD 33 (.call 46 [(.t 32)]),
 sD 34 (.build [.nilsl, .nilsl] [(0, 1, (.t 33))]),
 sD 6 (.al none 42 [.nilsl, .nilsl]),
 sN (.st 2 (.t 6) (.t 34))])
 (.seq (.reg 0 [] [] [sD 35 (.mv (.t 0)),
 sD 36 (.call 44 [(.t 35)]),
 sD 7 (.mv (.t 36))])
 (.seq (.seq (.reg 0 [] [] [sD 8 (.mv (.c (.int .i64 0)))])
 (.block 2 (.loop [8] 509 (.seq (.seq (.reg 0 [] [] [sD 37 (.mv (.t 8)),
 sD 38 (.mv (.t 7)),
 sD 39 (.bin .lss .num (.t 37) (.t 38)),
 sD 40 (.mv (.t 39)),
 sG 41 40 true (.mv (.t 0)),
 sG 42 40 true (.nilc (.t 41)),
 sG 43 40 true (.fa 2 (.t 42)),
 sG 44 40 true (.ld none (.t 43)),
 sG 45 40 true (.un .not (.t 44)),
 sD 46 (.pick (.t 40) (.t 45) (.c (.bool false)))])
 (.cond (.t 46) .skip
 (.exit 2)))
 (.seq (.block 3 (.reg 1 [0, 1, 2, 3, 4, 5, 6, 7] [[], [0], [], [2], [2, 3], [3, 2, 4, 0, 1], [5, 4, 3, 2, 1, 0], [0, 1, 2, 3, 4, 5, 6]] [sD 49 (.fa 1 (.t 6)),
 sD 50 (.ld none (.t 49)),
 sD 51 (.mv (.t 0)),
 ⟨(some 52), none, (.call 91 [(.t 51)]), [⟨none, (.ld none (.t 49)), 50⟩]⟩,
 sD 53 (.mksl (some 0) 55 [(.int .i64 0), (.int .i64 0), (.int .i64 0), (.int .i64 0), (.int .i64 0), (.int .i64 0), .nilsl, .nilsl, .nilsl] 1 [(0, 9, (.t 52))]),
 sD 54 (.app 55 9 120 [(.int .i64 0), (.int .i64 0), (.int .i64 0), (.int .i64 0), (.int .i64 0), (.int .i64 0), .nilsl, .nilsl, .nilsl] (.t 50) (.t 53)),
 sD 55 (.fa 1 (.t 6)),
 sN (.st 1 (.t 55) (.t 54))]))
 (.reg 0 [] [] [sD 47 (.mv (.t 8)),
 sD 48 (.bin .add .num (.t 47) (.c (.int .i64 1))),
 sD 8 (.mv (.t 48))]))))))
 (.reg 0 [] [] [sD 56 (.fa 3 (.t 3)),
 sD 57 (.ld none (.t 56)),
 sD 58 (.ld (some 2) (.t 6)),
 sD 59 (.mksl none 42 [.nilsl, .nilsl] 1 [(0, 2, (.t 58))]),
 sD 60 (.app 42 2 48 [.nilsl, .nilsl] (.t 57) (.t 59)),
 sD 61 (.fa 3 (.t 3)),
 sN (.st 1 (.t 61) (.t 60))])))))
 (.reg 0 [] [] [sD 30 (.mv (.t 5)),
 sD 31 (.bin .add .num (.t 30) (.c (.int .i64 1))),
 sD 5 (.mv (.t 31))]))))))
 (.seq (.reg 0 [] [] [sD 62 (.ld (some 4) (.t 3)),
 sN (.st 4 (.t 2) (.t 62))])
 .ret)))))))
def fn48 : IFun := ⟨63, [(.cell 2 (some 4))], an48.erase⟩
theorem ok48 : okFun Tryz.prog 48 fn48 = true := by kernel_rfl
theorem oka48 : okA fn48.ntmps fn48.results an48 = true := by kernel_rfl
def sh48 (C : CallA) (t0 : AV) (h : H) (R : AV → H → Prop) : Prop :=
 boxA h [.nilsl, (.int .i64 0), (.int .i64 0), .nilsl] 39 fun t2 h =>
 C 46 [t0] h fun t10 h =>
 valA (buildA (fillV [.nilsl, (.int .i64 0), (.int .i64 0), .nilsl] [(0, 1, t10)])) h fun t11 h =>
 boxA h [.nilsl, (.int .i64 0), (.int .i64 0), .nilsl] 39 fun f3 h =>
 memA (stA h 4 f3 t11) .undef fun _ h =>
 C 45 [t0] h fun t13 h =>
 valA (faA 1 f3) h fun t14 h =>
 memA (stA h 1 t14 t13) .undef fun _ h =>
 C 45 [t0] h fun t16 h =>
 valA (faA 2 f3) h fun t17 h =>
 memA (stA h 1 t17 t16) .undef fun _ h =>
 C 44 [t0] h fun t19 h =>
 joinA (fun (h : H) =>
 valA (ldA h (some 4) f3) h fun t62 h =>
 memA (stA h 4 t2 t62) .undef fun _ h =>
 valA (ldA h (some 4) t2) h fun res _ => R res h) fun J =>
 loopA (fun N l h => argA l 0 fun i5 => 
 valA (binOp .lss .num i5 t19) h fun t22 h =>
 whenA t22 true (fun K => K t0 h) h fun t24 h =>
 whenA t22 true (fun K => valA (nilcA t24) h K) h fun t25 h =>
 whenA t22 true (fun K => valA (faA 2 t25) h K) h fun t26 h =>
 whenA t22 true (fun K => valA (ldA h none t26) h K) h fun t27 h =>
 whenA t22 true (fun K => valA (unOp .not t27) h K) h fun t28 h =>
 valA (pickA t22 t28 (.bool false)) h fun t29 h =>
 condA t29
 (joinA (fun (h : H) =>
 valA (binOp .add .num i5 (.int .i64 1)) h fun t31 h =>
 N [t31] h) fun J_33 =>
 C 46 [t0] h fun t33 h =>
 valA (buildA (fillV [.nilsl, .nilsl] [(0, 1, t33)])) h fun t34 h =>
 boxA h [.nilsl, .nilsl] 42 fun b6 h =>
 memA (stA h 2 b6 t34) .undef fun _ h =>
 C 44 [t0] h fun t36 h =>
 joinA (fun (h : H) =>
 valA (faA 3 f3) h fun t56 h =>
 valA (ldA h none t56) h fun t57 h =>
 valA (ldA h (some 2) b6) h fun t58 h =>
 mkslA h 42 1 (fillV [.nilsl, .nilsl] [(0, 2, t58)]) fun t59 h =>
 appendA h 42 2 48 t57 t59 fun t60 h =>
 valA (faA 3 f3) h fun t61 h =>
 memA (stA h 1 t61 t60) .undef fun _ h =>
 J_33 h) fun J_54 =>
 loopA (fun N_55 l h => argA l 0 fun j8 => 
 valA (binOp .lss .num j8 t36) h fun t39 h =>
 whenA t39 true (fun K => K t0 h) h fun t41 h =>
 whenA t39 true (fun K => valA (nilcA t41) h K) h fun t42 h =>
 whenA t39 true (fun K => valA (faA 2 t42) h K) h fun t43 h =>
 whenA t39 true (fun K => valA (ldA h none t43) h K) h fun t44 h =>
 whenA t39 true (fun K => valA (unOp .not t44) h K) h fun t45 h =>
 valA (pickA t39 t45 (.bool false)) h fun t46 h =>
 condA t46
 (valA (faA 1 b6) h fun t49 h =>
 valA (ldA h none t49) h fun t50 h =>
 C 91 [t0] h fun t52 h =>
 againK (valA (ldA h none t49) h (fun v _ => v = t50)) <|
 mkslA h 55 1 (fillV [(.int .i64 0), (.int .i64 0), (.int .i64 0), (.int .i64 0), (.int .i64 0), (.int .i64 0), .nilsl, .nilsl, .nilsl] [(0, 9, t52)]) fun t53 h =>
 appendA h 55 9 120 t50 t53 fun t54 h =>
 valA (faA 1 b6) h fun t55 h =>
 memA (stA h 1 t55 t54) .undef fun _ h =>
 valA (binOp .add .num j8 (.int .i64 1)) h fun t48 h =>
 N_55 [t48] h)
 (J_54 h)) [(.int .i64 0)] h)
 (J h)) [(.int .i64 0)] h
theorem she48 (C : CallA) (t0 : AV) (h : H) (R : AV → H → Prop) : wpA C an48 (argE [t0]) h (outA [(.cell 2 (some 4))] R) = sh48 C t0 h R := by kernel_rfl
/-! bellows/bellowsref04.Bytes -/
def an49 : ACode :=
 (.seq (.reg 0 [] [] [sD 1 (.bx none 28 (.t 0)),
 sD 2 (.mv (.c .nilsl))])
 (.seq (.reg 0 [] [] [sD 19 (.mksl none 5 [(.int .u8 0), (.int .u8 0), (.int .u8 0), (.int .u8 0)] 4 [(0, 1, (.c (.int .u8 66))), (1, 1, (.c (.int .u8 69))), (2, 1, (.c (.int .u8 76))), (3, 1, (.c (.int .u8 49)))]),
 sD 20 (.cv none .keep (.t 19)),
 sD 21 (.fa 0 (.t 1)),
 sD 22 (.ld none (.t 21)),
 sD 23 (.len false (.t 22)),
 sD 24 (.call 92 [(.t 20), (.t 23)]),
 sD 3 (.mv (.t 24))])
 (.seq (.seq (.reg 0 [] [] [sD 25 (.fa 0 (.t 1)),
 sD 26 (.ld none (.t 25)),
 sD 27 (.len false (.t 26)),
 sD 28 (.mv (.c (.int .i64 0)))])
 (.block 0 (.loop [3, 28] 469762058 (.seq (.reg 0 [] [] [sD 29 (.bin .lss .num (.t 28) (.t 27))])
 (.seq (.cond (.t 29) .skip
 (.exit 0))
 (.seq (.block 1 (.seq (.reg 0 [] [] [sD 30 (.ia none 2 (.t 26) (.t 28)),
 sD 31 (.ld (some 2) (.t 30)),
 sD 5 (.al none 46 [(.bool false), .nilsl]),
 sN (.st 2 (.t 5) (.t 31))])
 (.seq (.reg 0 [] [] [sD 6 (.mv (.c (.int .i64 0)))])
 (.seq (.seq (.reg 0 [] [] [sD 32 (.fa 0 (.t 5)),
 sD 33 (.ld none (.t 32))])
 (.cond (.t 33) (.reg 0 [] [] [sD 6 (.mv (.c (.int .i64 1)))])
 .skip))
 (.reg 0 [0, 1, 3, 4, 2, 5, 6] [[], [], [1, 0], [], [3], [3, 4, 0, 1, 2], [2, 1, 0, 4, 3, 5]] [sD 34 (.mv (.t 3)),
 sD 35 (.mv (.t 6)),
 sD 37 (.fa 1 (.t 5)),
 sD 38 (.ld none (.t 37)),
 ⟨(some 36), none, (.call 92 [(.t 34), (.t 35)]), [⟨none, (.ld none (.t 37)), 38⟩]⟩,
 sD 39 (.call 93 [(.t 36), (.t 38)]),
 sD 3 (.mv (.t 39))])))))
 (.reg 0 [] [] [sD 40 (.bin .add .num (.t 28) (.c (.int .i64 1))),
 sD 28 (.mv (.t 40))])))))))
 (.seq (.reg 0 [] [] [sD 41 (.mv (.t 3)),
 sD 42 (.fa 1 (.t 1)),
 sD 43 (.ld none (.t 42)),
 sD 44 (.len false (.t 43)),
 sD 45 (.call 92 [(.t 41), (.t 44)]),
 sD 3 (.mv (.t 45))])
 (.seq (.seq (.reg 0 [] [] [sD 46 (.fa 1 (.t 1)),
 sD 47 (.ld none (.t 46)),
 sD 48 (.len false (.t 47)),
 sD 49 (.mv (.c (.int .i64 0)))])
 (.block 2 (.loop [3, 49] 985162418487306 (.seq (.reg 0 [] [] [sD 50 (.bin .lss .num (.t 49) (.t 48))])
 (.seq (.cond (.t 50) .skip
 (.exit 2))
 (.seq (.block 3 (.seq (.reg 0 [] [] [sD 51 (.ia none 3 (.t 47) (.t 49)),
 sD 52 (.ld (some 3) (.t 51)),
 sD 8 (.al none 61 [(.int .i64 0), .nilsl, (.str [])]),
 sN (.st 3 (.t 8) (.t 52))])
 (.reg 0 [0, 1, 2, 4, 5, 7, 8, 3, 6, 9, 10] [[], [], [1], [1, 2, 0], [], [4], [4, 5, 0, 2, 1, 3], [], [7], [7, 8, 3, 1, 2, 0, 5, 4, 6], [6, 4, 5, 0, 2, 1, 3, 8, 7, 9]] [sD 53 (.mv (.t 3)),
 sD 54 (.fa 0 (.t 8)),
 sD 55 (.ld none (.t 54)),
 sD 57 (.fa 1 (.t 8)),
 sD 58 (.ld none (.t 57)),
 sD 60 (.fa 2 (.t 8)),
 sD 61 (.ld none (.t 60)),
 ⟨(some 56), none, (.call 92 [(.t 53), (.t 55)]), [⟨none, (.ld none (.t 57)), 58⟩, ⟨none, (.ld none (.t 60)), 61⟩]⟩,
 ⟨(some 59), none, (.call 93 [(.t 56), (.t 58)]), [⟨none, (.ld none (.t 60)), 61⟩]⟩,
 sD 62 (.call 94 [(.t 59), (.t 61)]),
 sD 3 (.mv (.t 62))])))
 (.reg 0 [] [] [sD 63 (.bin .add .num (.t 49) (.c (.int .i64 1))),
 sD 49 (.mv (.t 63))])))))))
 (.seq (.reg 0 [] [] [sD 64 (.mv (.t 3)),
 sD 65 (.fa 2 (.t 1)),
 sD 66 (.ld none (.t 65)),
 sD 67 (.len false (.t 66)),
 sD 68 (.call 92 [(.t 64), (.t 67)]),
 sD 3 (.mv (.t 68))])
 (.seq (.seq (.reg 0 [] [] [sD 69 (.fa 2 (.t 1)),
 sD 70 (.ld none (.t 69)),
 sD 71 (.len false (.t 70)),
 sD 72 (.mv (.c (.int .i64 0)))])
 (.block 4 (.loop [3, 72] 8264141345021879123978 (.seq (.reg 0 [] [] [sD 73 (.bin .lss .num (.t 72) (.t 71))])
 (.seq (.cond (.t 73) .skip
 (.exit 4))
 (.seq (.block 5 (.seq (.reg 0 [] [] [sD 74 (.ia none 1 (.t 70) (.t 72)),
 sD 75 (.ld none (.t 74)),
 sD 10 (.mv (.t 75))])
 (.reg 0 [] [] [sD 76 (.mv (.t 3)),
 sD 77 (.mv (.t 10)),
 sD 78 (.call 94 [(.t 76), (.t 77)]),
 sD 3 (.mv (.t 78))])))
 (.reg 0 [] [] [sD 79 (.bin .add .num (.t 72) (.c (.int .i64 1))),
 sD 72 (.mv (.t 79))])))))))
 (.seq (.reg 0 [] [] [sD 80 (.mv (.t 3)),
 sD 81 (.fa 3 (.t 1)),
 sD 82 (.ld none (.t 81)),
 sD 83 (.len false (.t 82)),
 sD 84 (.call 92 [(.t 80), (.t 83)]),
 sD 3 (.mv (.t 84))])
 (.seq (.seq (.reg 0 [] [] [sD 85 (.fa 3 (.t 1)),
 sD 86 (.ld none (.t 85)),
 sD 87 (.len false (.t 86)),
 sD 88 (.mv (.c (.int .i64 0)))])
 (.block 6 (.loop [3, 88] 541598767187353870268366858 (.seq (.reg 0 [] [] [sD 89 (.bin .lss .num (.t 88) (.t 87))])
 (.seq (.cond (.t 89) .skip
 (.exit 6))
 (.seq (.block 7 (.seq (.reg 0 [] [] [sD 90 (.ia none 1 (.t 86) (.t 88)),
 sD 91 (.ld none (.t 90)),
 sD 12 (.mv (.t 91))])
 (.reg 0 [] [] [sD 92 (.mv (.t 3)),
 sD 93 (.mv (.t 12)),
 sD 94 (.call 94 [(.t 92), (.t 93)]),
 sD 3 (.mv (.t 94))])))
 (.reg 0 [] [] [sD 95 (.bin .add .num (.t 88) (.c (.int .i64 1))),
 sD 88 (.mv (.t 95))])))))))
 (.seq (.reg 0 [] [] [sD 96 (.mv (.t 3)),
 sD 97 (.fa 4 (.t 1)),
 sD 98 (.ld none (.t 97)),
 sD 99 (.len false (.t 98)),
 sD 100 (.call 92 [(.t 96), (.t 99)]),
 sD 3 (.mv (.t 100))])
 (.seq (.seq (.reg 0 [] [] [sD 101 (.fa 4 (.t 1)),
 sD 102 (.ld none (.t 101)),
 sD 103 (.len false (.t 102)),
 sD 104 (.mv (.c (.int .i64 0)))])
 (.block 8 (.loop [3, 104] 35494216806390423241907689750538 (.seq (.reg 0 [] [] [sD 105 (.bin .lss .num (.t 104) (.t 103))])
 (.seq (.cond (.t 105) .skip
 (.exit 8))
 (.seq (.block 9 (.seq (.reg 0 [] [] [sD 106 (.ia none 4 (.t 102) (.t 104)),
 sD 107 (.ld (some 4) (.t 106)),
 sD 14 (.al none 39 [.nilsl, (.int .i64 0), (.int .i64 0), .nilsl]),
 sN (.st 4 (.t 14) (.t 107))])
 (.seq (.reg 0 [0, 1, 2, 4, 5, 7, 8, 10, 11, 3, 6, 9, 12, 13, 14] [[], [], [1], [1, 2, 0], [], [4], [4, 5, 0, 2, 1, 3], [], [7], [7, 8, 3, 1, 2, 0, 5, 4, 6], [], [10], [10, 11], [11, 10, 12, 6, 4, 5, 0, 2, 1, 3, 8, 7, 9], [9, 7, 8, 3, 1, 2, 0, 5, 4, 6, 12, 10, 11, 13]] [sD 108 (.mv (.t 3)),
 sD 109 (.fa 0 (.t 14)),
 sD 110 (.ld none (.t 109)),
 sD 112 (.fa 1 (.t 14)),
 sD 113 (.ld none (.t 112)),
 sD 115 (.fa 2 (.t 14)),
 sD 116 (.ld none (.t 115)),
 sD 118 (.fa 3 (.t 14)),
 sD 119 (.ld none (.t 118)),
 ⟨(some 111), none, (.call 93 [(.t 108), (.t 110)]), [⟨none, (.ld none (.t 112)), 113⟩, ⟨none, (.ld none (.t 115)), 116⟩, ⟨none, (.ld none (.t 118)), 119⟩]⟩,
 ⟨(some 114), none, (.call 92 [(.t 111), (.t 113)]), [⟨none, (.ld none (.t 115)), 116⟩, ⟨none, (.ld none (.t 118)), 119⟩]⟩,
 ⟨(some 117), none, (.call 92 [(.t 114), (.t 116)]), [⟨none, (.ld none (.t 118)), 119⟩]⟩,
 sD 120 (.len false (.t 119)),
 sD 121 (.call 92 [(.t 117), (.t 120)]),
 sD 3 (.mv (.t 121))])
 (.seq (.reg 0 [] [] [sD 122 (.fa 3 (.t 14)),
 sD 123 (.ld none (.t 122)),
 sD 124 (.len false (.t 123)),
 sD 125 (.mv (.c (.int .i64 0)))])
 (.block 10 (.loop [3, 125] 74436803258172095273036437283389046794 (.seq (.reg 0 [] [] [sD 126 (.bin .lss .num (.t 125) (.t 124))])
 (.seq (.cond (.t 126) .skip
 (.exit 10))
 (.seq (.block 11 (.seq (.reg 0 [] [] [sD 127 (.ia none 2 (.t 123) (.t 125)),
 sD 128 (.ld (some 2) (.t 127)),
 sD 16 (.al none 42 [.nilsl, .nilsl]),
 sN (.st 2 (.t 16) (.t 128))])
 (.seq (.reg 0 [0, 1, 2, 4, 5, 3, 6, 7, 8] [[], [], [1], [1, 2, 0], [], [4], [4, 5], [5, 4, 6, 0, 2, 1, 3], [3, 1, 2, 0, 6, 4, 5, 7]] [sD 129 (.mv (.t 3)),
 sD 130 (.fa 0 (.t 16)),
 sD 131 (.ld none (.t 130)),
 sD 133 (.fa 1 (.t 16)),
 sD 134 (.ld none (.t 133)),
 ⟨(some 132), none, (.call 93 [(.t 129), (.t 131)]), [⟨none, (.ld none (.t 133)), 134⟩]⟩,
 sD 135 (.len false (.t 134)),
 sD 136 (.call 92 [(.t 132), (.t 135)]),
 sD 3 (.mv (.t 136))])
 (.seq (.reg 0 [] [] [sD 137 (.fa 1 (.t 16)),
 sD 138 (.ld none (.t 137)),
 sD 139 (.len false (.t 138)),
 sD 140 (.mv (.c (.int .i64 0)))])
 (.block 12 (.loop [3, 140] 2439218442892545078200742222508197928763402 (.seq (.reg 0 [] [] [sD 141 (.bin .lss .num (.t 140) (.t 139))])
 (.seq (.cond (.t 141) .skip
 (.exit 12))
 (.seq (.block 13 (.seq (.reg 0 [] [] [sD 142 (.ia none 9 (.t 138) (.t 140)),
 sD 143 (.ld (some 9) (.t 142)),
 sD 18 (.al none 55 [(.int .i64 0), (.int .i64 0), (.int .i64 0), (.int .i64 0), (.int .i64 0), (.int .i64 0), .nilsl, .nilsl, .nilsl]),
 sN (.st 9 (.t 18) (.t 143))])
 (.reg 0 [] [] [sD 144 (.mv (.t 3)),
 sD 145 (.ld (some 9) (.t 18)),
 sD 146 (.call 95 [(.t 144), (.t 145)]),
 sD 3 (.mv (.t 146))])))
 (.reg 0 [] [] [sD 147 (.bin .add .num (.t 140) (.c (.int .i64 1))),
 sD 140 (.mv (.t 147))]))))))))))
 (.reg 0 [] [] [sD 148 (.bin .add .num (.t 125) (.c (.int .i64 1))),
 sD 125 (.mv (.t 148))]))))))))))
 (.reg 0 [] [] [sD 149 (.bin .add .num (.t 104) (.c (.int .i64 1))),
 sD 104 (.mv (.t 149))])))))))
 (.seq (.reg 0 [0, 1, 2, 4, 5, 3, 6, 7] [[], [], [1], [1, 2, 0], [], [4], [4, 5, 0, 2, 1, 3], [3, 1, 2, 0, 5, 4, 6]] [sD 150 (.mv (.t 3)),
 sD 151 (.fa 5 (.t 1)),
 sD 152 (.ld none (.t 151)),
 sD 154 (.fa 6 (.t 1)),
 sD 155 (.ld none (.t 154)),
 ⟨(some 153), none, (.call 92 [(.t 150), (.t 152)]), [⟨none, (.ld none (.t 154)), 155⟩]⟩,
 sD 156 (.call 92 [(.t 153), (.t 155)]),
 sD 2 (.mv (.t 156))])
 .ret))))))))))))
def fn49 : IFun := ⟨157, [(.tmp 2)], an49.erase⟩
theorem ok49 : okFun Tryz.prog 49 fn49 = true := by kernel_rfl
theorem oka49 : okA fn49.ntmps fn49.results an49 = true := by kernel_rfl
def sh49 (C : CallA) (m0 : AV) (h : H) (R : AV → H → Prop) : Prop :=
 boxA h (AV.cells m0) 28 fun m1 h =>
 mkslA h 5 4 (fillV [(.int .u8 0), (.int .u8 0), (.int .u8 0), (.int .u8 0)] [(0, 1, (.int .u8 66)), (1, 1, (.int .u8 69)), (2, 1, (.int .u8 76)), (3, 1, (.int .u8 49))]) fun t19 h =>
 valA (keepA h t19) h fun t20 h =>
 valA (faA 0 m1) h fun t21 h =>
 valA (ldA h none t21) h fun t22 h =>
 valA (lenA false t22) h fun t23 h =>
 C 92 [t20, t23] h fun t24 h =>
 joinA (fun (b3' : AV) (h : H) =>
 valA (faA 1 m1) h fun t42 h =>
 valA (ldA h none t42) h fun t43 h =>
 valA (lenA false t43) h fun t44 h =>
 C 92 [b3', t44] h fun t45 h =>
 joinA (fun (b3'_0 : AV) (h : H) =>
 valA (faA 2 m1) h fun t65 h =>
 valA (ldA h none t65) h fun t66 h =>
 valA (lenA false t66) h fun t67 h =>
 C 92 [b3'_0, t67] h fun t68 h =>
 joinA (fun (b3'_1 : AV) (h : H) =>
 valA (faA 3 m1) h fun t81 h =>
 valA (ldA h none t81) h fun t82 h =>
 valA (lenA false t82) h fun t83 h =>
 C 92 [b3'_1, t83] h fun t84 h =>
 joinA (fun (b3'_2 : AV) (h : H) =>
 valA (faA 4 m1) h fun t97 h =>
 valA (ldA h none t97) h fun t98 h =>
 valA (lenA false t98) h fun t99 h =>
 C 92 [b3'_2, t99] h fun t100 h =>
 joinA (fun (b3'_3 : AV) (h : H) =>
 valA (faA 5 m1) h fun t151 h =>
 valA (ldA h none t151) h fun t152 h =>
 valA (faA 6 m1) h fun t154 h =>
 valA (ldA h none t154) h fun t155 h =>
 C 92 [b3'_3, t152] h fun t153 h =>
 againK (valA (ldA h none t154) h (fun v _ => v = t155)) <|
 C 92 [t153, t155] h fun t156 h =>
 R t156 h) fun J =>
 valA (faA 4 m1) h fun t101 h =>
 valA (ldA h none t101) h fun t102 h =>
 valA (lenA false t102) h fun t103 h =>
 loopA (fun N l h => argA l 0 fun b3 => argA l 1 fun t104 => 
 valA (binOp .lss .num t104 t103) h fun t105 h =>
 condA t105
 (joinA (fun (b3'_4 : AV) (h : H) =>
 valA (binOp .add .num t104 (.int .i64 1)) h fun t149 h =>
 N [b3'_4, t149] h) fun J_51 =>
 valA (iaA 4 t102 t104) h fun t106 h =>
 valA (ldA h (some 4) t106) h fun t107 h =>
 boxA h [.nilsl, (.int .i64 0), (.int .i64 0), .nilsl] 39 fun f14 h =>
 memA (stA h 4 f14 t107) .undef fun _ h =>
 valA (faA 0 f14) h fun t109 h =>
 valA (ldA h none t109) h fun t110 h =>
 valA (faA 1 f14) h fun t112 h =>
 valA (ldA h none t112) h fun t113 h =>
 valA (faA 2 f14) h fun t115 h =>
 valA (ldA h none t115) h fun t116 h =>
 valA (faA 3 f14) h fun t118 h =>
 valA (ldA h none t118) h fun t119 h =>
 C 93 [b3, t110] h fun t111 h =>
 againK (valA (ldA h none t112) h (fun v _ => v = t113)) <|
 againK (valA (ldA h none t115) h (fun v _ => v = t116)) <|
 againK (valA (ldA h none t118) h (fun v _ => v = t119)) <|
 C 92 [t111, t113] h fun t114 h =>
 againK (valA (ldA h none t115) h (fun v _ => v = t116)) <|
 againK (valA (ldA h none t118) h (fun v _ => v = t119)) <|
 C 92 [t114, t116] h fun t117 h =>
 againK (valA (ldA h none t118) h (fun v _ => v = t119)) <|
 valA (lenA false t119) h fun t120 h =>
 C 92 [t117, t120] h fun t121 h =>
 valA (faA 3 f14) h fun t122 h =>
 valA (ldA h none t122) h fun t123 h =>
 valA (lenA false t123) h fun t124 h =>
 loopA (fun N_52 l h => argA l 0 fun b3_53 => argA l 1 fun t125 => 
 valA (binOp .lss .num t125 t124) h fun t126 h =>
 condA t126
 (joinA (fun (b3'_54 : AV) (h : H) =>
 valA (binOp .add .num t125 (.int .i64 1)) h fun t148 h =>
 N_52 [b3'_54, t148] h) fun J_78 =>
 valA (iaA 2 t123 t125) h fun t127 h =>
 valA (ldA h (some 2) t127) h fun t128 h =>
 boxA h [.nilsl, .nilsl] 42 fun k16 h =>
 memA (stA h 2 k16 t128) .undef fun _ h =>
 valA (faA 0 k16) h fun t130 h =>
 valA (ldA h none t130) h fun t131 h =>
 valA (faA 1 k16) h fun t133 h =>
 valA (ldA h none t133) h fun t134 h =>
 C 93 [b3_53, t131] h fun t132 h =>
 againK (valA (ldA h none t133) h (fun v _ => v = t134)) <|
 valA (lenA false t134) h fun t135 h =>
 C 92 [t132, t135] h fun t136 h =>
 valA (faA 1 k16) h fun t137 h =>
 valA (ldA h none t137) h fun t138 h =>
 valA (lenA false t138) h fun t139 h =>
 loopA (fun N_79 l h => argA l 0 fun b3_80 => argA l 1 fun t140 => 
 valA (binOp .lss .num t140 t139) h fun t141 h =>
 condA t141
 (valA (iaA 9 t138 t140) h fun t142 h =>
 valA (ldA h (some 9) t142) h fun t143 h =>
 boxA h [(.int .i64 0), (.int .i64 0), (.int .i64 0), (.int .i64 0), (.int .i64 0), (.int .i64 0), .nilsl, .nilsl, .nilsl] 55 fun x18 h =>
 memA (stA h 9 x18 t143) .undef fun _ h =>
 valA (ldA h (some 9) x18) h fun t145 h =>
 C 95 [b3_80, t145] h fun t146 h =>
 valA (binOp .add .num t140 (.int .i64 1)) h fun t147 h =>
 N_79 [t146, t147] h)
 (J_78 b3_80 h)) [t136, (.int .i64 0)] h)
 (J_51 b3_53 h)) [t121, (.int .i64 0)] h)
 (J b3 h)) [t100, (.int .i64 0)] h) fun J_81 =>
 valA (faA 3 m1) h fun t85 h =>
 valA (ldA h none t85) h fun t86 h =>
 valA (lenA false t86) h fun t87 h =>
 loopA (fun N_82 l h => argA l 0 fun b3_83 => argA l 1 fun t88 => 
 valA (binOp .lss .num t88 t87) h fun t89 h =>
 condA t89
 (valA (iaA 1 t86 t88) h fun t90 h =>
 valA (ldA h none t90) h fun t91 h =>
 C 94 [b3_83, t91] h fun t94 h =>
 valA (binOp .add .num t88 (.int .i64 1)) h fun t95 h =>
 N_82 [t94, t95] h)
 (J_81 b3_83 h)) [t84, (.int .i64 0)] h) fun J_84 =>
 valA (faA 2 m1) h fun t69 h =>
 valA (ldA h none t69) h fun t70 h =>
 valA (lenA false t70) h fun t71 h =>
 loopA (fun N_85 l h => argA l 0 fun b3_86 => argA l 1 fun t72 => 
 valA (binOp .lss .num t72 t71) h fun t73 h =>
 condA t73
 (valA (iaA 1 t70 t72) h fun t74 h =>
 valA (ldA h none t74) h fun t75 h =>
 C 94 [b3_86, t75] h fun t78 h =>
 valA (binOp .add .num t72 (.int .i64 1)) h fun t79 h =>
 N_85 [t78, t79] h)
 (J_84 b3_86 h)) [t68, (.int .i64 0)] h) fun J_87 =>
 valA (faA 1 m1) h fun t46 h =>
 valA (ldA h none t46) h fun t47 h =>
 valA (lenA false t47) h fun t48 h =>
 loopA (fun N_88 l h => argA l 0 fun b3_89 => argA l 1 fun t49 => 
 valA (binOp .lss .num t49 t48) h fun t50 h =>
 condA t50
 (valA (iaA 3 t47 t49) h fun t51 h =>
 valA (ldA h (some 3) t51) h fun t52 h =>
 boxA h [(.int .i64 0), .nilsl, (.str [])] 61 fun s8 h =>
 memA (stA h 3 s8 t52) .undef fun _ h =>
 valA (faA 0 s8) h fun t54 h =>
 valA (ldA h none t54) h fun t55 h =>
 valA (faA 1 s8) h fun t57 h =>
 valA (ldA h none t57) h fun t58 h =>
 valA (faA 2 s8) h fun t60 h =>
 valA (ldA h none t60) h fun t61 h =>
 C 92 [b3_89, t55] h fun t56 h =>
 againK (valA (ldA h none t57) h (fun v _ => v = t58)) <|
 againK (valA (ldA h none t60) h (fun v _ => v = t61)) <|
 C 93 [t56, t58] h fun t59 h =>
 againK (valA (ldA h none t60) h (fun v _ => v = t61)) <|
 C 94 [t59, t61] h fun t62 h =>
 valA (binOp .add .num t49 (.int .i64 1)) h fun t63 h =>
 N_88 [t62, t63] h)
 (J_87 b3_89 h)) [t45, (.int .i64 0)] h) fun J_90 =>
 valA (faA 0 m1) h fun t25 h =>
 valA (ldA h none t25) h fun t26 h =>
 valA (lenA false t26) h fun t27 h =>
 loopA (fun N_91 l h => argA l 0 fun b3_92 => argA l 1 fun t28 => 
 valA (binOp .lss .num t28 t27) h fun t29 h =>
 condA t29
 (valA (iaA 2 t26 t28) h fun t30 h =>
 valA (ldA h (some 2) t30) h fun t31 h =>
 boxA h [(.bool false), .nilsl] 46 fun t5 h =>
 memA (stA h 2 t5 t31) .undef fun _ h =>
 joinA (fun (imm6'_93 : AV) (h : H) =>
 valA (faA 1 t5) h fun t37 h =>
 valA (ldA h none t37) h fun t38 h =>
 C 92 [b3_92, imm6'_93] h fun t36 h =>
 againK (valA (ldA h none t37) h (fun v _ => v = t38)) <|
 C 93 [t36, t38] h fun t39 h =>
 valA (binOp .add .num t28 (.int .i64 1)) h fun t40 h =>
 N_91 [t39, t40] h) fun J_96 =>
 valA (faA 0 t5) h fun t32 h =>
 valA (ldA h none t32) h fun t33 h =>
 condA t33
 (J_96 (.int .i64 1) h)
 (J_96 (.int .i64 0) h))
 (J_90 b3_92 h)) [t24, (.int .i64 0)] h
theorem she49 (C : CallA) (m0 : AV) (h : H) (R : AV → H → Prop) : wpA C an49 (argE [m0]) h (outA [(.tmp 2)] R) = sh49 C m0 h R := by kernel_rfl
/-! slices.EqualFunc[[]bellows/api.Type,[]bellows/api.Type,bellows/api.Type,bellows/api.Type] -/
def an50 : ACode :=
 (.seq (.reg 0 [] [] [sD 6 (.mv (.c (.bool false)))])
 (.seq (.seq (.reg 0 [] [] [sD 10 (.mv (.t 0)),
 sD 11 (.len false (.t 10)),
 sD 12 (.mv (.t 1)),
 sD 13 (.len false (.t 12)),
 sD 14 (.bin .neq .num (.t 11) (.t 13))])
 (.cond (.t 14) (.seq (.reg 0 [] [] [sD 6 (.mv (.c (.bool false)))])
 .ret)
 .skip))
 (.seq (.seq (.reg 0 [] [] [sD 15 (.mv (.t 0)),
 sD 16 (.len false (.t 15)),
 sD 17 (.mv (.c (.int .i64 0)))])
 (.block 0 (.loop [17] 229382 (.seq (.reg 0 [] [] [sD 18 (.bin .lss .num (.t 17) (.t 16))])
 (.seq (.cond (.t 18) .skip
 (.exit 0))
 (.seq (.block 1 (.seq (.reg 0 [] [] [sD 19 (.mv (.t 17)),
 sD 20 (.ia none 2 (.t 15) (.t 17)),
 sD 21 (.ld (some 2) (.t 20)),
 sD 8 (.al none 46 [(.bool false), .nilsl]),
 sD 7 (.mv (.t 19)),
 sN (.st 2 (.t 8) (.t 21))])
 (.seq (.reg 0 [] [] [sD 22 (.mv (.t 1)),
 sD 23 (.mv (.t 7)),
 sD 24 (.ia none 2 (.t 22) (.t 23)),
 sD 25 (.ld (some 2) (.t 24)),
 sD 9 (.al none 46 [(.bool false), .nilsl]),
 sN (.st 2 (.t 9) (.t 25))])
 (.seq (.reg 0 [] [] [sD 26 (.mv (.t 2)),
 sD 27 (.ld (some 2) (.t 8)),
 sD 28 (.ld (some 2) (.t 9)),
 sD 29 (.callv (.t 26) [(.t 27), (.t 28)]),
 sD 30 (.un .not (.t 29))])
 (.cond (.t 30) (.seq (.reg 0 [] [] [sD 6 (.mv (.c (.bool false)))])
 .ret)
 .skip)))))
 (.reg 0 [] [] [sD 31 (.bin .add .num (.t 17) (.c (.int .i64 1))),
 sD 17 (.mv (.t 31))])))))))
 (.seq (.reg 0 [] [] [sD 6 (.mv (.c (.bool true)))])
 .ret))))
def fn50 : IFun := ⟨32, [(.tmp 6)], an50.erase⟩
theorem ok50 : okFun Tryz.prog 50 fn50 = true := by kernel_rfl
theorem oka50 : okA fn50.ntmps fn50.results an50 = true := by kernel_rfl
def sh50 (C : CallA) (s10 s21 eq2 : AV) (h : H) (R : AV → H → Prop) : Prop :=
 valA (lenA false s10) h fun t11 h =>
 valA (lenA false s21) h fun t13 h =>
 valA (binOp .neq .num t11 t13) h fun t14 h =>
 condA t14
 (R (.bool false) h)
 (joinA (fun (h : H) =>
 R (.bool true) h) fun J =>
 valA (lenA false s10) h fun t16 h =>
 loopA (fun N l h => argA l 0 fun t17 => 
 valA (binOp .lss .num t17 t16) h fun t18 h =>
 condA t18
 (valA (iaA 2 s10 t17) h fun t20 h =>
 valA (ldA h (some 2) t20) h fun t21 h =>
 boxA h [(.bool false), .nilsl] 46 fun v18 h =>
 memA (stA h 2 v18 t21) .undef fun _ h =>
 valA (iaA 2 s21 t17) h fun t24 h =>
 valA (ldA h (some 2) t24) h fun t25 h =>
 boxA h [(.bool false), .nilsl] 46 fun v29 h =>
 memA (stA h 2 v29 t25) .undef fun _ h =>
 valA (ldA h (some 2) v18) h fun t27 h =>
 valA (ldA h (some 2) v29) h fun t28 h =>
 callvA C eq2 [t27, t28] h fun t29 h =>
 valA (unOp .not t29) h fun t30 h =>
 condA t30
 (R (.bool false) h)
 (valA (binOp .add .num t17 (.int .i64 1)) h fun t31 h =>
 N [t31] h))
 (J h)) [(.int .i64 0)] h)
theorem she50 (C : CallA) (s10 s21 eq2 : AV) (h : H) (R : AV → H → Prop) : wpA C an50 (argE [s10, s21, eq2]) h (outA [(.tmp 6)] R) = sh50 C s10 s21 eq2 h R := by kernel_rfl
/-! bellows/code.Same$1 -/
def an51 : ACode :=
 (.seq (.reg 0 [] [] [sD 2 (.bx none 46 (.t 0)),
 sD 3 (.bx none 46 (.t 1)),
 sD 4 (.mv (.c (.bool false)))])
 (.seq (.reg 0 [] [] [sD 5 (.fa 0 (.t 2)),
 sD 6 (.ld none (.t 5)),
 sD 7 (.fa 0 (.t 3)),
 sD 8 (.ld none (.t 7)),
 sD 9 (.bin .eql .bool (.t 6) (.t 8)),
 sD 10 (.mv (.t 9)),
 sG 11 10 true (.fa 1 (.t 2)),
 sG 12 10 true (.ld none (.t 11)),
 sG 13 10 true (.fa 1 (.t 3)),
 sG 14 10 true (.ld none (.t 13)),
 sG 15 10 true (.call 52 [(.t 12), (.t 14)]),
 sD 16 (.pick (.t 10) (.t 15) (.c (.bool false))),
 sD 4 (.mv (.t 16))])
 .ret))
def fn51 : IFun := ⟨17, [(.tmp 4)], an51.erase⟩
theorem ok51 : okFun Tryz.prog 51 fn51 = true := by kernel_rfl
theorem oka51 : okA fn51.ntmps fn51.results an51 = true := by kernel_rfl
def sh51 (C : CallA) (x0 y1 : AV) (h : H) (R : AV → H → Prop) : Prop :=
 boxA h (AV.cells x0) 46 fun x2 h =>
 boxA h (AV.cells y1) 46 fun y3 h =>
 valA (faA 0 x2) h fun t5 h =>
 valA (ldA h none t5) h fun t6 h =>
 valA (faA 0 y3) h fun t7 h =>
 valA (ldA h none t7) h fun t8 h =>
 valA (binOp .eql .bool t6 t8) h fun t9 h =>
 whenA t9 true (fun K => valA (faA 1 x2) h K) h fun t11 h =>
 whenA t9 true (fun K => valA (ldA h none t11) h K) h fun t12 h =>
 whenA t9 true (fun K => valA (faA 1 y3) h K) h fun t13 h =>
 whenA t9 true (fun K => valA (ldA h none t13) h K) h fun t14 h =>
 whenA t9 true (fun K => C 52 [t12, t14] h K) h fun t15 h =>
 valA (pickA t9 t15 (.bool false)) h fun t16 h =>
 R t16 h
theorem she51 (C : CallA) (x0 y1 : AV) (h : H) (R : AV → H → Prop) : wpA C an51 (argE [x0, y1]) h (outA [(.tmp 4)] R) = sh51 C x0 y1 h R := by kernel_rfl
end Go.Proofs.YtdljelicbnjfjaaGreat.X
