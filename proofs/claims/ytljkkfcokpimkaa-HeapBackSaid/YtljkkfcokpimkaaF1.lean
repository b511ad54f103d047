/- The plain programs of functions, printed; that they are the model's; what must hold ahead of each. -/
import Derived.Test.YtljkkfcokpimkaaProg
import Derived.Test.YtljkkfcokpimkaaXo
set_option maxRecDepth 100000
set_option linter.unusedVariables false
namespace Go.Proofs.Ytljkkfcokpimkaa.X
open Go
/-! bellows/bellowslaw03.GcNobody -/
def an20 : ACode :=
 (.seq (.reg 0 [] [] [sD 4 (.mv (.c (.bool false)))])
 (.seq (.reg 0 [] [] [sD 16 (.mv (.t 0)),
 sD 17 (.mksl none 25 [(.int .u64 0)] 1 [(0, 1, (.t 16))]),
 sD 18 (.call 84 [(.c .nilp), (.t 17)]),
 sD 15 (.mv (.t 18)),
 sD 19 (.ext (.t 15) 0),
 sD 20 (.ext (.t 15) 1),
 sD 5 (.mv (.t 19)),
 sD 6 (.mv (.t 20))])
 (.seq (.reg 0 [] [] [sD 22 (.call 87 [(.c .nilp), (.c .nilsl)]),
 sD 21 (.mv (.t 22)),
 sD 23 (.ext (.t 21) 0),
 sD 24 (.ext (.t 21) 1),
 sD 7 (.mv (.t 23)),
 sD 8 (.mv (.t 24))])
 (.seq (.reg 0 [] [] [sD 26 (.call 88 [(.c .nilp), (.c .nilsl)]),
 sD 25 (.mv (.t 26)),
 sD 27 (.ext (.t 25) 0),
 sD 28 (.ext (.t 25) 1),
 sD 9 (.mv (.t 27)),
 sD 10 (.mv (.t 28))])
 (.seq (.reg 0 [] [] [sD 30 (.build [(.int .i64 0), (.int .i64 0)] [(0, 1, (.c (.int .i64 3)))]),
 sD 31 (.mksl none 60 [(.int .i64 0), (.int .i64 0)] 1 [(0, 2, (.t 30))]),
 sD 32 (.call 49 [(.c (.int .i64 20)), (.t 31)]),
 sD 29 (.mv (.t 32)),
 sD 33 (.ext (.t 29) 0),
 sD 34 (.ext (.t 29) 1),
 sD 11 (.mv (.t 33)),
 sD 12 (.mv (.t 34))])
 (.seq (.reg 0 [] [] [sD 35 (.mv (.t 11)),
 sD 36 (.call 55 [(.t 35), (.c (.int .i64 0)), (.c (.int .i64 9))])])
 (.seq (.reg 0 [] [] [sD 38 (.mv (.t 11)),
 sD 39 (.call 83 [(.c (.int .i64 3))]),
 sD 40 (.mv (.t 1)),
 sD 41 (.call 82 [(.t 40)]),
 sD 42 (.mksl none 25 [(.int .u64 0), (.int .u64 0)] 2 [(0, 1, (.t 39)), (1, 1, (.t 41))]),
 sD 43 (.call 84 [(.t 38), (.t 42)]),
 sD 37 (.mv (.t 43)),
 sD 44 (.ext (.t 37) 0),
 sD 45 (.ext (.t 37) 1),
 sD 13 (.mv (.t 44)),
 sD 14 (.mv (.t 45))])
 (.seq (.seq (.reg 0 [] [] [sD 46 (.mv (.t 1)),
 sD 47 (.bin .eql .num (.t 46) (.c (.int .i64 0))),
 sD 48 (.mv (.t 47)),
 sG 49 48 false (.mv (.t 1)),
 sG 50 48 false (.call 82 [(.t 49)]),
 sG 51 48 false (.call 85 [(.t 50)]),
 sG 52 48 false (.bin .eql .num (.t 51) (.c (.int .i64 0))),
 sD 53 (.pick (.t 48) (.c (.bool true)) (.t 52))])
 (.cond (.t 53) (.seq (.reg 0 [] [] [sD 54 (.mv (.t 14)),
 sD 55 (.bin .eql .num (.t 54) (.c (.int .i64 0))),
 sD 56 (.mv (.t 55)),
 sG 57 56 true (.mv (.t 13)),
 sG 58 56 true (.len false (.t 57)),
 sG 59 56 true (.bin .eql .num (.t 58) (.c (.int .i64 2))),
 sD 60 (.pick (.t 56) (.t 59) (.c (.bool false))),
 sD 61 (.mv (.t 60)),
 sG 62 61 true (.call 86 []),
 sD 63 (.pick (.t 61) (.t 62) (.c (.bool false))),
 sD 4 (.mv (.t 63))])
 .ret)
 .skip))
 (.seq (.reg 0 [] [] [sD 64 (.mv (.t 6)),
 sD 65 (.bin .eql .num (.t 64) (.c (.int .i64 1))),
 sD 66 (.mv (.t 65)),
 sG 67 66 true (.mv (.t 8)),
 sG 68 66 true (.bin .eql .num (.t 67) (.c (.int .i64 1))),
 sD 69 (.pick (.t 66) (.t 68) (.c (.bool false))),
 sD 70 (.mv (.t 69)),
 sG 71 70 true (.mv (.t 10)),
 sG 72 70 true (.bin .eql .num (.t 71) (.c (.int .i64 1))),
 sD 73 (.pick (.t 70) (.t 72) (.c (.bool false))),
 sD 74 (.mv (.t 73)),
 sG 75 74 true (.mv (.t 9)),
 sG 76 74 true (.bin .eql .num (.t 75) (.c (.int .i64 0))),
 sD 77 (.pick (.t 74) (.t 76) (.c (.bool false))),
 sD 78 (.mv (.t 77)),
 sG 79 78 true (.mv (.t 14)),
 sG 80 78 true (.bin .eql .num (.t 79) (.c (.int .i64 1))),
 sD 81 (.pick (.t 78) (.t 80) (.c (.bool false))),
 sD 82 (.mv (.t 81)),
 sG 83 82 true (.mv (.t 13)),
 sG 84 82 true (.len false (.t 83)),
 sG 85 82 true (.bin .eql .num (.t 84) (.c (.int .i64 0))),
 sD 86 (.pick (.t 82) (.t 85) (.c (.bool false))),
 sD 87 (.mv (.t 86)),
 sG 88 87 true (.mv (.t 11)),
 sG 89 87 true (.call 57 [(.t 88)]),
 sG 90 87 true (.bin .eql .num (.t 89) (.c (.int .i64 3))),
 sD 91 (.pick (.t 87) (.t 90) (.c (.bool false))),
 sD 92 (.mv (.t 91)),
 sG 93 92 true (.call 86 []),
 sD 94 (.pick (.t 92) (.t 93) (.c (.bool false))),
 sD 4 (.mv (.t 94))])
 .ret)))))))))
def fn20 : IFun := ⟨95, [(.tmp 4)], an20.erase⟩
theorem ok20 : okFun Try.prog 20 fn20 = true := by kernel_rfl
theorem oka20 : okA fn20.ntmps fn20.results an20 = true := by kernel_rfl
def sh20 (C : CallA) (w0 at1 : AV) (h : H) (R : AV → H → Prop) : Prop :=
 mkslA h 25 1 (fillV [(.int .u64 0)] [(0, 1, w0)]) fun t17 h =>
 C 84 [.nilp, t17] h fun t18 h =>
 valA (extA t18 0) h fun t19 h =>
 valA (extA t18 1) h fun t20 h =>
 C 87 [.nilp, .nilsl] h fun t22 h =>
 valA (extA t22 0) h fun t23 h =>
 valA (extA t22 1) h fun t24 h =>
 C 88 [.nilp, .nilsl] h fun t26 h =>
 valA (extA t26 0) h fun t27 h =>
 valA (extA t26 1) h fun t28 h =>
 valA (buildA (fillV [(.int .i64 0), (.int .i64 0)] [(0, 1, (.int .i64 3))])) h fun t30 h =>
 mkslA h 60 1 (fillV [(.int .i64 0), (.int .i64 0)] [(0, 2, t30)]) fun t31 h =>
 C 49 [(.int .i64 20), t31] h fun t32 h =>
 valA (extA t32 0) h fun t33 h =>
 valA (extA t32 1) h fun t34 h =>
 C 55 [t33, (.int .i64 0), (.int .i64 9)] h fun t36 h =>
 C 83 [(.int .i64 3)] h fun t39 h =>
 C 82 [at1] h fun t41 h =>
 mkslA h 25 2 (fillV [(.int .u64 0), (.int .u64 0)] [(0, 1, t39), (1, 1, t41)]) fun t42 h =>
 C 84 [t33, t42] h fun t43 h =>
 valA (extA t43 0) h fun t44 h =>
 valA (extA t43 1) h fun t45 h =>
 valA (binOp .eql .num at1 (.int .i64 0)) h fun t47 h =>
 whenA t47 false (fun K => K at1 h) h fun t49 h =>
 whenA t47 false (fun K => C 82 [t49] h K) h fun t50 h =>
 whenA t47 false (fun K => C 85 [t50] h K) h fun t51 h =>
 whenA t47 false (fun K => valA (binOp .eql .num t51 (.int .i64 0)) h K) h fun t52 h =>
 valA (pickA t47 (.bool true) t52) h fun t53 h =>
 condA t53
  (valA (binOp .eql .num t45 (.int .i64 0)) h fun t55 h =>
  whenA t55 true (fun K => K t44 h) h fun t57 h =>
  whenA t55 true (fun K => valA (lenA false t57) h K) h fun t58 h =>
  whenA t55 true (fun K => valA (binOp .eql .num t58 (.int .i64 2)) h K) h fun t59 h =>
  valA (pickA t55 t59 (.bool false)) h fun t60 h =>
  whenA t60 true (fun K => C 86 [] h K) h fun t62 h =>
  valA (pickA t60 t62 (.bool false)) h fun t63 h =>
  R t63 h)
  (valA (binOp .eql .num t20 (.int .i64 1)) h fun t65 h =>
 whenA t65 true (fun K => K t24 h) h fun t67 h =>
 whenA t65 true (fun K => valA (binOp .eql .num t67 (.int .i64 1)) h K) h fun t68 h =>
 valA (pickA t65 t68 (.bool false)) h fun t69 h =>
 whenA t69 true (fun K => K t28 h) h fun t71 h =>
 whenA t69 true (fun K => valA (binOp .eql .num t71 (.int .i64 1)) h K) h fun t72 h =>
 valA (pickA t69 t72 (.bool false)) h fun t73 h =>
 whenA t73 true (fun K => K t27 h) h fun t75 h =>
 whenA t73 true (fun K => valA (binOp .eql .num t75 (.int .i64 0)) h K) h fun t76 h =>
 valA (pickA t73 t76 (.bool false)) h fun t77 h =>
 whenA t77 true (fun K => K t45 h) h fun t79 h =>
 whenA t77 true (fun K => valA (binOp .eql .num t79 (.int .i64 1)) h K) h fun t80 h =>
 valA (pickA t77 t80 (.bool false)) h fun t81 h =>
 whenA t81 true (fun K => K t44 h) h fun t83 h =>
 whenA t81 true (fun K => valA (lenA false t83) h K) h fun t84 h =>
 whenA t81 true (fun K => valA (binOp .eql .num t84 (.int .i64 0)) h K) h fun t85 h =>
 valA (pickA t81 t85 (.bool false)) h fun t86 h =>
 whenA t86 true (fun K => K t33 h) h fun t88 h =>
 whenA t86 true (fun K => C 57 [t88] h K) h fun t89 h =>
 whenA t86 true (fun K => valA (binOp .eql .num t89 (.int .i64 3)) h K) h fun t90 h =>
 valA (pickA t86 t90 (.bool false)) h fun t91 h =>
 whenA t91 true (fun K => C 86 [] h K) h fun t93 h =>
 valA (pickA t91 t93 (.bool false)) h fun t94 h =>
 R t94 h)
theorem she20 (C : CallA) (w0 at1 : AV) (h : H) (R : AV → H → Prop) : wpA C an20 (argE [w0, at1]) h (outA [(.tmp 4)] R) = sh20 C w0 at1 h R := by kernel_rfl
/-! bellows/bellowslaw03.GcCollects -/
def an21 : ACode :=
 (.seq (.reg 0 [] [] [sD 1 (.bx none 114 (.t 0)),
 sD 2 (.mv (.c (.bool false)))])
 (.seq (.reg 0 [] [] [sD 11 (.ld (some 3) (.t 1)),
 sD 12 (.call 89 [(.t 11)]),
 sD 10 (.mv (.t 12)),
 sD 13 (.ext (.t 10) 0),
 sD 14 (.ext (.t 10) 1),
 sD 15 (.ext (.t 10) 2),
 sD 3 (.mv (.t 13)),
 sD 4 (.mv (.t 14)),
 sD 5 (.mv (.t 15))])
 (.seq (.seq (.reg 0 [] [] [sD 16 (.mv (.t 3)),
 sD 17 (.bin .eql .ptr (.t 16) (.c .nilp))])
 (.cond (.t 17) (.seq (.reg 0 [] [] [sD 18 (.call 86 []),
 sD 2 (.mv (.t 18))])
 .ret)
 .skip))
 (.seq (.reg 0 [] [] [sD 20 (.mv (.t 3)),
 sD 21 (.mv (.t 5)),
 sD 22 (.call 84 [(.t 20), (.t 21)]),
 sD 19 (.mv (.t 22)),
 sD 23 (.ext (.t 19) 0),
 sD 24 (.ext (.t 19) 1),
 sD 6 (.mv (.t 23)),
 sD 7 (.mv (.t 24))])
 (.seq (.seq (.reg 0 [] [] [sD 25 (.mv (.t 4)),
 sD 26 (.mv (.t 5)),
 sD 27 (.call 90 [(.t 25), (.t 26)]),
 sD 28 (.un .not (.t 27))])
 (.cond (.t 28) (.seq (.reg 0 [] [] [sD 29 (.mv (.t 7)),
 sD 30 (.bin .eql .num (.t 29) (.c (.int .i64 1))),
 sD 31 (.mv (.t 30)),
 sG 32 31 true (.mv (.t 6)),
 sG 33 31 true (.len false (.t 32)),
 sG 34 31 true (.bin .eql .num (.t 33) (.c (.int .i64 0))),
 sD 35 (.pick (.t 31) (.t 34) (.c (.bool false))),
 sD 36 (.mv (.t 35)),
 sG 37 36 true (.mv (.t 3)),
 sG 38 36 true (.mv (.t 4)),
 sG 39 36 true (.call 76 [(.t 37), (.t 38)]),
 sD 40 (.pick (.t 36) (.t 39) (.c (.bool false))),
 sD 41 (.mv (.t 40)),
 sG 42 41 true (.call 86 []),
 sD 43 (.pick (.t 41) (.t 42) (.c (.bool false))),
 sD 2 (.mv (.t 43))])
 .ret)
 .skip))
 (.seq (.reg 0 [] [] [sD 45 (.mv (.t 4)),
 sD 46 (.mv (.t 5)),
 sD 47 (.call 91 [(.t 45), (.t 46)]),
 sD 44 (.mv (.t 47)),
 sD 48 (.ext (.t 44) 0),
 sD 49 (.ext (.t 44) 1),
 sD 8 (.mv (.t 48)),
 sD 9 (.mv (.t 49))])
 (.seq (.reg 0 [] [] [sD 50 (.mv (.t 7)),
 sD 51 (.bin .eql .num (.t 50) (.c (.int .i64 0))),
 sD 52 (.mv (.t 51)),
 sG 53 52 true (.mv (.t 6)),
 sG 54 52 true (.mv (.t 9)),
 sG 55 52 true (.call 92 [(.t 53), (.t 54)]),
 sD 56 (.pick (.t 52) (.t 55) (.c (.bool false))),
 sD 57 (.mv (.t 56)),
 sG 58 57 true (.mv (.t 3)),
 sG 59 57 true (.mv (.t 8)),
 sG 60 57 true (.call 76 [(.t 58), (.t 59)]),
 sD 61 (.pick (.t 57) (.t 60) (.c (.bool false))),
 sD 62 (.mv (.t 61)),
 sG 63 62 true (.call 86 []),
 sD 64 (.pick (.t 62) (.t 63) (.c (.bool false))),
 sD 2 (.mv (.t 64))])
 .ret)))))))
def fn21 : IFun := ⟨65, [(.tmp 2)], an21.erase⟩
theorem ok21 : okFun Try.prog 21 fn21 = true := by kernel_rfl
theorem oka21 : okA fn21.ntmps fn21.results an21 = true := by kernel_rfl
def sh21 (C : CallA) (c0 : AV) (h : H) (R : AV → H → Prop) : Prop :=
 newA h (AV.cells c0) 114 (fun b => .ptr b 0) fun c1 h =>
 valA (ldA h (some 3) c1) h fun t11 h =>
 C 89 [t11] h fun t12 h =>
 valA (extA t12 0) h fun t13 h =>
 valA (extA t12 1) h fun t14 h =>
 valA (extA t12 2) h fun t15 h =>
 valA (binOp .eql .ptr t13 .nilp) h fun t17 h =>
 condA t17
  (C 86 [] h fun t18 h =>
  R t18 h)
  (C 84 [t13, t15] h fun t22 h =>
 valA (extA t22 0) h fun t23 h =>
 valA (extA t22 1) h fun t24 h =>
 C 90 [t14, t15] h fun t27 h =>
 valA (unOp .not t27) h fun t28 h =>
 condA t28
  (valA (binOp .eql .num t24 (.int .i64 1)) h fun t30 h =>
  whenA t30 true (fun K => K t23 h) h fun t32 h =>
  whenA t30 true (fun K => valA (lenA false t32) h K) h fun t33 h =>
  whenA t30 true (fun K => valA (binOp .eql .num t33 (.int .i64 0)) h K) h fun t34 h =>
  valA (pickA t30 t34 (.bool false)) h fun t35 h =>
  whenA t35 true (fun K => K t13 h) h fun t37 h =>
  whenA t35 true (fun K => K t14 h) h fun t38 h =>
  whenA t35 true (fun K => C 76 [t37, t38] h K) h fun t39 h =>
  valA (pickA t35 t39 (.bool false)) h fun t40 h =>
  whenA t40 true (fun K => C 86 [] h K) h fun t42 h =>
  valA (pickA t40 t42 (.bool false)) h fun t43 h =>
  R t43 h)
  (C 91 [t14, t15] h fun t47 h =>
 valA (extA t47 0) h fun t48 h =>
 valA (extA t47 1) h fun t49 h =>
 valA (binOp .eql .num t24 (.int .i64 0)) h fun t51 h =>
 whenA t51 true (fun K => K t23 h) h fun t53 h =>
 whenA t51 true (fun K => K t49 h) h fun t54 h =>
 whenA t51 true (fun K => C 92 [t53, t54] h K) h fun t55 h =>
 valA (pickA t51 t55 (.bool false)) h fun t56 h =>
 whenA t56 true (fun K => K t13 h) h fun t58 h =>
 whenA t56 true (fun K => K t48 h) h fun t59 h =>
 whenA t56 true (fun K => C 76 [t58, t59] h K) h fun t60 h =>
 valA (pickA t56 t60 (.bool false)) h fun t61 h =>
 whenA t61 true (fun K => C 86 [] h K) h fun t63 h =>
 valA (pickA t61 t63 (.bool false)) h fun t64 h =>
 R t64 h))
theorem she21 (C : CallA) (c0 : AV) (h : H) (R : AV → H → Prop) : wpA C an21 (argE [c0]) h (outA [(.tmp 2)] R) = sh21 C c0 h R := by kernel_rfl
/-! bellows/bellowslaw03.GcMarks -/
def an22 : ACode :=
 (.seq (.reg 0 [] [] [sD 1 (.bx none 114 (.t 0)),
 sD 2 (.mv (.c (.bool false)))])
 (.seq (.reg 0 [] [] [sD 18 (.ld (some 3) (.t 1)),
 sD 19 (.call 89 [(.t 18)]),
 sD 17 (.mv (.t 19)),
 sD 20 (.ext (.t 17) 0),
 sD 21 (.ext (.t 17) 1),
 sD 22 (.ext (.t 17) 2),
 sD 3 (.mv (.t 20)),
 sD 4 (.mv (.t 21)),
 sD 5 (.mv (.t 22))])
 (.seq (.seq (.reg 0 [] [] [sD 23 (.mv (.t 3)),
 sD 24 (.bin .eql .ptr (.t 23) (.c .nilp))])
 (.cond (.t 24) (.seq (.reg 0 [] [] [sD 25 (.call 86 []),
 sD 2 (.mv (.t 25))])
 .ret)
 .skip))
 (.seq (.reg 0 [] [] [sD 27 (.mv (.t 3)),
 sD 28 (.mv (.t 5)),
 sD 29 (.call 87 [(.t 27), (.t 28)]),
 sD 26 (.mv (.t 29)),
 sD 30 (.ext (.t 26) 0),
 sD 31 (.ext (.t 26) 1),
 sD 6 (.mv (.t 30)),
 sD 7 (.mv (.t 31))])
 (.seq (.reg 0 [] [] [sD 33 (.mv (.t 3)),
 sD 34 (.mv (.t 5)),
 sD 35 (.call 88 [(.t 33), (.t 34)]),
 sD 32 (.mv (.t 35)),
 sD 36 (.ext (.t 32) 0),
 sD 37 (.ext (.t 32) 1),
 sD 8 (.mv (.t 36)),
 sD 9 (.mv (.t 37))])
 (.seq (.seq (.reg 0 [] [] [sD 38 (.mv (.t 4)),
 sD 39 (.mv (.t 5)),
 sD 40 (.call 90 [(.t 38), (.t 39)]),
 sD 41 (.un .not (.t 40))])
 (.cond (.t 41) (.seq (.reg 0 [] [] [sD 42 (.mv (.t 7)),
 sD 43 (.bin .eql .num (.t 42) (.c (.int .i64 1))),
 sD 44 (.mv (.t 43)),
 sG 45 44 true (.mv (.t 9)),
 sG 46 44 true (.bin .eql .num (.t 45) (.c (.int .i64 1))),
 sD 47 (.pick (.t 44) (.t 46) (.c (.bool false))),
 sD 48 (.mv (.t 47)),
 sG 49 48 true (.mv (.t 6)),
 sG 50 48 true (.len false (.t 49)),
 sG 51 48 true (.bin .eql .num (.t 50) (.c (.int .i64 0))),
 sD 52 (.pick (.t 48) (.t 51) (.c (.bool false))),
 sD 53 (.mv (.t 52)),
 sG 54 53 true (.mv (.t 8)),
 sG 55 53 true (.bin .eql .num (.t 54) (.c (.int .i64 0))),
 sD 56 (.pick (.t 53) (.t 55) (.c (.bool false))),
 sD 57 (.mv (.t 56)),
 sG 58 57 true (.mv (.t 3)),
 sG 59 57 true (.mv (.t 4)),
 sG 60 57 true (.call 76 [(.t 58), (.t 59)]),
 sD 61 (.pick (.t 57) (.t 60) (.c (.bool false))),
 sD 62 (.mv (.t 61)),
 sG 63 62 true (.call 86 []),
 sD 64 (.pick (.t 62) (.t 63) (.c (.bool false))),
 sD 2 (.mv (.t 64))])
 .ret)
 .skip))
 (.seq (.reg 0 [] [] [sD 65 (.mv (.t 4)),
 sD 66 (.mv (.t 5)),
 sD 67 (.call 93 [(.t 65), (.t 66)]),
 sD 10 (.mv (.t 67))])
 (.seq (.reg 0 [] [] [sD 11 (.mv (.c (.int .i64 0))),
 sD 12 (.mv (.c (.int .i64 0)))])
 (.seq (.seq (.reg 0 [] [] [sD 68 (.mv (.t 4)),
 sD 69 (.nilc (.t 68)),
 sD 70 (.fa 2 (.t 69)),
 sD 71 (.ld none (.t 70)),
 sD 72 (.len false (.t 71)),
 sD 73 (.mv (.c (.int .i64 0)))])
 (.block 0 (.loop [11, 12, 73] 16528282690043758256088 (.seq (.reg 0 [] [] [sD 74 (.bin .lss .num (.t 73) (.t 72))])
 (.seq (.cond (.t 74) .skip
 (.exit 0))
 (.seq (.block 1 (.seq (.reg 0 [] [] [sD 75 (.mv (.t 73)),
 sD 76 (.ia none 5 (.t 71) (.t 73)),
 sD 77 (.ld (some 5) (.t 76)),
 sD 14 (.al none 89 [(.int .i64 0), (.int .i64 0), (.int .i64 0), .nilsl, .nilsl]),
 sD 13 (.mv (.t 75)),
 sN (.st 5 (.t 14) (.t 77))])
 (.seq (.seq (.reg 0 [] [] [sD 78 (.mv (.t 10)),
 sD 79 (.mv (.t 13)),
 sD 80 (.ia none 1 (.t 78) (.t 79)),
 sD 81 (.ld none (.t 80)),
 sD 82 (.un .not (.t 81))])
 (.cond (.t 82) (.exit 1)
 .skip))
 (.seq (.seq (.reg 0 [0, 1, 2, 3, 4, 5, 6, 7, 8, 9, 10, 11, 12] [[], [], [1], [1, 2, 0], [0, 2, 1, 3], [3, 1, 2, 0, 4], [3, 1, 2, 0, 4], [6, 4, 0, 2, 1, 3, 5], [5, 3, 1, 2, 0, 4, 6, 7], [3, 1, 2, 0, 4], [4, 0, 2, 1, 3, 9], [9, 10, 7, 6, 4, 0, 2, 1, 3, 5, 8], [8, 5, 6, 7, 10, 9, 11, 3, 1, 2, 0, 4]] [sD 83 (.mv (.t 11)),
 sD 84 (.mv (.t 6)),
 sD 85 (.len false (.t 84)),
 sD 86 (.bin .geq .num (.t 83) (.t 85)),
 sD 87 (.mv (.t 86)),
 sG 88 87 false (.mv (.t 6)),
 sG 89 87 false (.mv (.t 11)),
 sG 90 87 false (.ia none 1 (.t 88) (.t 89)),
 sG 91 87 false (.ld none (.t 90)),
 sG 92 87 false (.fa 0 (.t 14)),
 sG 93 87 false (.ld none (.t 92)),
 sG 94 87 false (.bin .neq .num (.t 91) (.t 93)),
 sD 95 (.pick (.t 87) (.c (.bool true)) (.t 94))])
 (.cond (.t 95) (.seq (.reg 0 [] [] [sD 2 (.mv (.c (.bool false)))])
 .ret)
 .skip))
 (.seq (.reg 0 [] [] [sD 97 (.mv (.t 4)),
 sD 98 (.fa 1 (.t 14)),
 sD 99 (.ld none (.t 98)),
 sD 100 (.fa 2 (.t 14)),
 sD 101 (.ld none (.t 100)),
 sD 102 (.call 53 [(.t 97), (.t 99), (.t 101)]),
 sD 96 (.mv (.t 102)),
 sD 103 (.ext (.t 96) 0),
 sD 104 (.ext (.t 96) 1),
 sD 15 (.mv (.t 103)),
 sD 16 (.mv (.t 104))])
 (.seq (.reg 0 [] [] [sD 105 (.mv (.t 12)),
 sD 106 (.mv (.t 15)),
 sD 107 (.bin .add .num (.t 105) (.t 106)),
 sD 12 (.mv (.t 107))])
 (.reg 0 [] [] [sD 108 (.mv (.t 11)),
 sD 109 (.bin .add .num (.t 108) (.c (.int .i64 1))),
 sD 11 (.mv (.t 109))])))))))
 (.reg 0 [] [] [sD 110 (.bin .add .num (.t 73) (.c (.int .i64 1))),
 sD 73 (.mv (.t 110))])))))))
 (.seq (.reg 0 [] [] [sD 111 (.mv (.t 7)),
 sD 112 (.bin .eql .num (.t 111) (.c (.int .i64 0))),
 sD 113 (.mv (.t 112)),
 sG 114 113 true (.mv (.t 9)),
 sG 115 113 true (.bin .eql .num (.t 114) (.c (.int .i64 0))),
 sD 116 (.pick (.t 113) (.t 115) (.c (.bool false))),
 sD 117 (.mv (.t 116)),
 sG 118 117 true (.mv (.t 11)),
 sG 119 117 true (.mv (.t 6)),
 sG 120 117 true (.len false (.t 119)),
 sG 121 117 true (.bin .eql .num (.t 118) (.t 120)),
 sD 122 (.pick (.t 117) (.t 121) (.c (.bool false))),
 sD 123 (.mv (.t 122)),
 sG 124 123 true (.mv (.t 8)),
 sG 125 123 true (.mv (.t 12)),
 sG 126 123 true (.bin .eql .num (.t 124) (.t 125)),
 sD 127 (.pick (.t 123) (.t 126) (.c (.bool false))),
 sD 128 (.mv (.t 127)),
 sG 129 128 true (.mv (.t 3)),
 sG 130 128 true (.mv (.t 4)),
 sG 131 128 true (.call 76 [(.t 129), (.t 130)]),
 sD 132 (.pick (.t 128) (.t 131) (.c (.bool false))),
 sD 133 (.mv (.t 132)),
 sG 134 133 true (.call 86 []),
 sD 135 (.pick (.t 133) (.t 134) (.c (.bool false))),
 sD 2 (.mv (.t 135))])
 .ret))))))))))
def fn22 : IFun := ⟨136, [(.tmp 2)], an22.erase⟩
theorem ok22 : okFun Try.prog 22 fn22 = true := by kernel_rfl
theorem oka22 : okA fn22.ntmps fn22.results an22 = true := by kernel_rfl
def sh22 (C : CallA) (c0 : AV) (h : H) (R : AV → H → Prop) : Prop :=
 newA h (AV.cells c0) 114 (fun b => .ptr b 0) fun c1 h =>
 valA (ldA h (some 3) c1) h fun t18 h =>
 C 89 [t18] h fun t19 h =>
 valA (extA t19 0) h fun t20 h =>
 valA (extA t19 1) h fun t21 h =>
 valA (extA t19 2) h fun t22 h =>
 valA (binOp .eql .ptr t20 .nilp) h fun t24 h =>
 condA t24
  (C 86 [] h fun t25 h =>
  R t25 h)
  (C 87 [t20, t22] h fun t29 h =>
 valA (extA t29 0) h fun t30 h =>
 valA (extA t29 1) h fun t31 h =>
 C 88 [t20, t22] h fun t35 h =>
 valA (extA t35 0) h fun t36 h =>
 valA (extA t35 1) h fun t37 h =>
 C 90 [t21, t22] h fun t40 h =>
 valA (unOp .not t40) h fun t41 h =>
 condA t41
  (valA (binOp .eql .num t31 (.int .i64 1)) h fun t43 h =>
  whenA t43 true (fun K => K t37 h) h fun t45 h =>
  whenA t43 true (fun K => valA (binOp .eql .num t45 (.int .i64 1)) h K) h fun t46 h =>
  valA (pickA t43 t46 (.bool false)) h fun t47 h =>
  whenA t47 true (fun K => K t30 h) h fun t49 h =>
  whenA t47 true (fun K => valA (lenA false t49) h K) h fun t50 h =>
  whenA t47 true (fun K => valA (binOp .eql .num t50 (.int .i64 0)) h K) h fun t51 h =>
  valA (pickA t47 t51 (.bool false)) h fun t52 h =>
  whenA t52 true (fun K => K t36 h) h fun t54 h =>
  whenA t52 true (fun K => valA (binOp .eql .num t54 (.int .i64 0)) h K) h fun t55 h =>
  valA (pickA t52 t55 (.bool false)) h fun t56 h =>
  whenA t56 true (fun K => K t20 h) h fun t58 h =>
  whenA t56 true (fun K => K t21 h) h fun t59 h =>
  whenA t56 true (fun K => C 76 [t58, t59] h K) h fun t60 h =>
  valA (pickA t56 t60 (.bool false)) h fun t61 h =>
  whenA t61 true (fun K => C 86 [] h K) h fun t63 h =>
  valA (pickA t61 t63 (.bool false)) h fun t64 h =>
  R t64 h)
  (C 93 [t21, t22] h fun t67 h =>
 joinA (fun (k11' : AV) (words12' : AV) (h : H) =>
  valA (binOp .eql .num t31 (.int .i64 0)) h fun t112 h =>
  whenA t112 true (fun K => K t37 h) h fun t114 h =>
  whenA t112 true (fun K => valA (binOp .eql .num t114 (.int .i64 0)) h K) h fun t115 h =>
  valA (pickA t112 t115 (.bool false)) h fun t116 h =>
  whenA t116 true (fun K => K k11' h) h fun t118 h =>
  whenA t116 true (fun K => K t30 h) h fun t119 h =>
  whenA t116 true (fun K => valA (lenA false t119) h K) h fun t120 h =>
  whenA t116 true (fun K => valA (binOp .eql .num t118 t120) h K) h fun t121 h =>
  valA (pickA t116 t121 (.bool false)) h fun t122 h =>
  whenA t122 true (fun K => K t36 h) h fun t124 h =>
  whenA t122 true (fun K => K words12' h) h fun t125 h =>
  whenA t122 true (fun K => valA (binOp .eql .num t124 t125) h K) h fun t126 h =>
  valA (pickA t122 t126 (.bool false)) h fun t127 h =>
  whenA t127 true (fun K => K t20 h) h fun t129 h =>
  whenA t127 true (fun K => K t21 h) h fun t130 h =>
  whenA t127 true (fun K => C 76 [t129, t130] h K) h fun t131 h =>
  valA (pickA t127 t131 (.bool false)) h fun t132 h =>
  whenA t132 true (fun K => C 86 [] h K) h fun t134 h =>
  valA (pickA t132 t134 (.bool false)) h fun t135 h =>
  R t135 h) fun J =>
 valA (nilcA t21) h fun t69 h =>
 valA (faA 2 t69) h fun t70 h =>
 valA (ldA h none t70) h fun t71 h =>
 valA (lenA false t71) h fun t72 h =>
 loopA (fun N l h => argA l 0 fun k11 => argA l 1 fun words12 => argA l 2 fun t73 => 
  valA (binOp .lss .num t73 t72) h fun t74 h =>
  condA t74
   (joinA (fun (k11'_1 : AV) (words12'_2 : AV) (h : H) =>
   valA (binOp .add .num t73 (.int .i64 1)) h fun t110 h =>
   N [k11'_1, words12'_2, t110] h) fun J_42 =>
  valA (iaA 5 t71 t73) h fun t76 h =>
  valA (ldA h (some 5) t76) h fun t77 h =>
  newA h [(.int .i64 0), (.int .i64 0), (.int .i64 0), .nilsl, .nilsl] 89 (fun b => .ptr b 0) fun o14 h =>
  memA (stA h 5 o14 t77) .undef fun _ h =>
  valA (iaA 1 t67 t73) h fun t80 h =>
  valA (ldA h none t80) h fun t81 h =>
  valA (unOp .not t81) h fun t82 h =>
  condA t82
   (J_42 k11 words12 h)
   (valA (lenA false t30) h fun t85 h =>
  valA (binOp .geq .num k11 t85) h fun t86 h =>
  whenA t86 false (fun K => K t30 h) h fun t88 h =>
  whenA t86 false (fun K => K k11 h) h fun t89 h =>
  whenA t86 false (fun K => valA (iaA 1 t88 t89) h K) h fun t90 h =>
  whenA t86 false (fun K => valA (ldA h none t90) h K) h fun t91 h =>
  whenA t86 false (fun K => valA (faA 0 o14) h K) h fun t92 h =>
  whenA t86 false (fun K => valA (ldA h none t92) h K) h fun t93 h =>
  whenA t86 false (fun K => valA (binOp .neq .num t91 t93) h K) h fun t94 h =>
  valA (pickA t86 (.bool true) t94) h fun t95 h =>
  condA t95
   (R (.bool false) h)
   (valA (faA 1 o14) h fun t98 h =>
  valA (ldA h none t98) h fun t99 h =>
  valA (faA 2 o14) h fun t100 h =>
  valA (ldA h none t100) h fun t101 h =>
  C 53 [t21, t99, t101] h fun t102 h =>
  valA (extA t102 0) h fun t103 h =>
  valA (extA t102 1) h fun t104 h =>
  valA (binOp .add .num words12 t103) h fun t107 h =>
  valA (binOp .add .num k11 (.int .i64 1)) h fun t109 h =>
  J_42 t109 t107 h)))
   (J k11 words12 h)) [(.int .i64 0), (.int .i64 0), (.int .i64 0)] h))
theorem she22 (C : CallA) (c0 : AV) (h : H) (R : AV → H → Prop) : wpA C an22 (argE [c0]) h (outA [(.tmp 2)] R) = sh22 C c0 h R := by kernel_rfl
/-! bellows/bellowslaw03.GcTwice -/
def an23 : ACode :=
 (.seq (.reg 0 [] [] [sD 1 (.bx none 114 (.t 0)),
 sD 2 (.mv (.c (.bool false)))])
 (.seq (.reg 0 [] [] [sD 16 (.ld (some 3) (.t 1)),
 sD 17 (.call 89 [(.t 16)]),
 sD 15 (.mv (.t 17)),
 sD 18 (.ext (.t 15) 0),
 sD 19 (.ext (.t 15) 1),
 sD 20 (.ext (.t 15) 2),
 sD 3 (.mv (.t 18)),
 sD 4 (.mv (.t 19)),
 sD 5 (.mv (.t 20))])
 (.seq (.seq (.reg 0 [] [] [sD 21 (.mv (.t 3)),
 sD 22 (.bin .eql .ptr (.t 21) (.c .nilp)),
 sD 23 (.mv (.t 22)),
 sG 24 23 false (.mv (.t 4)),
 sG 25 23 false (.mv (.t 5)),
 sG 26 23 false (.call 90 [(.t 24), (.t 25)]),
 sG 27 23 false (.un .not (.t 26)),
 sD 28 (.pick (.t 23) (.c (.bool true)) (.t 27))])
 (.cond (.t 28) (.seq (.reg 0 [] [] [sD 29 (.call 86 []),
 sD 2 (.mv (.t 29))])
 .ret)
 .skip))
 (.seq (.reg 0 [] [] [sD 31 (.mv (.t 3)),
 sD 32 (.mv (.t 5)),
 sD 33 (.call 88 [(.t 31), (.t 32)]),
 sD 30 (.mv (.t 33)),
 sD 34 (.ext (.t 30) 0),
 sD 35 (.ext (.t 30) 1),
 sD 6 (.mv (.t 34)),
 sD 7 (.mv (.t 35))])
 (.seq (.reg 0 [] [] [sD 37 (.mv (.t 3)),
 sD 38 (.mv (.t 5)),
 sD 39 (.call 84 [(.t 37), (.t 38)]),
 sD 36 (.mv (.t 39)),
 sD 40 (.ext (.t 36) 0),
 sD 41 (.ext (.t 36) 1),
 sD 8 (.mv (.t 40)),
 sD 9 (.mv (.t 41))])
 (.seq (.seq (.reg 0 [] [] [sD 42 (.mv (.t 7)),
 sD 43 (.bin .neq .num (.t 42) (.c (.int .i64 0))),
 sD 44 (.mv (.t 43)),
 sG 45 44 false (.mv (.t 9)),
 sG 46 44 false (.bin .neq .num (.t 45) (.c (.int .i64 0))),
 sD 47 (.pick (.t 44) (.c (.bool true)) (.t 46)),
 sD 48 (.mv (.t 47)),
 sG 49 48 false (.mv (.t 3)),
 sG 50 48 false (.call 57 [(.t 49)]),
 sG 51 48 false (.mv (.t 6)),
 sG 52 48 false (.bin .neq .num (.t 50) (.t 51)),
 sD 53 (.pick (.t 48) (.c (.bool true)) (.t 52)),
 sD 54 (.mv (.t 53)),
 sG 55 54 false (.mv (.t 6)),
 sG 56 54 false (.mv (.t 4)),
 sG 57 54 false (.call 75 [(.t 56)]),
 sG 58 54 false (.bin .gtr .num (.t 55) (.t 57)),
 sD 59 (.pick (.t 54) (.c (.bool true)) (.t 58))])
 (.cond (.t 59) (.seq (.reg 0 [] [] [sD 2 (.mv (.c (.bool false)))])
 .ret)
 .skip))
 (.seq (.reg 0 [] [] [sD 10 (.mv (.c .nilsl))])
 (.seq (.seq (.reg 0 [] [] [sD 60 (.mv (.t 3)),
 sD 61 (.call 58 [(.t 60)]),
 sD 62 (.mv (.c (.int .i64 0)))])
 (.block 0 (.loop [10, 62] 6917529027641083208 (.seq (.reg 0 [] [] [sD 63 (.bin .lss .num (.t 62) (.t 61))])
 (.seq (.cond (.t 63) .skip
 (.exit 0))
 (.seq (.block 1 (.seq (.reg 0 [] [] [sD 64 (.mv (.t 62)),
 sD 11 (.mv (.t 64))])
 (.reg 0 [] [] [sD 65 (.mv (.t 10)),
 sD 66 (.mv (.t 3)),
 sD 67 (.mv (.t 11)),
 sD 68 (.call 62 [(.t 66), (.t 67)]),
 sD 69 (.mksl none 25 [(.int .u64 0)] 1 [(0, 1, (.t 68))]),
 sD 70 (.app 25 1 8 [(.int .u64 0)] (.t 65) (.t 69)),
 sD 10 (.mv (.t 70))])))
 (.reg 0 [] [] [sD 71 (.bin .add .num (.t 62) (.c (.int .i64 1))),
 sD 62 (.mv (.t 71))])))))))
 (.seq (.reg 0 [] [] [sD 73 (.mv (.t 3)),
 sD 74 (.mv (.t 8)),
 sD 75 (.call 84 [(.t 73), (.t 74)]),
 sD 72 (.mv (.t 75)),
 sD 76 (.ext (.t 72) 0),
 sD 77 (.ext (.t 72) 1),
 sD 12 (.mv (.t 76)),
 sD 13 (.mv (.t 77))])
 (.seq (.seq (.reg 0 [] [] [sD 78 (.mv (.t 13)),
 sD 79 (.bin .neq .num (.t 78) (.c (.int .i64 0))),
 sD 80 (.mv (.t 79)),
 sG 81 80 false (.mv (.t 8)),
 sG 82 80 false (.mv (.t 12)),
 sG 83 80 false (.call 92 [(.t 81), (.t 82)]),
 sG 84 80 false (.un .not (.t 83)),
 sD 85 (.pick (.t 80) (.c (.bool true)) (.t 84)),
 sD 86 (.mv (.t 85)),
 sG 87 86 false (.mv (.t 3)),
 sG 88 86 false (.call 57 [(.t 87)]),
 sG 89 86 false (.mv (.t 6)),
 sG 90 86 false (.bin .neq .num (.t 88) (.t 89)),
 sD 91 (.pick (.t 86) (.c (.bool true)) (.t 90))])
 (.cond (.t 91) (.seq (.reg 0 [] [] [sD 2 (.mv (.c (.bool false)))])
 .ret)
 .skip))
 (.seq (.seq (.reg 0 [] [] [sD 92 (.mv (.t 10)),
 sD 93 (.len false (.t 92)),
 sD 94 (.mv (.c (.int .i64 0)))])
 (.block 2 (.loop [94] 29710560942849126597578982408 (.seq (.reg 0 [] [] [sD 95 (.bin .lss .num (.t 94) (.t 93))])
 (.seq (.cond (.t 95) .skip
 (.exit 2))
 (.seq (.block 3 (.seq (.reg 0 [] [] [sD 96 (.mv (.t 94)),
 sD 14 (.mv (.t 96))])
 (.seq (.reg 0 [0, 1, 3, 4, 5, 6, 2, 7] [[], [], [1, 0], [], [], [4, 3], [3, 4, 5], [5, 4, 3, 6, 0, 1, 2]] [sD 97 (.mv (.t 3)),
 sD 98 (.mv (.t 14)),
 sD 100 (.mv (.t 10)),
 sD 101 (.mv (.t 14)),
 sD 102 (.ia none 1 (.t 100) (.t 101)),
 sD 103 (.ld none (.t 102)),
 ⟨(some 99), none, (.call 62 [(.t 97), (.t 98)]), [⟨none, (.ld none (.t 102)), 103⟩]⟩,
 sD 104 (.bin .neq .num (.t 99) (.t 103))])
 (.cond (.t 104) (.seq (.reg 0 [] [] [sD 2 (.mv (.c (.bool false)))])
 .ret)
 .skip))))
 (.reg 0 [] [] [sD 105 (.bin .add .num (.t 94) (.c (.int .i64 1))),
 sD 94 (.mv (.t 105))])))))))
 (.seq (.reg 0 [] [] [sD 106 (.call 86 []),
 sD 2 (.mv (.t 106))])
 .ret))))))))))))
def fn23 : IFun := ⟨107, [(.tmp 2)], an23.erase⟩
theorem ok23 : okFun Try.prog 23 fn23 = true := by kernel_rfl
theorem oka23 : okA fn23.ntmps fn23.results an23 = true := by kernel_rfl
def sh23 (C : CallA) (c0 : AV) (h : H) (R : AV → H → Prop) : Prop :=
 newA h (AV.cells c0) 114 (fun b => .ptr b 0) fun c1 h =>
 valA (ldA h (some 3) c1) h fun t16 h =>
 C 89 [t16] h fun t17 h =>
 valA (extA t17 0) h fun t18 h =>
 valA (extA t17 1) h fun t19 h =>
 valA (extA t17 2) h fun t20 h =>
 valA (binOp .eql .ptr t18 .nilp) h fun t22 h =>
 whenA t22 false (fun K => K t19 h) h fun t24 h =>
 whenA t22 false (fun K => K t20 h) h fun t25 h =>
 whenA t22 false (fun K => C 90 [t24, t25] h K) h fun t26 h =>
 whenA t22 false (fun K => valA (unOp .not t26) h K) h fun t27 h =>
 valA (pickA t22 (.bool true) t27) h fun t28 h =>
 condA t28
  (C 86 [] h fun t29 h =>
  R t29 h)
  (C 88 [t18, t20] h fun t33 h =>
 valA (extA t33 0) h fun t34 h =>
 valA (extA t33 1) h fun t35 h =>
 C 84 [t18, t20] h fun t39 h =>
 valA (extA t39 0) h fun t40 h =>
 valA (extA t39 1) h fun t41 h =>
 valA (binOp .neq .num t35 (.int .i64 0)) h fun t43 h =>
 whenA t43 false (fun K => K t41 h) h fun t45 h =>
 whenA t43 false (fun K => valA (binOp .neq .num t45 (.int .i64 0)) h K) h fun t46 h =>
 valA (pickA t43 (.bool true) t46) h fun t47 h =>
 whenA t47 false (fun K => K t18 h) h fun t49 h =>
 whenA t47 false (fun K => C 57 [t49] h K) h fun t50 h =>
 whenA t47 false (fun K => K t34 h) h fun t51 h =>
 whenA t47 false (fun K => valA (binOp .neq .num t50 t51) h K) h fun t52 h =>
 valA (pickA t47 (.bool true) t52) h fun t53 h =>
 whenA t53 false (fun K => K t34 h) h fun t55 h =>
 whenA t53 false (fun K => K t19 h) h fun t56 h =>
 whenA t53 false (fun K => C 75 [t56] h K) h fun t57 h =>
 whenA t53 false (fun K => valA (binOp .gtr .num t55 t57) h K) h fun t58 h =>
 valA (pickA t53 (.bool true) t58) h fun t59 h =>
 condA t59
  (R (.bool false) h)
  (joinA (fun (before10' : AV) (h : H) =>
  C 84 [t18, t40] h fun t75 h =>
  valA (extA t75 0) h fun t76 h =>
  valA (extA t75 1) h fun t77 h =>
  valA (binOp .neq .num t77 (.int .i64 0)) h fun t79 h =>
  whenA t79 false (fun K => K t40 h) h fun t81 h =>
  whenA t79 false (fun K => K t76 h) h fun t82 h =>
  whenA t79 false (fun K => C 92 [t81, t82] h K) h fun t83 h =>
  whenA t79 false (fun K => valA (unOp .not t83) h K) h fun t84 h =>
  valA (pickA t79 (.bool true) t84) h fun t85 h =>
  whenA t85 false (fun K => K t18 h) h fun t87 h =>
  whenA t85 false (fun K => C 57 [t87] h K) h fun t88 h =>
  whenA t85 false (fun K => K t34 h) h fun t89 h =>
  whenA t85 false (fun K => valA (binOp .neq .num t88 t89) h K) h fun t90 h =>
  valA (pickA t85 (.bool true) t90) h fun t91 h =>
  condA t91
   (R (.bool false) h)
   (joinA (fun (h : H) =>
   C 86 [] h fun t106 h =>
   R t106 h) fun J =>
  valA (lenA false before10') h fun t93 h =>
  loopA (fun N l h => argA l 0 fun t94 => 
   valA (binOp .lss .num t94 t93) h fun t95 h =>
   condA t95
    (valA (iaA 1 before10' t94) h fun t102 h =>
   valA (ldA h none t102) h fun t103 h =>
   C 62 [t18, t94] h fun t99 h =>
   againK (valA (ldA h none t102) h (fun v _ => v = t103)) <|
   valA (binOp .neq .num t99 t103) h fun t104 h =>
   condA t104
    (R (.bool false) h)
    (valA (binOp .add .num t94 (.int .i64 1)) h fun t105 h =>
   N [t105] h))
    (J h)) [(.int .i64 0)] h)) fun J_0 =>
 C 58 [t18] h fun t61 h =>
 loopA (fun N_1 l h => argA l 0 fun before10 => argA l 1 fun t62 => 
  valA (binOp .lss .num t62 t61) h fun t63 h =>
  condA t63
   (C 62 [t18, t62] h fun t68 h =>
  mkslA h 25 1 (fillV [(.int .u64 0)] [(0, 1, t68)]) fun t69 h =>
  appendA h 25 1 8 before10 t69 fun t70 h =>
  valA (binOp .add .num t62 (.int .i64 1)) h fun t71 h =>
  N_1 [t70, t71] h)
   (J_0 before10 h)) [.nilsl, (.int .i64 0)] h))
theorem she23 (C : CallA) (c0 : AV) (h : H) (R : AV → H → Prop) : wpA C an23 (argE [c0]) h (outA [(.tmp 2)] R) = sh23 C c0 h R := by kernel_rfl
/-! bellows/bellowslaw03.GcOrder -/
def an24 : ACode :=
 (.seq (.reg 0 [] [] [sD 1 (.bx none 114 (.t 0)),
 sD 2 (.mv (.c (.bool false)))])
 (.seq (.reg 0 [] [] [sD 20 (.ld (some 3) (.t 1)),
 sD 21 (.call 89 [(.t 20)]),
 sD 19 (.mv (.t 21)),
 sD 22 (.ext (.t 19) 0),
 sD 23 (.ext (.t 19) 1),
 sD 24 (.ext (.t 19) 2),
 sD 3 (.mv (.t 22)),
 sD 4 (.mv (.t 23)),
 sD 5 (.mv (.t 24))])
 (.seq (.seq (.reg 0 [] [] [sD 25 (.mv (.t 3)),
 sD 26 (.bin .eql .ptr (.t 25) (.c .nilp)),
 sD 27 (.mv (.t 26)),
 sG 28 27 false (.mv (.t 4)),
 sG 29 27 false (.mv (.t 5)),
 sG 30 27 false (.call 90 [(.t 28), (.t 29)]),
 sG 31 27 false (.un .not (.t 30)),
 sD 32 (.pick (.t 27) (.c (.bool true)) (.t 31))])
 (.cond (.t 32) (.seq (.reg 0 [] [] [sD 33 (.call 86 []),
 sD 2 (.mv (.t 33))])
 .ret)
 .skip))
 (.seq (.reg 0 [] [] [sD 35 (.mv (.t 3)),
 sD 36 (.mv (.t 5)),
 sD 37 (.call 87 [(.t 35), (.t 36)]),
 sD 34 (.mv (.t 37)),
 sD 38 (.ext (.t 34) 0),
 sD 39 (.ext (.t 34) 1),
 sD 6 (.mv (.t 38)),
 sD 7 (.mv (.t 39))])
 (.seq (.reg 0 [] [] [sD 8 (.mv (.c .nilsl))])
 (.seq (.seq (.reg 0 [] [] [sD 40 (.mv (.t 6)),
 sD 41 (.len false (.t 40)),
 sD 42 (.mv (.c (.int .i64 0)))])
 (.block 0 (.loop [8, 42] 7696581394920 (.seq (.reg 0 [] [] [sD 43 (.bin .lss .num (.t 42) (.t 41))])
 (.seq (.cond (.t 43) .skip
 (.exit 0))
 (.seq (.block 1 (.seq (.reg 0 [] [] [sD 44 (.ia none 1 (.t 40) (.t 42)),
 sD 45 (.ld none (.t 44)),
 sD 10 (.mv (.t 45))])
 (.seq (.reg 0 [] [] [sD 47 (.mv (.t 3)),
 sD 48 (.mv (.t 10)),
 sD 49 (.call 81 [(.t 47), (.t 48)]),
 sD 46 (.mv (.t 49)),
 sD 50 (.ext (.t 46) 0),
 sD 51 (.ext (.t 46) 1),
 sD 11 (.mv (.t 50)),
 sD 12 (.mv (.t 51))])
 (.reg 0 [] [] [sD 52 (.mv (.t 8)),
 sD 53 (.mv (.t 11)),
 sD 54 (.mksl none 3 [(.int .i64 0)] 1 [(0, 1, (.t 53))]),
 sD 55 (.app 3 1 8 [(.int .i64 0)] (.t 52) (.t 54)),
 sD 8 (.mv (.t 55))]))))
 (.reg 0 [] [] [sD 56 (.bin .add .num (.t 42) (.c (.int .i64 1))),
 sD 42 (.mv (.t 56))])))))))
 (.seq (.reg 0 [] [] [sD 58 (.mv (.t 3)),
 sD 59 (.mv (.t 5)),
 sD 60 (.call 84 [(.t 58), (.t 59)]),
 sD 57 (.mv (.t 60)),
 sD 61 (.ext (.t 57) 0),
 sD 62 (.ext (.t 57) 1),
 sD 13 (.mv (.t 61)),
 sD 14 (.mv (.t 62))])
 (.seq (.reg 0 [] [] [sD 63 (.mv (.t 3)),
 sD 64 (.call 59 [(.t 63)]),
 sD 15 (.mv (.t 64))])
 (.seq (.seq (.reg 0 [] [] [sD 65 (.mv (.t 7)),
 sD 66 (.bin .neq .num (.t 65) (.c (.int .i64 0))),
 sD 67 (.mv (.t 66)),
 sG 68 67 false (.mv (.t 14)),
 sG 69 67 false (.bin .neq .num (.t 68) (.c (.int .i64 0))),
 sD 70 (.pick (.t 67) (.c (.bool true)) (.t 69)),
 sD 71 (.mv (.t 70)),
 sG 72 71 false (.mv (.t 15)),
 sG 73 71 false (.len false (.t 72)),
 sG 74 71 false (.mv (.t 6)),
 sG 75 71 false (.len false (.t 74)),
 sG 76 71 false (.bin .neq .num (.t 73) (.t 75)),
 sD 77 (.pick (.t 71) (.c (.bool true)) (.t 76))])
 (.cond (.t 77) (.seq (.reg 0 [] [] [sD 2 (.mv (.c (.bool false)))])
 .ret)
 .skip))
 (.seq (.seq (.reg 0 [] [] [sD 78 (.mv (.t 15)),
 sD 79 (.len false (.t 78)),
 sD 80 (.mv (.c (.int .i64 0)))])
 (.block 2 (.loop [80] 1813388729421943762092360 (.seq (.reg 0 [] [] [sD 81 (.bin .lss .num (.t 80) (.t 79))])
 (.seq (.cond (.t 81) .skip
 (.exit 2))
 (.seq (.block 3 (.seq (.reg 0 [] [] [sD 82 (.mv (.t 80)),
 sD 16 (.mv (.t 82))])
 (.seq (.reg 0 [] [] [sD 84 (.mv (.t 3)),
 sD 85 (.mv (.t 15)),
 sD 86 (.mv (.t 16)),
 sD 87 (.ia none 1 (.t 85) (.t 86)),
 sD 88 (.ld none (.t 87)),
 sD 89 (.call 81 [(.t 84), (.t 88)]),
 sD 83 (.mv (.t 89)),
 sD 90 (.ext (.t 83) 0),
 sD 91 (.ext (.t 83) 1),
 sD 17 (.mv (.t 90)),
 sD 18 (.mv (.t 91))])
 (.seq (.reg 0 [0, 1, 2, 3, 4, 5, 6, 7, 8, 9, 10, 11, 12, 13, 14, 15, 16] [[], [], [], [2, 1], [1, 2, 3], [3, 2, 1, 4, 0], [0, 4, 1, 2, 3, 5], [5, 3, 2, 1, 4, 0, 6], [5, 3, 2, 1, 4, 0, 6], [8, 6, 0, 4, 1, 2, 3, 5, 7], [7, 5, 3, 2, 1, 4, 0, 6, 8, 9], [5, 3, 2, 1, 4, 0, 6], [5, 3, 2, 1, 4, 0, 6], [12, 6, 0, 4, 1, 2, 3, 5, 11], [11, 5, 3, 2, 1, 4, 0, 6, 12, 13], [13, 12, 11, 14, 9, 8, 6, 0, 4, 1, 2, 3, 5, 7, 10], [10, 7, 8, 9, 14, 11, 12, 13, 15, 5, 3, 2, 1, 4, 0, 6]] [sD 92 (.mv (.t 17)),
 sD 93 (.mv (.t 8)),
 sD 94 (.mv (.t 16)),
 sD 95 (.ia none 1 (.t 93) (.t 94)),
 sD 96 (.ld none (.t 95)),
 sD 97 (.bin .neq .num (.t 92) (.t 96)),
 sD 98 (.mv (.t 97)),
 sG 99 98 false (.mv (.t 15)),
 sG 100 98 false (.mv (.t 16)),
 sG 101 98 false (.ia none 1 (.t 99) (.t 100)),
 sG 102 98 false (.ld none (.t 101)),
 sG 103 98 false (.mv (.t 6)),
 sG 104 98 false (.mv (.t 16)),
 sG 105 98 false (.ia none 1 (.t 103) (.t 104)),
 sG 106 98 false (.ld none (.t 105)),
 sG 107 98 false (.bin .gtr .num (.t 102) (.t 106)),
 sD 108 (.pick (.t 98) (.c (.bool true)) (.t 107))])
 (.cond (.t 108) (.seq (.reg 0 [] [] [sD 2 (.mv (.c (.bool false)))])
 .ret)
 .skip)))))
 (.reg 0 [] [] [sD 109 (.bin .add .num (.t 80) (.c (.int .i64 1))),
 sD 80 (.mv (.t 109))])))))))
 (.seq (.reg 0 [] [] [sD 110 (.call 86 []),
 sD 2 (.mv (.t 110))])
 .ret)))))))))))
def fn24 : IFun := ⟨111, [(.tmp 2)], an24.erase⟩
theorem ok24 : okFun Try.prog 24 fn24 = true := by kernel_rfl
theorem oka24 : okA fn24.ntmps fn24.results an24 = true := by kernel_rfl
def sh24 (C : CallA) (c0 : AV) (h : H) (R : AV → H → Prop) : Prop :=
 newA h (AV.cells c0) 114 (fun b => .ptr b 0) fun c1 h =>
 valA (ldA h (some 3) c1) h fun t20 h =>
 C 89 [t20] h fun t21 h =>
 valA (extA t21 0) h fun t22 h =>
 valA (extA t21 1) h fun t23 h =>
 valA (extA t21 2) h fun t24 h =>
 valA (binOp .eql .ptr t22 .nilp) h fun t26 h =>
 whenA t26 false (fun K => K t23 h) h fun t28 h =>
 whenA t26 false (fun K => K t24 h) h fun t29 h =>
 whenA t26 false (fun K => C 90 [t28, t29] h K) h fun t30 h =>
 whenA t26 false (fun K => valA (unOp .not t30) h K) h fun t31 h =>
 valA (pickA t26 (.bool true) t31) h fun t32 h =>
 condA t32
  (C 86 [] h fun t33 h =>
  R t33 h)
  (C 87 [t22, t24] h fun t37 h =>
 valA (extA t37 0) h fun t38 h =>
 valA (extA t37 1) h fun t39 h =>
 joinA (fun (shapes8' : AV) (h : H) =>
  C 84 [t22, t24] h fun t60 h =>
  valA (extA t60 0) h fun t61 h =>
  valA (extA t60 1) h fun t62 h =>
  C 59 [t22] h fun t64 h =>
  valA (binOp .neq .num t39 (.int .i64 0)) h fun t66 h =>
  whenA t66 false (fun K => K t62 h) h fun t68 h =>
  whenA t66 false (fun K => valA (binOp .neq .num t68 (.int .i64 0)) h K) h fun t69 h =>
  valA (pickA t66 (.bool true) t69) h fun t70 h =>
  whenA t70 false (fun K => K t64 h) h fun t72 h =>
  whenA t70 false (fun K => valA (lenA false t72) h K) h fun t73 h =>
  whenA t70 false (fun K => K t38 h) h fun t74 h =>
  whenA t70 false (fun K => valA (lenA false t74) h K) h fun t75 h =>
  whenA t70 false (fun K => valA (binOp .neq .num t73 t75) h K) h fun t76 h =>
  valA (pickA t70 (.bool true) t76) h fun t77 h =>
  condA t77
   (R (.bool false) h)
   (joinA (fun (h : H) =>
   C 86 [] h fun t110 h =>
   R t110 h) fun J =>
  valA (lenA false t64) h fun t79 h =>
  loopA (fun N l h => argA l 0 fun t80 => 
   valA (binOp .lss .num t80 t79) h fun t81 h =>
   condA t81
    (valA (iaA 1 t64 t80) h fun t87 h =>
   valA (ldA h none t87) h fun t88 h =>
   C 81 [t22, t88] h fun t89 h =>
   valA (extA t89 0) h fun t90 h =>
   valA (extA t89 1) h fun t91 h =>
   valA (iaA 1 shapes8' t80) h fun t95 h =>
   valA (ldA h none t95) h fun t96 h =>
   valA (binOp .neq .num t90 t96) h fun t97 h =>
   whenA t97 false (fun K => K t64 h) h fun t99 h =>
   whenA t97 false (fun K => K t80 h) h fun t100 h =>
   whenA t97 false (fun K => valA (iaA 1 t99 t100) h K) h fun t101 h =>
   whenA t97 false (fun K => valA (ldA h none t101) h K) h fun t102 h =>
   whenA t97 false (fun K => K t38 h) h fun t103 h =>
   whenA t97 false (fun K => K t80 h) h fun t104 h =>
   whenA t97 false (fun K => valA (iaA 1 t103 t104) h K) h fun t105 h =>
   whenA t97 false (fun K => valA (ldA h none t105) h K) h fun t106 h =>
   whenA t97 false (fun K => valA (binOp .gtr .num t102 t106) h K) h fun t107 h =>
   valA (pickA t97 (.bool true) t107) h fun t108 h =>
   condA t108
    (R (.bool false) h)
    (valA (binOp .add .num t80 (.int .i64 1)) h fun t109 h =>
   N [t109] h))
    (J h)) [(.int .i64 0)] h)) fun J_0 =>
 valA (lenA false t38) h fun t41 h =>
 loopA (fun N_1 l h => argA l 0 fun shapes8 => argA l 1 fun t42 => 
  valA (binOp .lss .num t42 t41) h fun t43 h =>
  condA t43
   (valA (iaA 1 t38 t42) h fun t44 h =>
  valA (ldA h none t44) h fun t45 h =>
  C 81 [t22, t45] h fun t49 h =>
  valA (extA t49 0) h fun t50 h =>
  valA (extA t49 1) h fun t51 h =>
  mkslA h 3 1 (fillV [(.int .i64 0)] [(0, 1, t50)]) fun t54 h =>
  appendA h 3 1 8 shapes8 t54 fun t55 h =>
  valA (binOp .add .num t42 (.int .i64 1)) h fun t56 h =>
  N_1 [t55, t56] h)
   (J_0 shapes8 h)) [.nilsl, (.int .i64 0)] h)
theorem she24 (C : CallA) (c0 : AV) (h : H) (R : AV → H → Prop) : wpA C an24 (argE [c0]) h (outA [(.tmp 2)] R) = sh24 C c0 h R := by kernel_rfl
/-! bellows/bellowslaw03.GcAll -/
def an25 : ACode :=
 (.seq (.reg 0 [] [] [sD 1 (.bx none 114 (.t 0)),
 sD 2 (.mv (.c (.bool false)))])
 (.seq (.reg 0 [] [] [sD 14 (.ld (some 3) (.t 1)),
 sD 15 (.call 89 [(.t 14)]),
 sD 13 (.mv (.t 15)),
 sD 16 (.ext (.t 13) 0),
 sD 17 (.ext (.t 13) 1),
 sD 18 (.ext (.t 13) 2),
 sD 3 (.mv (.t 16)),
 sD 4 (.mv (.t 17)),
 sD 5 (.mv (.t 18))])
 (.seq (.seq (.reg 0 [] [] [sD 19 (.mv (.t 3)),
 sD 20 (.bin .eql .ptr (.t 19) (.c .nilp))])
 (.cond (.t 20) (.seq (.reg 0 [] [] [sD 21 (.call 86 []),
 sD 2 (.mv (.t 21))])
 .ret)
 .skip))
 (.seq (.reg 0 [] [] [sD 6 (.mv (.c .nilsl))])
 (.seq (.seq (.reg 0 [] [] [sD 22 (.mv (.t 3)),
 sD 23 (.call 59 [(.t 22)]),
 sD 24 (.len false (.t 23)),
 sD 25 (.mv (.c (.int .i64 0)))])
 (.block 0 (.loop [6, 25] 58720344 (.seq (.reg 0 [] [] [sD 26 (.bin .lss .num (.t 25) (.t 24))])
 (.seq (.cond (.t 26) .skip
 (.exit 0))
 (.seq (.block 1 (.seq (.reg 0 [] [] [sD 27 (.ia none 1 (.t 23) (.t 25)),
 sD 28 (.ld none (.t 27)),
 sD 8 (.mv (.t 28))])
 (.reg 0 [] [] [sD 29 (.mv (.t 6)),
 sD 30 (.mv (.t 8)),
 sD 31 (.call 82 [(.t 30)]),
 sD 32 (.mksl none 25 [(.int .u64 0)] 1 [(0, 1, (.t 31))]),
 sD 33 (.app 25 1 8 [(.int .u64 0)] (.t 29) (.t 32)),
 sD 6 (.mv (.t 33))])))
 (.reg 0 [] [] [sD 34 (.bin .add .num (.t 25) (.c (.int .i64 1))),
 sD 25 (.mv (.t 34))])))))))
 (.seq (.reg 0 [] [] [sD 36 (.mv (.t 3)),
 sD 37 (.mv (.t 6)),
 sD 38 (.call 84 [(.t 36), (.t 37)]),
 sD 35 (.mv (.t 38)),
 sD 39 (.ext (.t 35) 0),
 sD 40 (.ext (.t 35) 1),
 sD 9 (.mv (.t 39)),
 sD 10 (.mv (.t 40))])
 (.seq (.seq (.reg 0 [] [] [sD 41 (.mv (.t 10)),
 sD 42 (.bin .neq .num (.t 41) (.c (.int .i64 0))),
 sD 43 (.mv (.t 42)),
 sG 44 43 false (.mv (.t 9)),
 sG 45 43 false (.mv (.t 6)),
 sG 46 43 false (.call 92 [(.t 44), (.t 45)]),
 sG 47 43 false (.un .not (.t 46)),
 sD 48 (.pick (.t 43) (.c (.bool true)) (.t 47)),
 sD 49 (.mv (.t 48)),
 sG 50 49 false (.mv (.t 3)),
 sG 51 49 false (.mv (.t 4)),
 sG 52 49 false (.call 76 [(.t 50), (.t 51)]),
 sG 53 49 false (.un .not (.t 52)),
 sD 54 (.pick (.t 49) (.c (.bool true)) (.t 53))])
 (.cond (.t 54) (.seq (.reg 0 [] [] [sD 2 (.mv (.c (.bool false)))])
 .ret)
 .skip))
 (.seq (.reg 0 [] [] [sD 56 (.mv (.t 3)),
 sD 57 (.call 83 [(.c (.int .i64 (-1)))]),
 sD 58 (.mksl none 25 [(.int .u64 0)] 1 [(0, 1, (.t 57))]),
 sD 59 (.call 84 [(.t 56), (.t 58)]),
 sD 55 (.mv (.t 59)),
 sD 60 (.ext (.t 55) 0),
 sD 61 (.ext (.t 55) 1),
 sD 11 (.mv (.t 60)),
 sD 12 (.mv (.t 61))])
 (.seq (.reg 0 [0, 1, 2, 3, 4, 5, 6, 7, 8, 9, 10, 11, 12, 13, 14, 15, 16, 17, 18, 19, 20, 21, 22, 23, 24, 25, 26, 27, 28, 29, 30, 31, 32, 33] [[], [0], [0, 1], [1, 0, 2], [2, 0, 1, 3], [3, 1, 0, 2, 4], [4, 3, 5, 1, 0, 2], [2, 0, 1, 5, 3, 4, 6], [6, 4, 3, 5, 1, 0, 2, 7], [7, 2, 0, 1, 5, 3, 4, 6, 8], [8, 6, 4, 3, 5, 1, 0, 2, 7, 9], [6, 4, 3, 5, 1, 0, 2, 7], [11, 9, 7, 2, 0, 1, 5, 3, 4, 6, 8, 10], [10, 8, 9, 11, 12, 6, 4, 3, 5, 1, 0, 2, 7], [7, 2, 0, 1, 5, 3, 4, 6, 12, 11, 9, 8, 10, 13], [13, 10, 8, 9, 11, 12, 6, 4, 3, 5, 1, 0, 2, 7, 14], [14, 7, 2, 0, 1, 5, 3, 4, 6, 12, 11, 9, 8, 10, 13, 15], [15, 13, 10, 8, 9, 11, 12, 6, 4, 3, 5, 1, 0, 2, 7, 14, 16], [16, 15, 17, 13, 10, 8, 9, 11, 12, 6, 4, 3, 5, 1, 0, 2, 7, 14], [14, 7, 2, 0, 1, 5, 3, 4, 6, 12, 11, 9, 8, 10, 13, 17, 15, 16, 18], [18, 16, 15, 17, 13, 10, 8, 9, 11, 12, 6, 4, 3, 5, 1, 0, 2, 7, 14, 19], [19, 14, 7, 2, 0, 1, 5, 3, 4, 6, 12, 11, 9, 8, 10, 13, 17, 15, 16, 18, 20], [20, 18, 16, 15, 17, 13, 10, 8, 9, 11, 12, 6, 4, 3, 5, 1, 0, 2, 7, 14, 19, 21], [21, 19, 14, 7, 2, 0, 1, 5, 3, 4, 6, 12, 11, 9, 8, 10, 13, 17, 15, 16, 18, 20, 22], [22, 20, 21, 23, 18, 16, 15, 17, 13, 10, 8, 9, 11, 12, 6, 4, 3, 5, 1, 0, 2, 7, 14, 19], [19, 14, 7, 2, 0, 1, 5, 3, 4, 6, 12, 11, 9, 8, 10, 13, 17, 15, 16, 18, 23, 21, 20, 22, 24], [24, 22, 20, 21, 23, 18, 16, 15, 17, 13, 10, 8, 9, 11, 12, 6, 4, 3, 5, 1, 0, 2, 7, 14, 19, 25], [25, 19, 14, 7, 2, 0, 1, 5, 3, 4, 6, 12, 11, 9, 8, 10, 13, 17, 15, 16, 18, 23, 21, 20, 22, 24, 26], [26, 24, 22, 20, 21, 23, 18, 16, 15, 17, 13, 10, 8, 9, 11, 12, 6, 4, 3, 5, 1, 0, 2, 7, 14, 19, 25, 27], [27, 26, 28, 24, 22, 20, 21, 23, 18, 16, 15, 17, 13, 10, 8, 9, 11, 12, 6, 4, 3, 5, 1, 0, 2, 7, 14, 19, 25], [25, 19, 14, 7, 2, 0, 1, 5, 3, 4, 6, 12, 11, 9, 8, 10, 13, 17, 15, 16, 18, 23, 21, 20, 22, 24, 28, 26, 27, 29], [29, 27, 26, 28, 24, 22, 20, 21, 23, 18, 16, 15, 17, 13, 10, 8, 9, 11, 12, 6, 4, 3, 5, 1, 0, 2, 7, 14, 19, 25, 30], [31, 29, 27, 26, 28, 24, 22, 20, 21, 23, 18, 16, 15, 17, 13, 10, 8, 9, 11, 12, 6, 4, 3, 5, 1, 0, 2, 7, 14, 19, 25, 30], [30, 25, 19, 14, 7, 2, 0, 1, 5, 3, 4, 6, 12, 11, 9, 8, 10, 13, 17, 15, 16, 18, 23, 21, 20, 22, 24, 28, 26, 27, 29, 31, 32]] [sD 62 (.mv (.t 12)),
 sD 63 (.bin .eql .num (.t 62) (.c (.int .i64 0))),
 sD 64 (.mv (.t 63)),
 sG 65 64 true (.mv (.t 11)),
 sG 66 64 true (.len false (.t 65)),
 sG 67 64 true (.bin .eql .num (.t 66) (.c (.int .i64 1))),
 sD 68 (.pick (.t 64) (.t 67) (.c (.bool false))),
 sD 69 (.mv (.t 68)),
 sG 70 69 true (.mv (.t 11)),
 sG 71 69 true (.ia none 1 (.t 70) (.c (.int .i64 0))),
 sG 72 69 true (.ld none (.t 71)),
 ⟨(some 73), (some (69, true)), (.call 83 [(.c (.int .i64 (-1)))]), [⟨(some (69, true)), (.ld none (.t 71)), 72⟩]⟩,
 sG 74 69 true (.bin .eql .num (.t 72) (.t 73)),
 sD 75 (.pick (.t 69) (.t 74) (.c (.bool false))),
 sD 76 (.mv (.t 75)),
 sG 77 76 true (.mv (.t 3)),
 sG 78 76 true (.call 57 [(.t 77)]),
 sG 79 76 true (.bin .eql .num (.t 78) (.c (.int .i64 0))),
 sD 80 (.pick (.t 76) (.t 79) (.c (.bool false))),
 sD 81 (.mv (.t 80)),
 sG 82 81 true (.mv (.t 3)),
 sG 83 81 true (.call 59 [(.t 82)]),
 sG 84 81 true (.len false (.t 83)),
 sG 85 81 true (.bin .eql .num (.t 84) (.c (.int .i64 0))),
 sD 86 (.pick (.t 81) (.t 85) (.c (.bool false))),
 sD 87 (.mv (.t 86)),
 sG 88 87 true (.mv (.t 3)),
 sG 89 87 true (.call 62 [(.t 88), (.c (.int .i64 0))]),
 sG 90 87 true (.bin .eql .num (.t 89) (.c (.int .u64 0))),
 sD 91 (.pick (.t 87) (.t 90) (.c (.bool false))),
 sD 92 (.mv (.t 91)),
 sG 93 92 true (.call 86 []),
 sD 94 (.pick (.t 92) (.t 93) (.c (.bool false))),
 sD 2 (.mv (.t 94))])
 .ret)))))))))
def fn25 : IFun := ⟨95, [(.tmp 2)], an25.erase⟩
theorem ok25 : okFun Try.prog 25 fn25 = true := by kernel_rfl
theorem oka25 : okA fn25.ntmps fn25.results an25 = true := by kernel_rfl
def sh25 (C : CallA) (c0 : AV) (h : H) (R : AV → H → Prop) : Prop :=
 newA h (AV.cells c0) 114 (fun b => .ptr b 0) fun c1 h =>
 valA (ldA h (some 3) c1) h fun t14 h =>
 C 89 [t14] h fun t15 h =>
 valA (extA t15 0) h fun t16 h =>
 valA (extA t15 1) h fun t17 h =>
 valA (extA t15 2) h fun t18 h =>
 valA (binOp .eql .ptr t16 .nilp) h fun t20 h =>
 condA t20
  (C 86 [] h fun t21 h =>
  R t21 h)
  (joinA (fun (roots6' : AV) (h : H) =>
  C 84 [t16, roots6'] h fun t38 h =>
  valA (extA t38 0) h fun t39 h =>
  valA (extA t38 1) h fun t40 h =>
  valA (binOp .neq .num t40 (.int .i64 0)) h fun t42 h =>
  whenA t42 false (fun K => K t39 h) h fun t44 h =>
  whenA t42 false (fun K => K roots6' h) h fun t45 h =>
  whenA t42 false (fun K => C 92 [t44, t45] h K) h fun t46 h =>
  whenA t42 false (fun K => valA (unOp .not t46) h K) h fun t47 h =>
  valA (pickA t42 (.bool true) t47) h fun t48 h =>
  whenA t48 false (fun K => K t16 h) h fun t50 h =>
  whenA t48 false (fun K => K t17 h) h fun t51 h =>
  whenA t48 false (fun K => C 76 [t50, t51] h K) h fun t52 h =>
  whenA t48 false (fun K => valA (unOp .not t52) h K) h fun t53 h =>
  valA (pickA t48 (.bool true) t53) h fun t54 h =>
  condA t54
   (R (.bool false) h)
   (C 83 [(.int .i64 (-1))] h fun t57 h =>
  mkslA h 25 1 (fillV [(.int .u64 0)] [(0, 1, t57)]) fun t58 h =>
  C 84 [t16, t58] h fun t59 h =>
  valA (extA t59 0) h fun t60 h =>
  valA (extA t59 1) h fun t61 h =>
  valA (binOp .eql .num t61 (.int .i64 0)) h fun t63 h =>
  whenA t63 true (fun K => K t60 h) h fun t65 h =>
  whenA t63 true (fun K => valA (lenA false t65) h K) h fun t66 h =>
  whenA t63 true (fun K => valA (binOp .eql .num t66 (.int .i64 1)) h K) h fun t67 h =>
  valA (pickA t63 t67 (.bool false)) h fun t68 h =>
  whenA t68 true (fun K => K t60 h) h fun t70 h =>
  whenA t68 true (fun K => valA (iaA 1 t70 (.int .i64 0)) h K) h fun t71 h =>
  whenA t68 true (fun K => valA (ldA h none t71) h K) h fun t72 h =>
  whenA t68 true (fun K => C 83 [(.int .i64 (-1))] h K) h fun t73 h =>
  againK (whenP t68 true (valA (ldA h none t71) h (fun v _ => v = t72))) <|
  whenA t68 true (fun K => valA (binOp .eql .num t72 t73) h K) h fun t74 h =>
  valA (pickA t68 t74 (.bool false)) h fun t75 h =>
  whenA t75 true (fun K => K t16 h) h fun t77 h =>
  whenA t75 true (fun K => C 57 [t77] h K) h fun t78 h =>
  whenA t75 true (fun K => valA (binOp .eql .num t78 (.int .i64 0)) h K) h fun t79 h =>
  valA (pickA t75 t79 (.bool false)) h fun t80 h =>
  whenA t80 true (fun K => K t16 h) h fun t82 h =>
  whenA t80 true (fun K => C 59 [t82] h K) h fun t83 h =>
  whenA t80 true (fun K => valA (lenA false t83) h K) h fun t84 h =>
  whenA t80 true (fun K => valA (binOp .eql .num t84 (.int .i64 0)) h K) h fun t85 h =>
  valA (pickA t80 t85 (.bool false)) h fun t86 h =>
  whenA t86 true (fun K => K t16 h) h fun t88 h =>
  whenA t86 true (fun K => C 62 [t88, (.int .i64 0)] h K) h fun t89 h =>
  whenA t86 true (fun K => valA (binOp .eql .num t89 (.int .u64 0)) h K) h fun t90 h =>
  valA (pickA t86 t90 (.bool false)) h fun t91 h =>
  whenA t91 true (fun K => C 86 [] h K) h fun t93 h =>
  valA (pickA t91 t93 (.bool false)) h fun t94 h =>
  R t94 h)) fun J =>
 C 59 [t16] h fun t23 h =>
 valA (lenA false t23) h fun t24 h =>
 loopA (fun N l h => argA l 0 fun roots6 => argA l 1 fun t25 => 
  valA (binOp .lss .num t25 t24) h fun t26 h =>
  condA t26
   (valA (iaA 1 t23 t25) h fun t27 h =>
  valA (ldA h none t27) h fun t28 h =>
  C 82 [t28] h fun t31 h =>
  mkslA h 25 1 (fillV [(.int .u64 0)] [(0, 1, t31)]) fun t32 h =>
  appendA h 25 1 8 roots6 t32 fun t33 h =>
  valA (binOp .add .num t25 (.int .i64 1)) h fun t34 h =>
  N [t33, t34] h)
   (J roots6 h)) [.nilsl, (.int .i64 0)] h)
theorem she25 (C : CallA) (c0 : AV) (h : H) (R : AV → H → Prop) : wpA C an25 (argE [c0]) h (outA [(.tmp 2)] R) = sh25 C c0 h R := by kernel_rfl
/-! bellows/bellowslaw03.GcRoom -/
def an26 : ACode :=
 (.seq (.reg 0 [] [] [sD 2 (.bx none 114 (.t 0)),
 sD 4 (.mv (.c (.bool false)))])
 (.seq (.reg 0 [] [] [sD 18 (.ld (some 3) (.t 2)),
 sD 19 (.call 89 [(.t 18)]),
 sD 17 (.mv (.t 19)),
 sD 20 (.ext (.t 17) 0),
 sD 21 (.ext (.t 17) 1),
 sD 22 (.ext (.t 17) 2),
 sD 5 (.mv (.t 20)),
 sD 6 (.mv (.t 21)),
 sD 7 (.mv (.t 22))])
 (.seq (.seq (.reg 0 [] [] [sD 23 (.mv (.t 5)),
 sD 24 (.bin .eql .ptr (.t 23) (.c .nilp)),
 sD 25 (.mv (.t 24)),
 sG 26 25 false (.mv (.t 6)),
 sG 27 25 false (.mv (.t 7)),
 sG 28 25 false (.call 90 [(.t 26), (.t 27)]),
 sG 29 25 false (.un .not (.t 28)),
 sD 30 (.pick (.t 25) (.c (.bool true)) (.t 29))])
 (.cond (.t 30) (.seq (.reg 0 [] [] [sD 31 (.call 86 []),
 sD 4 (.mv (.t 31))])
 .ret)
 .skip))
 (.seq (.reg 0 [] [] [sD 8 (.mv (.c (.int .i64 (-1))))])
 (.seq (.seq (.reg 0 [] [] [sD 32 (.fa 0 (.t 2)),
 sD 33 (.ld none (.t 32)),
 sD 34 (.len false (.t 33)),
 sD 35 (.mv (.c (.int .i64 0)))])
 (.block 0 (.loop [8, 35] 60129542626 (.seq (.reg 0 [] [] [sD 36 (.bin .lss .num (.t 35) (.t 34))])
 (.seq (.cond (.t 36) .skip
 (.exit 0))
 (.seq (.block 1 (.seq (.reg 0 [] [] [sD 37 (.mv (.t 35)),
 sD 38 (.ia none 2 (.t 33) (.t 35)),
 sD 39 (.ld (some 2) (.t 38)),
 sD 10 (.al none 60 [(.int .i64 0), (.int .i64 0)]),
 sD 9 (.mv (.t 37)),
 sN (.st 2 (.t 10) (.t 39))])
 (.seq (.reg 0 [] [] [sD 40 (.mv (.t 9)),
 sD 41 (.mv (.t 6)),
 sD 42 (.nilc (.t 41)),
 sD 43 (.fa 1 (.t 42)),
 sD 44 (.ld none (.t 43)),
 sD 45 (.len false (.t 44)),
 sD 46 (.bin .lss .num (.t 40) (.t 45)),
 sD 47 (.mv (.t 46)),
 sG 48 47 true (.fa 0 (.t 10)),
 sG 49 47 true (.ld none (.t 48)),
 sG 50 47 true (.bin .eql .num (.t 49) (.c (.int .i64 2))),
 sD 51 (.pick (.t 47) (.t 50) (.c (.bool false)))])
 (.cond (.t 51) (.reg 0 [] [] [sD 52 (.mv (.t 9)),
 sD 8 (.mv (.t 52))])
 .skip))))
 (.reg 0 [] [] [sD 53 (.bin .add .num (.t 35) (.c (.int .i64 1))),
 sD 35 (.mv (.t 53))])))))))
 (.seq (.reg 0 [] [] [sD 55 (.mv (.t 5)),
 sD 56 (.mv (.t 7)),
 sD 57 (.call 88 [(.t 55), (.t 56)]),
 sD 54 (.mv (.t 57)),
 sD 58 (.ext (.t 54) 0),
 sD 59 (.ext (.t 54) 1),
 sD 11 (.mv (.t 58)),
 sD 12 (.mv (.t 59))])
 (.seq (.reg 0 [] [] [sD 61 (.mv (.t 5)),
 sD 62 (.mv (.t 7)),
 sD 63 (.call 84 [(.t 61), (.t 62)]),
 sD 60 (.mv (.t 63)),
 sD 64 (.ext (.t 60) 0),
 sD 65 (.ext (.t 60) 1),
 sD 13 (.mv (.t 64)),
 sD 14 (.mv (.t 65))])
 (.seq (.seq (.reg 0 [] [] [sD 66 (.mv (.t 12)),
 sD 67 (.bin .neq .num (.t 66) (.c (.int .i64 0))),
 sD 68 (.mv (.t 67)),
 sG 69 68 false (.mv (.t 14)),
 sG 70 68 false (.bin .neq .num (.t 69) (.c (.int .i64 0))),
 sD 71 (.pick (.t 68) (.c (.bool true)) (.t 70))])
 (.cond (.t 71) (.seq (.reg 0 [] [] [sD 4 (.mv (.c (.bool false)))])
 .ret)
 .skip))
 (.seq (.seq (.reg 0 [] [] [sD 72 (.mv (.t 8)),
 sD 73 (.bin .lss .num (.t 72) (.c (.int .i64 0))),
 sD 74 (.mv (.t 73)),
 sG 75 74 false (.mv (.t 1)),
 sG 76 74 false (.bin .lss .num (.t 75) (.c (.int .i64 0))),
 sD 77 (.pick (.t 74) (.c (.bool true)) (.t 76)),
 sD 78 (.mv (.t 77)),
 sG 79 78 false (.mv (.t 1)),
 sG 80 78 false (.bin .gtr .num (.t 79) (.c (.int .i64 65536))),
 sD 81 (.pick (.t 78) (.c (.bool true)) (.t 80))])
 (.cond (.t 81) (.seq (.reg 0 [] [] [sD 82 (.call 86 []),
 sD 4 (.mv (.t 82))])
 .ret)
 .skip))
 (.seq (.reg 0 [] [] [sD 84 (.mv (.t 5)),
 sD 85 (.mv (.t 8)),
 sD 86 (.mv (.t 1)),
 sD 87 (.call 55 [(.t 84), (.t 85), (.t 86)]),
 sD 83 (.mv (.t 87)),
 sD 88 (.ext (.t 83) 0),
 sD 89 (.ext (.t 83) 1),
 sD 15 (.mv (.t 88)),
 sD 16 (.mv (.t 89))])
 (.seq (.reg 0 [] [] [sD 90 (.mv (.t 16)),
 sD 91 (.bin .eql .num (.t 90) (.c (.int .i64 0))),
 sD 92 (.mv (.t 1)),
 sD 93 (.mv (.t 11)),
 sD 94 (.bin .sub .num (.c (.int .i64 1500)) (.t 93)),
 sD 95 (.bin .lss .num (.t 92) (.t 94)),
 sD 96 (.bin .eql .bool (.t 91) (.t 95)),
 sD 97 (.mv (.t 96)),
 sG 98 97 true (.mv (.t 16)),
 sG 99 97 true (.bin .eql .num (.t 98) (.c (.int .i64 0))),
 sG 100 97 true (.mv (.t 99)),
 sG 101 100 false (.mv (.t 16)),
 sG 102 100 false (.bin .eql .num (.t 101) (.c (.int .i64 3))),
 sG 103 97 true (.pick (.t 100) (.c (.bool true)) (.t 102)),
 sD 104 (.pick (.t 97) (.t 103) (.c (.bool false))),
 sD 105 (.mv (.t 104)),
 sG 106 105 true (.call 86 []),
 sD 107 (.pick (.t 105) (.t 106) (.c (.bool false))),
 sD 4 (.mv (.t 107))])
 .ret)))))))))))
def fn26 : IFun := ⟨108, [(.tmp 4)], an26.erase⟩
theorem ok26 : okFun Try.prog 26 fn26 = true := by kernel_rfl
theorem oka26 : okA fn26.ntmps fn26.results an26 = true := by kernel_rfl
def sh26 (C : CallA) (c0 n1 : AV) (h : H) (R : AV → H → Prop) : Prop :=
 newA h (AV.cells c0) 114 (fun b => .ptr b 0) fun c2 h =>
 valA (ldA h (some 3) c2) h fun t18 h =>
 C 89 [t18] h fun t19 h =>
 valA (extA t19 0) h fun t20 h =>
 valA (extA t19 1) h fun t21 h =>
 valA (extA t19 2) h fun t22 h =>
 valA (binOp .eql .ptr t20 .nilp) h fun t24 h =>
 whenA t24 false (fun K => K t21 h) h fun t26 h =>
 whenA t24 false (fun K => K t22 h) h fun t27 h =>
 whenA t24 false (fun K => C 90 [t26, t27] h K) h fun t28 h =>
 whenA t24 false (fun K => valA (unOp .not t28) h K) h fun t29 h =>
 valA (pickA t24 (.bool true) t29) h fun t30 h =>
 condA t30
  (C 86 [] h fun t31 h =>
  R t31 h)
  (joinA (fun (shape8' : AV) (h : H) =>
  C 88 [t20, t22] h fun t57 h =>
  valA (extA t57 0) h fun t58 h =>
  valA (extA t57 1) h fun t59 h =>
  C 84 [t20, t22] h fun t63 h =>
  valA (extA t63 0) h fun t64 h =>
  valA (extA t63 1) h fun t65 h =>
  valA (binOp .neq .num t59 (.int .i64 0)) h fun t67 h =>
  whenA t67 false (fun K => K t65 h) h fun t69 h =>
  whenA t67 false (fun K => valA (binOp .neq .num t69 (.int .i64 0)) h K) h fun t70 h =>
  valA (pickA t67 (.bool true) t70) h fun t71 h =>
  condA t71
   (R (.bool false) h)
   (valA (binOp .lss .num shape8' (.int .i64 0)) h fun t73 h =>
  whenA t73 false (fun K => K n1 h) h fun t75 h =>
  whenA t73 false (fun K => valA (binOp .lss .num t75 (.int .i64 0)) h K) h fun t76 h =>
  valA (pickA t73 (.bool true) t76) h fun t77 h =>
  whenA t77 false (fun K => K n1 h) h fun t79 h =>
  whenA t77 false (fun K => valA (binOp .gtr .num t79 (.int .i64 65536)) h K) h fun t80 h =>
  valA (pickA t77 (.bool true) t80) h fun t81 h =>
  condA t81
   (C 86 [] h fun t82 h =>
   R t82 h)
   (C 55 [t20, shape8', n1] h fun t87 h =>
  valA (extA t87 0) h fun t88 h =>
  valA (extA t87 1) h fun t89 h =>
  valA (binOp .eql .num t89 (.int .i64 0)) h fun t91 h =>
  valA (binOp .sub .num (.int .i64 1500) t58) h fun t94 h =>
  valA (binOp .lss .num n1 t94) h fun t95 h =>
  valA (binOp .eql .bool t91 t95) h fun t96 h =>
  whenA t96 true (fun K => K t89 h) h fun t98 h =>
  whenA t96 true (fun K => valA (binOp .eql .num t98 (.int .i64 0)) h K) h fun t99 h =>
  whenA t96 true (fun K => K t99 h) h fun t100 h =>
  whenA t100 false (fun K => K t89 h) h fun t101 h =>
  whenA t100 false (fun K => valA (binOp .eql .num t101 (.int .i64 3)) h K) h fun t102 h =>
  whenA t96 true (fun K => valA (pickA t100 (.bool true) t102) h K) h fun t103 h =>
  valA (pickA t96 t103 (.bool false)) h fun t104 h =>
  whenA t104 true (fun K => C 86 [] h K) h fun t106 h =>
  valA (pickA t104 t106 (.bool false)) h fun t107 h =>
  R t107 h))) fun J =>
 valA (faA 0 c2) h fun t32 h =>
 valA (ldA h none t32) h fun t33 h =>
 valA (lenA false t33) h fun t34 h =>
 loopA (fun N l h => argA l 0 fun shape8 => argA l 1 fun t35 => 
  valA (binOp .lss .num t35 t34) h fun t36 h =>
  condA t36
   (joinA (fun (shape8'_0 : AV) (h : H) =>
   valA (binOp .add .num t35 (.int .i64 1)) h fun t53 h =>
   N [shape8'_0, t53] h) fun J_19 =>
  valA (iaA 2 t33 t35) h fun t38 h =>
  valA (ldA h (some 2) t38) h fun t39 h =>
  newA h [(.int .i64 0), (.int .i64 0)] 60 (fun b => .ptr b 0) fun l10 h =>
  memA (stA h 2 l10 t39) .undef fun _ h =>
  valA (nilcA t21) h fun t42 h =>
  valA (faA 1 t42) h fun t43 h =>
  valA (ldA h none t43) h fun t44 h =>
  valA (lenA false t44) h fun t45 h =>
  valA (binOp .lss .num t35 t45) h fun t46 h =>
  whenA t46 true (fun K => valA (faA 0 l10) h K) h fun t48 h =>
  whenA t46 true (fun K => valA (ldA h none t48) h K) h fun t49 h =>
  whenA t46 true (fun K => valA (binOp .eql .num t49 (.int .i64 2)) h K) h fun t50 h =>
  valA (pickA t46 t50 (.bool false)) h fun t51 h =>
  condA t51
   (J_19 t35 h)
   (J_19 shape8 h))
   (J shape8 h)) [(.int .i64 (-1)), (.int .i64 0)] h)
theorem she26 (C : CallA) (c0 n1 : AV) (h : H) (R : AV → H → Prop) : wpA C an26 (argE [c0, n1]) h (outA [(.tmp 4)] R) = sh26 C c0 n1 h R := by kernel_rfl
/-! bellows/bellowslaw03.GcSame -/
def an27 : ACode :=
 (.seq (.reg 0 [] [] [sD 1 (.bx none 114 (.t 0)),
 sD 2 (.mv (.c (.bool false)))])
 (.seq (.reg 0 [] [] [sD 10 (.ld (some 3) (.t 1)),
 sD 11 (.call 89 [(.t 10)]),
 sD 9 (.mv (.t 11)),
 sD 12 (.ext (.t 9) 0),
 sD 13 (.ext (.t 9) 1),
 sD 14 (.ext (.t 9) 2),
 sD 3 (.mv (.t 12)),
 sD 4 (.mv (.t 13)),
 sD 5 (.mv (.t 14))])
 (.seq (.seq (.reg 0 [] [] [sD 15 (.mv (.t 3)),
 sD 16 (.bin .eql .ptr (.t 15) (.c .nilp)),
 sD 17 (.mv (.t 16)),
 sG 18 17 false (.mv (.t 4)),
 sG 19 17 false (.mv (.t 5)),
 sG 20 17 false (.call 90 [(.t 18), (.t 19)]),
 sG 21 17 false (.un .not (.t 20)),
 sD 22 (.pick (.t 17) (.c (.bool true)) (.t 21))])
 (.cond (.t 22) (.seq (.reg 0 [] [] [sD 23 (.call 86 []),
 sD 2 (.mv (.t 23))])
 .ret)
 .skip))
 (.seq (.reg 0 [] [] [sD 24 (.mv (.t 3)),
 sD 25 (.mv (.t 5)),
 sD 26 (.call 94 [(.t 24), (.t 25)]),
 sD 6 (.mv (.t 26))])
 (.seq (.reg 0 [] [] [sD 28 (.mv (.t 3)),
 sD 29 (.mv (.t 5)),
 sD 30 (.call 84 [(.t 28), (.t 29)]),
 sD 27 (.mv (.t 30)),
 sD 31 (.ext (.t 27) 0),
 sD 32 (.ext (.t 27) 1),
 sD 7 (.mv (.t 31)),
 sD 8 (.mv (.t 32))])
 (.seq (.reg 0 [] [] [sD 33 (.mv (.t 8)),
 sD 34 (.bin .eql .num (.t 33) (.c (.int .i64 0))),
 sD 35 (.mv (.t 34)),
 sG 36 35 true (.mv (.t 6)),
 sG 37 35 true (.mv (.t 3)),
 sG 38 35 true (.mv (.t 7)),
 sG 39 35 true (.call 94 [(.t 37), (.t 38)]),
 sG 40 35 true (.call 92 [(.t 36), (.t 39)]),
 sD 41 (.pick (.t 35) (.t 40) (.c (.bool false))),
 sD 42 (.mv (.t 41)),
 sG 43 42 true (.call 86 []),
 sD 44 (.pick (.t 42) (.t 43) (.c (.bool false))),
 sD 2 (.mv (.t 44))])
 .ret))))))
def fn27 : IFun := ⟨45, [(.tmp 2)], an27.erase⟩
theorem ok27 : okFun Try.prog 27 fn27 = true := by kernel_rfl
theorem oka27 : okA fn27.ntmps fn27.results an27 = true := by kernel_rfl
def sh27 (C : CallA) (c0 : AV) (h : H) (R : AV → H → Prop) : Prop :=
 newA h (AV.cells c0) 114 (fun b => .ptr b 0) fun c1 h =>
 valA (ldA h (some 3) c1) h fun t10 h =>
 C 89 [t10] h fun t11 h =>
 valA (extA t11 0) h fun t12 h =>
 valA (extA t11 1) h fun t13 h =>
 valA (extA t11 2) h fun t14 h =>
 valA (binOp .eql .ptr t12 .nilp) h fun t16 h =>
 whenA t16 false (fun K => K t13 h) h fun t18 h =>
 whenA t16 false (fun K => K t14 h) h fun t19 h =>
 whenA t16 false (fun K => C 90 [t18, t19] h K) h fun t20 h =>
 whenA t16 false (fun K => valA (unOp .not t20) h K) h fun t21 h =>
 valA (pickA t16 (.bool true) t21) h fun t22 h =>
 condA t22
  (C 86 [] h fun t23 h =>
  R t23 h)
  (C 94 [t12, t14] h fun t26 h =>
 C 84 [t12, t14] h fun t30 h =>
 valA (extA t30 0) h fun t31 h =>
 valA (extA t30 1) h fun t32 h =>
 valA (binOp .eql .num t32 (.int .i64 0)) h fun t34 h =>
 whenA t34 true (fun K => K t26 h) h fun t36 h =>
 whenA t34 true (fun K => K t12 h) h fun t37 h =>
 whenA t34 true (fun K => K t31 h) h fun t38 h =>
 whenA t34 true (fun K => C 94 [t37, t38] h K) h fun t39 h =>
 whenA t34 true (fun K => C 92 [t36, t39] h K) h fun t40 h =>
 valA (pickA t34 t40 (.bool false)) h fun t41 h =>
 whenA t41 true (fun K => C 86 [] h K) h fun t43 h =>
 valA (pickA t41 t43 (.bool false)) h fun t44 h =>
 R t44 h)
theorem she27 (C : CallA) (c0 : AV) (h : H) (R : AV → H → Prop) : wpA C an27 (argE [c0]) h (outA [(.tmp 2)] R) = sh27 C c0 h R := by kernel_rfl
/-! bellows/word.Mul -/
def an28 : ACode :=
 (.seq (.reg 0 [] [] [sD 4 (.mv (.c (.int .i64 0)))])
 (.seq (.reg 0 [] [] [sD 5 (.mv (.t 0)),
 sD 6 (.mv (.t 1)),
 sD 7 (.bin .mul .num (.t 5) (.t 6)),
 sD 8 (.call 40 [(.t 7)]),
 sD 4 (.mv (.t 8))])
 .ret))
def fn28 : IFun := ⟨9, [(.tmp 4)], an28.erase⟩
theorem ok28 : okFun Try.prog 28 fn28 = true := by kernel_rfl
theorem oka28 : okA fn28.ntmps fn28.results an28 = true := by kernel_rfl
def sh28 (C : CallA) (a0 b1 : AV) (h : H) (R : AV → H → Prop) : Prop :=
 valA (binOp .mul .num a0 b1) h fun t7 h =>
 C 40 [t7] h fun t8 h =>
 R t8 h
theorem she28 (C : CallA) (a0 b1 : AV) (h : H) (R : AV → H → Prop) : wpA C an28 (argE [a0, b1]) h (outA [(.tmp 4)] R) = sh28 C a0 b1 h R := by kernel_rfl
/-! bellows/bellowsref01.Product -/
def an29 : ACode :=
 (.seq (.reg 0 [] [] [sD 4 (.mv (.c (.int .i64 0)))])
 (.seq (.reg 0 [] [] [sD 7 (.mv (.t 0)),
 sD 8 (.call 95 [(.t 7)]),
 sD 0 (.mv (.t 8))])
 (.seq (.reg 0 [] [] [sD 9 (.mv (.t 1)),
 sD 10 (.call 95 [(.t 9)]),
 sD 1 (.mv (.t 10))])
 (.seq (.reg 0 [] [] [sD 5 (.mv (.c (.int .i64 0)))])
 (.seq (.reg 0 [] [] [sD 11 (.mv (.t 1)),
 sD 12 (.bin .lss .num (.t 11) (.c (.int .i64 0))),
 sD 6 (.mv (.t 12))])
 (.seq (.block 0 (.loop [0, 1, 5] 99 (.seq (.seq (.reg 0 [] [] [sD 13 (.mv (.t 1)),
 sD 14 (.bin .neq .num (.t 13) (.c (.int .i64 0)))])
 (.cond (.t 14) .skip
 (.exit 0)))
 (.block 1 (.seq (.seq (.reg 0 [] [] [sD 15 (.mv (.t 1)),
 sD 16 (.bin .rem .num (.t 15) (.c (.int .i64 2))),
 sD 17 (.bin .neq .num (.t 16) (.c (.int .i64 0)))])
 (.cond (.t 17) (.reg 0 [] [] [sD 18 (.mv (.t 5)),
 sD 19 (.mv (.t 0)),
 sD 20 (.call 96 [(.t 18), (.t 19)]),
 sD 5 (.mv (.t 20))])
 .skip))
 (.seq (.reg 0 [] [] [sD 21 (.mv (.t 0)),
 sD 22 (.mv (.t 0)),
 sD 23 (.call 96 [(.t 21), (.t 22)]),
 sD 0 (.mv (.t 23))])
 (.reg 0 [] [] [sD 24 (.mv (.t 1)),
 sD 25 (.bin .quo .num (.t 24) (.c (.int .i64 2))),
 sD 1 (.mv (.t 25))])))))))
 (.seq (.seq (.reg 0 [] [] [sD 26 (.mv (.t 6))])
 (.cond (.t 26) (.seq (.reg 0 [] [] [sD 27 (.mv (.t 5)),
 sD 28 (.un .neg (.t 27)),
 sD 29 (.call 95 [(.t 28)]),
 sD 4 (.mv (.t 29))])
 .ret)
 .skip))
 (.seq (.reg 0 [] [] [sD 30 (.mv (.t 5)),
 sD 4 (.mv (.t 30))])
 .ret))))))))
def fn29 : IFun := ⟨31, [(.tmp 4)], an29.erase⟩
theorem ok29 : okFun Try.prog 29 fn29 = true := by kernel_rfl
theorem oka29 : okA fn29.ntmps fn29.results an29 = true := by kernel_rfl
def sh29 (C : CallA) (a0 b1 : AV) (h : H) (R : AV → H → Prop) : Prop :=
 C 95 [a0] h fun t8 h =>
 C 95 [b1] h fun t10 h =>
 valA (binOp .lss .num t10 (.int .i64 0)) h fun t12 h =>
 joinA (fun (out5' : AV) (h : H) =>
  condA t12
   (valA (unOp .neg out5') h fun t28 h =>
   C 95 [t28] h fun t29 h =>
   R t29 h)
   (R out5' h)) fun J =>
 loopA (fun N l h => argA l 0 fun a0_0 => argA l 1 fun b1_1 => argA l 2 fun out5 => 
  valA (binOp .neq .num b1_1 (.int .i64 0)) h fun t14 h =>
  condA t14
   (joinA (fun (out5'_2 : AV) (h : H) =>
   C 96 [a0_0, a0_0] h fun t23 h =>
   valA (binOp .quo .num b1_1 (.int .i64 2)) h fun t25 h =>
   N [t23, t25, out5'_2] h) fun J_9 =>
  valA (binOp .rem .num b1_1 (.int .i64 2)) h fun t16 h =>
  valA (binOp .neq .num t16 (.int .i64 0)) h fun t17 h =>
  condA t17
   (C 96 [out5, a0_0] h fun t20 h =>
   J_9 t20 h)
   (J_9 out5 h))
   (J out5 h)) [t8, t10, (.int .i64 0)] h
theorem she29 (C : CallA) (a0 b1 : AV) (h : H) (R : AV → H → Prop) : wpA C an29 (argE [a0, b1]) h (outA [(.tmp 4)] R) = sh29 C a0 b1 h R := by kernel_rfl
/-! bellows/bellowslaw01.lives -/
def an30 : ACode :=
 (.seq (.reg 0 [] [] [sD 0 (.mv (.c (.bool false)))])
 (.seq (.reg 0 [] [] [sD 11 (.call 97 [(.c (.int .i64 (-7))), (.c (.int .i64 2))]),
 sD 10 (.mv (.t 11)),
 sD 12 (.ext (.t 10) 0),
 sD 13 (.ext (.t 10) 1),
 sD 1 (.mv (.t 12)),
 sD 2 (.mv (.t 13))])
 (.seq (.reg 0 [] [] [sD 15 (.call 98 [(.c (.int .i64 (-7))), (.c (.int .i64 2))]),
 sD 14 (.mv (.t 15)),
 sD 16 (.ext (.t 14) 0),
 sD 17 (.ext (.t 14) 1),
 sD 3 (.mv (.t 16)),
 sD 4 (.mv (.t 17))])
 (.seq (.reg 0 [] [] [sD 19 (.call 97 [(.c (.int .i64 1)), (.c (.int .i64 0))]),
 sD 18 (.mv (.t 19)),
 sD 20 (.ext (.t 18) 0),
 sD 21 (.ext (.t 18) 1),
 sD 5 (.mv (.t 20)),
 sD 6 (.mv (.t 21))])
 (.seq (.reg 0 [] [] [sD 23 (.mksl none 5 [(.int .u8 0), (.int .u8 0)] 2 [(0, 1, (.c (.int .u8 128))), (1, 1, (.c (.int .u8 1)))]),
 sD 24 (.call 44 [(.t 23), (.c (.int .i64 0))]),
 sD 22 (.mv (.t 24)),
 sD 25 (.ext (.t 22) 0),
 sD 26 (.ext (.t 22) 1),
 sD 27 (.ext (.t 22) 2),
 sD 7 (.mv (.t 25)),
 sD 8 (.mv (.t 26)),
 sD 9 (.mv (.t 27))])
 (.seq (.reg 0 [] [] [sD 28 (.mv (.t 2)),
 sD 29 (.mv (.t 28)),
 sG 30 29 true (.mv (.t 4)),
 sD 31 (.pick (.t 29) (.t 30) (.c (.bool false))),
 sD 32 (.mv (.t 31)),
 sG 33 32 true (.mv (.t 6)),
 sG 34 32 true (.un .not (.t 33)),
 sD 35 (.pick (.t 32) (.t 34) (.c (.bool false))),
 sD 36 (.mv (.t 35)),
 sG 37 36 true (.mv (.t 9)),
 sD 38 (.pick (.t 36) (.t 37) (.c (.bool false))),
 sD 39 (.mv (.t 38)),
 sG 40 39 true (.mv (.t 1)),
 sG 41 39 true (.bin .eql .num (.t 40) (.c (.int .i64 (-4)))),
 sD 42 (.pick (.t 39) (.t 41) (.c (.bool false))),
 sD 43 (.mv (.t 42)),
 sG 44 43 true (.mv (.t 3)),
 sG 45 43 true (.bin .eql .num (.t 44) (.c (.int .i64 1))),
 sD 46 (.pick (.t 43) (.t 45) (.c (.bool false))),
 sD 47 (.mv (.t 46)),
 sG 48 47 true (.mv (.t 7)),
 sG 49 47 true (.bin .eql .num (.t 48) (.c (.int .i64 64))),
 sD 50 (.pick (.t 47) (.t 49) (.c (.bool false))),
 sD 51 (.mv (.t 50)),
 sG 52 51 true (.mv (.t 8)),
 sG 53 51 true (.bin .eql .num (.t 52) (.c (.int .i64 2))),
 sD 54 (.pick (.t 51) (.t 53) (.c (.bool false))),
 sD 55 (.mv (.t 54)),
 sG 56 55 true (.call 83 [(.c (.int .i64 5))]),
 sG 57 55 true (.call 99 [(.t 56)]),
 sG 58 55 true (.bin .eql .num (.t 57) (.c (.int .i64 5))),
 sD 59 (.pick (.t 55) (.t 58) (.c (.bool false))),
 sD 60 (.mv (.t 59)),
 sG 61 60 true (.call 40 [(.c (.int .i64 4611686018427387904))]),
 sG 62 60 true (.bin .eql .num (.t 61) (.c (.int .i64 (-4611686018427387904)))),
 sD 63 (.pick (.t 60) (.t 62) (.c (.bool false))),
 sD 64 (.mv (.t 63)),
 sG 65 64 true (.call 31 [(.c (.int .i64 3)), (.c (.int .i64 7))]),
 sG 66 64 true (.call 35 [(.t 65)]),
 sG 67 64 true (.bin .eql .num (.t 66) (.c (.int .i64 7))),
 sD 68 (.pick (.t 64) (.t 67) (.c (.bool false))),
 sD 0 (.mv (.t 68))])
 .ret))))))
def fn30 : IFun := ⟨69, [(.tmp 0)], an30.erase⟩
theorem ok30 : okFun Try.prog 30 fn30 = true := by kernel_rfl
theorem oka30 : okA fn30.ntmps fn30.results an30 = true := by kernel_rfl
def sh30 (C : CallA) (h : H) (R : AV → H → Prop) : Prop :=
 C 97 [(.int .i64 (-7)), (.int .i64 2)] h fun t11 h =>
 valA (extA t11 0) h fun t12 h =>
 valA (extA t11 1) h fun t13 h =>
 C 98 [(.int .i64 (-7)), (.int .i64 2)] h fun t15 h =>
 valA (extA t15 0) h fun t16 h =>
 valA (extA t15 1) h fun t17 h =>
 C 97 [(.int .i64 1), (.int .i64 0)] h fun t19 h =>
 valA (extA t19 0) h fun t20 h =>
 valA (extA t19 1) h fun t21 h =>
 mkslA h 5 2 (fillV [(.int .u8 0), (.int .u8 0)] [(0, 1, (.int .u8 128)), (1, 1, (.int .u8 1))]) fun t23 h =>
 C 44 [t23, (.int .i64 0)] h fun t24 h =>
 valA (extA t24 0) h fun t25 h =>
 valA (extA t24 1) h fun t26 h =>
 valA (extA t24 2) h fun t27 h =>
 whenA t13 true (fun K => K t17 h) h fun t30 h =>
 valA (pickA t13 t30 (.bool false)) h fun t31 h =>
 whenA t31 true (fun K => K t21 h) h fun t33 h =>
 whenA t31 true (fun K => valA (unOp .not t33) h K) h fun t34 h =>
 valA (pickA t31 t34 (.bool false)) h fun t35 h =>
 whenA t35 true (fun K => K t27 h) h fun t37 h =>
 valA (pickA t35 t37 (.bool false)) h fun t38 h =>
 whenA t38 true (fun K => K t12 h) h fun t40 h =>
 whenA t38 true (fun K => valA (binOp .eql .num t40 (.int .i64 (-4))) h K) h fun t41 h =>
 valA (pickA t38 t41 (.bool false)) h fun t42 h =>
 whenA t42 true (fun K => K t16 h) h fun t44 h =>
 whenA t42 true (fun K => valA (binOp .eql .num t44 (.int .i64 1)) h K) h fun t45 h =>
 valA (pickA t42 t45 (.bool false)) h fun t46 h =>
 whenA t46 true (fun K => K t25 h) h fun t48 h =>
 whenA t46 true (fun K => valA (binOp .eql .num t48 (.int .i64 64)) h K) h fun t49 h =>
 valA (pickA t46 t49 (.bool false)) h fun t50 h =>
 whenA t50 true (fun K => K t26 h) h fun t52 h =>
 whenA t50 true (fun K => valA (binOp .eql .num t52 (.int .i64 2)) h K) h fun t53 h =>
 valA (pickA t50 t53 (.bool false)) h fun t54 h =>
 whenA t54 true (fun K => C 83 [(.int .i64 5)] h K) h fun t56 h =>
 whenA t54 true (fun K => C 99 [t56] h K) h fun t57 h =>
 whenA t54 true (fun K => valA (binOp .eql .num t57 (.int .i64 5)) h K) h fun t58 h =>
 valA (pickA t54 t58 (.bool false)) h fun t59 h =>
 whenA t59 true (fun K => C 40 [(.int .i64 4611686018427387904)] h K) h fun t61 h =>
 whenA t59 true (fun K => valA (binOp .eql .num t61 (.int .i64 (-4611686018427387904))) h K) h fun t62 h =>
 valA (pickA t59 t62 (.bool false)) h fun t63 h =>
 whenA t63 true (fun K => C 31 [(.int .i64 3), (.int .i64 7)] h K) h fun t65 h =>
 whenA t63 true (fun K => C 35 [t65] h K) h fun t66 h =>
 whenA t63 true (fun K => valA (binOp .eql .num t66 (.int .i64 7)) h K) h fun t67 h =>
 valA (pickA t63 t67 (.bool false)) h fun t68 h =>
 R t68 h
theorem she30 (C : CallA) (h : H) (R : AV → H → Prop) : wpA C an30 (argE []) h (outA [(.tmp 0)] R) = sh30 C h R := by kernel_rfl
/-! bellows/word.Head -/
def an31 : ACode :=
 (.seq (.reg 0 [] [] [sD 4 (.mv (.c (.int .u64 0)))])
 (.seq (.reg 0 [] [] [sD 5 (.mv (.t 0)),
 sD 6 (.cv none (.toInt .u64) (.t 5)),
 sD 7 (.bin .and .num (.t 6) (.c (.int .u64 1048575))),
 sD 8 (.bin .shl .num (.t 7) (.c (.int .u64 1))),
 sD 9 (.mv (.t 1)),
 sD 10 (.cv none (.toInt .u64) (.t 9)),
 sD 11 (.bin .and .num (.t 10) (.c (.int .u64 1048575))),
 sD 12 (.bin .shl .num (.t 11) (.c (.int .u64 21))),
 sD 13 (.bin .or .num (.t 8) (.t 12)),
 sD 14 (.bin .or .num (.t 13) (.c (.int .u64 1))),
 sD 4 (.mv (.t 14))])
 .ret))
def fn31 : IFun := ⟨15, [(.tmp 4)], an31.erase⟩
theorem ok31 : okFun Try.prog 31 fn31 = true := by kernel_rfl
theorem oka31 : okA fn31.ntmps fn31.results an31 = true := by kernel_rfl
def sh31 (C : CallA) (shape0 n1 : AV) (h : H) (R : AV → H → Prop) : Prop :=
 valA (cvA .u64 shape0) h fun t6 h =>
 valA (binOp .and .num t6 (.int .u64 1048575)) h fun t7 h =>
 valA (binOp .shl .num t7 (.int .u64 1)) h fun t8 h =>
 valA (cvA .u64 n1) h fun t10 h =>
 valA (binOp .and .num t10 (.int .u64 1048575)) h fun t11 h =>
 valA (binOp .shl .num t11 (.int .u64 21)) h fun t12 h =>
 valA (binOp .or .num t8 t12) h fun t13 h =>
 valA (binOp .or .num t13 (.int .u64 1)) h fun t14 h =>
 R t14 h
theorem she31 (C : CallA) (shape0 n1 : AV) (h : H) (R : AV → H → Prop) : wpA C an31 (argE [shape0, n1]) h (outA [(.tmp 4)] R) = sh31 C shape0 n1 h R := by kernel_rfl
/-! bellows/bellowsref01.Head -/
def an32 : ACode :=
 (.seq (.reg 0 [] [] [sD 4 (.mv (.c (.int .u64 0)))])
 (.seq (.reg 0 [] [] [sD 5 (.mv (.t 0)),
 sD 6 (.cv none (.toInt .u64) (.t 5)),
 sD 7 (.call 42 [(.c (.int .u64 1)), (.c (.int .i64 1)), (.c (.int .i64 20)), (.t 6)]),
 sD 8 (.mv (.t 1)),
 sD 9 (.cv none (.toInt .u64) (.t 8)),
 sD 10 (.call 42 [(.t 7), (.c (.int .i64 21)), (.c (.int .i64 20)), (.t 9)]),
 sD 4 (.mv (.t 10))])
 .ret))
def fn32 : IFun := ⟨11, [(.tmp 4)], an32.erase⟩
theorem ok32 : okFun Try.prog 32 fn32 = true := by kernel_rfl
theorem oka32 : okA fn32.ntmps fn32.results an32 = true := by kernel_rfl
def sh32 (C : CallA) (shape0 n1 : AV) (h : H) (R : AV → H → Prop) : Prop :=
 valA (cvA .u64 shape0) h fun t6 h =>
 C 42 [(.int .u64 1), (.int .i64 1), (.int .i64 20), t6] h fun t7 h =>
 valA (cvA .u64 n1) h fun t9 h =>
 C 42 [t7, (.int .i64 21), (.int .i64 20), t9] h fun t10 h =>
 R t10 h
theorem she32 (C : CallA) (shape0 n1 : AV) (h : H) (R : AV → H → Prop) : wpA C an32 (argE [shape0, n1]) h (outA [(.tmp 4)] R) = sh32 C shape0 n1 h R := by kernel_rfl
/-! bellows/word.Shape -/
def an33 : ACode :=
 (.seq (.reg 0 [] [] [sD 2 (.mv (.c (.int .i64 0)))])
 (.seq (.reg 0 [] [] [sD 3 (.mv (.t 0)),
 sD 4 (.bin .shr .num (.t 3) (.c (.int .u64 1))),
 sD 5 (.bin .and .num (.t 4) (.c (.int .u64 1048575))),
 sD 6 (.cv none (.toInt .i64) (.t 5)),
 sD 2 (.mv (.t 6))])
 .ret))
def fn33 : IFun := ⟨7, [(.tmp 2)], an33.erase⟩
theorem ok33 : okFun Try.prog 33 fn33 = true := by kernel_rfl
theorem oka33 : okA fn33.ntmps fn33.results an33 = true := by kernel_rfl
def sh33 (C : CallA) (h0 : AV) (h : H) (R : AV → H → Prop) : Prop :=
 valA (binOp .shr .num h0 (.int .u64 1)) h fun t4 h =>
 valA (binOp .and .num t4 (.int .u64 1048575)) h fun t5 h =>
 valA (cvA .i64 t5) h fun t6 h =>
 R t6 h
theorem she33 (C : CallA) (h0 : AV) (h : H) (R : AV → H → Prop) : wpA C an33 (argE [h0]) h (outA [(.tmp 2)] R) = sh33 C h0 h R := by kernel_rfl
/-! bellows/bellowsref01.Field -/
def an34 : ACode :=
 (.seq (.reg 0 [] [] [sD 6 (.mv (.c (.int .u64 0)))])
 (.seq (.reg 0 [0, 1, 2, 3, 4, 5, 6, 7] [[], [], [1], [1, 2, 0], [], [1, 2, 4], [4, 5, 0, 2, 1, 3], [3, 1, 2, 0, 5, 4, 6]] [sD 7 (.mv (.t 0)),
 sD 8 (.mv (.t 1)),
 sD 9 (.call 100 [(.t 8)]),
 sD 10 (.bin .quo .num (.t 7) (.t 9)),
 sD 11 (.mv (.t 2)),
 sD 12 (.call 100 [(.t 11)]),
 sD 13 (.bin .rem .num (.t 10) (.t 12)),
 sD 6 (.mv (.t 13))])
 .ret))
def fn34 : IFun := ⟨14, [(.tmp 6)], an34.erase⟩
theorem ok34 : okFun Try.prog 34 fn34 = true := by kernel_rfl
theorem oka34 : okA fn34.ntmps fn34.results an34 = true := by kernel_rfl
def sh34 (C : CallA) (h0 at1 bits2 : AV) (h : H) (R : AV → H → Prop) : Prop :=
 C 100 [at1] h fun t9 h =>
 valA (binOp .quo .num h0 t9) h fun t10 h =>
 C 100 [bits2] h fun t12 h =>
 valA (binOp .rem .num t10 t12) h fun t13 h =>
 R t13 h
theorem she34 (C : CallA) (h0 at1 bits2 : AV) (h : H) (R : AV → H → Prop) : wpA C an34 (argE [h0, at1, bits2]) h (outA [(.tmp 6)] R) = sh34 C h0 at1 bits2 h R := by kernel_rfl
/-! bellows/word.Len -/
def an35 : ACode :=
 (.seq (.reg 0 [] [] [sD 2 (.mv (.c (.int .i64 0)))])
 (.seq (.reg 0 [] [] [sD 3 (.mv (.t 0)),
 sD 4 (.bin .shr .num (.t 3) (.c (.int .u64 21))),
 sD 5 (.bin .and .num (.t 4) (.c (.int .u64 1048575))),
 sD 6 (.cv none (.toInt .i64) (.t 5)),
 sD 2 (.mv (.t 6))])
 .ret))
def fn35 : IFun := ⟨7, [(.tmp 2)], an35.erase⟩
theorem ok35 : okFun Try.prog 35 fn35 = true := by kernel_rfl
theorem oka35 : okA fn35.ntmps fn35.results an35 = true := by kernel_rfl
def sh35 (C : CallA) (h0 : AV) (h : H) (R : AV → H → Prop) : Prop :=
 valA (binOp .shr .num h0 (.int .u64 21)) h fun t4 h =>
 valA (binOp .and .num t4 (.int .u64 1048575)) h fun t5 h =>
 valA (cvA .i64 t5) h fun t6 h =>
 R t6 h
theorem she35 (C : CallA) (h0 : AV) (h : H) (R : AV → H → Prop) : wpA C an35 (argE [h0]) h (outA [(.tmp 2)] R) = sh35 C h0 h R := by kernel_rfl
/-! bellows/word.Marked -/
def an36 : ACode :=
 (.seq (.reg 0 [] [] [sD 2 (.mv (.c (.bool false)))])
 (.seq (.reg 0 [] [] [sD 3 (.mv (.t 0)),
 sD 4 (.bin .shr .num (.t 3) (.c (.int .u64 41))),
 sD 5 (.bin .and .num (.t 4) (.c (.int .u64 1))),
 sD 6 (.bin .eql .num (.t 5) (.c (.int .u64 1))),
 sD 2 (.mv (.t 6))])
 .ret))
def fn36 : IFun := ⟨7, [(.tmp 2)], an36.erase⟩
theorem ok36 : okFun Try.prog 36 fn36 = true := by kernel_rfl
theorem oka36 : okA fn36.ntmps fn36.results an36 = true := by kernel_rfl
def sh36 (C : CallA) (h0 : AV) (h : H) (R : AV → H → Prop) : Prop :=
 valA (binOp .shr .num h0 (.int .u64 41)) h fun t4 h =>
 valA (binOp .and .num t4 (.int .u64 1)) h fun t5 h =>
 valA (binOp .eql .num t5 (.int .u64 1)) h fun t6 h =>
 R t6 h
theorem she36 (C : CallA) (h0 : AV) (h : H) (R : AV → H → Prop) : wpA C an36 (argE [h0]) h (outA [(.tmp 2)] R) = sh36 C h0 h R := by kernel_rfl
/-! bellows/word.Turned -/
def an37 : ACode :=
 (.seq (.reg 0 [] [] [sD 2 (.mv (.c (.int .i64 0)))])
 (.seq (.reg 0 [] [] [sD 3 (.mv (.t 0)),
 sD 4 (.bin .shr .num (.t 3) (.c (.int .u64 42))),
 sD 5 (.bin .and .num (.t 4) (.c (.int .u64 1048575))),
 sD 6 (.cv none (.toInt .i64) (.t 5)),
 sD 2 (.mv (.t 6))])
 .ret))
def fn37 : IFun := ⟨7, [(.tmp 2)], an37.erase⟩
theorem ok37 : okFun Try.prog 37 fn37 = true := by kernel_rfl
theorem oka37 : okA fn37.ntmps fn37.results an37 = true := by kernel_rfl
def sh37 (C : CallA) (h0 : AV) (h : H) (R : AV → H → Prop) : Prop :=
 valA (binOp .shr .num h0 (.int .u64 42)) h fun t4 h =>
 valA (binOp .and .num t4 (.int .u64 1048575)) h fun t5 h =>
 valA (cvA .i64 t5) h fun t6 h =>
 R t6 h
theorem she37 (C : CallA) (h0 : AV) (h : H) (R : AV → H → Prop) : wpA C an37 (argE [h0]) h (outA [(.tmp 2)] R) = sh37 C h0 h R := by kernel_rfl
/-! bellows/word.Add -/
def an38 : ACode :=
 (.seq (.reg 0 [] [] [sD 4 (.mv (.c (.int .i64 0)))])
 (.seq (.reg 0 [] [] [sD 5 (.mv (.t 0)),
 sD 6 (.mv (.t 1)),
 sD 7 (.bin .add .num (.t 5) (.t 6)),
 sD 8 (.call 40 [(.t 7)]),
 sD 4 (.mv (.t 8))])
 .ret))
def fn38 : IFun := ⟨9, [(.tmp 4)], an38.erase⟩
theorem ok38 : okFun Try.prog 38 fn38 = true := by kernel_rfl
theorem oka38 : okA fn38.ntmps fn38.results an38 = true := by kernel_rfl
def sh38 (C : CallA) (a0 b1 : AV) (h : H) (R : AV → H → Prop) : Prop :=
 valA (binOp .add .num a0 b1) h fun t7 h =>
 C 40 [t7] h fun t8 h =>
 R t8 h
theorem she38 (C : CallA) (a0 b1 : AV) (h : H) (R : AV → H → Prop) : wpA C an38 (argE [a0, b1]) h (outA [(.tmp 4)] R) = sh38 C a0 b1 h R := by kernel_rfl
/-! bellows/word.Sub -/
def an39 : ACode :=
 (.seq (.reg 0 [] [] [sD 4 (.mv (.c (.int .i64 0)))])
 (.seq (.reg 0 [] [] [sD 5 (.mv (.t 0)),
 sD 6 (.mv (.t 1)),
 sD 7 (.bin .sub .num (.t 5) (.t 6)),
 sD 8 (.call 40 [(.t 7)]),
 sD 4 (.mv (.t 8))])
 .ret))
def fn39 : IFun := ⟨9, [(.tmp 4)], an39.erase⟩
theorem ok39 : okFun Try.prog 39 fn39 = true := by kernel_rfl
theorem oka39 : okA fn39.ntmps fn39.results an39 = true := by kernel_rfl
def sh39 (C : CallA) (a0 b1 : AV) (h : H) (R : AV → H → Prop) : Prop :=
 valA (binOp .sub .num a0 b1) h fun t7 h =>
 C 40 [t7] h fun t8 h =>
 R t8 h
theorem she39 (C : CallA) (a0 b1 : AV) (h : H) (R : AV → H → Prop) : wpA C an39 (argE [a0, b1]) h (outA [(.tmp 4)] R) = sh39 C a0 b1 h R := by kernel_rfl
/-! bellows/word.Wrap -/
def an40 : ACode :=
 (.seq (.reg 0 [] [] [sD 2 (.mv (.c (.int .i64 0)))])
 (.seq (.reg 0 [] [] [sD 3 (.mv (.t 0)),
 sD 4 (.bin .shl .num (.t 3) (.c (.int .u64 1))),
 sD 5 (.bin .shr .num (.t 4) (.c (.int .u64 1))),
 sD 2 (.mv (.t 5))])
 .ret))
def fn40 : IFun := ⟨6, [(.tmp 2)], an40.erase⟩
theorem ok40 : okFun Try.prog 40 fn40 = true := by kernel_rfl
theorem oka40 : okA fn40.ntmps fn40.results an40 = true := by kernel_rfl
def sh40 (C : CallA) (n0 : AV) (h : H) (R : AV → H → Prop) : Prop :=
 valA (binOp .shl .num n0 (.int .u64 1)) h fun t4 h =>
 valA (binOp .shr .num t4 (.int .u64 1)) h fun t5 h =>
 R t5 h
theorem she40 (C : CallA) (n0 : AV) (h : H) (R : AV → H → Prop) : wpA C an40 (argE [n0]) h (outA [(.tmp 2)] R) = sh40 C n0 h R := by kernel_rfl
/-! bellows/word.Mark -/
def an41 : ACode :=
 (.seq (.reg 0 [] [] [sD 4 (.mv (.c (.int .u64 0)))])
 (.seq (.reg 0 [] [] [sD 5 (.mv (.t 0)),
 sD 6 (.bin .andNot .num (.t 5) (.c (.int .u64 2199023255552))),
 sD 0 (.mv (.t 6))])
 (.seq (.seq (.reg 0 [] [] [sD 7 (.mv (.t 1))])
 (.cond (.t 7) (.reg 0 [] [] [sD 8 (.mv (.t 0)),
 sD 9 (.bin .or .num (.t 8) (.c (.int .u64 2199023255552))),
 sD 0 (.mv (.t 9))])
 .skip))
 (.seq (.reg 0 [] [] [sD 10 (.mv (.t 0)),
 sD 4 (.mv (.t 10))])
 .ret))))
def fn41 : IFun := ⟨11, [(.tmp 4)], an41.erase⟩
theorem ok41 : okFun Try.prog 41 fn41 = true := by kernel_rfl
theorem oka41 : okA fn41.ntmps fn41.results an41 = true := by kernel_rfl
def sh41 (C : CallA) (h0 on1 : AV) (h : H) (R : AV → H → Prop) : Prop :=
 valA (binOp .andNot .num h0 (.int .u64 2199023255552)) h fun t6 h =>
 joinA (fun (h0' : AV) (h : H) =>
  R h0' h) fun J =>
 condA on1
  (valA (binOp .or .num t6 (.int .u64 2199023255552)) h fun t9 h =>
  J t9 h)
  (J t6 h)
theorem she41 (C : CallA) (h0 on1 : AV) (h : H) (R : AV → H → Prop) : wpA C an41 (argE [h0, on1]) h (outA [(.tmp 4)] R) = sh41 C h0 on1 h R := by kernel_rfl
/-! bellows/bellowsref01.With -/
def an42 : ACode :=
 (.seq (.reg 0 [] [] [sD 8 (.mv (.c (.int .u64 0)))])
 (.seq (.reg 0 [0, 1, 2, 3, 4, 5, 6, 7, 8, 9, 10, 11, 12, 13, 14, 15, 16, 17] [[], [], [], [], [3, 2, 1], [], [1, 2, 3, 4, 5], [5, 6, 1, 2, 3, 4], [4, 3, 2, 1, 6, 5, 7, 0], [], [], [5, 4, 3, 2, 1, 6, 10], [10, 6, 1, 2, 3, 4, 5, 11, 9], [], [10, 6, 1, 2, 3, 4, 5, 11, 13], [13, 14, 9, 11, 5, 4, 3, 2, 1, 6, 10, 12], [12, 10, 11, 9, 14, 13, 15, 0, 7, 5, 6, 1, 2, 3, 4, 8], [8, 4, 3, 2, 1, 6, 5, 7, 0, 15, 13, 14, 9, 11, 10, 12, 16]] [sD 9 (.mv (.t 0)),
 sD 10 (.mv (.t 0)),
 sD 11 (.mv (.t 1)),
 sD 12 (.mv (.t 2)),
 sD 13 (.call 34 [(.t 10), (.t 11), (.t 12)]),
 sD 14 (.mv (.t 1)),
 sD 15 (.call 100 [(.t 14)]),
 sD 16 (.bin .mul .num (.t 13) (.t 15)),
 sD 17 (.bin .sub .num (.t 9) (.t 16)),
 sD 18 (.mv (.t 3)),
 sD 19 (.mv (.t 2)),
 sD 20 (.call 100 [(.t 19)]),
 sD 21 (.bin .rem .num (.t 18) (.t 20)),
 sD 22 (.mv (.t 1)),
 sD 23 (.call 100 [(.t 22)]),
 sD 24 (.bin .mul .num (.t 21) (.t 23)),
 sD 25 (.bin .add .num (.t 17) (.t 24)),
 sD 8 (.mv (.t 25))])
 .ret))
def fn42 : IFun := ⟨26, [(.tmp 8)], an42.erase⟩
theorem ok42 : okFun Try.prog 42 fn42 = true := by kernel_rfl
theorem oka42 : okA fn42.ntmps fn42.results an42 = true := by kernel_rfl
def sh42 (C : CallA) (h0 at1 bits2 x3 : AV) (h : H) (R : AV → H → Prop) : Prop :=
 C 34 [h0, at1, bits2] h fun t13 h =>
 C 100 [at1] h fun t15 h =>
 valA (binOp .mul .num t13 t15) h fun t16 h =>
 valA (binOp .sub .num h0 t16) h fun t17 h =>
 C 100 [bits2] h fun t20 h =>
 valA (binOp .rem .num x3 t20) h fun t21 h =>
 C 100 [at1] h fun t23 h =>
 valA (binOp .mul .num t21 t23) h fun t24 h =>
 valA (binOp .add .num t17 t24) h fun t25 h =>
 R t25 h
theorem she42 (C : CallA) (h0 at1 bits2 x3 : AV) (h : H) (R : AV → H → Prop) : wpA C an42 (argE [h0, at1, bits2, x3]) h (outA [(.tmp 8)] R) = sh42 C h0 at1 bits2 x3 h R := by kernel_rfl
/-! bellows/word.Turn -/
def an43 : ACode :=
 (.seq (.reg 0 [] [] [sD 4 (.mv (.c (.int .u64 0)))])
 (.seq (.reg 0 [] [] [sD 5 (.mv (.t 0)),
 sD 6 (.bin .andNot .num (.t 5) (.c (.int .u64 4611681620380876800))),
 sD 7 (.mv (.t 1)),
 sD 8 (.cv none (.toInt .u64) (.t 7)),
 sD 9 (.bin .and .num (.t 8) (.c (.int .u64 1048575))),
 sD 10 (.bin .shl .num (.t 9) (.c (.int .u64 42))),
 sD 11 (.bin .or .num (.t 6) (.t 10)),
 sD 4 (.mv (.t 11))])
 .ret))
def fn43 : IFun := ⟨12, [(.tmp 4)], an43.erase⟩
theorem ok43 : okFun Try.prog 43 fn43 = true := by kernel_rfl
theorem oka43 : okA fn43.ntmps fn43.results an43 = true := by kernel_rfl
def sh43 (C : CallA) (h0 k1 : AV) (h : H) (R : AV → H → Prop) : Prop :=
 valA (binOp .andNot .num h0 (.int .u64 4611681620380876800)) h fun t6 h =>
 valA (cvA .u64 k1) h fun t8 h =>
 valA (binOp .and .num t8 (.int .u64 1048575)) h fun t9 h =>
 valA (binOp .shl .num t9 (.int .u64 42)) h fun t10 h =>
 valA (binOp .or .num t6 t10) h fun t11 h =>
 R t11 h
theorem she43 (C : CallA) (h0 k1 : AV) (h : H) (R : AV → H → Prop) : wpA C an43 (argE [h0, k1]) h (outA [(.tmp 4)] R) = sh43 C h0 k1 h R := by kernel_rfl
/-! bellows/word.Get -/
def an44 : ACode :=
 (.seq (.reg 0 [] [] [sD 4 (.mv (.c (.int .i64 0))),
 sD 5 (.mv (.c (.int .i64 0))),
 sD 6 (.mv (.c (.bool false)))])
 (.seq (.seq (.reg 0 [] [] [sD 11 (.mv (.t 1)),
 sD 12 (.bin .lss .num (.t 11) (.c (.int .i64 0))),
 sD 13 (.mv (.t 12)),
 sG 14 13 false (.mv (.t 1)),
 sG 15 13 false (.mv (.t 0)),
 sG 16 13 false (.len false (.t 15)),
 sG 17 13 false (.bin .geq .num (.t 14) (.t 16)),
 sD 18 (.pick (.t 13) (.c (.bool true)) (.t 17))])
 (.cond (.t 18) (.seq (.reg 0 [] [] [sD 4 (.mv (.c (.int .i64 0))),
 sD 5 (.mv (.c (.int .i64 0))),
 sD 6 (.mv (.c (.bool false)))])
 .ret)
 .skip))
 (.seq (.reg 0 [] [] [sD 7 (.mv (.c (.int .u64 0)))])
 (.seq (.seq (.reg 0 [] [] [sD 19 (.mv (.t 0)),
 sD 20 (.len false (.t 19)),
 sD 21 (.mv (.t 1)),
 sD 22 (.bin .sub .num (.t 20) (.t 21)),
 sD 23 (.mn [(.c (.int .i64 10)), (.t 22)]),
 sD 24 (.mv (.c (.int .i64 0)))])
 (.block 0 (.loop [7, 24] 25165955 (.seq (.reg 0 [] [] [sD 25 (.bin .lss .num (.t 24) (.t 23))])
 (.seq (.cond (.t 25) .skip
 (.exit 0))
 (.seq (.block 1 (.seq (.reg 0 [] [] [sD 26 (.mv (.t 24)),
 sD 8 (.mv (.t 26))])
 (.seq (.reg 0 [] [] [sD 27 (.mv (.t 0)),
 sD 28 (.mv (.t 1)),
 sD 29 (.mv (.t 8)),
 sD 30 (.bin .add .num (.t 28) (.t 29)),
 sD 31 (.ia none 1 (.t 27) (.t 30)),
 sD 32 (.ld none (.t 31)),
 sD 9 (.mv (.t 32))])
 (.seq (.seq (.reg 0 [] [] [sD 33 (.mv (.t 8)),
 sD 34 (.bin .eql .num (.t 33) (.c (.int .i64 9))),
 sD 35 (.mv (.t 34)),
 sG 36 35 true (.mv (.t 9)),
 sG 37 35 true (.bin .gtr .num (.t 36) (.c (.int .u8 1))),
 sD 38 (.pick (.t 35) (.t 37) (.c (.bool false)))])
 (.cond (.t 38) (.seq (.reg 0 [] [] [sD 4 (.mv (.c (.int .i64 0))),
 sD 5 (.mv (.c (.int .i64 0))),
 sD 6 (.mv (.c (.bool false)))])
 .ret)
 .skip))
 (.seq (.reg 0 [] [] [sD 39 (.mv (.t 7)),
 sD 40 (.mv (.t 9)),
 sD 41 (.bin .and .num (.t 40) (.c (.int .u8 127))),
 sD 42 (.cv none (.toInt .u64) (.t 41)),
 sD 43 (.mv (.t 8)),
 sD 44 (.bin .mul .num (.c (.int .i64 7)) (.t 43)),
 sD 45 (.bin .shl .num (.t 42) (.t 44)),
 sD 46 (.bin .or .num (.t 39) (.t 45)),
 sD 7 (.mv (.t 46))])
 (.seq (.reg 0 [] [] [sD 47 (.mv (.t 9)),
 sD 48 (.bin .lss .num (.t 47) (.c (.int .u8 128)))])
 (.cond (.t 48) (.seq (.seq (.reg 0 [] [] [sD 49 (.mv (.t 9)),
 sD 50 (.bin .eql .num (.t 49) (.c (.int .u8 0))),
 sD 51 (.mv (.t 50)),
 sG 52 51 true (.mv (.t 8)),
 sG 53 51 true (.bin .gtr .num (.t 52) (.c (.int .i64 0))),
 sD 54 (.pick (.t 51) (.t 53) (.c (.bool false)))])
 (.cond (.t 54) (.seq (.reg 0 [] [] [sD 4 (.mv (.c (.int .i64 0))),
 sD 5 (.mv (.c (.int .i64 0))),
 sD 6 (.mv (.c (.bool false)))])
 .ret)
 .skip))
 (.seq (.reg 0 [] [] [sD 55 (.mv (.t 7)),
 sD 56 (.bin .shr .num (.t 55) (.c (.int .u64 1))),
 sD 57 (.cv none (.toInt .i64) (.t 56)),
 sD 10 (.mv (.t 57))])
 (.seq (.seq (.reg 0 [] [] [sD 58 (.mv (.t 7)),
 sD 59 (.bin .and .num (.t 58) (.c (.int .u64 1))),
 sD 60 (.bin .eql .num (.t 59) (.c (.int .u64 1)))])
 (.cond (.t 60) (.reg 0 [] [] [sD 61 (.mv (.t 10)),
 sD 62 (.un .xor (.t 61)),
 sD 10 (.mv (.t 62))])
 .skip))
 (.seq (.reg 0 [] [] [sD 63 (.mv (.t 10)),
 sD 64 (.mv (.t 1)),
 sD 65 (.mv (.t 8)),
 sD 66 (.bin .add .num (.t 64) (.t 65)),
 sD 67 (.bin .add .num (.t 66) (.c (.int .i64 1))),
 sD 4 (.mv (.t 63)),
 sD 5 (.mv (.t 67)),
 sD 6 (.mv (.c (.bool true)))])
 .ret))))
 .skip)))))))
 (.reg 0 [] [] [sD 68 (.bin .add .num (.t 24) (.c (.int .i64 1))),
 sD 24 (.mv (.t 68))])))))))
 (.seq (.reg 0 [] [] [sD 4 (.mv (.c (.int .i64 0))),
 sD 5 (.mv (.c (.int .i64 0))),
 sD 6 (.mv (.c (.bool false)))])
 .ret)))))
def fn44 : IFun := ⟨69, [(.tmp 4), (.tmp 5), (.tmp 6)], an44.erase⟩
theorem ok44 : okFun Try.prog 44 fn44 = true := by kernel_rfl
theorem oka44 : okA fn44.ntmps fn44.results an44 = true := by kernel_rfl
def sh44 (C : CallA) (b0 at1 : AV) (h : H) (R : AV → H → Prop) : Prop :=
 valA (binOp .lss .num at1 (.int .i64 0)) h fun t12 h =>
 whenA t12 false (fun K => K at1 h) h fun t14 h =>
 whenA t12 false (fun K => K b0 h) h fun t15 h =>
 whenA t12 false (fun K => valA (lenA false t15) h K) h fun t16 h =>
 whenA t12 false (fun K => valA (binOp .geq .num t14 t16) h K) h fun t17 h =>
 valA (pickA t12 (.bool true) t17) h fun t18 h =>
 condA t18
  (R (.tup [(.int .i64 0), (.int .i64 0), (.bool false)]) h)
  (joinA (fun (h : H) =>
  R (.tup [(.int .i64 0), (.int .i64 0), (.bool false)]) h) fun J =>
 valA (lenA false b0) h fun t20 h =>
 valA (binOp .sub .num t20 at1) h fun t22 h =>
 valA (mnA [(.int .i64 10), t22]) h fun t23 h =>
 loopA (fun N l h => argA l 0 fun x7 => argA l 1 fun t24 => 
  valA (binOp .lss .num t24 t23) h fun t25 h =>
  condA t25
   (valA (binOp .add .num at1 t24) h fun t30 h =>
  valA (iaA 1 b0 t30) h fun t31 h =>
  valA (ldA h none t31) h fun t32 h =>
  valA (binOp .eql .num t24 (.int .i64 9)) h fun t34 h =>
  whenA t34 true (fun K => K t32 h) h fun t36 h =>
  whenA t34 true (fun K => valA (binOp .gtr .num t36 (.int .u8 1)) h K) h fun t37 h =>
  valA (pickA t34 t37 (.bool false)) h fun t38 h =>
  condA t38
   (R (.tup [(.int .i64 0), (.int .i64 0), (.bool false)]) h)
   (valA (binOp .and .num t32 (.int .u8 127)) h fun t41 h =>
  valA (cvA .u64 t41) h fun t42 h =>
  valA (binOp .mul .num (.int .i64 7) t24) h fun t44 h =>
  valA (binOp .shl .num t42 t44) h fun t45 h =>
  valA (binOp .or .num x7 t45) h fun t46 h =>
  valA (binOp .lss .num t32 (.int .u8 128)) h fun t48 h =>
  condA t48
   (valA (binOp .eql .num t32 (.int .u8 0)) h fun t50 h =>
   whenA t50 true (fun K => K t24 h) h fun t52 h =>
   whenA t50 true (fun K => valA (binOp .gtr .num t52 (.int .i64 0)) h K) h fun t53 h =>
   valA (pickA t50 t53 (.bool false)) h fun t54 h =>
   condA t54
    (R (.tup [(.int .i64 0), (.int .i64 0), (.bool false)]) h)
    (valA (binOp .shr .num t46 (.int .u64 1)) h fun t56 h =>
   valA (cvA .i64 t56) h fun t57 h =>
   joinA (fun (n10'_0 : AV) (h : H) =>
    valA (binOp .add .num at1 t24) h fun t66 h =>
    valA (binOp .add .num t66 (.int .i64 1)) h fun t67 h =>
    R (.tup [n10'_0, t67, (.bool true)]) h) fun J_6 =>
   valA (binOp .and .num t46 (.int .u64 1)) h fun t59 h =>
   valA (binOp .eql .num t59 (.int .u64 1)) h fun t60 h =>
   condA t60
    (valA (unOp .xor t57) h fun t62 h =>
    J_6 t62 h)
    (J_6 t57 h)))
   (valA (binOp .add .num t24 (.int .i64 1)) h fun t68 h =>
  N [t46, t68] h)))
   (J h)) [(.int .u64 0), (.int .i64 0)] h)
theorem she44 (C : CallA) (b0 at1 : AV) (h : H) (R : AV → H → Prop) : wpA C an44 (argE [b0, at1]) h (outA [(.tmp 4), (.tmp 5), (.tmp 6)] R) = sh44 C b0 at1 h R := by kernel_rfl
/-! bellows/bellowsref01.Get -/
def an45 : ACode :=
 (.seq (.reg 0 [] [] [sD 4 (.mv (.c (.int .i64 0))),
 sD 5 (.mv (.c (.int .i64 0))),
 sD 6 (.mv (.c (.bool false)))])
 (.seq (.seq (.reg 0 [] [] [sD 11 (.mv (.t 1)),
 sD 12 (.bin .lss .num (.t 11) (.c (.int .i64 0))),
 sD 13 (.mv (.t 12)),
 sG 14 13 false (.mv (.t 1)),
 sG 15 13 false (.mv (.t 0)),
 sG 16 13 false (.len false (.t 15)),
 sG 17 13 false (.bin .geq .num (.t 14) (.t 16)),
 sD 18 (.pick (.t 13) (.c (.bool true)) (.t 17))])
 (.cond (.t 18) (.seq (.reg 0 [] [] [sD 4 (.mv (.c (.int .i64 0))),
 sD 5 (.mv (.c (.int .i64 0))),
 sD 6 (.mv (.c (.bool false)))])
 .ret)
 .skip))
 (.seq (.reg 0 [] [] [sD 7 (.mv (.c (.int .u64 0)))])
 (.seq (.reg 0 [] [] [sD 8 (.mv (.c (.int .u64 1)))])
 (.seq (.seq (.reg 0 [] [] [sD 19 (.mv (.t 1)),
 sD 9 (.mv (.t 19))])
 (.block 0 (.loop [7, 8, 9] 899 (.seq (.seq (.reg 0 [] [] [sD 20 (.mv (.t 9)),
 sD 21 (.mv (.t 0)),
 sD 22 (.len false (.t 21)),
 sD 23 (.bin .lss .num (.t 20) (.t 22)),
 sD 24 (.mv (.t 23)),
 sG 25 24 true (.mv (.t 9)),
 sG 26 24 true (.mv (.t 1)),
 sG 27 24 true (.bin .add .num (.t 26) (.c (.int .i64 10))),
 sG 28 24 true (.bin .lss .num (.t 25) (.t 27)),
 sD 29 (.pick (.t 24) (.t 28) (.c (.bool false)))])
 (.cond (.t 29) .skip
 (.exit 0)))
 (.seq (.block 1 (.seq (.reg 0 [] [] [sD 32 (.mv (.t 7)),
 sD 33 (.mv (.t 0)),
 sD 34 (.mv (.t 9)),
 sD 35 (.ia none 1 (.t 33) (.t 34)),
 sD 36 (.ld none (.t 35)),
 sD 37 (.bin .rem .num (.t 36) (.c (.int .u8 128))),
 sD 38 (.cv none (.toInt .u64) (.t 37)),
 sD 39 (.mv (.t 8)),
 sD 40 (.bin .mul .num (.t 38) (.t 39)),
 sD 41 (.bin .add .num (.t 32) (.t 40)),
 sD 7 (.mv (.t 41))])
 (.seq (.reg 0 [] [] [sD 42 (.mv (.t 8)),
 sD 43 (.bin .mul .num (.t 42) (.c (.int .u64 128))),
 sD 8 (.mv (.t 43))])
 (.seq (.seq (.reg 0 [] [] [sD 44 (.mv (.t 0)),
 sD 45 (.mv (.t 9)),
 sD 46 (.ia none 1 (.t 44) (.t 45)),
 sD 47 (.ld none (.t 46)),
 sD 48 (.bin .geq .num (.t 47) (.c (.int .u8 128)))])
 (.cond (.t 48) (.exit 1)
 .skip))
 (.seq (.reg 0 [] [] [sD 49 (.mv (.t 7)),
 sD 50 (.bin .quo .num (.t 49) (.c (.int .u64 2))),
 sD 51 (.cv none (.toInt .i64) (.t 50)),
 sD 10 (.mv (.t 51))])
 (.seq (.seq (.reg 0 [] [] [sD 52 (.mv (.t 7)),
 sD 53 (.bin .rem .num (.t 52) (.c (.int .u64 2))),
 sD 54 (.bin .eql .num (.t 53) (.c (.int .u64 1)))])
 (.cond (.t 54) (.reg 0 [] [] [sD 55 (.mv (.t 10)),
 sD 56 (.un .neg (.t 55)),
 sD 57 (.bin .sub .num (.t 56) (.c (.int .i64 1))),
 sD 10 (.mv (.t 57))])
 .skip))
 (.seq (.seq (.reg 0 [0, 3, 4, 5, 6, 7, 8, 1, 2, 9] [[], [0], [0, 1], [], [], [], [5], [5, 6, 4, 3], [3, 4, 6, 5, 7], [7, 5, 6, 4, 3, 8, 1, 0, 2]] [sD 58 (.mv (.t 10)),
 sD 61 (.mv (.t 0)),
 sD 62 (.mv (.t 1)),
 sD 63 (.mv (.t 9)),
 sD 64 (.bin .add .num (.t 63) (.c (.int .i64 1))),
 sD 65 (.sli (.row 1) (.t 61) (some (.t 62)) (some (.t 64)) none),
 sD 66 (.cv none .b2s (.t 65)),
 ⟨(some 59), none, (.call 47 [(.t 58)]), [⟨none, (.cv none .b2s (.t 65)), 66⟩]⟩,
 sD 60 (.cv none .b2s (.t 59)),
 sD 67 (.bin .eql .num (.t 60) (.t 66))])
 (.cond (.t 67) (.seq (.reg 0 [] [] [sD 68 (.mv (.t 10)),
 sD 69 (.mv (.t 9)),
 sD 70 (.bin .add .num (.t 69) (.c (.int .i64 1))),
 sD 4 (.mv (.t 68)),
 sD 5 (.mv (.t 70)),
 sD 6 (.mv (.c (.bool true)))])
 .ret)
 .skip))
 (.seq (.reg 0 [] [] [sD 4 (.mv (.c (.int .i64 0))),
 sD 5 (.mv (.c (.int .i64 0))),
 sD 6 (.mv (.c (.bool false)))])
 .ret))))))))
 (.reg 0 [] [] [sD 30 (.mv (.t 9)),
 sD 31 (.bin .add .num (.t 30) (.c (.int .i64 1))),
 sD 9 (.mv (.t 31))]))))))
 (.seq (.reg 0 [] [] [sD 4 (.mv (.c (.int .i64 0))),
 sD 5 (.mv (.c (.int .i64 0))),
 sD 6 (.mv (.c (.bool false)))])
 .ret))))))
def fn45 : IFun := ⟨71, [(.tmp 4), (.tmp 5), (.tmp 6)], an45.erase⟩
theorem ok45 : okFun Try.prog 45 fn45 = true := by kernel_rfl
theorem oka45 : okA fn45.ntmps fn45.results an45 = true := by kernel_rfl
def sh45 (C : CallA) (b0 at1 : AV) (h : H) (R : AV → H → Prop) : Prop :=
 valA (binOp .lss .num at1 (.int .i64 0)) h fun t12 h =>
 whenA t12 false (fun K => K at1 h) h fun t14 h =>
 whenA t12 false (fun K => K b0 h) h fun t15 h =>
 whenA t12 false (fun K => valA (lenA false t15) h K) h fun t16 h =>
 whenA t12 false (fun K => valA (binOp .geq .num t14 t16) h K) h fun t17 h =>
 valA (pickA t12 (.bool true) t17) h fun t18 h =>
 condA t18
  (R (.tup [(.int .i64 0), (.int .i64 0), (.bool false)]) h)
  (joinA (fun (h : H) =>
  R (.tup [(.int .i64 0), (.int .i64 0), (.bool false)]) h) fun J =>
 loopA (fun N l h => argA l 0 fun x7 => argA l 1 fun unit8 => argA l 2 fun i9 => 
  valA (lenA false b0) h fun t22 h =>
  valA (binOp .lss .num i9 t22) h fun t23 h =>
  whenA t23 true (fun K => K i9 h) h fun t25 h =>
  whenA t23 true (fun K => K at1 h) h fun t26 h =>
  whenA t23 true (fun K => valA (binOp .add .num t26 (.int .i64 10)) h K) h fun t27 h =>
  whenA t23 true (fun K => valA (binOp .lss .num t25 t27) h K) h fun t28 h =>
  valA (pickA t23 t28 (.bool false)) h fun t29 h =>
  condA t29
   (valA (iaA 1 b0 i9) h fun t35 h =>
  valA (ldA h none t35) h fun t36 h =>
  valA (binOp .rem .num t36 (.int .u8 128)) h fun t37 h =>
  valA (cvA .u64 t37) h fun t38 h =>
  valA (binOp .mul .num t38 unit8) h fun t40 h =>
  valA (binOp .add .num x7 t40) h fun t41 h =>
  valA (binOp .mul .num unit8 (.int .u64 128)) h fun t43 h =>
  valA (iaA 1 b0 i9) h fun t46 h =>
  valA (ldA h none t46) h fun t47 h =>
  valA (binOp .geq .num t47 (.int .u8 128)) h fun t48 h =>
  condA t48
   (valA (binOp .add .num i9 (.int .i64 1)) h fun t31 h =>
  N [t41, t43, t31] h)
   (valA (binOp .quo .num t41 (.int .u64 2)) h fun t50 h =>
  valA (cvA .i64 t50) h fun t51 h =>
  joinA (fun (n10'_0 : AV) (h : H) =>
   valA (binOp .add .num i9 (.int .i64 1)) h fun t64 h =>
   valA (sliceOp (.row 1) b0 (some at1) (some t64) none) h fun t65 h =>
   valA (b2sA h t65) h fun t66 h =>
   C 47 [n10'_0] h fun t59 h =>
   againK (valA (b2sA h t65) h (fun v _ => v = t66)) <|
   valA (b2sA h t59) h fun t60 h =>
   valA (binOp .eql .num t60 t66) h fun t67 h =>
   condA t67
    (valA (binOp .add .num i9 (.int .i64 1)) h fun t70 h =>
    R (.tup [n10'_0, t70, (.bool true)]) h)
    (R (.tup [(.int .i64 0), (.int .i64 0), (.bool false)]) h)) fun J_7 =>
  valA (binOp .rem .num t41 (.int .u64 2)) h fun t53 h =>
  valA (binOp .eql .num t53 (.int .u64 1)) h fun t54 h =>
  condA t54
   (valA (unOp .neg t51) h fun t56 h =>
   valA (binOp .sub .num t56 (.int .i64 1)) h fun t57 h =>
   J_7 t57 h)
   (J_7 t51 h)))
   (J h)) [(.int .u64 0), (.int .u64 1), at1] h)
theorem she45 (C : CallA) (b0 at1 : AV) (h : H) (R : AV → H → Prop) : wpA C an45 (argE [b0, at1]) h (outA [(.tmp 4), (.tmp 5), (.tmp 6)] R) = sh45 C b0 at1 h R := by kernel_rfl
/-! bellows/word.Put -/
def an46 : ACode :=
 (.seq (.reg 0 [] [] [sD 2 (.mv (.c .nilsl))])
 (.seq (.reg 0 [] [] [sD 5 (.mv (.t 0)),
 sD 6 (.cv none (.toInt .u64) (.t 5)),
 sD 7 (.bin .shl .num (.t 6) (.c (.int .u64 1))),
 sD 3 (.mv (.t 7))])
 (.seq (.seq (.reg 0 [] [] [sD 8 (.mv (.t 0)),
 sD 9 (.bin .lss .num (.t 8) (.c (.int .i64 0)))])
 (.cond (.t 9) (.reg 0 [] [] [sD 10 (.mv (.t 3)),
 sD 11 (.un .xor (.t 10)),
 sD 3 (.mv (.t 11))])
 .skip))
 (.seq (.reg 0 [] [] [sD 4 (.mv (.c .nilsl))])
 (.seq (.block 0 (.loop [3, 4] 24 (.seq (.seq (.reg 0 [] [] [sD 12 (.mv (.t 3)),
 sD 13 (.bin .geq .num (.t 12) (.c (.int .u64 128)))])
 (.cond (.t 13) .skip
 (.exit 0)))
 (.seq (.block 1 (.reg 0 [] [] [sD 16 (.mv (.t 4)),
 sD 17 (.mv (.t 3)),
 sD 18 (.cv none (.toInt .u8) (.t 17)),
 sD 19 (.bin .or .num (.t 18) (.c (.int .u8 128))),
 sD 20 (.mksl none 5 [(.int .u8 0)] 1 [(0, 1, (.t 19))]),
 sD 21 (.app 5 1 1 [(.int .u8 0)] (.t 16) (.t 20)),
 sD 4 (.mv (.t 21))]))
 (.reg 0 [] [] [sD 14 (.mv (.t 3)),
 sD 15 (.bin .shr .num (.t 14) (.c (.int .u64 7))),
 sD 3 (.mv (.t 15))])))))
 (.seq (.reg 0 [] [] [sD 22 (.mv (.t 4)),
 sD 23 (.mv (.t 3)),
 sD 24 (.cv none (.toInt .u8) (.t 23)),
 sD 25 (.mksl none 5 [(.int .u8 0)] 1 [(0, 1, (.t 24))]),
 sD 26 (.app 5 1 1 [(.int .u8 0)] (.t 22) (.t 25)),
 sD 2 (.mv (.t 26))])
 .ret))))))
def fn46 : IFun := ⟨27, [(.tmp 2)], an46.erase⟩
theorem ok46 : okFun Try.prog 46 fn46 = true := by kernel_rfl
theorem oka46 : okA fn46.ntmps fn46.results an46 = true := by kernel_rfl
def sh46 (C : CallA) (n0 : AV) (h : H) (R : AV → H → Prop) : Prop :=
 valA (cvA .u64 n0) h fun t6 h =>
 valA (binOp .shl .num t6 (.int .u64 1)) h fun t7 h =>
 joinA (fun (x3' : AV) (h : H) =>
  joinA (fun (x3'_0 : AV) (out4' : AV) (h : H) =>
   valA (cvA .u8 x3'_0) h fun t24 h =>
   mkslA h 5 1 (fillV [(.int .u8 0)] [(0, 1, t24)]) fun t25 h =>
   appendA h 5 1 1 out4' t25 fun t26 h =>
   R t26 h) fun J =>
  loopA (fun N l h => argA l 0 fun x3 => argA l 1 fun out4 => 
   valA (binOp .geq .num x3 (.int .u64 128)) h fun t13 h =>
   condA t13
    (valA (cvA .u8 x3) h fun t18 h =>
   valA (binOp .or .num t18 (.int .u8 128)) h fun t19 h =>
   mkslA h 5 1 (fillV [(.int .u8 0)] [(0, 1, t19)]) fun t20 h =>
   appendA h 5 1 1 out4 t20 fun t21 h =>
   valA (binOp .shr .num x3 (.int .u64 7)) h fun t15 h =>
   N [t15, t21] h)
    (J x3 out4 h)) [x3', .nilsl] h) fun J_1 =>
 valA (binOp .lss .num n0 (.int .i64 0)) h fun t9 h =>
 condA t9
  (valA (unOp .xor t7) h fun t11 h =>
  J_1 t11 h)
  (J_1 t7 h)
theorem she46 (C : CallA) (n0 : AV) (h : H) (R : AV → H → Prop) : wpA C an46 (argE [n0]) h (outA [(.tmp 2)] R) = sh46 C n0 h R := by kernel_rfl
/-! bellows/bellowsref01.Put -/
def an47 : ACode :=
 (.seq (.reg 0 [] [] [sD 2 (.mv (.c .nilsl))])
 (.seq (.reg 0 [] [] [sD 5 (.mv (.t 0)),
 sD 6 (.cv none (.toInt .u64) (.t 5)),
 sD 7 (.bin .mul .num (.t 6) (.c (.int .u64 2))),
 sD 3 (.mv (.t 7))])
 (.seq (.seq (.reg 0 [] [] [sD 8 (.mv (.t 0)),
 sD 9 (.bin .lss .num (.t 8) (.c (.int .i64 0)))])
 (.cond (.t 9) (.reg 0 [] [] [sD 10 (.mv (.t 0)),
 sD 11 (.bin .add .num (.t 10) (.c (.int .i64 1))),
 sD 12 (.un .neg (.t 11)),
 sD 13 (.cv none (.toInt .u64) (.t 12)),
 sD 14 (.bin .mul .num (.t 13) (.c (.int .u64 2))),
 sD 15 (.bin .add .num (.t 14) (.c (.int .u64 1))),
 sD 3 (.mv (.t 15))])
 .skip))
 (.seq (.reg 0 [] [] [sD 4 (.mv (.c .nilsl))])
 (.seq (.block 0 (.loop [3, 4] 24 (.seq (.seq (.reg 0 [] [] [sD 16 (.mv (.t 3)),
 sD 17 (.bin .gtr .num (.t 16) (.c (.int .u64 127)))])
 (.cond (.t 17) .skip
 (.exit 0)))
 (.block 1 (.seq (.reg 0 [] [] [sD 18 (.mv (.t 4)),
 sD 19 (.mv (.t 3)),
 sD 20 (.bin .rem .num (.t 19) (.c (.int .u64 128))),
 sD 21 (.bin .add .num (.t 20) (.c (.int .u64 128))),
 sD 22 (.cv none (.toInt .u8) (.t 21)),
 sD 23 (.mksl none 5 [(.int .u8 0)] 1 [(0, 1, (.t 22))]),
 sD 24 (.app 5 1 1 [(.int .u8 0)] (.t 18) (.t 23)),
 sD 4 (.mv (.t 24))])
 (.reg 0 [] [] [sD 25 (.mv (.t 3)),
 sD 26 (.bin .quo .num (.t 25) (.c (.int .u64 128))),
 sD 3 (.mv (.t 26))]))))))
 (.seq (.reg 0 [] [] [sD 27 (.mv (.t 4)),
 sD 28 (.mv (.t 3)),
 sD 29 (.cv none (.toInt .u8) (.t 28)),
 sD 30 (.mksl none 5 [(.int .u8 0)] 1 [(0, 1, (.t 29))]),
 sD 31 (.app 5 1 1 [(.int .u8 0)] (.t 27) (.t 30)),
 sD 2 (.mv (.t 31))])
 .ret))))))
def fn47 : IFun := ⟨32, [(.tmp 2)], an47.erase⟩
theorem ok47 : okFun Try.prog 47 fn47 = true := by kernel_rfl
theorem oka47 : okA fn47.ntmps fn47.results an47 = true := by kernel_rfl
def sh47 (C : CallA) (n0 : AV) (h : H) (R : AV → H → Prop) : Prop :=
 valA (cvA .u64 n0) h fun t6 h =>
 valA (binOp .mul .num t6 (.int .u64 2)) h fun t7 h =>
 joinA (fun (x3' : AV) (h : H) =>
  joinA (fun (x3'_0 : AV) (out4' : AV) (h : H) =>
   valA (cvA .u8 x3'_0) h fun t29 h =>
   mkslA h 5 1 (fillV [(.int .u8 0)] [(0, 1, t29)]) fun t30 h =>
   appendA h 5 1 1 out4' t30 fun t31 h =>
   R t31 h) fun J =>
  loopA (fun N l h => argA l 0 fun x3 => argA l 1 fun out4 => 
   valA (binOp .gtr .num x3 (.int .u64 127)) h fun t17 h =>
   condA t17
    (valA (binOp .rem .num x3 (.int .u64 128)) h fun t20 h =>
   valA (binOp .add .num t20 (.int .u64 128)) h fun t21 h =>
   valA (cvA .u8 t21) h fun t22 h =>
   mkslA h 5 1 (fillV [(.int .u8 0)] [(0, 1, t22)]) fun t23 h =>
   appendA h 5 1 1 out4 t23 fun t24 h =>
   valA (binOp .quo .num x3 (.int .u64 128)) h fun t26 h =>
   N [t26, t24] h)
    (J x3 out4 h)) [x3', .nilsl] h) fun J_1 =>
 valA (binOp .lss .num n0 (.int .i64 0)) h fun t9 h =>
 condA t9
  (valA (binOp .add .num n0 (.int .i64 1)) h fun t11 h =>
  valA (unOp .neg t11) h fun t12 h =>
  valA (cvA .u64 t12) h fun t13 h =>
  valA (binOp .mul .num t13 (.int .u64 2)) h fun t14 h =>
  valA (binOp .add .num t14 (.int .u64 1)) h fun t15 h =>
  J_1 t15 h)
  (J_1 t7 h)
theorem she47 (C : CallA) (n0 : AV) (h : H) (R : AV → H → Prop) : wpA C an47 (argE [n0]) h (outA [(.tmp 2)] R) = sh47 C n0 h R := by kernel_rfl
/-! bellows/word.IsImm -/
def an48 : ACode :=
 (.seq (.reg 0 [] [] [sD 2 (.mv (.c (.bool false)))])
 (.seq (.reg 0 [] [] [sD 3 (.mv (.t 0)),
 sD 4 (.bin .and .num (.t 3) (.c (.int .u64 1))),
 sD 5 (.bin .eql .num (.t 4) (.c (.int .u64 1))),
 sD 2 (.mv (.t 5))])
 .ret))
def fn48 : IFun := ⟨6, [(.tmp 2)], an48.erase⟩
theorem ok48 : okFun Try.prog 48 fn48 = true := by kernel_rfl
theorem oka48 : okA fn48.ntmps fn48.results an48 = true := by kernel_rfl
def sh48 (C : CallA) (w0 : AV) (h : H) (R : AV → H → Prop) : Prop :=
 valA (binOp .and .num w0 (.int .u64 1)) h fun t4 h =>
 valA (binOp .eql .num t4 (.int .u64 1)) h fun t5 h =>
 R t5 h
theorem she48 (C : CallA) (w0 : AV) (h : H) (R : AV → H → Prop) : wpA C an48 (argE [w0]) h (outA [(.tmp 2)] R) = sh48 C w0 h R := by kernel_rfl
/-! bellows/heap.New -/
def an49 : ACode :=
 (.seq (.reg 0 [] [] [sD 4 (.mv (.c .nilp)),
 sD 5 (.mv (.c (.int .i64 0)))])
 (.seq (.seq (.reg 0 [] [] [sD 8 (.mv (.t 0)),
 sD 9 (.bin .lss .num (.t 8) (.c (.int .i64 0))),
 sD 10 (.mv (.t 9)),
 sG 11 10 false (.mv (.t 0)),
 sG 12 10 false (.bin .gtr .num (.t 11) (.c (.int .i64 65536))),
 sD 13 (.pick (.t 10) (.c (.bool true)) (.t 12))])
 (.cond (.t 13) (.seq (.reg 0 [] [] [sD 4 (.mv (.c .nilp)),
 sD 5 (.mv (.c (.int .i64 1)))])
 .ret)
 .skip))
 (.seq (.seq (.reg 0 [] [] [sD 14 (.mv (.t 1)),
 sD 15 (.len false (.t 14)),
 sD 16 (.bin .gtr .num (.t 15) (.c (.int .i64 512)))])
 (.cond (.t 16) (.seq (.reg 0 [] [] [sD 4 (.mv (.c .nilp)),
 sD 5 (.mv (.c (.int .i64 2)))])
 .ret)
 .skip))
 (.seq (.seq (.reg 0 [] [] [sD 17 (.mv (.t 1)),
 sD 18 (.len false (.t 17)),
 sD 19 (.mv (.c (.int .i64 0)))])
 (.block 0 (.loop [19] 917507 (.seq (.reg 0 [] [] [sD 20 (.bin .lss .num (.t 19) (.t 18))])
 (.seq (.cond (.t 20) .skip
 (.exit 0))
 (.seq (.block 1 (.seq (.reg 0 [] [] [sD 21 (.ia none 2 (.t 17) (.t 19)),
 sD 22 (.ld (some 2) (.t 21)),
 sD 7 (.al none 60 [(.int .i64 0), (.int .i64 0)]),
 sN (.st 2 (.t 7) (.t 22))])
 (.seq (.reg 0 [] [] [sD 23 (.fa 0 (.t 7)),
 sD 24 (.ld none (.t 23)),
 sD 25 (.bin .lss .num (.t 24) (.c (.int .i64 1))),
 sD 26 (.mv (.t 25)),
 sG 27 26 false (.fa 0 (.t 7)),
 sG 28 26 false (.ld none (.t 27)),
 sG 29 26 false (.bin .gtr .num (.t 28) (.c (.int .i64 3))),
 sD 30 (.pick (.t 26) (.c (.bool true)) (.t 29)),
 sD 31 (.mv (.t 30)),
 sG 32 31 false (.fa 1 (.t 7)),
 sG 33 31 false (.ld none (.t 32)),
 sG 34 31 false (.bin .lss .num (.t 33) (.c (.int .i64 0))),
 sD 35 (.pick (.t 31) (.c (.bool true)) (.t 34)),
 sD 36 (.mv (.t 35)),
 sG 37 36 false (.fa 1 (.t 7)),
 sG 38 36 false (.ld none (.t 37)),
 sG 39 36 false (.bin .gtr .num (.t 38) (.c (.int .i64 65536))),
 sD 40 (.pick (.t 36) (.c (.bool true)) (.t 39))])
 (.cond (.t 40) (.seq (.reg 0 [] [] [sD 4 (.mv (.c .nilp)),
 sD 5 (.mv (.c (.int .i64 1)))])
 .ret)
 .skip))))
 (.reg 0 [] [] [sD 41 (.bin .add .num (.t 19) (.c (.int .i64 1))),
 sD 19 (.mv (.t 41))])))))))
 (.seq (.reg 3 [0, 2, 3, 4, 6, 7, 1, 5, 8, 9, 10, 11] [[], [0], [], [2], [2, 3], [3, 2, 4], [], [6], [6, 7, 4, 2, 3, 5, 0, 1], [1, 0, 5, 3, 2, 4, 7, 6, 8], [8, 6, 7, 4, 2, 3, 5, 0, 1, 9], [9, 1, 0, 5, 3, 2, 4, 7, 6, 8, 10]] [sD 42 (.mv (.t 0)),
 sD 44 (.mv (.t 0)),
 sD 45 (.bin .quo .num (.t 44) (.c (.int .i64 64))),
 sD 46 (.bin .add .num (.t 45) (.c (.int .i64 1))),
 sD 48 (.mv (.t 1)),
 sD 49 (.app 60 2 16 [(.int .i64 0), (.int .i64 0)] (.c .nilsl) (.t 48)),
 sD 43 (.mks (some 0) 25 [(.int .u64 0)] 8 (.t 42) (.t 42)),
 sD 47 (.mks (some 1) 25 [(.int .u64 0)] 8 (.t 46) (.t 46)),
 sD 50 (.build [.nilsl, .nilsl, .nilsl, (.int .i64 0)] [(0, 1, (.t 43)), (1, 1, (.t 47)), (2, 1, (.t 49))]),
 sD 51 (.bx (some 2) 130 (.t 50)),
 sD 4 (.mv (.t 51)),
 sD 5 (.mv (.c (.int .i64 0)))])
 .ret)))))
def fn49 : IFun := ⟨52, [(.tmp 4), (.tmp 5)], an49.erase⟩
theorem ok49 : okFun Try.prog 49 fn49 = true := by kernel_rfl
theorem oka49 : okA fn49.ntmps fn49.results an49 = true := by kernel_rfl
def sh49 (C : CallA) (words0 layouts1 : AV) (h : H) (R : AV → H → Prop) : Prop :=
 valA (binOp .lss .num words0 (.int .i64 0)) h fun t9 h =>
 whenA t9 false (fun K => K words0 h) h fun t11 h =>
 whenA t9 false (fun K => valA (binOp .gtr .num t11 (.int .i64 65536)) h K) h fun t12 h =>
 valA (pickA t9 (.bool true) t12) h fun t13 h =>
 condA t13
  (R (.tup [.nilp, (.int .i64 1)]) h)
  (valA (lenA false layouts1) h fun t15 h =>
 valA (binOp .gtr .num t15 (.int .i64 512)) h fun t16 h =>
 condA t16
  (R (.tup [.nilp, (.int .i64 2)]) h)
  (joinA (fun (h : H) =>
  valA (binOp .quo .num words0 (.int .i64 64)) h fun t45 h =>
  valA (binOp .add .num t45 (.int .i64 1)) h fun t46 h =>
  appendA h 60 2 16 .nilsl layouts1 fun t49 h =>
  mksA h 25 [(.int .u64 0)] 8 words0 words0 fun t43 h =>
  mksA h 25 [(.int .u64 0)] 8 t46 t46 fun t47 h =>
  valA (buildA (fillV [.nilsl, .nilsl, .nilsl, (.int .i64 0)] [(0, 1, t43), (1, 1, t47), (2, 1, t49)])) h fun t50 h =>
  newA h (AV.cells t50) 130 (fun b => .ptr b 0) fun t51 h =>
  R (.tup [t51, (.int .i64 0)]) h) fun J =>
 valA (lenA false layouts1) h fun t18 h =>
 loopA (fun N l h => argA l 0 fun t19 => 
  valA (binOp .lss .num t19 t18) h fun t20 h =>
  condA t20
   (valA (iaA 2 layouts1 t19) h fun t21 h =>
  valA (ldA h (some 2) t21) h fun t22 h =>
  newA h [(.int .i64 0), (.int .i64 0)] 60 (fun b => .ptr b 0) fun l7 h =>
  memA (stA h 2 l7 t22) .undef fun _ h =>
  valA (faA 0 l7) h fun t23 h =>
  valA (ldA h none t23) h fun t24 h =>
  valA (binOp .lss .num t24 (.int .i64 1)) h fun t25 h =>
  whenA t25 false (fun K => valA (faA 0 l7) h K) h fun t27 h =>
  whenA t25 false (fun K => valA (ldA h none t27) h K) h fun t28 h =>
  whenA t25 false (fun K => valA (binOp .gtr .num t28 (.int .i64 3)) h K) h fun t29 h =>
  valA (pickA t25 (.bool true) t29) h fun t30 h =>
  whenA t30 false (fun K => valA (faA 1 l7) h K) h fun t32 h =>
  whenA t30 false (fun K => valA (ldA h none t32) h K) h fun t33 h =>
  whenA t30 false (fun K => valA (binOp .lss .num t33 (.int .i64 0)) h K) h fun t34 h =>
  valA (pickA t30 (.bool true) t34) h fun t35 h =>
  whenA t35 false (fun K => valA (faA 1 l7) h K) h fun t37 h =>
  whenA t35 false (fun K => valA (ldA h none t37) h K) h fun t38 h =>
  whenA t35 false (fun K => valA (binOp .gtr .num t38 (.int .i64 65536)) h K) h fun t39 h =>
  valA (pickA t35 (.bool true) t39) h fun t40 h =>
  condA t40
   (R (.tup [.nilp, (.int .i64 1)]) h)
   (valA (binOp .add .num t19 (.int .i64 1)) h fun t41 h =>
  N [t41] h))
   (J h)) [(.int .i64 0)] h))
theorem she49 (C : CallA) (words0 layouts1 : AV) (h : H) (R : AV → H → Prop) : wpA C an49 (argE [words0, layouts1]) h (outA [(.tmp 4), (.tmp 5)] R) = sh49 C words0 layouts1 h R := by kernel_rfl
/-! bellows/bellowsref02.Check -/
def an50 : ACode :=
 (.seq (.reg 0 [] [] [sD 4 (.mv (.c (.int .i64 0)))])
 (.seq (.seq (.reg 0 [] [] [sD 7 (.mv (.t 0)),
 sD 8 (.bin .lss .num (.t 7) (.c (.int .i64 0))),
 sD 9 (.mv (.t 8)),
 sG 10 9 false (.mv (.t 0)),
 sG 11 9 false (.bin .gtr .num (.t 10) (.c (.int .i64 65536))),
 sD 12 (.pick (.t 9) (.c (.bool true)) (.t 11))])
 (.cond (.t 12) (.seq (.reg 0 [] [] [sD 4 (.mv (.c (.int .i64 1)))])
 .ret)
 .skip))
 (.seq (.seq (.reg 0 [] [] [sD 13 (.mv (.t 1)),
 sD 14 (.len false (.t 13)),
 sD 15 (.bin .gtr .num (.t 14) (.c (.int .i64 512)))])
 (.cond (.t 15) (.seq (.reg 0 [] [] [sD 4 (.mv (.c (.int .i64 2)))])
 .ret)
 .skip))
 (.seq (.seq (.reg 0 [] [] [sD 16 (.mv (.t 1)),
 sD 17 (.len false (.t 16)),
 sD 18 (.mv (.c (.int .i64 0)))])
 (.block 0 (.loop [18] 458752 (.seq (.reg 0 [] [] [sD 19 (.bin .lss .num (.t 18) (.t 17))])
 (.seq (.cond (.t 19) .skip
 (.exit 0))
 (.seq (.block 1 (.seq (.reg 0 [] [] [sD 20 (.ia none 2 (.t 16) (.t 18)),
 sD 21 (.ld (some 2) (.t 20)),
 sD 6 (.al none 60 [(.int .i64 0), (.int .i64 0)]),
 sN (.st 2 (.t 6) (.t 21))])
 (.seq (.reg 0 [] [] [sD 22 (.fa 0 (.t 6)),
 sD 23 (.ld none (.t 22)),
 sD 24 (.bin .neq .num (.t 23) (.c (.int .i64 1))),
 sD 25 (.mv (.t 24)),
 sG 26 25 true (.fa 0 (.t 6)),
 sG 27 25 true (.ld none (.t 26)),
 sG 28 25 true (.bin .neq .num (.t 27) (.c (.int .i64 2))),
 sD 29 (.pick (.t 25) (.t 28) (.c (.bool false))),
 sD 30 (.mv (.t 29)),
 sG 31 30 true (.fa 0 (.t 6)),
 sG 32 30 true (.ld none (.t 31)),
 sG 33 30 true (.bin .neq .num (.t 32) (.c (.int .i64 3))),
 sD 34 (.pick (.t 30) (.t 33) (.c (.bool false))),
 sD 35 (.mv (.t 34)),
 sG 36 35 false (.fa 1 (.t 6)),
 sG 37 35 false (.ld none (.t 36)),
 sG 38 35 false (.bin .lss .num (.t 37) (.c (.int .i64 0))),
 sD 39 (.pick (.t 35) (.c (.bool true)) (.t 38)),
 sD 40 (.mv (.t 39)),
 sG 41 40 false (.fa 1 (.t 6)),
 sG 42 40 false (.ld none (.t 41)),
 sG 43 40 false (.bin .gtr .num (.t 42) (.c (.int .i64 65536))),
 sD 44 (.pick (.t 40) (.c (.bool true)) (.t 43))])
 (.cond (.t 44) (.seq (.reg 0 [] [] [sD 4 (.mv (.c (.int .i64 1)))])
 .ret)
 .skip))))
 (.reg 0 [] [] [sD 45 (.bin .add .num (.t 18) (.c (.int .i64 1))),
 sD 18 (.mv (.t 45))])))))))
 (.seq (.reg 0 [] [] [sD 4 (.mv (.c (.int .i64 0)))])
 .ret)))))
def fn50 : IFun := ⟨46, [(.tmp 4)], an50.erase⟩
theorem ok50 : okFun Try.prog 50 fn50 = true := by kernel_rfl
theorem oka50 : okA fn50.ntmps fn50.results an50 = true := by kernel_rfl
def sh50 (C : CallA) (words0 layouts1 : AV) (h : H) (R : AV → H → Prop) : Prop :=
 valA (binOp .lss .num words0 (.int .i64 0)) h fun t8 h =>
 whenA t8 false (fun K => K words0 h) h fun t10 h =>
 whenA t8 false (fun K => valA (binOp .gtr .num t10 (.int .i64 65536)) h K) h fun t11 h =>
 valA (pickA t8 (.bool true) t11) h fun t12 h =>
 condA t12
  (R (.int .i64 1) h)
  (valA (lenA false layouts1) h fun t14 h =>
 valA (binOp .gtr .num t14 (.int .i64 512)) h fun t15 h =>
 condA t15
  (R (.int .i64 2) h)
  (joinA (fun (h : H) =>
  R (.int .i64 0) h) fun J =>
 valA (lenA false layouts1) h fun t17 h =>
 loopA (fun N l h => argA l 0 fun t18 => 
  valA (binOp .lss .num t18 t17) h fun t19 h =>
  condA t19
   (valA (iaA 2 layouts1 t18) h fun t20 h =>
  valA (ldA h (some 2) t20) h fun t21 h =>
  newA h [(.int .i64 0), (.int .i64 0)] 60 (fun b => .ptr b 0) fun l6 h =>
  memA (stA h 2 l6 t21) .undef fun _ h =>
  valA (faA 0 l6) h fun t22 h =>
  valA (ldA h none t22) h fun t23 h =>
  valA (binOp .neq .num t23 (.int .i64 1)) h fun t24 h =>
  whenA t24 true (fun K => valA (faA 0 l6) h K) h fun t26 h =>
  whenA t24 true (fun K => valA (ldA h none t26) h K) h fun t27 h =>
  whenA t24 true (fun K => valA (binOp .neq .num t27 (.int .i64 2)) h K) h fun t28 h =>
  valA (pickA t24 t28 (.bool false)) h fun t29 h =>
  whenA t29 true (fun K => valA (faA 0 l6) h K) h fun t31 h =>
  whenA t29 true (fun K => valA (ldA h none t31) h K) h fun t32 h =>
  whenA t29 true (fun K => valA (binOp .neq .num t32 (.int .i64 3)) h K) h fun t33 h =>
  valA (pickA t29 t33 (.bool false)) h fun t34 h =>
  whenA t34 false (fun K => valA (faA 1 l6) h K) h fun t36 h =>
  whenA t34 false (fun K => valA (ldA h none t36) h K) h fun t37 h =>
  whenA t34 false (fun K => valA (binOp .lss .num t37 (.int .i64 0)) h K) h fun t38 h =>
  valA (pickA t34 (.bool true) t38) h fun t39 h =>
  whenA t39 false (fun K => valA (faA 1 l6) h K) h fun t41 h =>
  whenA t39 false (fun K => valA (ldA h none t41) h K) h fun t42 h =>
  whenA t39 false (fun K => valA (binOp .gtr .num t42 (.int .i64 65536)) h K) h fun t43 h =>
  valA (pickA t39 (.bool true) t43) h fun t44 h =>
  condA t44
   (R (.int .i64 1) h)
   (valA (binOp .add .num t18 (.int .i64 1)) h fun t45 h =>
  N [t45] h))
   (J h)) [(.int .i64 0)] h))
theorem she50 (C : CallA) (words0 layouts1 : AV) (h : H) (R : AV → H → Prop) : wpA C an50 (argE [words0, layouts1]) h (outA [(.tmp 4)] R) = sh50 C words0 layouts1 h R := by kernel_rfl
/-! bellows/bellowslaw02.lives -/
def an51 : ACode :=
 (.seq (.reg 0 [] [] [sD 0 (.mv (.c (.bool false)))])
 (.seq (.reg 0 [] [] [sD 14 (.build [(.int .i64 0), (.int .i64 0)] [(0, 1, (.c (.int .i64 1))), (1, 1, (.c (.int .i64 2)))]),
 sD 15 (.build [(.int .i64 0), (.int .i64 0)] [(0, 1, (.c (.int .i64 3)))]),
 sD 16 (.mksl none 60 [(.int .i64 0), (.int .i64 0), (.int .i64 0), (.int .i64 0)] 2 [(0, 2, (.t 14)), (2, 2, (.t 15))]),
 sD 17 (.call 49 [(.c (.int .i64 10)), (.t 16)]),
 sD 13 (.mv (.t 17)),
 sD 18 (.ext (.t 13) 0),
 sD 19 (.ext (.t 13) 1),
 sD 1 (.mv (.t 18)),
 sD 2 (.mv (.t 19))])
 (.seq (.seq (.reg 0 [] [] [sD 20 (.mv (.t 2)),
 sD 21 (.bin .neq .num (.t 20) (.c (.int .i64 0))),
 sD 22 (.mv (.t 21)),
 sG 23 22 false (.mv (.t 1)),
 sG 24 22 false (.bin .eql .ptr (.t 23) (.c .nilp)),
 sD 25 (.pick (.t 22) (.c (.bool true)) (.t 24))])
 (.cond (.t 25) (.seq (.reg 0 [] [] [sD 0 (.mv (.c (.bool false)))])
 .ret)
 .skip))
 (.seq (.reg 0 [] [] [sD 27 (.mv (.t 1)),
 sD 28 (.call 55 [(.t 27), (.c (.int .i64 0)), (.c (.int .i64 2))]),
 sD 26 (.mv (.t 28)),
 sD 29 (.ext (.t 26) 0),
 sD 30 (.ext (.t 26) 1),
 sD 3 (.mv (.t 29)),
 sD 4 (.mv (.t 30))])
 (.seq (.reg 0 [] [] [sD 32 (.mv (.t 1)),
 sD 33 (.call 55 [(.t 32), (.c (.int .i64 1)), (.c (.int .i64 9))]),
 sD 31 (.mv (.t 33)),
 sD 34 (.ext (.t 31) 0),
 sD 35 (.ext (.t 31) 1),
 sD 5 (.mv (.t 34)),
 sD 6 (.mv (.t 35))])
 (.seq (.reg 0 [] [] [sD 37 (.mv (.t 1)),
 sD 38 (.call 55 [(.t 37), (.c (.int .i64 0)), (.c (.int .i64 1))]),
 sD 36 (.mv (.t 38)),
 sD 39 (.ext (.t 36) 0),
 sD 40 (.ext (.t 36) 1),
 sD 7 (.mv (.t 39)),
 sD 8 (.mv (.t 40))])
 (.seq (.reg 0 [] [] [sD 42 (.mv (.t 1)),
 sD 43 (.call 55 [(.t 42), (.c (.int .i64 0)), (.c (.int .i64 2))]),
 sD 41 (.mv (.t 43)),
 sD 44 (.ext (.t 41) 0),
 sD 45 (.ext (.t 41) 1),
 sD 9 (.mv (.t 44)),
 sD 10 (.mv (.t 45))])
 (.seq (.reg 0 [] [] [sD 47 (.mv (.t 1)),
 sD 48 (.call 55 [(.t 47), (.c (.int .i64 0)), (.c (.int .i64 2))]),
 sD 46 (.mv (.t 48)),
 sD 49 (.ext (.t 46) 0),
 sD 50 (.ext (.t 46) 1),
 sD 11 (.mv (.t 49)),
 sD 12 (.mv (.t 50))])
 (.seq (.reg 0 [] [] [sD 51 (.mv (.t 4)),
 sD 52 (.bin .eql .num (.t 51) (.c (.int .i64 0))),
 sD 53 (.mv (.t 52)),
 sG 54 53 true (.mv (.t 6)),
 sG 55 53 true (.bin .eql .num (.t 54) (.c (.int .i64 0))),
 sD 56 (.pick (.t 53) (.t 55) (.c (.bool false))),
 sD 57 (.mv (.t 56)),
 sG 58 57 true (.mv (.t 8)),
 sG 59 57 true (.bin .eql .num (.t 58) (.c (.int .i64 1))),
 sD 60 (.pick (.t 57) (.t 59) (.c (.bool false))),
 sD 61 (.mv (.t 60)),
 sG 62 61 true (.mv (.t 10)),
 sG 63 61 true (.bin .eql .num (.t 62) (.c (.int .i64 0))),
 sD 64 (.pick (.t 61) (.t 63) (.c (.bool false))),
 sD 65 (.mv (.t 64)),
 sG 66 65 true (.mv (.t 12)),
 sG 67 65 true (.bin .eql .num (.t 66) (.c (.int .i64 3))),
 sD 68 (.pick (.t 65) (.t 67) (.c (.bool false))),
 sD 69 (.mv (.t 68)),
 sG 70 69 true (.mv (.t 3)),
 sG 71 69 true (.bin .eql .num (.t 70) (.c (.int .i64 0))),
 sD 72 (.pick (.t 69) (.t 71) (.c (.bool false))),
 sD 73 (.mv (.t 72)),
 sG 74 73 true (.mv (.t 5)),
 sG 75 73 true (.bin .eql .num (.t 74) (.c (.int .i64 3))),
 sD 76 (.pick (.t 73) (.t 75) (.c (.bool false))),
 sD 77 (.mv (.t 76)),
 sG 78 77 true (.mv (.t 9)),
 sG 79 77 true (.bin .eql .num (.t 78) (.c (.int .i64 6))),
 sD 80 (.pick (.t 77) (.t 79) (.c (.bool false))),
 sD 81 (.mv (.t 80)),
 sG 82 81 true (.mv (.t 1)),
 sG 83 81 true (.call 82 [(.c (.int .i64 3))]),
 sG 84 81 true (.call 63 [(.t 82), (.c (.int .i64 0)), (.c (.int .i64 1)), (.t 83)]),
 sG 85 81 true (.bin .eql .num (.t 84) (.c (.int .i64 0))),
 sD 86 (.pick (.t 81) (.t 85) (.c (.bool false))),
 sD 87 (.mv (.t 86)),
 sG 88 87 true (.mv (.t 1)),
 sG 89 87 true (.call 82 [(.c (.int .i64 4))]),
 sG 90 87 true (.call 63 [(.t 88), (.c (.int .i64 0)), (.c (.int .i64 1)), (.t 89)]),
 sG 91 87 true (.bin .eql .num (.t 90) (.c (.int .i64 1))),
 sD 92 (.pick (.t 87) (.t 91) (.c (.bool false))),
 sD 0 (.mv (.t 92))])
 .ret)))))))))
def fn51 : IFun := ⟨93, [(.tmp 0)], an51.erase⟩
theorem ok51 : okFun Try.prog 51 fn51 = true := by kernel_rfl
theorem oka51 : okA fn51.ntmps fn51.results an51 = true := by kernel_rfl
def sh51 (C : CallA) (h : H) (R : AV → H → Prop) : Prop :=
 valA (buildA (fillV [(.int .i64 0), (.int .i64 0)] [(0, 1, (.int .i64 1)), (1, 1, (.int .i64 2))])) h fun t14 h =>
 valA (buildA (fillV [(.int .i64 0), (.int .i64 0)] [(0, 1, (.int .i64 3))])) h fun t15 h =>
 mkslA h 60 2 (fillV [(.int .i64 0), (.int .i64 0), (.int .i64 0), (.int .i64 0)] [(0, 2, t14), (2, 2, t15)]) fun t16 h =>
 C 49 [(.int .i64 10), t16] h fun t17 h =>
 valA (extA t17 0) h fun t18 h =>
 valA (extA t17 1) h fun t19 h =>
 valA (binOp .neq .num t19 (.int .i64 0)) h fun t21 h =>
 whenA t21 false (fun K => K t18 h) h fun t23 h =>
 whenA t21 false (fun K => valA (binOp .eql .ptr t23 .nilp) h K) h fun t24 h =>
 valA (pickA t21 (.bool true) t24) h fun t25 h =>
 condA t25
  (R (.bool false) h)
  (C 55 [t18, (.int .i64 0), (.int .i64 2)] h fun t28 h =>
 valA (extA t28 0) h fun t29 h =>
 valA (extA t28 1) h fun t30 h =>
 C 55 [t18, (.int .i64 1), (.int .i64 9)] h fun t33 h =>
 valA (extA t33 0) h fun t34 h =>
 valA (extA t33 1) h fun t35 h =>
 C 55 [t18, (.int .i64 0), (.int .i64 1)] h fun t38 h =>
 valA (extA t38 0) h fun t39 h =>
 valA (extA t38 1) h fun t40 h =>
 C 55 [t18, (.int .i64 0), (.int .i64 2)] h fun t43 h =>
 valA (extA t43 0) h fun t44 h =>
 valA (extA t43 1) h fun t45 h =>
 C 55 [t18, (.int .i64 0), (.int .i64 2)] h fun t48 h =>
 valA (extA t48 0) h fun t49 h =>
 valA (extA t48 1) h fun t50 h =>
 valA (binOp .eql .num t30 (.int .i64 0)) h fun t52 h =>
 whenA t52 true (fun K => K t35 h) h fun t54 h =>
 whenA t52 true (fun K => valA (binOp .eql .num t54 (.int .i64 0)) h K) h fun t55 h =>
 valA (pickA t52 t55 (.bool false)) h fun t56 h =>
 whenA t56 true (fun K => K t40 h) h fun t58 h =>
 whenA t56 true (fun K => valA (binOp .eql .num t58 (.int .i64 1)) h K) h fun t59 h =>
 valA (pickA t56 t59 (.bool false)) h fun t60 h =>
 whenA t60 true (fun K => K t45 h) h fun t62 h =>
 whenA t60 true (fun K => valA (binOp .eql .num t62 (.int .i64 0)) h K) h fun t63 h =>
 valA (pickA t60 t63 (.bool false)) h fun t64 h =>
 whenA t64 true (fun K => K t50 h) h fun t66 h =>
 whenA t64 true (fun K => valA (binOp .eql .num t66 (.int .i64 3)) h K) h fun t67 h =>
 valA (pickA t64 t67 (.bool false)) h fun t68 h =>
 whenA t68 true (fun K => K t29 h) h fun t70 h =>
 whenA t68 true (fun K => valA (binOp .eql .num t70 (.int .i64 0)) h K) h fun t71 h =>
 valA (pickA t68 t71 (.bool false)) h fun t72 h =>
 whenA t72 true (fun K => K t34 h) h fun t74 h =>
 whenA t72 true (fun K => valA (binOp .eql .num t74 (.int .i64 3)) h K) h fun t75 h =>
 valA (pickA t72 t75 (.bool false)) h fun t76 h =>
 whenA t76 true (fun K => K t44 h) h fun t78 h =>
 whenA t76 true (fun K => valA (binOp .eql .num t78 (.int .i64 6)) h K) h fun t79 h =>
 valA (pickA t76 t79 (.bool false)) h fun t80 h =>
 whenA t80 true (fun K => K t18 h) h fun t82 h =>
 whenA t80 true (fun K => C 82 [(.int .i64 3)] h K) h fun t83 h =>
 whenA t80 true (fun K => C 63 [t82, (.int .i64 0), (.int .i64 1), t83] h K) h fun t84 h =>
 whenA t80 true (fun K => valA (binOp .eql .num t84 (.int .i64 0)) h K) h fun t85 h =>
 valA (pickA t80 t85 (.bool false)) h fun t86 h =>
 whenA t86 true (fun K => K t18 h) h fun t88 h =>
 whenA t86 true (fun K => C 82 [(.int .i64 4)] h K) h fun t89 h =>
 whenA t86 true (fun K => C 63 [t88, (.int .i64 0), (.int .i64 1), t89] h K) h fun t90 h =>
 whenA t86 true (fun K => valA (binOp .eql .num t90 (.int .i64 1)) h K) h fun t91 h =>
 valA (pickA t86 t91 (.bool false)) h fun t92 h =>
 R t92 h)
theorem she51 (C : CallA) (h : H) (R : AV → H → Prop) : wpA C an51 (argE []) h (outA [(.tmp 0)] R) = sh51 C h R := by kernel_rfl
/-! (*bellows/heap.Heap).Need -/
def an52 : ACode :=
 (.seq (.reg 0 [] [] [sD 6 (.mv (.c (.int .i64 0))),
 sD 7 (.mv (.c (.int .i64 0)))])
 (.seq (.seq (.reg 0 [] [] [sD 9 (.mv (.t 0)),
 sD 10 (.bin .eql .ptr (.t 9) (.c .nilp)),
 sD 11 (.mv (.t 10)),
 sG 12 11 false (.mv (.t 1)),
 sG 13 11 false (.bin .lss .num (.t 12) (.c (.int .i64 0))),
 sD 14 (.pick (.t 11) (.c (.bool true)) (.t 13)),
 sD 15 (.mv (.t 14)),
 sG 16 15 false (.mv (.t 1)),
 sG 17 15 false (.mv (.t 0)),
 sG 18 15 false (.nilc (.t 17)),
 sG 19 15 false (.fa 2 (.t 18)),
 sG 20 15 false (.ld none (.t 19)),
 sG 21 15 false (.len false (.t 20)),
 sG 22 15 false (.bin .geq .num (.t 16) (.t 21)),
 sD 23 (.pick (.t 15) (.c (.bool true)) (.t 22)),
 sD 24 (.mv (.t 23)),
 sG 25 24 false (.mv (.t 2)),
 sG 26 24 false (.bin .lss .num (.t 25) (.c (.int .i64 0))),
 sD 27 (.pick (.t 24) (.c (.bool true)) (.t 26))])
 (.cond (.t 27) (.seq (.reg 0 [] [] [sD 6 (.mv (.c (.int .i64 0))),
 sD 7 (.mv (.c (.int .i64 1)))])
 .ret)
 .skip))
 (.seq (.reg 0 [] [] [sD 28 (.mv (.t 0)),
 sD 29 (.nilc (.t 28)),
 sD 30 (.fa 2 (.t 29)),
 sD 31 (.ld none (.t 30)),
 sD 32 (.mv (.t 1)),
 sD 33 (.ia none 2 (.t 31) (.t 32)),
 sD 34 (.ld (some 2) (.t 33)),
 sD 8 (.al none 60 [(.int .i64 0), (.int .i64 0)]),
 sN (.st 2 (.t 8) (.t 34))])
 (.seq (.block 0 (.seq (.reg 0 [] [] [sD 36 (.fa 0 (.t 8)),
 sD 37 (.ld none (.t 36)),
 sD 38 (.bin .eql .num (.t 37) (.c (.int .i64 1))),
 sD 39 (.mv (.t 38)),
 sG 40 39 true (.mv (.t 2)),
 sG 41 39 true (.fa 1 (.t 8)),
 sG 42 39 true (.ld none (.t 41)),
 sG 43 39 true (.bin .neq .num (.t 40) (.t 42)),
 sD 44 (.pick (.t 39) (.t 43) (.c (.bool false))),
 sD 35 (.mv (.t 44))])
 (.cond (.t 35) (.seq (.reg 0 [] [] [sD 6 (.mv (.c (.int .i64 0))),
 sD 7 (.mv (.c (.int .i64 1)))])
 .ret)
 (.seq (.reg 0 [] [] [sD 46 (.mv (.t 2)),
 sD 47 (.bin .gtr .num (.t 46) (.c (.int .i64 65536))),
 sD 45 (.mv (.t 47))])
 (.cond (.t 45) (.seq (.reg 0 [] [] [sD 6 (.mv (.c (.int .i64 0))),
 sD 7 (.mv (.c (.int .i64 2)))])
 .ret)
 (.seq (.reg 0 [] [] [sD 49 (.fa 0 (.t 8)),
 sD 50 (.ld none (.t 49)),
 sD 51 (.bin .eql .num (.t 50) (.c (.int .i64 3))),
 sD 48 (.mv (.t 51))])
 (.cond (.t 48) (.seq (.reg 0 [] [] [sD 52 (.mv (.t 2)),
 sD 53 (.bin .add .num (.t 52) (.c (.int .i64 7))),
 sD 54 (.bin .quo .num (.t 53) (.c (.int .i64 8))),
 sD 55 (.bin .add .num (.c (.int .i64 1)) (.t 54)),
 sD 6 (.mv (.t 55)),
 sD 7 (.mv (.c (.int .i64 0)))])
 .ret)
 .skip)))))))
 (.seq (.reg 0 [] [] [sD 56 (.mv (.t 2)),
 sD 57 (.bin .add .num (.c (.int .i64 1)) (.t 56)),
 sD 6 (.mv (.t 57)),
 sD 7 (.mv (.c (.int .i64 0)))])
 .ret)))))
def fn52 : IFun := ⟨58, [(.tmp 6), (.tmp 7)], an52.erase⟩
theorem ok52 : okFun Try.prog 52 fn52 = true := by kernel_rfl
theorem oka52 : okA fn52.ntmps fn52.results an52 = true := by kernel_rfl
def sh52 (C : CallA) (h0 shape1 n2 : AV) (h : H) (R : AV → H → Prop) : Prop :=
 valA (binOp .eql .ptr h0 .nilp) h fun t10 h =>
 whenA t10 false (fun K => K shape1 h) h fun t12 h =>
 whenA t10 false (fun K => valA (binOp .lss .num t12 (.int .i64 0)) h K) h fun t13 h =>
 valA (pickA t10 (.bool true) t13) h fun t14 h =>
 whenA t14 false (fun K => K shape1 h) h fun t16 h =>
 whenA t14 false (fun K => K h0 h) h fun t17 h =>
 whenA t14 false (fun K => valA (nilcA t17) h K) h fun t18 h =>
 whenA t14 false (fun K => valA (faA 2 t18) h K) h fun t19 h =>
 whenA t14 false (fun K => valA (ldA h none t19) h K) h fun t20 h =>
 whenA t14 false (fun K => valA (lenA false t20) h K) h fun t21 h =>
 whenA t14 false (fun K => valA (binOp .geq .num t16 t21) h K) h fun t22 h =>
 valA (pickA t14 (.bool true) t22) h fun t23 h =>
 whenA t23 false (fun K => K n2 h) h fun t25 h =>
 whenA t23 false (fun K => valA (binOp .lss .num t25 (.int .i64 0)) h K) h fun t26 h =>
 valA (pickA t23 (.bool true) t26) h fun t27 h =>
 condA t27
  (R (.tup [(.int .i64 0), (.int .i64 1)]) h)
  (valA (nilcA h0) h fun t29 h =>
 valA (faA 2 t29) h fun t30 h =>
 valA (ldA h none t30) h fun t31 h =>
 valA (iaA 2 t31 shape1) h fun t33 h =>
 valA (ldA h (some 2) t33) h fun t34 h =>
 newA h [(.int .i64 0), (.int .i64 0)] 60 (fun b => .ptr b 0) fun l8 h =>
 memA (stA h 2 l8 t34) .undef fun _ h =>
 valA (faA 0 l8) h fun t36 h =>
 valA (ldA h none t36) h fun t37 h =>
 valA (binOp .eql .num t37 (.int .i64 1)) h fun t38 h =>
 whenA t38 true (fun K => K n2 h) h fun t40 h =>
 whenA t38 true (fun K => valA (faA 1 l8) h K) h fun t41 h =>
 whenA t38 true (fun K => valA (ldA h none t41) h K) h fun t42 h =>
 whenA t38 true (fun K => valA (binOp .neq .num t40 t42) h K) h fun t43 h =>
 valA (pickA t38 t43 (.bool false)) h fun t44 h =>
 condA t44
  (R (.tup [(.int .i64 0), (.int .i64 1)]) h)
  (valA (binOp .gtr .num n2 (.int .i64 65536)) h fun t47 h =>
  condA t47
   (R (.tup [(.int .i64 0), (.int .i64 2)]) h)
   (valA (faA 0 l8) h fun t49 h =>
   valA (ldA h none t49) h fun t50 h =>
   valA (binOp .eql .num t50 (.int .i64 3)) h fun t51 h =>
   condA t51
    (valA (binOp .add .num n2 (.int .i64 7)) h fun t53 h =>
    valA (binOp .quo .num t53 (.int .i64 8)) h fun t54 h =>
    valA (binOp .add .num (.int .i64 1) t54) h fun t55 h =>
    R (.tup [t55, (.int .i64 0)]) h)
    (valA (binOp .add .num (.int .i64 1) n2) h fun t57 h =>
 R (.tup [t57, (.int .i64 0)]) h))))
theorem she52 (C : CallA) (h0 shape1 n2 : AV) (h : H) (R : AV → H → Prop) : wpA C an52 (argE [h0, shape1, n2]) h (outA [(.tmp 6), (.tmp 7)] R) = sh52 C h0 shape1 n2 h R := by kernel_rfl
end Go.Proofs.Ytljkkfcokpimkaa.X
