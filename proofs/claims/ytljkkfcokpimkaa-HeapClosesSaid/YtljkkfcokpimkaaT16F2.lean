/- The plain programs of functions, printed; that they are the model's; what must hold ahead of each. -/
import Derived.Test.YtljkkfcokpimkaaProg
import Derived.Test.YtljkkfcokpimkaaXo
set_option maxRecDepth 100000
set_option linter.unusedVariables false
namespace Go.Proofs.Ytljkkfcokpimkaa.X
open Go
/-! (*bellows/heap.Heap).Close -/
def an80 : ACode :=
 (.seq (.reg 0 [] [] [sD 4 (.mv (.c (.int .i64 0)))])
 (.seq (.seq (.reg 0 [] [] [sD 12 (.mv (.t 0)),
 sD 13 (.bin .eql .ptr (.t 12) (.c .nilp)),
 sD 14 (.mv (.t 13)),
 sG 15 14 false (.mv (.t 1)),
 sG 16 14 false (.bin .lss .num (.t 15) (.c (.int .i64 0))),
 sD 17 (.pick (.t 14) (.c (.bool true)) (.t 16)),
 sD 18 (.mv (.t 17)),
 sG 19 18 false (.mv (.t 1)),
 sG 20 18 false (.mv (.t 0)),
 sG 21 18 false (.nilc (.t 20)),
 sG 22 18 false (.fa 0 (.t 21)),
 sG 23 18 false (.ld none (.t 22)),
 sG 24 18 false (.len false (.t 23)),
 sG 25 18 false (.bin .gtr .num (.t 19) (.t 24)),
 sD 26 (.pick (.t 18) (.c (.bool true)) (.t 25))])
 (.cond (.t 26) (.seq (.reg 0 [] [] [sD 4 (.mv (.c (.int .i64 1)))])
 .ret)
 .skip))
 (.seq (.reg 0 [] [] [sD 27 (.mv (.t 0)),
 sD 28 (.nilc (.t 27)),
 sD 29 (.fa 1 (.t 28)),
 sD 30 (.ld none (.t 29)),
 sD 31 (.len false (.t 30)),
 sD 32 (.mks none 25 [(.int .u64 0)] 8 (.t 31) (.t 31)),
 sD 5 (.mv (.t 32))])
 (.seq (.seq (.reg 0 [] [] [sD 6 (.mv (.c (.int .i64 0)))])
 (.block 0 (.loop [6] 99 (.seq (.seq (.reg 0 [] [] [sD 33 (.mv (.t 6)),
 sD 34 (.mv (.t 1)),
 sD 35 (.bin .lss .num (.t 33) (.t 34))])
 (.cond (.t 35) .skip
 (.exit 0)))
 (.block 1 (.seq (.reg 0 [] [] [sD 36 (.mv (.t 0)),
 sD 37 (.nilc (.t 36)),
 sD 38 (.fa 0 (.t 37)),
 sD 39 (.ld none (.t 38)),
 sD 40 (.mv (.t 6)),
 sD 41 (.ia none 1 (.t 39) (.t 40)),
 sD 42 (.ld none (.t 41)),
 sD 7 (.mv (.t 42))])
 (.seq (.reg 0 [] [] [sD 44 (.mv (.t 0)),
 sD 45 (.mv (.t 7)),
 sD 46 (.call 33 [(.t 45)]),
 sD 47 (.mv (.t 7)),
 sD 48 (.call 35 [(.t 47)]),
 sD 49 (.call 52 [(.t 44), (.t 46), (.t 48)]),
 sD 43 (.mv (.t 49)),
 sD 50 (.ext (.t 43) 0),
 sD 51 (.ext (.t 43) 1),
 sD 8 (.mv (.t 50)),
 sD 9 (.mv (.t 51))])
 (.seq (.seq (.reg 0 [] [] [sD 52 (.mv (.t 9)),
 sD 53 (.bin .neq .num (.t 52) (.c (.int .i64 0))),
 sD 54 (.mv (.t 53)),
 sG 55 54 false (.mv (.t 7)),
 sG 56 54 false (.mv (.t 7)),
 sG 57 54 false (.call 33 [(.t 56)]),
 sG 58 54 false (.mv (.t 7)),
 sG 59 54 false (.call 35 [(.t 58)]),
 sG 60 54 false (.call 31 [(.t 57), (.t 59)]),
 sG 61 54 false (.bin .neq .num (.t 55) (.t 60)),
 sD 62 (.pick (.t 54) (.c (.bool true)) (.t 61)),
 sD 63 (.mv (.t 62)),
 sG 64 63 false (.mv (.t 8)),
 sG 65 63 false (.mv (.t 1)),
 sG 66 63 false (.mv (.t 6)),
 sG 67 63 false (.bin .sub .num (.t 65) (.t 66)),
 sG 68 63 false (.bin .gtr .num (.t 64) (.t 67)),
 sD 69 (.pick (.t 63) (.c (.bool true)) (.t 68))])
 (.cond (.t 69) (.seq (.reg 0 [] [] [sD 4 (.mv (.c (.int .i64 1)))])
 .ret)
 .skip))
 (.seq (.reg 0 [0, 1, 2, 3, 4, 5, 6, 7, 8, 9, 10] [[], [], [1], [1, 2, 0], [0, 2, 1, 3], [], [5], [5, 6], [6, 5, 7, 3, 1, 2, 0, 4], [8, 7, 6, 5, 4, 3, 1, 2, 0], [0, 2, 1, 3, 4, 5, 6, 7, 8, 9]] [sD 70 (.mv (.t 5)),
 sD 71 (.mv (.t 6)),
 sD 72 (.bin .quo .num (.t 71) (.c (.int .i64 64))),
 sD 73 (.ia none 1 (.t 70) (.t 72)),
 sD 74 (.ld none (.t 73)),
 sD 75 (.mv (.t 6)),
 sD 76 (.bin .rem .num (.t 75) (.c (.int .i64 64))),
 sD 77 (.bin .shl .num (.c (.int .u64 1)) (.t 76)),
 sD 78 (.bin .or .num (.t 74) (.t 77)),
 sD 79 (.ia none 1 (.t 70) (.t 72)),
 sN (.st 1 (.t 79) (.t 78))])
 (.reg 0 [] [] [sD 80 (.mv (.t 6)),
 sD 81 (.mv (.t 8)),
 sD 82 (.bin .add .num (.t 80) (.t 81)),
 sD 6 (.mv (.t 82))]))))))))))
 (.seq (.reg 0 [0, 1, 2, 3, 4, 5, 6, 7, 8, 9] [[], [0], [0, 1], [1, 0, 2], [], [4], [4, 5], [5, 4, 6], [2, 0, 1, 3], [3, 1, 0, 2, 8, 6, 4, 5, 7]] [sD 83 (.mv (.t 0)),
 sD 84 (.nilc (.t 83)),
 sD 85 (.fa 1 (.t 84)),
 sD 86 (.ld none (.t 85)),
 sD 87 (.mv (.t 0)),
 sD 88 (.nilc (.t 87)),
 sD 89 (.fa 3 (.t 88)),
 sD 90 (.ld none (.t 89)),
 sD 10 (.mv (.t 86)),
 sD 11 (.mv (.t 90))])
 (.seq (.reg 0 [] [] [sD 91 (.mv (.t 0)),
 sD 92 (.mv (.t 0)),
 sD 93 (.mv (.t 5)),
 sD 94 (.mv (.t 1)),
 sD 95 (.nilc (.t 91)),
 sD 96 (.fa 1 (.t 95)),
 sN (.st 1 (.t 96) (.t 93)),
 sD 97 (.nilc (.t 92)),
 sD 98 (.fa 3 (.t 97)),
 sN (.st 1 (.t 98) (.t 94))])
 (.seq (.seq (.reg 0 [] [] [sD 99 (.mv (.t 0)),
 sD 100 (.call 106 [(.t 99)]),
 sD 101 (.un .not (.t 100))])
 (.cond (.t 101) (.seq (.reg 0 [] [] [sD 102 (.mv (.t 0)),
 sD 103 (.mv (.t 0)),
 sD 104 (.mv (.t 10)),
 sD 105 (.mv (.t 11)),
 sD 106 (.nilc (.t 102)),
 sD 107 (.fa 1 (.t 106)),
 sN (.st 1 (.t 107) (.t 104)),
 sD 108 (.nilc (.t 103)),
 sD 109 (.fa 3 (.t 108)),
 sN (.st 1 (.t 109) (.t 105))])
 (.seq (.reg 0 [] [] [sD 4 (.mv (.c (.int .i64 1)))])
 .ret))
 .skip))
 (.seq (.reg 0 [] [] [sD 110 (.mv (.t 0)),
 sD 111 (.nilc (.t 110)),
 sD 112 (.fa 0 (.t 111)),
 sD 113 (.ld none (.t 112)),
 sD 114 (.mv (.t 1)),
 sD 115 (.sli (.row 1) (.t 113) (some (.t 114)) none none),
 sN (.clear [(.int .u64 0)] (.t 115))])
 (.seq (.reg 0 [] [] [sD 4 (.mv (.c (.int .i64 0)))])
 .ret)))))))))
def fn80 : IFun := ⟨116, [(.tmp 4)], an80.erase⟩
theorem ok80 : okFun Try.prog 80 fn80 = true := by kernel_rfl
theorem oka80 : okA fn80.ntmps fn80.results an80 = true := by kernel_rfl
def sh80 (C : CallA) (h0 top1 : AV) (h : H) (R : AV → H → Prop) : Prop :=
 valA (binOp .eql .ptr h0 .nilp) h fun t13 h =>
 whenA t13 false (fun K => K top1 h) h fun t15 h =>
 whenA t13 false (fun K => valA (binOp .lss .num t15 (.int .i64 0)) h K) h fun t16 h =>
 valA (pickA t13 (.bool true) t16) h fun t17 h =>
 whenA t17 false (fun K => K top1 h) h fun t19 h =>
 whenA t17 false (fun K => K h0 h) h fun t20 h =>
 whenA t17 false (fun K => valA (nilcA t20) h K) h fun t21 h =>
 whenA t17 false (fun K => valA (faA 0 t21) h K) h fun t22 h =>
 whenA t17 false (fun K => valA (ldA h none t22) h K) h fun t23 h =>
 whenA t17 false (fun K => valA (lenA false t23) h K) h fun t24 h =>
 whenA t17 false (fun K => valA (binOp .gtr .num t19 t24) h K) h fun t25 h =>
 valA (pickA t17 (.bool true) t25) h fun t26 h =>
 condA t26
  (R (.int .i64 1) h)
  (valA (nilcA h0) h fun t28 h =>
 valA (faA 1 t28) h fun t29 h =>
 valA (ldA h none t29) h fun t30 h =>
 valA (lenA false t30) h fun t31 h =>
 mksA h 25 [(.int .u64 0)] 8 t31 t31 fun t32 h =>
 joinA (fun (h : H) =>
  valA (nilcA h0) h fun t84 h =>
  valA (faA 1 t84) h fun t85 h =>
  valA (ldA h none t85) h fun t86 h =>
  valA (nilcA h0) h fun t88 h =>
  valA (faA 3 t88) h fun t89 h =>
  valA (ldA h none t89) h fun t90 h =>
  valA (nilcA h0) h fun t95 h =>
  valA (faA 1 t95) h fun t96 h =>
  memA (stA h 1 t96 t32) .undef fun _ h =>
  valA (nilcA h0) h fun t97 h =>
  valA (faA 3 t97) h fun t98 h =>
  memA (stA h 1 t98 top1) .undef fun _ h =>
  C 106 [h0] h fun t100 h =>
  valA (unOp .not t100) h fun t101 h =>
  condA t101
   (valA (nilcA h0) h fun t106 h =>
   valA (faA 1 t106) h fun t107 h =>
   memA (stA h 1 t107 t86) .undef fun _ h =>
   valA (nilcA h0) h fun t108 h =>
   valA (faA 3 t108) h fun t109 h =>
   memA (stA h 1 t109 t90) .undef fun _ h =>
   R (.int .i64 1) h)
   (valA (nilcA h0) h fun t111 h =>
  valA (faA 0 t111) h fun t112 h =>
  valA (ldA h none t112) h fun t113 h =>
  valA (sliceOp (.row 1) t113 (some top1) none none) h fun t115 h =>
  clearA h [(.int .u64 0)] t115 fun _ h =>
  R (.int .i64 0) h)) fun J =>
 loopA (fun N l h => argA l 0 fun at6 => 
  valA (binOp .lss .num at6 top1) h fun t35 h =>
  condA t35
   (valA (nilcA h0) h fun t37 h =>
  valA (faA 0 t37) h fun t38 h =>
  valA (ldA h none t38) h fun t39 h =>
  valA (iaA 1 t39 at6) h fun t41 h =>
  valA (ldA h none t41) h fun t42 h =>
  C 33 [t42] h fun t46 h =>
  C 35 [t42] h fun t48 h =>
  C 52 [h0, t46, t48] h fun t49 h =>
  valA (extA t49 0) h fun t50 h =>
  valA (extA t49 1) h fun t51 h =>
  valA (binOp .neq .num t51 (.int .i64 0)) h fun t53 h =>
  whenA t53 false (fun K => K t42 h) h fun t55 h =>
  whenA t53 false (fun K => K t42 h) h fun t56 h =>
  whenA t53 false (fun K => C 33 [t56] h K) h fun t57 h =>
  whenA t53 false (fun K => K t42 h) h fun t58 h =>
  whenA t53 false (fun K => C 35 [t58] h K) h fun t59 h =>
  whenA t53 false (fun K => C 31 [t57, t59] h K) h fun t60 h =>
  whenA t53 false (fun K => valA (binOp .neq .num t55 t60) h K) h fun t61 h =>
  valA (pickA t53 (.bool true) t61) h fun t62 h =>
  whenA t62 false (fun K => K t50 h) h fun t64 h =>
  whenA t62 false (fun K => K top1 h) h fun t65 h =>
  whenA t62 false (fun K => K at6 h) h fun t66 h =>
  whenA t62 false (fun K => valA (binOp .sub .num t65 t66) h K) h fun t67 h =>
  whenA t62 false (fun K => valA (binOp .gtr .num t64 t67) h K) h fun t68 h =>
  valA (pickA t62 (.bool true) t68) h fun t69 h =>
  condA t69
   (R (.int .i64 1) h)
   (valA (binOp .quo .num at6 (.int .i64 64)) h fun t72 h =>
  valA (iaA 1 t32 t72) h fun t73 h =>
  valA (ldA h none t73) h fun t74 h =>
  valA (binOp .rem .num at6 (.int .i64 64)) h fun t76 h =>
  valA (binOp .shl .num (.int .u64 1) t76) h fun t77 h =>
  valA (binOp .or .num t74 t77) h fun t78 h =>
  valA (iaA 1 t32 t72) h fun t79 h =>
  memA (stA h 1 t79 t78) .undef fun _ h =>
  valA (binOp .add .num at6 t50) h fun t82 h =>
  N [t82] h))
   (J h)) [(.int .i64 0)] h)
theorem she80 (C : CallA) (h0 top1 : AV) (h : H) (R : AV → H → Prop) : wpA C an80 (argE [h0, top1]) h (outA [(.tmp 4)] R) = sh80 C h0 top1 h R := by kernel_rfl
/-! (*bellows/heap.Heap).Shape -/
def an81 : ACode :=
 (.seq (.reg 0 [] [] [sD 4 (.mv (.c (.int .i64 0))),
 sD 5 (.mv (.c (.int .i64 0)))])
 (.seq (.seq (.reg 0 [] [] [sD 6 (.mv (.t 0)),
 sD 7 (.mv (.t 1)),
 sD 8 (.call 56 [(.t 6), (.t 7)]),
 sD 9 (.un .not (.t 8))])
 (.cond (.t 9) (.seq (.reg 0 [] [] [sD 4 (.mv (.c (.int .i64 0))),
 sD 5 (.mv (.c (.int .i64 1)))])
 .ret)
 .skip))
 (.seq (.reg 0 [] [] [sD 10 (.mv (.t 0)),
 sD 11 (.nilc (.t 10)),
 sD 12 (.fa 0 (.t 11)),
 sD 13 (.ld none (.t 12)),
 sD 14 (.mv (.t 1)),
 sD 15 (.ia none 1 (.t 13) (.t 14)),
 sD 16 (.ld none (.t 15)),
 sD 17 (.call 33 [(.t 16)]),
 sD 4 (.mv (.t 17)),
 sD 5 (.mv (.c (.int .i64 0)))])
 .ret)))
def fn81 : IFun := ⟨18, [(.tmp 4), (.tmp 5)], an81.erase⟩
theorem ok81 : okFun Try.prog 81 fn81 = true := by kernel_rfl
theorem oka81 : okA fn81.ntmps fn81.results an81 = true := by kernel_rfl
def sh81 (C : CallA) (h0 at1 : AV) (h : H) (R : AV → H → Prop) : Prop :=
 C 56 [h0, at1] h fun t8 h =>
 valA (unOp .not t8) h fun t9 h =>
 condA t9
  (R (.tup [(.int .i64 0), (.int .i64 1)]) h)
  (valA (nilcA h0) h fun t11 h =>
 valA (faA 0 t11) h fun t12 h =>
 valA (ldA h none t12) h fun t13 h =>
 valA (iaA 1 t13 at1) h fun t15 h =>
 valA (ldA h none t15) h fun t16 h =>
 C 33 [t16] h fun t17 h =>
 R (.tup [t17, (.int .i64 0)]) h)
theorem she81 (C : CallA) (h0 at1 : AV) (h : H) (R : AV → H → Prop) : wpA C an81 (argE [h0, at1]) h (outA [(.tmp 4), (.tmp 5)] R) = sh81 C h0 at1 h R := by kernel_rfl
/-! bellows/word.Ptr -/
def an82 : ACode :=
 (.seq (.reg 0 [] [] [sD 2 (.mv (.c (.int .u64 0)))])
 (.seq (.reg 0 [] [] [sD 3 (.mv (.t 0)),
 sD 4 (.cv none (.toInt .u64) (.t 3)),
 sD 5 (.bin .shl .num (.t 4) (.c (.int .u64 1))),
 sD 6 (.bin .or .num (.t 5) (.c (.int .u64 0))),
 sD 2 (.mv (.t 6))])
 .ret))
def fn82 : IFun := ⟨7, [(.tmp 2)], an82.erase⟩
theorem ok82 : okFun Try.prog 82 fn82 = true := by kernel_rfl
theorem oka82 : okA fn82.ntmps fn82.results an82 = true := by kernel_rfl
def sh82 (C : CallA) (at0 : AV) (h : H) (R : AV → H → Prop) : Prop :=
 valA (cvA .u64 at0) h fun t4 h =>
 valA (binOp .shl .num t4 (.int .u64 1)) h fun t5 h =>
 valA (binOp .or .num t5 (.int .u64 0)) h fun t6 h =>
 R t6 h
theorem she82 (C : CallA) (at0 : AV) (h : H) (R : AV → H → Prop) : wpA C an82 (argE [at0]) h (outA [(.tmp 2)] R) = sh82 C at0 h R := by kernel_rfl
/-! bellows/word.Imm -/
def an83 : ACode :=
 (.seq (.reg 0 [] [] [sD 2 (.mv (.c (.int .u64 0)))])
 (.seq (.reg 0 [] [] [sD 3 (.mv (.t 0)),
 sD 4 (.cv none (.toInt .u64) (.t 3)),
 sD 5 (.bin .shl .num (.t 4) (.c (.int .u64 1))),
 sD 6 (.bin .or .num (.t 5) (.c (.int .u64 1))),
 sD 2 (.mv (.t 6))])
 .ret))
def fn83 : IFun := ⟨7, [(.tmp 2)], an83.erase⟩
theorem ok83 : okFun Try.prog 83 fn83 = true := by kernel_rfl
theorem oka83 : okA fn83.ntmps fn83.results an83 = true := by kernel_rfl
def sh83 (C : CallA) (n0 : AV) (h : H) (R : AV → H → Prop) : Prop :=
 valA (cvA .u64 n0) h fun t4 h =>
 valA (binOp .shl .num t4 (.int .u64 1)) h fun t5 h =>
 valA (binOp .or .num t5 (.int .u64 1)) h fun t6 h =>
 R t6 h
theorem she83 (C : CallA) (n0 : AV) (h : H) (R : AV → H → Prop) : wpA C an83 (argE [n0]) h (outA [(.tmp 2)] R) = sh83 C n0 h R := by kernel_rfl
/-! bellows/word.At -/
def an85 : ACode :=
 (.seq (.reg 0 [] [] [sD 2 (.mv (.c (.int .i64 0)))])
 (.seq (.reg 0 [] [] [sD 3 (.mv (.t 0)),
 sD 4 (.bin .shr .num (.t 3) (.c (.int .u64 1))),
 sD 5 (.cv none (.toInt .i64) (.t 4)),
 sD 2 (.mv (.t 5))])
 .ret))
def fn85 : IFun := ⟨6, [(.tmp 2)], an85.erase⟩
theorem ok85 : okFun Try.prog 85 fn85 = true := by kernel_rfl
theorem oka85 : okA fn85.ntmps fn85.results an85 = true := by kernel_rfl
def sh85 (C : CallA) (w0 : AV) (h : H) (R : AV → H → Prop) : Prop :=
 valA (binOp .shr .num w0 (.int .u64 1)) h fun t4 h =>
 valA (cvA .i64 t4) h fun t5 h =>
 R t5 h
theorem she85 (C : CallA) (w0 : AV) (h : H) (R : AV → H → Prop) : wpA C an85 (argE [w0]) h (outA [(.tmp 2)] R) = sh85 C w0 h R := by kernel_rfl
/-! bellows/bellowsref01.power -/
def an100 : ACode :=
 (.seq (.reg 0 [] [] [sD 2 (.mv (.c (.int .u64 0)))])
 (.seq (.reg 0 [] [] [sD 3 (.mv (.c (.int .u64 1)))])
 (.seq (.seq (.reg 0 [] [] [sD 4 (.mv (.c (.int .i64 0)))])
 (.block 0 (.loop [3, 4] 25 (.seq (.seq (.reg 0 [] [] [sD 5 (.mv (.t 4)),
 sD 6 (.mv (.t 0)),
 sD 7 (.bin .lss .num (.t 5) (.t 6))])
 (.cond (.t 7) .skip
 (.exit 0)))
 (.seq (.block 1 (.reg 0 [] [] [sD 10 (.mv (.t 3)),
 sD 11 (.bin .mul .num (.t 10) (.c (.int .u64 2))),
 sD 3 (.mv (.t 11))]))
 (.reg 0 [] [] [sD 8 (.mv (.t 4)),
 sD 9 (.bin .add .num (.t 8) (.c (.int .i64 1))),
 sD 4 (.mv (.t 9))]))))))
 (.seq (.reg 0 [] [] [sD 12 (.mv (.t 3)),
 sD 2 (.mv (.t 12))])
 .ret))))
def fn100 : IFun := ⟨13, [(.tmp 2)], an100.erase⟩
theorem ok100 : okFun Try.prog 100 fn100 = true := by kernel_rfl
theorem oka100 : okA fn100.ntmps fn100.results an100 = true := by kernel_rfl
def sh100 (C : CallA) (n0 : AV) (h : H) (R : AV → H → Prop) : Prop :=
 joinA (fun (x3' : AV) (h : H) =>
  R x3' h) fun J =>
 loopA (fun N l h => argA l 0 fun x3 => argA l 1 fun i4 => 
  valA (binOp .lss .num i4 n0) h fun t7 h =>
  condA t7
   (valA (binOp .mul .num x3 (.int .u64 2)) h fun t11 h =>
  valA (binOp .add .num i4 (.int .i64 1)) h fun t9 h =>
  N [t11, t9] h)
   (J x3 h)) [(.int .u64 1), (.int .i64 0)] h
theorem she100 (C : CallA) (n0 : AV) (h : H) (R : AV → H → Prop) : wpA C an100 (argE [n0]) h (outA [(.tmp 2)] R) = sh100 C n0 h R := by kernel_rfl
/-! (*bellows/heap.Heap).has -/
def an101 : ACode :=
 (.seq (.reg 0 [] [] [sD 8 (.mv (.c (.bool false)))])
 (.seq (.reg 0 [0, 1, 2, 3, 4, 5, 6, 7, 8, 9, 10, 11, 12, 13, 14, 15, 16, 17, 18, 19, 20, 21, 22, 23, 24, 25, 26, 27, 28, 29, 30, 31, 32, 33, 34, 35, 36, 37, 38, 39] [[], [], [1, 0], [0, 1, 2], [2, 1, 0, 3], [3, 0, 1, 2, 4], [4, 2, 1, 0, 3, 5], [5, 3, 0, 1, 2, 4, 6], [2, 1, 0, 3], [3, 0, 1, 2, 8], [8, 2, 1, 0, 3, 9], [9, 3, 0, 1, 2, 8, 10], [2, 1, 0, 3], [12, 10, 8, 2, 1, 0, 3, 9, 11], [11, 9, 3, 0, 1, 2, 8, 10, 12, 13], [13, 12, 10, 8, 2, 1, 0, 3, 9, 11, 14], [14, 11, 9, 8, 10, 12, 13, 15, 6, 4, 2, 1, 0, 3, 5, 7], [7, 5, 3, 0, 1, 2, 4, 6, 15, 13, 12, 10, 8, 9, 11, 14, 16], [16, 14, 11, 9, 8, 10, 12, 13, 15, 6, 4, 2, 1, 0, 3, 5, 7, 17], [17, 7, 5, 3, 0, 1, 2, 4, 6, 15, 13, 12, 10, 8, 9, 11, 14, 16, 18], [2, 1, 0, 3], [20, 18, 16, 14, 11, 9, 8, 10, 12, 13, 15, 6, 4, 2, 1, 0, 3, 5, 7, 17, 19], [19, 17, 7, 5, 4, 6, 15, 13, 12, 10, 8, 9, 11, 14, 16, 18, 20, 21, 2, 1, 0, 3], [3, 0, 1, 2, 21, 20, 18, 16, 14, 11, 9, 8, 10, 12, 13, 15, 6, 4, 5, 7, 17, 19, 22], [22, 19, 17, 7, 5, 4, 6, 15, 13, 12, 10, 8, 9, 11, 14, 16, 18, 20, 21, 2, 1, 0, 3, 23], [23, 3, 0, 1, 2, 21, 20, 18, 16, 14, 11, 9, 8, 10, 12, 13, 15, 6, 4, 5, 7, 17, 19, 22, 24], [24, 25, 22, 19, 17, 7, 5, 4, 6, 15, 13, 12, 10, 8, 9, 11, 14, 16, 18, 20, 21, 2, 1, 0, 3, 23], [23, 3, 0, 1, 2, 21, 20, 18, 16, 14, 11, 9, 8, 10, 12, 13, 15, 6, 4, 5, 7, 17, 19, 22, 25, 24, 26], [26, 24, 25, 22, 19, 17, 7, 5, 4, 6, 15, 13, 12, 10, 8, 9, 11, 14, 16, 18, 20, 21, 2, 1, 0, 3, 23, 27], [26, 24, 25, 22, 19, 17, 7, 5, 4, 6, 15, 13, 12, 10, 8, 9, 11, 14, 16, 18, 20, 21, 2, 1, 0, 3, 23, 27], [27, 23, 3, 0, 1, 2, 21, 20, 18, 16, 14, 11, 9, 8, 10, 12, 13, 15, 6, 4, 5, 7, 17, 19, 22, 25, 24, 26, 29], [29, 26, 24, 25, 22, 19, 17, 7, 5, 4, 6, 15, 13, 12, 10, 8, 9, 11, 14, 16, 18, 20, 21, 2, 1, 0, 3, 23, 27, 30], [30, 27, 23, 3, 0, 1, 2, 21, 20, 18, 16, 14, 11, 9, 8, 10, 12, 13, 15, 6, 4, 5, 7, 17, 19, 22, 25, 24, 26, 29, 31], [26, 24, 25, 22, 19, 17, 7, 5, 4, 6, 15, 13, 12, 10, 8, 9, 11, 14, 16, 18, 20, 21, 2, 1, 0, 3, 23, 27], [33, 31, 29, 26, 24, 25, 22, 19, 17, 7, 5, 4, 6, 15, 13, 12, 10, 8, 9, 11, 14, 16, 18, 20, 21, 2, 1, 0, 3, 23, 27, 30, 32], [32, 30, 27, 23, 3, 0, 1, 2, 21, 20, 18, 16, 14, 11, 9, 8, 10, 12, 13, 15, 6, 4, 5, 7, 17, 19, 22, 25, 24, 26, 29, 31, 33, 34], [34, 33, 31, 29, 26, 24, 25, 22, 19, 17, 7, 5, 4, 6, 15, 13, 12, 10, 8, 9, 11, 14, 16, 18, 20, 21, 2, 1, 0, 3, 23, 27, 30, 32, 35], [35, 32, 30, 29, 31, 33, 34, 36, 27, 23, 3, 0, 1, 2, 21, 20, 18, 16, 14, 11, 9, 8, 10, 12, 13, 15, 6, 4, 5, 7, 17, 19, 22, 25, 24, 26, 28], [28, 36, 34, 33, 31, 29, 30, 32, 35, 37, 26, 24, 25, 22, 19, 17, 7, 5, 4, 6, 15, 13, 12, 10, 8, 9, 11, 14, 16, 18, 20, 21, 2, 1, 0, 3, 23, 27], [27, 23, 3, 0, 1, 2, 21, 20, 18, 16, 14, 11, 9, 8, 10, 12, 13, 15, 6, 4, 5, 7, 17, 19, 22, 25, 24, 26, 37, 35, 32, 30, 29, 31, 33, 34, 36, 28, 38]] [sD 9 (.mv (.t 0)),
 sD 10 (.mv (.t 1)),
 sD 11 (.call 56 [(.t 9), (.t 10)]),
 sD 12 (.mv (.t 11)),
 sG 13 12 true (.mv (.t 0)),
 sG 14 12 true (.nilc (.t 13)),
 sG 15 12 true (.fa 2 (.t 14)),
 sG 16 12 true (.ld none (.t 15)),
 sG 17 12 true (.mv (.t 0)),
 sG 18 12 true (.nilc (.t 17)),
 sG 19 12 true (.fa 0 (.t 18)),
 sG 20 12 true (.ld none (.t 19)),
 sG 21 12 true (.mv (.t 1)),
 sG 22 12 true (.ia none 1 (.t 20) (.t 21)),
 sG 23 12 true (.ld none (.t 22)),
 ⟨(some 24), (some (12, true)), (.call 33 [(.t 23)]), [⟨(some (12, true)), (.ld none (.t 15)), 16⟩]⟩,
 sG 25 12 true (.ia none 2 (.t 16) (.t 24)),
 sG 26 12 true (.fa 0 (.t 25)),
 sG 27 12 true (.ld none (.t 26)),
 sG 28 12 true (.bin .eql .num (.t 27) (.c (.int .i64 3))),
 sG 29 12 true (.mv (.t 3)),
 sG 30 12 true (.bin .eql .bool (.t 28) (.t 29)),
 sD 31 (.pick (.t 12) (.t 30) (.c (.bool false))),
 sD 32 (.mv (.t 31)),
 sG 33 32 true (.mv (.t 2)),
 sG 34 32 true (.bin .geq .num (.t 33) (.c (.int .i64 0))),
 sD 35 (.pick (.t 32) (.t 34) (.c (.bool false))),
 sD 36 (.mv (.t 35)),
 sG 37 36 true (.mv (.t 2)),
 sG 38 36 true (.mv (.t 0)),
 sG 39 36 true (.nilc (.t 38)),
 sG 40 36 true (.fa 0 (.t 39)),
 sG 41 36 true (.ld none (.t 40)),
 sG 42 36 true (.mv (.t 1)),
 sG 43 36 true (.ia none 1 (.t 41) (.t 42)),
 sG 44 36 true (.ld none (.t 43)),
 sG 45 36 true (.call 35 [(.t 44)]),
 sG 46 36 true (.bin .lss .num (.t 37) (.t 45)),
 sD 47 (.pick (.t 36) (.t 46) (.c (.bool false))),
 sD 8 (.mv (.t 47))])
 .ret))
def fn101 : IFun := ⟨48, [(.tmp 8)], an101.erase⟩
theorem ok101 : okFun Try.prog 101 fn101 = true := by kernel_rfl
theorem oka101 : okA fn101.ntmps fn101.results an101 = true := by kernel_rfl
def sh101 (C : CallA) (h0 at1 i2 bytes3 : AV) (h : H) (R : AV → H → Prop) : Prop :=
 C 56 [h0, at1] h fun t11 h =>
 whenA t11 true (fun K => K h0 h) h fun t13 h =>
 whenA t11 true (fun K => valA (nilcA t13) h K) h fun t14 h =>
 whenA t11 true (fun K => valA (faA 2 t14) h K) h fun t15 h =>
 whenA t11 true (fun K => valA (ldA h none t15) h K) h fun t16 h =>
 whenA t11 true (fun K => K h0 h) h fun t17 h =>
 whenA t11 true (fun K => valA (nilcA t17) h K) h fun t18 h =>
 whenA t11 true (fun K => valA (faA 0 t18) h K) h fun t19 h =>
 whenA t11 true (fun K => valA (ldA h none t19) h K) h fun t20 h =>
 whenA t11 true (fun K => K at1 h) h fun t21 h =>
 whenA t11 true (fun K => valA (iaA 1 t20 t21) h K) h fun t22 h =>
 whenA t11 true (fun K => valA (ldA h none t22) h K) h fun t23 h =>
 whenA t11 true (fun K => C 33 [t23] h K) h fun t24 h =>
 againK (whenP t11 true (valA (ldA h none t15) h (fun v _ => v = t16))) <|
 whenA t11 true (fun K => valA (iaA 2 t16 t24) h K) h fun t25 h =>
 whenA t11 true (fun K => valA (faA 0 t25) h K) h fun t26 h =>
 whenA t11 true (fun K => valA (ldA h none t26) h K) h fun t27 h =>
 whenA t11 true (fun K => valA (binOp .eql .num t27 (.int .i64 3)) h K) h fun t28 h =>
 whenA t11 true (fun K => K bytes3 h) h fun t29 h =>
 whenA t11 true (fun K => valA (binOp .eql .bool t28 t29) h K) h fun t30 h =>
 valA (pickA t11 t30 (.bool false)) h fun t31 h =>
 whenA t31 true (fun K => K i2 h) h fun t33 h =>
 whenA t31 true (fun K => valA (binOp .geq .num t33 (.int .i64 0)) h K) h fun t34 h =>
 valA (pickA t31 t34 (.bool false)) h fun t35 h =>
 whenA t35 true (fun K => K i2 h) h fun t37 h =>
 whenA t35 true (fun K => K h0 h) h fun t38 h =>
 whenA t35 true (fun K => valA (nilcA t38) h K) h fun t39 h =>
 whenA t35 true (fun K => valA (faA 0 t39) h K) h fun t40 h =>
 whenA t35 true (fun K => valA (ldA h none t40) h K) h fun t41 h =>
 whenA t35 true (fun K => K at1 h) h fun t42 h =>
 whenA t35 true (fun K => valA (iaA 1 t41 t42) h K) h fun t43 h =>
 whenA t35 true (fun K => valA (ldA h none t43) h K) h fun t44 h =>
 whenA t35 true (fun K => C 35 [t44] h K) h fun t45 h =>
 whenA t35 true (fun K => valA (binOp .lss .num t37 t45) h K) h fun t46 h =>
 valA (pickA t35 t46 (.bool false)) h fun t47 h =>
 R t47 h
theorem she101 (C : CallA) (h0 at1 i2 bytes3 : AV) (h : H) (R : AV → H → Prop) : wpA C an101 (argE [h0, at1, i2, bytes3]) h (outA [(.tmp 8)] R) = sh101 C h0 at1 i2 bytes3 h R := by kernel_rfl
/-! (*bellows/bellowsref02.Heap).Alloc -/
def an102 : ACode :=
 (.seq (.reg 0 [] [] [sD 6 (.mv (.c (.int .i64 0))),
 sD 7 (.mv (.c (.int .i64 0)))])
 (.seq (.reg 0 [] [] [sD 14 (.mv (.t 0)),
 sD 15 (.mv (.t 1)),
 sD 16 (.mv (.t 2)),
 sD 17 (.call 53 [(.t 14), (.t 15), (.t 16)]),
 sD 13 (.mv (.t 17)),
 sD 18 (.ext (.t 13) 0),
 sD 19 (.ext (.t 13) 1),
 sD 8 (.mv (.t 18)),
 sD 9 (.mv (.t 19))])
 (.seq (.seq (.reg 0 [] [] [sD 20 (.mv (.t 9)),
 sD 21 (.bin .neq .num (.t 20) (.c (.int .i64 0)))])
 (.cond (.t 21) (.seq (.reg 0 [] [] [sD 22 (.mv (.t 9)),
 sD 6 (.mv (.c (.int .i64 0))),
 sD 7 (.mv (.t 22))])
 .ret)
 .skip))
 (.seq (.reg 0 [] [] [sD 23 (.mv (.t 0)),
 sD 24 (.call 75 [(.t 23)]),
 sD 10 (.mv (.t 24))])
 (.seq (.seq (.reg 0 [] [] [sD 25 (.mv (.t 8)),
 sD 26 (.mv (.t 0)),
 sD 27 (.nilc (.t 26)),
 sD 28 (.fa 0 (.t 27)),
 sD 29 (.ld none (.t 28)),
 sD 30 (.mv (.t 10)),
 sD 31 (.bin .sub .num (.t 29) (.t 30)),
 sD 32 (.bin .gtr .num (.t 25) (.t 31))])
 (.cond (.t 32) (.seq (.reg 0 [] [] [sD 6 (.mv (.c (.int .i64 0))),
 sD 7 (.mv (.c (.int .i64 3)))])
 .ret)
 .skip))
 (.seq (.reg 0 [] [] [sD 33 (.mv (.t 10)),
 sD 34 (.mv (.t 1)),
 sD 35 (.mv (.t 2)),
 sD 36 (.build [(.int .i64 0), (.int .i64 0), (.int .i64 0), .nilsl, .nilsl] [(0, 1, (.t 33)), (1, 1, (.t 34)), (2, 1, (.t 35))]),
 sD 11 (.al none 89 [(.int .i64 0), (.int .i64 0), (.int .i64 0), .nilsl, .nilsl]),
 sN (.st 5 (.t 11) (.t 36))])
 (.seq (.seq (.reg 0 [] [] [sD 12 (.mv (.c (.int .i64 0)))])
 (.block 0 (.loop [12] 7175 (.seq (.seq (.reg 0 [] [] [sD 37 (.mv (.t 12)),
 sD 38 (.mv (.t 2)),
 sD 39 (.bin .lss .num (.t 37) (.t 38))])
 (.cond (.t 39) .skip
 (.exit 0)))
 (.seq (.block 1 (.seq (.reg 0 [] [] [sD 42 (.mv (.t 0)),
 sD 43 (.nilc (.t 42)),
 sD 44 (.fa 1 (.t 43)),
 sD 45 (.ld none (.t 44)),
 sD 46 (.mv (.t 1)),
 sD 47 (.ia none 2 (.t 45) (.t 46)),
 sD 48 (.fa 0 (.t 47)),
 sD 49 (.ld none (.t 48)),
 sD 50 (.bin .eql .num (.t 49) (.c (.int .i64 3)))])
 (.cond (.t 50) (.reg 0 [] [] [sD 51 (.fa 4 (.t 11)),
 sD 52 (.ld none (.t 51)),
 sD 53 (.mksl none 5 [(.int .u8 0)] 1 [(0, 1, (.c (.int .u8 0)))]),
 sD 54 (.app 5 1 1 [(.int .u8 0)] (.t 52) (.t 53)),
 sD 55 (.fa 4 (.t 11)),
 sN (.st 1 (.t 55) (.t 54))])
 (.reg 0 [] [] [sD 56 (.fa 3 (.t 11)),
 sD 57 (.ld none (.t 56)),
 sD 58 (.mksl none 25 [(.int .u64 0)] 1 [(0, 1, (.c (.int .u64 1)))]),
 sD 59 (.app 25 1 8 [(.int .u64 0)] (.t 57) (.t 58)),
 sD 60 (.fa 3 (.t 11)),
 sN (.st 1 (.t 60) (.t 59))]))))
 (.reg 0 [] [] [sD 40 (.mv (.t 12)),
 sD 41 (.bin .add .num (.t 40) (.c (.int .i64 1))),
 sD 12 (.mv (.t 41))]))))))
 (.seq (.reg 1 [0, 1, 2, 3, 4, 5, 6, 7, 8, 9, 10] [[], [], [1], [1, 2], [2, 1, 3], [], [5], [5, 6, 3, 1, 2, 4], [7, 6, 5, 4, 3, 2, 1, 0], [0, 1, 2, 3, 4, 5, 6, 7, 8], [8, 7, 6, 5, 4, 3, 2, 1, 0, 9]] [sD 61 (.mv (.t 0)),
 sD 62 (.mv (.t 0)),
 sD 63 (.nilc (.t 62)),
 sD 64 (.fa 2 (.t 63)),
 sD 65 (.ld none (.t 64)),
 sD 66 (.ld (some 5) (.t 11)),
 sD 67 (.mksl (some 0) 89 [(.int .i64 0), (.int .i64 0), (.int .i64 0), .nilsl, .nilsl] 1 [(0, 5, (.t 66))]),
 sD 68 (.app 89 5 72 [(.int .i64 0), (.int .i64 0), (.int .i64 0), .nilsl, .nilsl] (.t 65) (.t 67)),
 sD 69 (.nilc (.t 61)),
 sD 70 (.fa 2 (.t 69)),
 sN (.st 1 (.t 70) (.t 68))])
 (.seq (.reg 0 [] [] [sD 71 (.mv (.t 10)),
 sD 6 (.mv (.t 71)),
 sD 7 (.mv (.c (.int .i64 0)))])
 .ret)))))))))
def fn102 : IFun := ⟨72, [(.tmp 6), (.tmp 7)], an102.erase⟩
theorem ok102 : okFun Try.prog 102 fn102 = true := by kernel_rfl
theorem oka102 : okA fn102.ntmps fn102.results an102 = true := by kernel_rfl
def sh102 (C : CallA) (h0 shape1 n2 : AV) (h : H) (R : AV → H → Prop) : Prop :=
 C 53 [h0, shape1, n2] h fun t17 h =>
 valA (extA t17 0) h fun t18 h =>
 valA (extA t17 1) h fun t19 h =>
 valA (binOp .neq .num t19 (.int .i64 0)) h fun t21 h =>
 condA t21
  (R (.tup [(.int .i64 0), t19]) h)
  (C 75 [h0] h fun t24 h =>
 valA (nilcA h0) h fun t27 h =>
 valA (faA 0 t27) h fun t28 h =>
 valA (ldA h none t28) h fun t29 h =>
 valA (binOp .sub .num t29 t24) h fun t31 h =>
 valA (binOp .gtr .num t18 t31) h fun t32 h =>
 condA t32
  (R (.tup [(.int .i64 0), (.int .i64 3)]) h)
  (valA (buildA (fillV [(.int .i64 0), (.int .i64 0), (.int .i64 0), .nilsl, .nilsl] [(0, 1, t24), (1, 1, shape1), (2, 1, n2)])) h fun t36 h =>
 newA h [(.int .i64 0), (.int .i64 0), (.int .i64 0), .nilsl, .nilsl] 89 (fun b => .ptr b 0) fun o11 h =>
 memA (stA h 5 o11 t36) .undef fun _ h =>
 joinA (fun (h : H) =>
  valA (nilcA h0) h fun t63 h =>
  valA (faA 2 t63) h fun t64 h =>
  valA (ldA h none t64) h fun t65 h =>
  valA (ldA h (some 5) o11) h fun t66 h =>
  mkslA h 89 1 (fillV [(.int .i64 0), (.int .i64 0), (.int .i64 0), .nilsl, .nilsl] [(0, 5, t66)]) fun t67 h =>
  appendA h 89 5 72 t65 t67 fun t68 h =>
  valA (nilcA h0) h fun t69 h =>
  valA (faA 2 t69) h fun t70 h =>
  memA (stA h 1 t70 t68) .undef fun _ h =>
  R (.tup [t24, (.int .i64 0)]) h) fun J =>
 loopA (fun N l h => argA l 0 fun i12 => 
  valA (binOp .lss .num i12 n2) h fun t39 h =>
  condA t39
   (joinA (fun (h : H) =>
   valA (binOp .add .num i12 (.int .i64 1)) h fun t41 h =>
   N [t41] h) fun J_19 =>
  valA (nilcA h0) h fun t43 h =>
  valA (faA 1 t43) h fun t44 h =>
  valA (ldA h none t44) h fun t45 h =>
  valA (iaA 2 t45 shape1) h fun t47 h =>
  valA (faA 0 t47) h fun t48 h =>
  valA (ldA h none t48) h fun t49 h =>
  valA (binOp .eql .num t49 (.int .i64 3)) h fun t50 h =>
  condA t50
   (valA (faA 4 o11) h fun t51 h =>
   valA (ldA h none t51) h fun t52 h =>
   mkslA h 5 1 (fillV [(.int .u8 0)] [(0, 1, (.int .u8 0))]) fun t53 h =>
   appendA h 5 1 1 t52 t53 fun t54 h =>
   valA (faA 4 o11) h fun t55 h =>
   memA (stA h 1 t55 t54) .undef fun _ h =>
   J_19 h)
   (valA (faA 3 o11) h fun t56 h =>
   valA (ldA h none t56) h fun t57 h =>
   mkslA h 25 1 (fillV [(.int .u64 0)] [(0, 1, (.int .u64 1))]) fun t58 h =>
   appendA h 25 1 8 t57 t58 fun t59 h =>
   valA (faA 3 o11) h fun t60 h =>
   memA (stA h 1 t60 t59) .undef fun _ h =>
   J_19 h))
   (J h)) [(.int .i64 0)] h))
theorem she102 (C : CallA) (h0 shape1 n2 : AV) (h : H) (R : AV → H → Prop) : wpA C an102 (argE [h0, shape1, n2]) h (outA [(.tmp 6), (.tmp 7)] R) = sh102 C h0 shape1 n2 h R := by kernel_rfl
/-! (*bellows/bellowsref02.Heap).Set -/
def an103 : ACode :=
 (.seq (.reg 0 [] [] [sD 8 (.mv (.c (.int .i64 0)))])
 (.seq (.reg 0 [] [] [sD 10 (.mv (.t 0)),
 sD 11 (.mv (.t 1)),
 sD 12 (.call 67 [(.t 10), (.t 11)]),
 sD 9 (.mv (.t 12))])
 (.seq (.seq (.reg 0 [] [] [sD 13 (.mv (.t 9)),
 sD 14 (.bin .lss .num (.t 13) (.c (.int .i64 0))),
 sD 15 (.mv (.t 14)),
 sG 16 15 false (.mv (.t 2)),
 sG 17 15 false (.bin .lss .num (.t 16) (.c (.int .i64 0))),
 sD 18 (.pick (.t 15) (.c (.bool true)) (.t 17)),
 sD 19 (.mv (.t 18)),
 sG 20 19 false (.mv (.t 2)),
 sG 21 19 false (.mv (.t 0)),
 sG 22 19 false (.nilc (.t 21)),
 sG 23 19 false (.fa 2 (.t 22)),
 sG 24 19 false (.ld none (.t 23)),
 sG 25 19 false (.mv (.t 9)),
 sG 26 19 false (.ia none 5 (.t 24) (.t 25)),
 sG 27 19 false (.fa 3 (.t 26)),
 sG 28 19 false (.ld none (.t 27)),
 sG 29 19 false (.len false (.t 28)),
 sG 30 19 false (.bin .geq .num (.t 20) (.t 29)),
 sD 31 (.pick (.t 19) (.c (.bool true)) (.t 30)),
 sD 32 (.mv (.t 31)),
 sG 33 32 false (.mv (.t 0)),
 sG 34 32 false (.mv (.t 3)),
 sG 35 32 false (.call 69 [(.t 33), (.t 34)]),
 sG 36 32 false (.un .not (.t 35)),
 sD 37 (.pick (.t 32) (.c (.bool true)) (.t 36))])
 (.cond (.t 37) (.seq (.reg 0 [] [] [sD 8 (.mv (.c (.int .i64 1)))])
 .ret)
 .skip))
 (.seq (.reg 0 [] [] [sD 38 (.mv (.t 0)),
 sD 39 (.nilc (.t 38)),
 sD 40 (.fa 2 (.t 39)),
 sD 41 (.ld none (.t 40)),
 sD 42 (.mv (.t 9)),
 sD 43 (.ia none 5 (.t 41) (.t 42)),
 sD 44 (.fa 3 (.t 43)),
 sD 45 (.ld none (.t 44)),
 sD 46 (.mv (.t 2)),
 sD 47 (.mv (.t 3)),
 sD 48 (.ia none 1 (.t 45) (.t 46)),
 sN (.st 1 (.t 48) (.t 47))])
 (.seq (.reg 0 [] [] [sD 8 (.mv (.c (.int .i64 0)))])
 .ret)))))
def fn103 : IFun := ⟨49, [(.tmp 8)], an103.erase⟩
theorem ok103 : okFun Try.prog 103 fn103 = true := by kernel_rfl
theorem oka103 : okA fn103.ntmps fn103.results an103 = true := by kernel_rfl
def sh103 (C : CallA) (h0 at1 i2 w3 : AV) (h : H) (R : AV → H → Prop) : Prop :=
 C 67 [h0, at1] h fun t12 h =>
 valA (binOp .lss .num t12 (.int .i64 0)) h fun t14 h =>
 whenA t14 false (fun K => K i2 h) h fun t16 h =>
 whenA t14 false (fun K => valA (binOp .lss .num t16 (.int .i64 0)) h K) h fun t17 h =>
 valA (pickA t14 (.bool true) t17) h fun t18 h =>
 whenA t18 false (fun K => K i2 h) h fun t20 h =>
 whenA t18 false (fun K => K h0 h) h fun t21 h =>
 whenA t18 false (fun K => valA (nilcA t21) h K) h fun t22 h =>
 whenA t18 false (fun K => valA (faA 2 t22) h K) h fun t23 h =>
 whenA t18 false (fun K => valA (ldA h none t23) h K) h fun t24 h =>
 whenA t18 false (fun K => K t12 h) h fun t25 h =>
 whenA t18 false (fun K => valA (iaA 5 t24 t25) h K) h fun t26 h =>
 whenA t18 false (fun K => valA (faA 3 t26) h K) h fun t27 h =>
 whenA t18 false (fun K => valA (ldA h none t27) h K) h fun t28 h =>
 whenA t18 false (fun K => valA (lenA false t28) h K) h fun t29 h =>
 whenA t18 false (fun K => valA (binOp .geq .num t20 t29) h K) h fun t30 h =>
 valA (pickA t18 (.bool true) t30) h fun t31 h =>
 whenA t31 false (fun K => K h0 h) h fun t33 h =>
 whenA t31 false (fun K => K w3 h) h fun t34 h =>
 whenA t31 false (fun K => C 69 [t33, t34] h K) h fun t35 h =>
 whenA t31 false (fun K => valA (unOp .not t35) h K) h fun t36 h =>
 valA (pickA t31 (.bool true) t36) h fun t37 h =>
 condA t37
  (R (.int .i64 1) h)
  (valA (nilcA h0) h fun t39 h =>
 valA (faA 2 t39) h fun t40 h =>
 valA (ldA h none t40) h fun t41 h =>
 valA (iaA 5 t41 t12) h fun t43 h =>
 valA (faA 3 t43) h fun t44 h =>
 valA (ldA h none t44) h fun t45 h =>
 valA (iaA 1 t45 i2) h fun t48 h =>
 memA (stA h 1 t48 w3) .undef fun _ h =>
 R (.int .i64 0) h)
theorem she103 (C : CallA) (h0 at1 i2 w3 : AV) (h : H) (R : AV → H → Prop) : wpA C an103 (argE [h0, at1, i2, w3]) h (outA [(.tmp 8)] R) = sh103 C h0 at1 i2 w3 h R := by kernel_rfl
/-! (*bellows/bellowsref02.Heap).SetByte -/
def an104 : ACode :=
 (.seq (.reg 0 [] [] [sD 8 (.mv (.c (.int .i64 0)))])
 (.seq (.reg 0 [] [] [sD 10 (.mv (.t 0)),
 sD 11 (.mv (.t 1)),
 sD 12 (.call 67 [(.t 10), (.t 11)]),
 sD 9 (.mv (.t 12))])
 (.seq (.seq (.reg 0 [] [] [sD 13 (.mv (.t 9)),
 sD 14 (.bin .lss .num (.t 13) (.c (.int .i64 0))),
 sD 15 (.mv (.t 14)),
 sG 16 15 false (.mv (.t 2)),
 sG 17 15 false (.bin .lss .num (.t 16) (.c (.int .i64 0))),
 sD 18 (.pick (.t 15) (.c (.bool true)) (.t 17)),
 sD 19 (.mv (.t 18)),
 sG 20 19 false (.mv (.t 2)),
 sG 21 19 false (.mv (.t 0)),
 sG 22 19 false (.nilc (.t 21)),
 sG 23 19 false (.fa 2 (.t 22)),
 sG 24 19 false (.ld none (.t 23)),
 sG 25 19 false (.mv (.t 9)),
 sG 26 19 false (.ia none 5 (.t 24) (.t 25)),
 sG 27 19 false (.fa 4 (.t 26)),
 sG 28 19 false (.ld none (.t 27)),
 sG 29 19 false (.len false (.t 28)),
 sG 30 19 false (.bin .geq .num (.t 20) (.t 29)),
 sD 31 (.pick (.t 19) (.c (.bool true)) (.t 30))])
 (.cond (.t 31) (.seq (.reg 0 [] [] [sD 8 (.mv (.c (.int .i64 1)))])
 .ret)
 .skip))
 (.seq (.reg 0 [] [] [sD 32 (.mv (.t 0)),
 sD 33 (.nilc (.t 32)),
 sD 34 (.fa 2 (.t 33)),
 sD 35 (.ld none (.t 34)),
 sD 36 (.mv (.t 9)),
 sD 37 (.ia none 5 (.t 35) (.t 36)),
 sD 38 (.fa 4 (.t 37)),
 sD 39 (.ld none (.t 38)),
 sD 40 (.mv (.t 2)),
 sD 41 (.mv (.t 3)),
 sD 42 (.ia none 1 (.t 39) (.t 40)),
 sN (.st 1 (.t 42) (.t 41))])
 (.seq (.reg 0 [] [] [sD 8 (.mv (.c (.int .i64 0)))])
 .ret)))))
def fn104 : IFun := ⟨43, [(.tmp 8)], an104.erase⟩
theorem ok104 : okFun Try.prog 104 fn104 = true := by kernel_rfl
theorem oka104 : okA fn104.ntmps fn104.results an104 = true := by kernel_rfl
def sh104 (C : CallA) (h0 at1 i2 c3 : AV) (h : H) (R : AV → H → Prop) : Prop :=
 C 67 [h0, at1] h fun t12 h =>
 valA (binOp .lss .num t12 (.int .i64 0)) h fun t14 h =>
 whenA t14 false (fun K => K i2 h) h fun t16 h =>
 whenA t14 false (fun K => valA (binOp .lss .num t16 (.int .i64 0)) h K) h fun t17 h =>
 valA (pickA t14 (.bool true) t17) h fun t18 h =>
 whenA t18 false (fun K => K i2 h) h fun t20 h =>
 whenA t18 false (fun K => K h0 h) h fun t21 h =>
 whenA t18 false (fun K => valA (nilcA t21) h K) h fun t22 h =>
 whenA t18 false (fun K => valA (faA 2 t22) h K) h fun t23 h =>
 whenA t18 false (fun K => valA (ldA h none t23) h K) h fun t24 h =>
 whenA t18 false (fun K => K t12 h) h fun t25 h =>
 whenA t18 false (fun K => valA (iaA 5 t24 t25) h K) h fun t26 h =>
 whenA t18 false (fun K => valA (faA 4 t26) h K) h fun t27 h =>
 whenA t18 false (fun K => valA (ldA h none t27) h K) h fun t28 h =>
 whenA t18 false (fun K => valA (lenA false t28) h K) h fun t29 h =>
 whenA t18 false (fun K => valA (binOp .geq .num t20 t29) h K) h fun t30 h =>
 valA (pickA t18 (.bool true) t30) h fun t31 h =>
 condA t31
  (R (.int .i64 1) h)
  (valA (nilcA h0) h fun t33 h =>
 valA (faA 2 t33) h fun t34 h =>
 valA (ldA h none t34) h fun t35 h =>
 valA (iaA 5 t35 t12) h fun t37 h =>
 valA (faA 4 t37) h fun t38 h =>
 valA (ldA h none t38) h fun t39 h =>
 valA (iaA 1 t39 i2) h fun t42 h =>
 memA (stA h 1 t42 c3) .undef fun _ h =>
 R (.int .i64 0) h)
theorem she104 (C : CallA) (h0 at1 i2 c3 : AV) (h : H) (R : AV → H → Prop) : wpA C an104 (argE [h0, at1, i2, c3]) h (outA [(.tmp 8)] R) = sh104 C h0 at1 i2 c3 h R := by kernel_rfl
/-! (*bellows/bellowsref02.Heap).last -/
def an105 : ACode :=
 (.seq (.reg 0 [] [] [sD 3 (.bx none 89 (.t 1)),
 sD 4 (.mv (.c (.int .u64 0)))])
 (.seq (.reg 0 [] [] [sD 5 (.mv (.c (.int .u64 0)))])
 (.seq (.seq (.reg 0 [] [] [sD 7 (.fa 2 (.t 3)),
 sD 8 (.ld none (.t 7)),
 sD 9 (.bin .sub .num (.t 8) (.c (.int .i64 1))),
 sD 6 (.mv (.t 9))])
 (.block 0 (.loop [5, 6] 104 (.seq (.seq (.reg 0 [] [] [sD 10 (.mv (.t 6)),
 sD 11 (.fa 2 (.t 3)),
 sD 12 (.ld none (.t 11)),
 sD 13 (.fa 2 (.t 3)),
 sD 14 (.ld none (.t 13)),
 sD 15 (.bin .rem .num (.t 14) (.c (.int .i64 8))),
 sD 16 (.bin .sub .num (.t 12) (.t 15)),
 sD 17 (.bin .geq .num (.t 10) (.t 16))])
 (.cond (.t 17) .skip
 (.exit 0)))
 (.seq (.block 1 (.reg 0 [] [] [sD 20 (.mv (.t 5)),
 sD 21 (.bin .mul .num (.t 20) (.c (.int .u64 256))),
 sD 22 (.fa 4 (.t 3)),
 sD 23 (.ld none (.t 22)),
 sD 24 (.mv (.t 6)),
 sD 25 (.ia none 1 (.t 23) (.t 24)),
 sD 26 (.ld none (.t 25)),
 sD 27 (.cv none (.toInt .u64) (.t 26)),
 sD 28 (.bin .add .num (.t 21) (.t 27)),
 sD 5 (.mv (.t 28))]))
 (.reg 0 [] [] [sD 18 (.mv (.t 6)),
 sD 19 (.bin .sub .num (.t 18) (.c (.int .i64 1))),
 sD 6 (.mv (.t 19))]))))))
 (.seq (.reg 0 [] [] [sD 29 (.mv (.t 5)),
 sD 4 (.mv (.t 29))])
 .ret))))
def fn105 : IFun := ⟨30, [(.tmp 4)], an105.erase⟩
theorem ok105 : okFun Try.prog 105 fn105 = true := by kernel_rfl
theorem oka105 : okA fn105.ntmps fn105.results an105 = true := by kernel_rfl
def sh105 (C : CallA) (h0 o1 : AV) (h : H) (R : AV → H → Prop) : Prop :=
 newA h (AV.cells o1) 89 (fun b => .ptr b 0) fun o3 h =>
 joinA (fun (w5' : AV) (h : H) =>
  R w5' h) fun J =>
 valA (faA 2 o3) h fun t7 h =>
 valA (ldA h none t7) h fun t8 h =>
 valA (binOp .sub .num t8 (.int .i64 1)) h fun t9 h =>
 loopA (fun N l h => argA l 0 fun w5 => argA l 1 fun i6 => 
  valA (faA 2 o3) h fun t11 h =>
  valA (ldA h none t11) h fun t12 h =>
  valA (faA 2 o3) h fun t13 h =>
  valA (ldA h none t13) h fun t14 h =>
  valA (binOp .rem .num t14 (.int .i64 8)) h fun t15 h =>
  valA (binOp .sub .num t12 t15) h fun t16 h =>
  valA (binOp .geq .num i6 t16) h fun t17 h =>
  condA t17
   (valA (binOp .mul .num w5 (.int .u64 256)) h fun t21 h =>
  valA (faA 4 o3) h fun t22 h =>
  valA (ldA h none t22) h fun t23 h =>
  valA (iaA 1 t23 i6) h fun t25 h =>
  valA (ldA h none t25) h fun t26 h =>
  valA (cvA .u64 t26) h fun t27 h =>
  valA (binOp .add .num t21 t27) h fun t28 h =>
  valA (binOp .sub .num i6 (.int .i64 1)) h fun t19 h =>
  N [t28, t19] h)
   (J w5 h)) [(.int .u64 0), t9] h
theorem she105 (C : CallA) (h0 o1 : AV) (h : H) (R : AV → H → Prop) : wpA C an105 (argE [h0, o1]) h (outA [(.tmp 4)] R) = sh105 C h0 o1 h R := by kernel_rfl
/-! (*bellows/heap.Heap).whole -/
def an106 : ACode :=
 (.seq (.reg 0 [] [] [sD 2 (.mv (.c (.bool false)))])
 (.seq (.seq (.reg 0 [] [] [sD 8 (.mv (.t 0)),
 sD 9 (.call 59 [(.t 8)]),
 sD 10 (.len false (.t 9)),
 sD 11 (.mv (.c (.int .i64 0)))])
 (.block 0 (.loop [11] 3585 (.seq (.reg 0 [] [] [sD 12 (.bin .lss .num (.t 11) (.t 10))])
 (.seq (.cond (.t 12) .skip
 (.exit 0))
 (.seq (.block 1 (.seq (.reg 0 [] [] [sD 13 (.ia none 1 (.t 9) (.t 11)),
 sD 14 (.ld none (.t 13)),
 sD 4 (.mv (.t 14))])
 (.seq (.reg 0 [] [] [sD 15 (.mv (.t 0)),
 sD 16 (.nilc (.t 15)),
 sD 17 (.fa 0 (.t 16)),
 sD 18 (.ld none (.t 17)),
 sD 19 (.mv (.t 4)),
 sD 20 (.ia none 1 (.t 18) (.t 19)),
 sD 21 (.ld none (.t 20)),
 sD 5 (.mv (.t 21))])
 (.seq (.seq (.reg 0 [] [] [sD 22 (.mv (.t 5)),
 sD 23 (.call 35 [(.t 22)]),
 sD 6 (.mv (.t 23))])
 (.seq (.reg 0 [0, 1, 2, 3, 4, 5, 6, 7, 8, 9] [[], [0], [0, 1], [1, 0, 2], [], [4], [4, 5, 2, 0, 1, 3], [3, 1, 0, 2, 5, 4, 6], [6, 4, 5, 2, 0, 1, 3, 7], [7, 3, 1, 0, 2, 5, 4, 6, 8]] [sD 24 (.mv (.t 0)),
 sD 25 (.nilc (.t 24)),
 sD 26 (.fa 2 (.t 25)),
 sD 27 (.ld none (.t 26)),
 sD 28 (.mv (.t 5)),
 ⟨(some 29), none, (.call 33 [(.t 28)]), [⟨none, (.ld none (.t 26)), 27⟩]⟩,
 sD 30 (.ia none 2 (.t 27) (.t 29)),
 sD 31 (.fa 0 (.t 30)),
 sD 32 (.ld none (.t 31)),
 sD 33 (.bin .eql .num (.t 32) (.c (.int .i64 3)))])
 (.cond (.t 33) (.seq (.seq (.reg 0 [] [] [sD 34 (.mv (.t 6)),
 sD 35 (.bin .rem .num (.t 34) (.c (.int .i64 8))),
 sD 36 (.bin .gtr .num (.t 35) (.c (.int .i64 0))),
 sD 37 (.mv (.t 36)),
 sG 38 37 true (.mv (.t 0)),
 sG 39 37 true (.nilc (.t 38)),
 sG 40 37 true (.fa 0 (.t 39)),
 sG 41 37 true (.ld none (.t 40)),
 sG 42 37 true (.mv (.t 4)),
 sG 43 37 true (.bin .add .num (.t 42) (.c (.int .i64 1))),
 sG 44 37 true (.mv (.t 6)),
 sG 45 37 true (.bin .quo .num (.t 44) (.c (.int .i64 8))),
 sG 46 37 true (.bin .add .num (.t 43) (.t 45)),
 sG 47 37 true (.ia none 1 (.t 41) (.t 46)),
 sG 48 37 true (.ld none (.t 47)),
 sG 49 37 true (.mv (.t 6)),
 sG 50 37 true (.bin .rem .num (.t 49) (.c (.int .i64 8))),
 sG 51 37 true (.bin .mul .num (.t 50) (.c (.int .i64 8))),
 sG 52 37 true (.bin .shr .num (.t 48) (.t 51)),
 sG 53 37 true (.bin .gtr .num (.t 52) (.c (.int .u64 0))),
 sD 54 (.pick (.t 37) (.t 53) (.c (.bool false)))])
 (.cond (.t 54) (.seq (.reg 0 [] [] [sD 2 (.mv (.c (.bool false)))])
 .ret)
 .skip))
 (.exit 1))
 .skip)))
 (.seq (.reg 0 [] [] [sD 55 (.mv (.t 5)),
 sD 56 (.call 35 [(.t 55)]),
 sD 57 (.mv (.c (.int .i64 0)))])
 (.block 2 (.loop [57] 216172782113787409 (.seq (.reg 0 [] [] [sD 58 (.bin .lss .num (.t 57) (.t 56))])
 (.seq (.cond (.t 58) .skip
 (.exit 2))
 (.seq (.block 3 (.seq (.reg 0 [] [] [sD 59 (.mv (.t 57)),
 sD 7 (.mv (.t 59))])
 (.seq (.reg 0 [] [] [sD 60 (.mv (.t 0)),
 sD 61 (.mv (.t 0)),
 sD 62 (.nilc (.t 61)),
 sD 63 (.fa 0 (.t 62)),
 sD 64 (.ld none (.t 63)),
 sD 65 (.mv (.t 4)),
 sD 66 (.bin .add .num (.t 65) (.c (.int .i64 1))),
 sD 67 (.mv (.t 7)),
 sD 68 (.bin .add .num (.t 66) (.t 67)),
 sD 69 (.ia none 1 (.t 64) (.t 68)),
 sD 70 (.ld none (.t 69)),
 sD 71 (.call 68 [(.t 60), (.t 70)]),
 sD 72 (.un .not (.t 71))])
 (.cond (.t 72) (.seq (.reg 0 [] [] [sD 2 (.mv (.c (.bool false)))])
 .ret)
 .skip))))
 (.reg 0 [] [] [sD 73 (.bin .add .num (.t 57) (.c (.int .i64 1))),
 sD 57 (.mv (.t 73))])))))))))))
 (.reg 0 [] [] [sD 74 (.bin .add .num (.t 11) (.c (.int .i64 1))),
 sD 11 (.mv (.t 74))])))))))
 (.seq (.reg 0 [] [] [sD 2 (.mv (.c (.bool true)))])
 .ret)))
def fn106 : IFun := ⟨75, [(.tmp 2)], an106.erase⟩
theorem ok106 : okFun Try.prog 106 fn106 = true := by kernel_rfl
theorem oka106 : okA fn106.ntmps fn106.results an106 = true := by kernel_rfl
def sh106 (C : CallA) (h0 : AV) (h : H) (R : AV → H → Prop) : Prop :=
 joinA (fun (h : H) =>
  R (.bool true) h) fun J =>
 C 59 [h0] h fun t9 h =>
 valA (lenA false t9) h fun t10 h =>
 loopA (fun N l h => argA l 0 fun t11 => 
  valA (binOp .lss .num t11 t10) h fun t12 h =>
  condA t12
   (joinA (fun (h : H) =>
   valA (binOp .add .num t11 (.int .i64 1)) h fun t74 h =>
   N [t74] h) fun J_66 =>
  valA (iaA 1 t9 t11) h fun t13 h =>
  valA (ldA h none t13) h fun t14 h =>
  valA (nilcA h0) h fun t16 h =>
  valA (faA 0 t16) h fun t17 h =>
  valA (ldA h none t17) h fun t18 h =>
  valA (iaA 1 t18 t14) h fun t20 h =>
  valA (ldA h none t20) h fun t21 h =>
  C 35 [t21] h fun t23 h =>
  valA (nilcA h0) h fun t25 h =>
  valA (faA 2 t25) h fun t26 h =>
  valA (ldA h none t26) h fun t27 h =>
  C 33 [t21] h fun t29 h =>
  againK (valA (ldA h none t26) h (fun v _ => v = t27)) <|
  valA (iaA 2 t27 t29) h fun t30 h =>
  valA (faA 0 t30) h fun t31 h =>
  valA (ldA h none t31) h fun t32 h =>
  valA (binOp .eql .num t32 (.int .i64 3)) h fun t33 h =>
  condA t33
   (valA (binOp .rem .num t23 (.int .i64 8)) h fun t35 h =>
   valA (binOp .gtr .num t35 (.int .i64 0)) h fun t36 h =>
   whenA t36 true (fun K => K h0 h) h fun t38 h =>
   whenA t36 true (fun K => valA (nilcA t38) h K) h fun t39 h =>
   whenA t36 true (fun K => valA (faA 0 t39) h K) h fun t40 h =>
   whenA t36 true (fun K => valA (ldA h none t40) h K) h fun t41 h =>
   whenA t36 true (fun K => K t14 h) h fun t42 h =>
   whenA t36 true (fun K => valA (binOp .add .num t42 (.int .i64 1)) h K) h fun t43 h =>
   whenA t36 true (fun K => K t23 h) h fun t44 h =>
   whenA t36 true (fun K => valA (binOp .quo .num t44 (.int .i64 8)) h K) h fun t45 h =>
   whenA t36 true (fun K => valA (binOp .add .num t43 t45) h K) h fun t46 h =>
   whenA t36 true (fun K => valA (iaA 1 t41 t46) h K) h fun t47 h =>
   whenA t36 true (fun K => valA (ldA h none t47) h K) h fun t48 h =>
   whenA t36 true (fun K => K t23 h) h fun t49 h =>
   whenA t36 true (fun K => valA (binOp .rem .num t49 (.int .i64 8)) h K) h fun t50 h =>
   whenA t36 true (fun K => valA (binOp .mul .num t50 (.int .i64 8)) h K) h fun t51 h =>
   whenA t36 true (fun K => valA (binOp .shr .num t48 t51) h K) h fun t52 h =>
   whenA t36 true (fun K => valA (binOp .gtr .num t52 (.int .u64 0)) h K) h fun t53 h =>
   valA (pickA t36 t53 (.bool false)) h fun t54 h =>
   condA t54
    (R (.bool false) h)
    (J_66 h))
   (C 35 [t21] h fun t56 h =>
  loopA (fun N_67 l h => argA l 0 fun t57 => 
   valA (binOp .lss .num t57 t56) h fun t58 h =>
   condA t58
    (valA (nilcA h0) h fun t62 h =>
   valA (faA 0 t62) h fun t63 h =>
   valA (ldA h none t63) h fun t64 h =>
   valA (binOp .add .num t14 (.int .i64 1)) h fun t66 h =>
   valA (binOp .add .num t66 t57) h fun t68 h =>
   valA (iaA 1 t64 t68) h fun t69 h =>
   valA (ldA h none t69) h fun t70 h =>
   C 68 [h0, t70] h fun t71 h =>
   valA (unOp .not t71) h fun t72 h =>
   condA t72
    (R (.bool false) h)
    (valA (binOp .add .num t57 (.int .i64 1)) h fun t73 h =>
   N_67 [t73] h))
    (J_66 h)) [(.int .i64 0)] h))
   (J h)) [(.int .i64 0)] h
theorem she106 (C : CallA) (h0 : AV) (h : H) (R : AV → H → Prop) : wpA C an106 (argE [h0]) h (outA [(.tmp 2)] R) = sh106 C h0 h R := by kernel_rfl
end Go.Proofs.Ytljkkfcokpimkaa.X
