/- The plain programs of functions, printed; that they are the model's; what must hold ahead of each. -/
import Derived.Test.YtgcnliikibbcnaaProg
import Derived.Test.YtgcnliikibbcnaaXo
set_option maxRecDepth 100000
set_option linter.unusedVariables false
namespace Go.Proofs.Ytgcnliikibbcnaa.X
open Go
/-! bellows/code.over[int] -/
def an69 : ACode :=
 (.seq (.reg 0 [] [] [sD 2 (.bx none 3 (.t 0)),
 sD 4 (.mv (.c (.bool false)))])
 (.seq (.reg 0 [] [] [sD 5 (.mv (.t 1)),
 sD 6 (.mkf 96 [] [(.t 2)]),
 sD 7 (.call 95 [(.t 5), (.t 6)]),
 sD 4 (.mv (.t 7))])
 .ret))
def fn69 : IFun := ⟨8, [(.tmp 4)], an69.erase⟩
theorem ok69 : okFun Try.prog 69 fn69 = true := by kernel_rfl
theorem oka69 : okA fn69.ntmps fn69.results an69 = true := by kernel_rfl
def sh69 (C : CallA) (most0 lists1 : AV) (h : H) (R : AV → H → Prop) : Prop :=
 boxA h (AV.cells most0) 3 fun most2 h =>
 C 95 [lists1, (.fn 96 [] [most2])] h fun t7 h =>
 R t7 h
theorem she69 (C : CallA) (most0 lists1 : AV) (h : H) (R : AV → H → Prop) : wpA C an69 (argE [most0, lists1]) h (outA [(.tmp 4)] R) = sh69 C most0 lists1 h R := by kernel_rfl
/-! bellows/code.over[bellows/api.Block] -/
def an70 : ACode :=
 (.seq (.reg 0 [] [] [sD 2 (.bx none 3 (.t 0)),
 sD 4 (.mv (.c (.bool false)))])
 (.seq (.reg 0 [] [] [sD 5 (.mv (.t 1)),
 sD 6 (.mkf 98 [] [(.t 2)]),
 sD 7 (.call 97 [(.t 5), (.t 6)]),
 sD 4 (.mv (.t 7))])
 .ret))
def fn70 : IFun := ⟨8, [(.tmp 4)], an70.erase⟩
theorem ok70 : okFun Try.prog 70 fn70 = true := by kernel_rfl
theorem oka70 : okA fn70.ntmps fn70.results an70 = true := by kernel_rfl
def sh70 (C : CallA) (most0 lists1 : AV) (h : H) (R : AV → H → Prop) : Prop :=
 boxA h (AV.cells most0) 3 fun most2 h =>
 C 97 [lists1, (.fn 98 [] [most2])] h fun t7 h =>
 R t7 h
theorem she70 (C : CallA) (most0 lists1 : AV) (h : H) (R : AV → H → Prop) : wpA C an70 (argE [most0, lists1]) h (outA [(.tmp 4)] R) = sh70 C most0 lists1 h R := by kernel_rfl
/-! slices.IndexFunc[[]bellows/api.Instr,bellows/api.Instr] -/
def an71 : ACode :=
 (.seq (.reg 0 [] [] [sD 4 (.mv (.c (.int .i64 0)))])
 (.seq (.seq (.reg 0 [] [] [sD 6 (.mv (.t 0)),
 sD 7 (.len false (.t 6)),
 sD 8 (.mv (.c (.int .i64 0)))])
 (.block 0 (.loop [8] 387 (.seq (.reg 0 [] [] [sD 9 (.bin .lss .num (.t 8) (.t 7))])
 (.seq (.cond (.t 9) .skip
 (.exit 0))
 (.seq (.block 1 (.seq (.reg 0 [] [] [sD 10 (.mv (.t 8)),
 sD 5 (.mv (.t 10))])
 (.seq (.reg 0 [] [] [sD 11 (.mv (.t 1)),
 sD 12 (.mv (.t 0)),
 sD 13 (.mv (.t 5)),
 sD 14 (.ia none 9 (.t 12) (.t 13)),
 sD 15 (.ld (some 9) (.t 14)),
 sD 16 (.callv (.t 11) [(.t 15)])])
 (.cond (.t 16) (.seq (.reg 0 [] [] [sD 17 (.mv (.t 5)),
 sD 4 (.mv (.t 17))])
 .ret)
 .skip))))
 (.reg 0 [] [] [sD 18 (.bin .add .num (.t 8) (.c (.int .i64 1))),
 sD 8 (.mv (.t 18))])))))))
 (.seq (.reg 0 [] [] [sD 4 (.mv (.c (.int .i64 (-1))))])
 .ret)))
def fn71 : IFun := ⟨19, [(.tmp 4)], an71.erase⟩
theorem ok71 : okFun Try.prog 71 fn71 = true := by kernel_rfl
theorem oka71 : okA fn71.ntmps fn71.results an71 = true := by kernel_rfl
def sh71 (C : CallA) (s0 f1 : AV) (h : H) (R : AV → H → Prop) : Prop :=
 joinA (fun (h : H) =>
  R (.int .i64 (-1)) h) fun J =>
 valA (lenA false s0) h fun t7 h =>
 loopA (fun N l h => argA l 0 fun t8 => 
  valA (binOp .lss .num t8 t7) h fun t9 h =>
  condA t9
   (valA (iaA 9 s0 t8) h fun t14 h =>
  valA (ldA h (some 9) t14) h fun t15 h =>
  callvA C f1 [t15] h fun t16 h =>
  condA t16
   (R t8 h)
   (valA (binOp .add .num t8 (.int .i64 1)) h fun t18 h =>
  N [t18] h))
   (J h)) [(.int .i64 0)] h
theorem she71 (C : CallA) (s0 f1 : AV) (h : H) (R : AV → H → Prop) : wpA C an71 (argE [s0, f1]) h (outA [(.tmp 4)] R) = sh71 C s0 f1 h R := by kernel_rfl
/-! (*bellows/code.reader).count -/
def an73 : ACode :=
 (.seq (.reg 0 [] [] [sD 2 (.mv (.c (.int .i64 0)))])
 (.seq (.reg 0 [] [] [sD 4 (.mv (.t 0)),
 sD 5 (.call 51 [(.t 4)]),
 sD 3 (.mv (.t 5))])
 (.seq (.seq (.reg 0 [0, 1, 2, 3, 4, 5, 6, 7, 8, 9, 10, 11, 12, 13, 14, 15] [[], [0], [0, 1], [1, 0, 2], [1, 0, 2], [2, 0, 1, 4], [4, 1, 0, 2, 5], [5, 2, 0, 1, 4, 6], [6, 4, 1, 0, 2, 5, 7], [1, 0, 2], [2, 0, 1, 9], [9, 1, 0, 2, 10], [10, 2, 0, 1, 9, 11], [11, 9, 10, 12, 7, 5, 2, 0, 1, 4, 6, 8], [8, 6, 4, 5, 7, 12, 10, 9, 11, 13, 2, 0, 1, 3], [3, 13, 11, 9, 10, 12, 7, 5, 4, 6, 8, 14, 1, 0, 2]] [sD 6 (.mv (.t 3)),
 sD 7 (.bin .lss .num (.t 6) (.c (.int .i64 0))),
 sD 8 (.mv (.t 7)),
 sG 9 8 false (.mv (.t 3)),
 sG 10 8 false (.mv (.t 0)),
 sG 11 8 false (.nilc (.t 10)),
 sG 12 8 false (.fa 0 (.t 11)),
 sG 13 8 false (.ld none (.t 12)),
 sG 14 8 false (.len false (.t 13)),
 sG 15 8 false (.mv (.t 0)),
 sG 16 8 false (.nilc (.t 15)),
 sG 17 8 false (.fa 1 (.t 16)),
 sG 18 8 false (.ld none (.t 17)),
 sG 19 8 false (.bin .sub .num (.t 14) (.t 18)),
 sG 20 8 false (.bin .gtr .num (.t 9) (.t 19)),
 sD 21 (.pick (.t 8) (.c (.bool true)) (.t 20))])
 (.cond (.t 21) (.reg 0 [] [] [sD 22 (.mv (.t 0)),
 sD 23 (.nilc (.t 22)),
 sD 24 (.fa 2 (.t 23)),
 sN (.st 1 (.t 24) (.c (.bool true)))])
 .skip))
 (.seq (.seq (.reg 0 [] [] [sD 25 (.mv (.t 0)),
 sD 26 (.nilc (.t 25)),
 sD 27 (.fa 2 (.t 26)),
 sD 28 (.ld none (.t 27))])
 (.cond (.t 28) (.seq (.reg 0 [] [] [sD 2 (.mv (.c (.int .i64 0)))])
 .ret)
 .skip))
 (.seq (.reg 0 [] [] [sD 29 (.mv (.t 3)),
 sD 2 (.mv (.t 29))])
 .ret)))))
def fn73 : IFun := ⟨30, [(.tmp 2)], an73.erase⟩
theorem ok73 : okFun Try.prog 73 fn73 = true := by kernel_rfl
theorem oka73 : okA fn73.ntmps fn73.results an73 = true := by kernel_rfl
def sh73 (C : CallA) (r0 : AV) (h : H) (R : AV → H → Prop) : Prop :=
 C 51 [r0] h fun t5 h =>
 joinA (fun (h : H) =>
  valA (nilcA r0) h fun t26 h =>
  valA (faA 2 t26) h fun t27 h =>
  valA (ldA h none t27) h fun t28 h =>
  condA t28
   (R (.int .i64 0) h)
   (R t5 h)) fun J =>
 valA (binOp .lss .num t5 (.int .i64 0)) h fun t7 h =>
 whenA t7 false (fun K => K t5 h) h fun t9 h =>
 whenA t7 false (fun K => K r0 h) h fun t10 h =>
 whenA t7 false (fun K => valA (nilcA t10) h K) h fun t11 h =>
 whenA t7 false (fun K => valA (faA 0 t11) h K) h fun t12 h =>
 whenA t7 false (fun K => valA (ldA h none t12) h K) h fun t13 h =>
 whenA t7 false (fun K => valA (lenA false t13) h K) h fun t14 h =>
 whenA t7 false (fun K => K r0 h) h fun t15 h =>
 whenA t7 false (fun K => valA (nilcA t15) h K) h fun t16 h =>
 whenA t7 false (fun K => valA (faA 1 t16) h K) h fun t17 h =>
 whenA t7 false (fun K => valA (ldA h none t17) h K) h fun t18 h =>
 whenA t7 false (fun K => valA (binOp .sub .num t14 t18) h K) h fun t19 h =>
 whenA t7 false (fun K => valA (binOp .gtr .num t9 t19) h K) h fun t20 h =>
 valA (pickA t7 (.bool true) t20) h fun t21 h =>
 condA t21
  (valA (nilcA r0) h fun t23 h =>
  valA (faA 2 t23) h fun t24 h =>
  memA (stA h 1 t24 (.bool true)) .undef fun _ h =>
  J h)
  (J h)
theorem she73 (C : CallA) (r0 : AV) (h : H) (R : AV → H → Prop) : wpA C an73 (argE [r0]) h (outA [(.tmp 2)] R) = sh73 C r0 h R := by kernel_rfl
/-! (*bellows/code.reader).nums -/
def an74 : ACode :=
 (.seq (.reg 0 [] [] [sD 2 (.mv (.c .nilsl))])
 (.seq (.reg 0 [] [] [sD 3 (.mv (.t 0)),
 sD 4 (.mv (.t 0)),
 sD 5 (.mkf 51 [(.t 4)] []),
 sD 6 (.call 99 [(.t 3), (.t 5)]),
 sD 2 (.mv (.t 6))])
 .ret))
def fn74 : IFun := ⟨7, [(.tmp 2)], an74.erase⟩
theorem ok74 : okFun Try.prog 74 fn74 = true := by kernel_rfl
theorem oka74 : okA fn74.ntmps fn74.results an74 = true := by kernel_rfl
def sh74 (C : CallA) (r0 : AV) (h : H) (R : AV → H → Prop) : Prop :=
 C 99 [r0, (.fn 51 [r0] [])] h fun t6 h =>
 R t6 h
theorem she74 (C : CallA) (r0 : AV) (h : H) (R : AV → H → Prop) : wpA C an74 (argE [r0]) h (outA [(.tmp 2)] R) = sh74 C r0 h R := by kernel_rfl
/-! bellows/code.some[bellows/api.Block] -/
def an75 : ACode :=
 (.seq (.reg 0 [] [] [sD 4 (.mv (.c .nilsl))])
 (.seq (.reg 0 [] [] [sD 5 (.mv (.c .nilsl))])
 (.seq (.seq (.reg 0 [] [] [sD 6 (.mv (.t 0)),
 sD 7 (.call 73 [(.t 6)]),
 sD 8 (.mv (.c (.int .i64 0)))])
 (.block 0 (.loop [5, 8] 419 (.seq (.reg 0 [] [] [sD 9 (.bin .lss .num (.t 8) (.t 7))])
 (.seq (.cond (.t 9) .skip
 (.exit 0))
 (.seq (.block 1 (.seq (.seq (.reg 0 [] [] [sD 10 (.mv (.t 0)),
 sD 11 (.nilc (.t 10)),
 sD 12 (.fa 2 (.t 11)),
 sD 13 (.ld none (.t 12))])
 (.cond (.t 13) (.seq (.reg 0 [] [] [sD 4 (.mv (.c .nilsl))])
 .ret)
 .skip))
 (.reg 0 [] [] [sD 14 (.mv (.t 5)),
 sD 15 (.mv (.t 1)),
 sD 16 (.callv (.t 15) []),
 sD 17 (.mksl none 58 [.nilsl, .nilsl] 1 [(0, 2, (.t 16))]),
 sD 18 (.app 58 2 48 [.nilsl, .nilsl] (.t 14) (.t 17)),
 sD 5 (.mv (.t 18))])))
 (.reg 0 [] [] [sD 19 (.bin .add .num (.t 8) (.c (.int .i64 1))),
 sD 8 (.mv (.t 19))])))))))
 (.seq (.reg 0 [] [] [sD 20 (.mv (.t 5)),
 sD 4 (.mv (.t 20))])
 .ret))))
def fn75 : IFun := ⟨21, [(.tmp 4)], an75.erase⟩
theorem ok75 : okFun Try.prog 75 fn75 = true := by kernel_rfl
theorem oka75 : okA fn75.ntmps fn75.results an75 = true := by kernel_rfl
def sh75 (C : CallA) (r0 each1 : AV) (h : H) (R : AV → H → Prop) : Prop :=
 joinA (fun (l5' : AV) (h : H) =>
  R l5' h) fun J =>
 C 73 [r0] h fun t7 h =>
 loopA (fun N l h => argA l 0 fun l5 => argA l 1 fun t8 => 
  valA (binOp .lss .num t8 t7) h fun t9 h =>
  condA t9
   (valA (nilcA r0) h fun t11 h =>
  valA (faA 2 t11) h fun t12 h =>
  valA (ldA h none t12) h fun t13 h =>
  condA t13
   (R .nilsl h)
   (callvA C each1 [] h fun t16 h =>
  mkslA h 58 1 (fillV [.nilsl, .nilsl] [(0, 2, t16)]) fun t17 h =>
  appendA h 58 2 48 l5 t17 fun t18 h =>
  valA (binOp .add .num t8 (.int .i64 1)) h fun t19 h =>
  N [t18, t19] h))
   (J l5 h)) [.nilsl, (.int .i64 0)] h
theorem she75 (C : CallA) (r0 each1 : AV) (h : H) (R : AV → H → Prop) : wpA C an75 (argE [r0, each1]) h (outA [(.tmp 4)] R) = sh75 C r0 each1 h R := by kernel_rfl
/-! (*bellows/code.reader).block -/
def an76 : ACode :=
 (.seq (.reg 0 [] [] [sD 2 (.al none 58 [.nilsl, .nilsl])])
 (.seq (.reg 0 [] [] [sD 3 (.mv (.t 0)),
 sD 4 (.call 74 [(.t 3)]),
 sD 5 (.fa 0 (.t 2)),
 sN (.st 1 (.t 5) (.t 4))])
 (.seq (.reg 0 [] [] [sD 6 (.mv (.t 0)),
 sD 7 (.mv (.t 0)),
 sD 8 (.mkf 101 [(.t 7)] []),
 sD 9 (.call 100 [(.t 6), (.t 8)]),
 sD 10 (.fa 1 (.t 2)),
 sN (.st 1 (.t 10) (.t 9))])
 (.seq (.reg 0 [] [] [sD 11 (.ld (some 2) (.t 2)),
 sN (.st 2 (.t 2) (.t 11))])
 .ret))))
def fn76 : IFun := ⟨12, [(.cell 2 (some 2))], an76.erase⟩
theorem ok76 : okFun Try.prog 76 fn76 = true := by kernel_rfl
theorem oka76 : okA fn76.ntmps fn76.results an76 = true := by kernel_rfl
def sh76 (C : CallA) (r0 : AV) (h : H) (R : AV → H → Prop) : Prop :=
 boxA h [.nilsl, .nilsl] 58 fun b2 h =>
 C 74 [r0] h fun t4 h =>
 valA (faA 0 b2) h fun t5 h =>
 memA (stA h 1 t5 t4) .undef fun _ h =>
 C 100 [r0, (.fn 101 [r0] [])] h fun t9 h =>
 valA (faA 1 b2) h fun t10 h =>
 memA (stA h 1 t10 t9) .undef fun _ h =>
 valA (ldA h (some 2) b2) h fun t11 h =>
 memA (stA h 2 b2 t11) .undef fun _ h =>
 valA (ldA h (some 2) b2) h fun res _ => R res h
theorem she76 (C : CallA) (r0 : AV) (h : H) (R : AV → H → Prop) : wpA C an76 (argE [r0]) h (outA [(.cell 2 (some 2))] R) = sh76 C r0 h R := by kernel_rfl
/-! (*bellows/code.reader).long -/
def an77 : ACode :=
 (.seq (.reg 0 [] [] [sD 2 (.mv (.c (.int .i64 0)))])
 (.seq (.reg 0 [0, 1, 2, 3, 4, 5, 6, 7, 8, 9, 10, 11, 12, 13, 14, 15] [[], [0], [0, 1], [1, 0, 2], [], [4], [4, 5], [5, 4, 6], [6, 4, 5, 7, 2, 0, 1, 3], [3, 1, 0, 2, 7, 5, 4, 6, 8], [8, 6, 4, 5, 7, 2, 0, 1, 3, 9], [8, 6, 4, 5, 7, 2, 0, 1, 3, 9], [8, 6, 4, 5, 7, 2, 0, 1, 3, 9], [9, 3, 1, 0, 2, 7, 5, 4, 6, 8, 10], [10, 13, 9, 3, 1, 0, 2, 7, 5, 4, 6, 8, 11], [11, 13, 10, 14, 9, 3, 1, 0, 2, 7, 5, 4, 6, 8, 12]] [sD 7 (.mv (.t 0)),
 sD 8 (.nilc (.t 7)),
 sD 9 (.fa 0 (.t 8)),
 sD 10 (.ld none (.t 9)),
 sD 11 (.mv (.t 0)),
 sD 12 (.nilc (.t 11)),
 sD 13 (.fa 1 (.t 12)),
 sD 14 (.ld none (.t 13)),
 sD 15 (.call 102 [(.t 10), (.t 14)]),
 sD 6 (.mv (.t 15)),
 sD 16 (.ext (.t 6) 0),
 sD 17 (.ext (.t 6) 1),
 sD 18 (.ext (.t 6) 2),
 sD 3 (.mv (.t 16)),
 sD 4 (.mv (.t 17)),
 sD 5 (.mv (.t 18))])
 (.seq (.seq (.reg 0 [] [] [sD 19 (.mv (.t 5)),
 sD 20 (.un .not (.t 19))])
 (.cond (.t 20) (.seq (.reg 0 [] [] [sD 21 (.mv (.t 0)),
 sD 22 (.nilc (.t 21)),
 sD 23 (.fa 2 (.t 22)),
 sN (.st 1 (.t 23) (.c (.bool true)))])
 (.seq (.reg 0 [] [] [sD 2 (.mv (.c (.int .i64 0)))])
 .ret))
 .skip))
 (.seq (.reg 0 [] [] [sD 24 (.mv (.t 0)),
 sD 25 (.mv (.t 4)),
 sD 26 (.nilc (.t 24)),
 sD 27 (.fa 1 (.t 26)),
 sN (.st 1 (.t 27) (.t 25))])
 (.seq (.reg 0 [] [] [sD 28 (.mv (.t 3)),
 sD 2 (.mv (.t 28))])
 .ret)))))
def fn77 : IFun := ⟨29, [(.tmp 2)], an77.erase⟩
theorem ok77 : okFun Try.prog 77 fn77 = true := by kernel_rfl
theorem oka77 : okA fn77.ntmps fn77.results an77 = true := by kernel_rfl
def sh77 (C : CallA) (r0 : AV) (h : H) (R : AV → H → Prop) : Prop :=
 valA (nilcA r0) h fun t8 h =>
 valA (faA 0 t8) h fun t9 h =>
 valA (ldA h none t9) h fun t10 h =>
 valA (nilcA r0) h fun t12 h =>
 valA (faA 1 t12) h fun t13 h =>
 valA (ldA h none t13) h fun t14 h =>
 C 102 [t10, t14] h fun t15 h =>
 valA (extA t15 0) h fun t16 h =>
 valA (extA t15 1) h fun t17 h =>
 valA (extA t15 2) h fun t18 h =>
 valA (unOp .not t18) h fun t20 h =>
 condA t20
  (valA (nilcA r0) h fun t22 h =>
  valA (faA 2 t22) h fun t23 h =>
  memA (stA h 1 t23 (.bool true)) .undef fun _ h =>
  R (.int .i64 0) h)
  (valA (nilcA r0) h fun t26 h =>
 valA (faA 1 t26) h fun t27 h =>
 memA (stA h 1 t27 t17) .undef fun _ h =>
 R t16 h)
theorem she77 (C : CallA) (r0 : AV) (h : H) (R : AV → H → Prop) : wpA C an77 (argE [r0]) h (outA [(.tmp 2)] R) = sh77 C r0 h R := by kernel_rfl
/-! slices.EqualFunc[[]bellows/api.Block,[]bellows/api.Block,bellows/api.Block,bellows/api.Block] -/
def an78 : ACode :=
 (.seq (.reg 0 [] [] [sD 6 (.mv (.c (.bool false)))])
 (.seq (.seq (.reg 0 [] [] [sD 10 (.mv (.t 0)),
 sD 11 (.len false (.t 10)),
 sD 12 (.mv (.t 1)),
 sD 13 (.len false (.t 12)),
 sD 14 (.bin .neq .num (.t 11) (.t 13))])
 (.cond (.t 14) (.seq (.reg 0 [] [] [sD 6 (.mv (.c (.bool false)))])
 .ret)
 .skip))
 (.seq (.seq (.reg 0 [] [] [sD 15 (.mv (.t 0)),
 sD 16 (.len false (.t 15)),
 sD 17 (.mv (.c (.int .i64 0)))])
 (.block 0 (.loop [17] 229382 (.seq (.reg 0 [] [] [sD 18 (.bin .lss .num (.t 17) (.t 16))])
 (.seq (.cond (.t 18) .skip
 (.exit 0))
 (.seq (.block 1 (.seq (.reg 0 [] [] [sD 19 (.mv (.t 17)),
 sD 20 (.ia none 2 (.t 15) (.t 17)),
 sD 21 (.ld (some 2) (.t 20)),
 sD 8 (.al none 58 [.nilsl, .nilsl]),
 sD 7 (.mv (.t 19)),
 sN (.st 2 (.t 8) (.t 21))])
 (.seq (.reg 0 [] [] [sD 22 (.mv (.t 1)),
 sD 23 (.mv (.t 7)),
 sD 24 (.ia none 2 (.t 22) (.t 23)),
 sD 25 (.ld (some 2) (.t 24)),
 sD 9 (.al none 58 [.nilsl, .nilsl]),
 sN (.st 2 (.t 9) (.t 25))])
 (.seq (.reg 0 [] [] [sD 26 (.mv (.t 2)),
 sD 27 (.ld (some 2) (.t 8)),
 sD 28 (.ld (some 2) (.t 9)),
 sD 29 (.callv (.t 26) [(.t 27), (.t 28)]),
 sD 30 (.un .not (.t 29))])
 (.cond (.t 30) (.seq (.reg 0 [] [] [sD 6 (.mv (.c (.bool false)))])
 .ret)
 .skip)))))
 (.reg 0 [] [] [sD 31 (.bin .add .num (.t 17) (.c (.int .i64 1))),
 sD 17 (.mv (.t 31))])))))))
 (.seq (.reg 0 [] [] [sD 6 (.mv (.c (.bool true)))])
 .ret))))
def fn78 : IFun := ⟨32, [(.tmp 6)], an78.erase⟩
theorem ok78 : okFun Try.prog 78 fn78 = true := by kernel_rfl
theorem oka78 : okA fn78.ntmps fn78.results an78 = true := by kernel_rfl
def sh78 (C : CallA) (s10 s21 eq2 : AV) (h : H) (R : AV → H → Prop) : Prop :=
 valA (lenA false s10) h fun t11 h =>
 valA (lenA false s21) h fun t13 h =>
 valA (binOp .neq .num t11 t13) h fun t14 h =>
 condA t14
  (R (.bool false) h)
  (joinA (fun (h : H) =>
  R (.bool true) h) fun J =>
 valA (lenA false s10) h fun t16 h =>
 loopA (fun N l h => argA l 0 fun t17 => 
  valA (binOp .lss .num t17 t16) h fun t18 h =>
  condA t18
   (valA (iaA 2 s10 t17) h fun t20 h =>
  valA (ldA h (some 2) t20) h fun t21 h =>
  boxA h [.nilsl, .nilsl] 58 fun v18 h =>
  memA (stA h 2 v18 t21) .undef fun _ h =>
  valA (iaA 2 s21 t17) h fun t24 h =>
  valA (ldA h (some 2) t24) h fun t25 h =>
  boxA h [.nilsl, .nilsl] 58 fun v29 h =>
  memA (stA h 2 v29 t25) .undef fun _ h =>
  valA (ldA h (some 2) v18) h fun t27 h =>
  valA (ldA h (some 2) v29) h fun t28 h =>
  callvA C eq2 [t27, t28] h fun t29 h =>
  valA (unOp .not t29) h fun t30 h =>
  condA t30
   (R (.bool false) h)
   (valA (binOp .add .num t17 (.int .i64 1)) h fun t31 h =>
  N [t31] h))
   (J h)) [(.int .i64 0)] h)
theorem she78 (C : CallA) (s10 s21 eq2 : AV) (h : H) (R : AV → H → Prop) : wpA C an78 (argE [s10, s21, eq2]) h (outA [(.tmp 6)] R) = sh78 C s10 s21 eq2 h R := by kernel_rfl
/-! bellows/code.alike$1 -/
def an79 : ACode :=
 (.seq (.reg 0 [] [] [sD 2 (.bx none 58 (.t 0)),
 sD 3 (.bx none 58 (.t 1)),
 sD 4 (.mv (.c (.bool false)))])
 (.seq (.reg 0 [] [] [sD 5 (.fa 0 (.t 2)),
 sD 6 (.ld none (.t 5)),
 sD 7 (.fa 0 (.t 3)),
 sD 8 (.ld none (.t 7)),
 sD 9 (.call 54 [(.t 6), (.t 8)]),
 sD 10 (.mv (.t 9)),
 sG 11 10 true (.fa 1 (.t 2)),
 sG 12 10 true (.ld none (.t 11)),
 sG 13 10 true (.fa 1 (.t 3)),
 sG 14 10 true (.ld none (.t 13)),
 sG 15 10 true (.call 80 [(.t 12), (.t 14), (.c (.fn 81 [] []))]),
 sD 16 (.pick (.t 10) (.t 15) (.c (.bool false))),
 sD 4 (.mv (.t 16))])
 .ret))
def fn79 : IFun := ⟨17, [(.tmp 4)], an79.erase⟩
theorem ok79 : okFun Try.prog 79 fn79 = true := by kernel_rfl
theorem oka79 : okA fn79.ntmps fn79.results an79 = true := by kernel_rfl
def sh79 (C : CallA) (x0 y1 : AV) (h : H) (R : AV → H → Prop) : Prop :=
 boxA h (AV.cells x0) 58 fun x2 h =>
 boxA h (AV.cells y1) 58 fun y3 h =>
 valA (faA 0 x2) h fun t5 h =>
 valA (ldA h none t5) h fun t6 h =>
 valA (faA 0 y3) h fun t7 h =>
 valA (ldA h none t7) h fun t8 h =>
 C 54 [t6, t8] h fun t9 h =>
 whenA t9 true (fun K => valA (faA 1 x2) h K) h fun t11 h =>
 whenA t9 true (fun K => valA (ldA h none t11) h K) h fun t12 h =>
 whenA t9 true (fun K => valA (faA 1 y3) h K) h fun t13 h =>
 whenA t9 true (fun K => valA (ldA h none t13) h K) h fun t14 h =>
 whenA t9 true (fun K => C 80 [t12, t14, (.fn 81 [] [])] h K) h fun t15 h =>
 valA (pickA t9 t15 (.bool false)) h fun t16 h =>
 R t16 h
theorem she79 (C : CallA) (x0 y1 : AV) (h : H) (R : AV → H → Prop) : wpA C an79 (argE [x0, y1]) h (outA [(.tmp 4)] R) = sh79 C x0 y1 h R := by kernel_rfl
/-! slices.EqualFunc[[]bellows/api.Instr,[]bellows/api.Instr,bellows/api.Instr,bellows/api.Instr] -/
def an80 : ACode :=
 (.seq (.reg 0 [] [] [sD 6 (.mv (.c (.bool false)))])
 (.seq (.seq (.reg 0 [] [] [sD 10 (.mv (.t 0)),
 sD 11 (.len false (.t 10)),
 sD 12 (.mv (.t 1)),
 sD 13 (.len false (.t 12)),
 sD 14 (.bin .neq .num (.t 11) (.t 13))])
 (.cond (.t 14) (.seq (.reg 0 [] [] [sD 6 (.mv (.c (.bool false)))])
 .ret)
 .skip))
 (.seq (.seq (.reg 0 [] [] [sD 15 (.mv (.t 0)),
 sD 16 (.len false (.t 15)),
 sD 17 (.mv (.c (.int .i64 0)))])
 (.block 0 (.loop [17] 229382 (.seq (.reg 0 [] [] [sD 18 (.bin .lss .num (.t 17) (.t 16))])
 (.seq (.cond (.t 18) .skip
 (.exit 0))
 (.seq (.block 1 (.seq (.reg 0 [] [] [sD 19 (.mv (.t 17)),
 sD 20 (.ia none 9 (.t 15) (.t 17)),
 sD 21 (.ld (some 9) (.t 20)),
 sD 8 (.al none 24 [(.int .i64 0), (.int .i64 0), (.int .i64 0), (.int .i64 0), (.int .i64 0), (.int .i64 0), .nilsl, .nilsl, .nilsl]),
 sD 7 (.mv (.t 19)),
 sN (.st 9 (.t 8) (.t 21))])
 (.seq (.reg 0 [] [] [sD 22 (.mv (.t 1)),
 sD 23 (.mv (.t 7)),
 sD 24 (.ia none 9 (.t 22) (.t 23)),
 sD 25 (.ld (some 9) (.t 24)),
 sD 9 (.al none 24 [(.int .i64 0), (.int .i64 0), (.int .i64 0), (.int .i64 0), (.int .i64 0), (.int .i64 0), .nilsl, .nilsl, .nilsl]),
 sN (.st 9 (.t 9) (.t 25))])
 (.seq (.reg 0 [] [] [sD 26 (.mv (.t 2)),
 sD 27 (.ld (some 9) (.t 8)),
 sD 28 (.ld (some 9) (.t 9)),
 sD 29 (.callv (.t 26) [(.t 27), (.t 28)]),
 sD 30 (.un .not (.t 29))])
 (.cond (.t 30) (.seq (.reg 0 [] [] [sD 6 (.mv (.c (.bool false)))])
 .ret)
 .skip)))))
 (.reg 0 [] [] [sD 31 (.bin .add .num (.t 17) (.c (.int .i64 1))),
 sD 17 (.mv (.t 31))])))))))
 (.seq (.reg 0 [] [] [sD 6 (.mv (.c (.bool true)))])
 .ret))))
def fn80 : IFun := ⟨32, [(.tmp 6)], an80.erase⟩
theorem ok80 : okFun Try.prog 80 fn80 = true := by kernel_rfl
theorem oka80 : okA fn80.ntmps fn80.results an80 = true := by kernel_rfl
def sh80 (C : CallA) (s10 s21 eq2 : AV) (h : H) (R : AV → H → Prop) : Prop :=
 valA (lenA false s10) h fun t11 h =>
 valA (lenA false s21) h fun t13 h =>
 valA (binOp .neq .num t11 t13) h fun t14 h =>
 condA t14
  (R (.bool false) h)
  (joinA (fun (h : H) =>
  R (.bool true) h) fun J =>
 valA (lenA false s10) h fun t16 h =>
 loopA (fun N l h => argA l 0 fun t17 => 
  valA (binOp .lss .num t17 t16) h fun t18 h =>
  condA t18
   (valA (iaA 9 s10 t17) h fun t20 h =>
  valA (ldA h (some 9) t20) h fun t21 h =>
  boxA h [(.int .i64 0), (.int .i64 0), (.int .i64 0), (.int .i64 0), (.int .i64 0), (.int .i64 0), .nilsl, .nilsl, .nilsl] 24 fun v18 h =>
  memA (stA h 9 v18 t21) .undef fun _ h =>
  valA (iaA 9 s21 t17) h fun t24 h =>
  valA (ldA h (some 9) t24) h fun t25 h =>
  boxA h [(.int .i64 0), (.int .i64 0), (.int .i64 0), (.int .i64 0), (.int .i64 0), (.int .i64 0), .nilsl, .nilsl, .nilsl] 24 fun v29 h =>
  memA (stA h 9 v29 t25) .undef fun _ h =>
  valA (ldA h (some 9) v18) h fun t27 h =>
  valA (ldA h (some 9) v29) h fun t28 h =>
  callvA C eq2 [t27, t28] h fun t29 h =>
  valA (unOp .not t29) h fun t30 h =>
  condA t30
   (R (.bool false) h)
   (valA (binOp .add .num t17 (.int .i64 1)) h fun t31 h =>
  N [t31] h))
   (J h)) [(.int .i64 0)] h)
theorem she80 (C : CallA) (s10 s21 eq2 : AV) (h : H) (R : AV → H → Prop) : wpA C an80 (argE [s10, s21, eq2]) h (outA [(.tmp 6)] R) = sh80 C s10 s21 eq2 h R := by kernel_rfl
/-! bellows/code.equal -/
def an81 : ACode :=
 (.seq (.reg 0 [] [] [sD 2 (.bx none 24 (.t 0)),
 sD 3 (.bx none 24 (.t 1)),
 sD 4 (.mv (.c (.bool false)))])
 (.seq (.reg 0 [] [] [sD 5 (.fa 0 (.t 2)),
 sD 6 (.ld none (.t 5)),
 sD 7 (.fa 0 (.t 3)),
 sD 8 (.ld none (.t 7)),
 sD 9 (.bin .eql .num (.t 6) (.t 8)),
 sD 10 (.mv (.t 9)),
 sG 11 10 true (.fa 1 (.t 2)),
 sG 12 10 true (.ld none (.t 11)),
 sG 13 10 true (.fa 1 (.t 3)),
 sG 14 10 true (.ld none (.t 13)),
 sG 15 10 true (.bin .eql .num (.t 12) (.t 14)),
 sD 16 (.pick (.t 10) (.t 15) (.c (.bool false))),
 sD 17 (.mv (.t 16)),
 sG 18 17 true (.fa 2 (.t 2)),
 sG 19 17 true (.ld none (.t 18)),
 sG 20 17 true (.fa 2 (.t 3)),
 sG 21 17 true (.ld none (.t 20)),
 sG 22 17 true (.bin .eql .num (.t 19) (.t 21)),
 sD 23 (.pick (.t 17) (.t 22) (.c (.bool false))),
 sD 24 (.mv (.t 23)),
 sG 25 24 true (.fa 3 (.t 2)),
 sG 26 24 true (.ld none (.t 25)),
 sG 27 24 true (.fa 3 (.t 3)),
 sG 28 24 true (.ld none (.t 27)),
 sG 29 24 true (.bin .eql .num (.t 26) (.t 28)),
 sD 30 (.pick (.t 24) (.t 29) (.c (.bool false))),
 sD 31 (.mv (.t 30)),
 sG 32 31 true (.fa 4 (.t 2)),
 sG 33 31 true (.ld none (.t 32)),
 sG 34 31 true (.fa 4 (.t 3)),
 sG 35 31 true (.ld none (.t 34)),
 sG 36 31 true (.bin .eql .num (.t 33) (.t 35)),
 sD 37 (.pick (.t 31) (.t 36) (.c (.bool false))),
 sD 38 (.mv (.t 37)),
 sG 39 38 true (.fa 5 (.t 2)),
 sG 40 38 true (.ld none (.t 39)),
 sG 41 38 true (.fa 5 (.t 3)),
 sG 42 38 true (.ld none (.t 41)),
 sG 43 38 true (.bin .eql .num (.t 40) (.t 42)),
 sD 44 (.pick (.t 38) (.t 43) (.c (.bool false))),
 sD 45 (.mv (.t 44)),
 sG 46 45 true (.fa 6 (.t 2)),
 sG 47 45 true (.ld none (.t 46)),
 sG 48 45 true (.fa 6 (.t 3)),
 sG 49 45 true (.ld none (.t 48)),
 sG 50 45 true (.call 54 [(.t 47), (.t 49)]),
 sD 51 (.pick (.t 45) (.t 50) (.c (.bool false))),
 sD 52 (.mv (.t 51)),
 sG 53 52 true (.fa 7 (.t 2)),
 sG 54 52 true (.ld none (.t 53)),
 sG 55 52 true (.fa 7 (.t 3)),
 sG 56 52 true (.ld none (.t 55)),
 sG 57 52 true (.call 54 [(.t 54), (.t 56)]),
 sD 58 (.pick (.t 52) (.t 57) (.c (.bool false))),
 sD 59 (.mv (.t 58)),
 sG 60 59 true (.fa 8 (.t 2)),
 sG 61 59 true (.ld none (.t 60)),
 sG 62 59 true (.fa 8 (.t 3)),
 sG 63 59 true (.ld none (.t 62)),
 sG 64 59 true (.call 54 [(.t 61), (.t 63)]),
 sD 65 (.pick (.t 59) (.t 64) (.c (.bool false))),
 sD 4 (.mv (.t 65))])
 .ret))
def fn81 : IFun := ⟨66, [(.tmp 4)], an81.erase⟩
theorem ok81 : okFun Try.prog 81 fn81 = true := by kernel_rfl
theorem oka81 : okA fn81.ntmps fn81.results an81 = true := by kernel_rfl
def sh81 (C : CallA) (x0 y1 : AV) (h : H) (R : AV → H → Prop) : Prop :=
 boxA h (AV.cells x0) 24 fun x2 h =>
 boxA h (AV.cells y1) 24 fun y3 h =>
 valA (faA 0 x2) h fun t5 h =>
 valA (ldA h none t5) h fun t6 h =>
 valA (faA 0 y3) h fun t7 h =>
 valA (ldA h none t7) h fun t8 h =>
 valA (binOp .eql .num t6 t8) h fun t9 h =>
 whenA t9 true (fun K => valA (faA 1 x2) h K) h fun t11 h =>
 whenA t9 true (fun K => valA (ldA h none t11) h K) h fun t12 h =>
 whenA t9 true (fun K => valA (faA 1 y3) h K) h fun t13 h =>
 whenA t9 true (fun K => valA (ldA h none t13) h K) h fun t14 h =>
 whenA t9 true (fun K => valA (binOp .eql .num t12 t14) h K) h fun t15 h =>
 valA (pickA t9 t15 (.bool false)) h fun t16 h =>
 whenA t16 true (fun K => valA (faA 2 x2) h K) h fun t18 h =>
 whenA t16 true (fun K => valA (ldA h none t18) h K) h fun t19 h =>
 whenA t16 true (fun K => valA (faA 2 y3) h K) h fun t20 h =>
 whenA t16 true (fun K => valA (ldA h none t20) h K) h fun t21 h =>
 whenA t16 true (fun K => valA (binOp .eql .num t19 t21) h K) h fun t22 h =>
 valA (pickA t16 t22 (.bool false)) h fun t23 h =>
 whenA t23 true (fun K => valA (faA 3 x2) h K) h fun t25 h =>
 whenA t23 true (fun K => valA (ldA h none t25) h K) h fun t26 h =>
 whenA t23 true (fun K => valA (faA 3 y3) h K) h fun t27 h =>
 whenA t23 true (fun K => valA (ldA h none t27) h K) h fun t28 h =>
 whenA t23 true (fun K => valA (binOp .eql .num t26 t28) h K) h fun t29 h =>
 valA (pickA t23 t29 (.bool false)) h fun t30 h =>
 whenA t30 true (fun K => valA (faA 4 x2) h K) h fun t32 h =>
 whenA t30 true (fun K => valA (ldA h none t32) h K) h fun t33 h =>
 whenA t30 true (fun K => valA (faA 4 y3) h K) h fun t34 h =>
 whenA t30 true (fun K => valA (ldA h none t34) h K) h fun t35 h =>
 whenA t30 true (fun K => valA (binOp .eql .num t33 t35) h K) h fun t36 h =>
 valA (pickA t30 t36 (.bool false)) h fun t37 h =>
 whenA t37 true (fun K => valA (faA 5 x2) h K) h fun t39 h =>
 whenA t37 true (fun K => valA (ldA h none t39) h K) h fun t40 h =>
 whenA t37 true (fun K => valA (faA 5 y3) h K) h fun t41 h =>
 whenA t37 true (fun K => valA (ldA h none t41) h K) h fun t42 h =>
 whenA t37 true (fun K => valA (binOp .eql .num t40 t42) h K) h fun t43 h =>
 valA (pickA t37 t43 (.bool false)) h fun t44 h =>
 whenA t44 true (fun K => valA (faA 6 x2) h K) h fun t46 h =>
 whenA t44 true (fun K => valA (ldA h none t46) h K) h fun t47 h =>
 whenA t44 true (fun K => valA (faA 6 y3) h K) h fun t48 h =>
 whenA t44 true (fun K => valA (ldA h none t48) h K) h fun t49 h =>
 whenA t44 true (fun K => C 54 [t47, t49] h K) h fun t50 h =>
 valA (pickA t44 t50 (.bool false)) h fun t51 h =>
 whenA t51 true (fun K => valA (faA 7 x2) h K) h fun t53 h =>
 whenA t51 true (fun K => valA (ldA h none t53) h K) h fun t54 h =>
 whenA t51 true (fun K => valA (faA 7 y3) h K) h fun t55 h =>
 whenA t51 true (fun K => valA (ldA h none t55) h K) h fun t56 h =>
 whenA t51 true (fun K => C 54 [t54, t56] h K) h fun t57 h =>
 valA (pickA t51 t57 (.bool false)) h fun t58 h =>
 whenA t58 true (fun K => valA (faA 8 x2) h K) h fun t60 h =>
 whenA t58 true (fun K => valA (ldA h none t60) h K) h fun t61 h =>
 whenA t58 true (fun K => valA (faA 8 y3) h K) h fun t62 h =>
 whenA t58 true (fun K => valA (ldA h none t62) h K) h fun t63 h =>
 whenA t58 true (fun K => C 54 [t61, t63] h K) h fun t64 h =>
 valA (pickA t58 t64 (.bool false)) h fun t65 h =>
 R t65 h
theorem she81 (C : CallA) (x0 y1 : AV) (h : H) (R : AV → H → Prop) : wpA C an81 (argE [x0, y1]) h (outA [(.tmp 4)] R) = sh81 C x0 y1 h R := by kernel_rfl
/-! bellows/code.many[int] -/
def an82 : ACode :=
 (.seq (.reg 0 [] [] [sD 8 (.mv (.t 0)),
 sD 9 (.mv (.t 1)),
 sD 10 (.len false (.t 9)),
 sD 11 (.call 34 [(.t 8), (.t 10)])])
 (.seq (.reg 0 [] [] [sD 12 (.mv (.t 1)),
 sD 13 (.len false (.t 12)),
 sD 14 (.mv (.c (.int .i64 0)))])
 (.block 0 (.loop [14] 28676 (.seq (.reg 0 [] [] [sD 15 (.bin .lss .num (.t 14) (.t 13))])
 (.seq (.cond (.t 15) .skip
 (.exit 0))
 (.seq (.block 1 (.seq (.reg 0 [] [] [sD 16 (.ia none 1 (.t 12) (.t 14)),
 sD 17 (.ld none (.t 16)),
 sD 7 (.mv (.t 17))])
 (.reg 0 [] [] [sD 18 (.mv (.t 2)),
 sD 19 (.mv (.t 7)),
 sD 20 (.callv (.t 18) [(.t 19)])])))
 (.reg 0 [] [] [sD 21 (.bin .add .num (.t 14) (.c (.int .i64 1))),
 sD 14 (.mv (.t 21))]))))))))
def fn82 : IFun := ⟨22, [], an82.erase⟩
theorem ok82 : okFun Try.prog 82 fn82 = true := by kernel_rfl
theorem oka82 : okA fn82.ntmps fn82.results an82 = true := by kernel_rfl
def sh82 (C : CallA) (w0 l1 each2 : AV) (h : H) (R : AV → H → Prop) : Prop :=
 valA (lenA false l1) h fun t10 h =>
 C 34 [w0, t10] h fun t11 h =>
 valA (lenA false l1) h fun t13 h =>
 loopA (fun N l h => argA l 0 fun t14 => 
  valA (binOp .lss .num t14 t13) h fun t15 h =>
  condA t15
   (valA (iaA 1 l1 t14) h fun t16 h =>
  valA (ldA h none t16) h fun t17 h =>
  callvA C each2 [t17] h fun t20 h =>
  valA (binOp .add .num t14 (.int .i64 1)) h fun t21 h =>
  N [t21] h)
   (R (.tup []) h)) [(.int .i64 0)] h
theorem she82 (C : CallA) (w0 l1 each2 : AV) (h : H) (R : AV → H → Prop) : wpA C an82 (argE [w0, l1, each2]) h (outA [] R) = sh82 C w0 l1 each2 h R := by kernel_rfl
/-! bellows/code.many[bellows/api.Instr] -/
def an83 : ACode :=
 (.seq (.reg 0 [] [] [sD 8 (.mv (.t 0)),
 sD 9 (.mv (.t 1)),
 sD 10 (.len false (.t 9)),
 sD 11 (.call 34 [(.t 8), (.t 10)])])
 (.seq (.reg 0 [] [] [sD 12 (.mv (.t 1)),
 sD 13 (.len false (.t 12)),
 sD 14 (.mv (.c (.int .i64 0)))])
 (.block 0 (.loop [14] 28676 (.seq (.reg 0 [] [] [sD 15 (.bin .lss .num (.t 14) (.t 13))])
 (.seq (.cond (.t 15) .skip
 (.exit 0))
 (.seq (.block 1 (.seq (.reg 0 [] [] [sD 16 (.ia none 9 (.t 12) (.t 14)),
 sD 17 (.ld (some 9) (.t 16)),
 sD 7 (.al none 24 [(.int .i64 0), (.int .i64 0), (.int .i64 0), (.int .i64 0), (.int .i64 0), (.int .i64 0), .nilsl, .nilsl, .nilsl]),
 sN (.st 9 (.t 7) (.t 17))])
 (.reg 0 [] [] [sD 18 (.mv (.t 2)),
 sD 19 (.ld (some 9) (.t 7)),
 sD 20 (.callv (.t 18) [(.t 19)])])))
 (.reg 0 [] [] [sD 21 (.bin .add .num (.t 14) (.c (.int .i64 1))),
 sD 14 (.mv (.t 21))]))))))))
def fn83 : IFun := ⟨22, [], an83.erase⟩
theorem ok83 : okFun Try.prog 83 fn83 = true := by kernel_rfl
theorem oka83 : okA fn83.ntmps fn83.results an83 = true := by kernel_rfl
def sh83 (C : CallA) (w0 l1 each2 : AV) (h : H) (R : AV → H → Prop) : Prop :=
 valA (lenA false l1) h fun t10 h =>
 C 34 [w0, t10] h fun t11 h =>
 valA (lenA false l1) h fun t13 h =>
 loopA (fun N l h => argA l 0 fun t14 => 
  valA (binOp .lss .num t14 t13) h fun t15 h =>
  condA t15
   (valA (iaA 9 l1 t14) h fun t16 h =>
  valA (ldA h (some 9) t16) h fun t17 h =>
  boxA h [(.int .i64 0), (.int .i64 0), (.int .i64 0), (.int .i64 0), (.int .i64 0), (.int .i64 0), .nilsl, .nilsl, .nilsl] 24 fun x7 h =>
  memA (stA h 9 x7 t17) .undef fun _ h =>
  valA (ldA h (some 9) x7) h fun t19 h =>
  callvA C each2 [t19] h fun t20 h =>
  valA (binOp .add .num t14 (.int .i64 1)) h fun t21 h =>
  N [t21] h)
   (R (.tup []) h)) [(.int .i64 0)] h
theorem she83 (C : CallA) (w0 l1 each2 : AV) (h : H) (R : AV → H → Prop) : wpA C an83 (argE [w0, l1, each2]) h (outA [] R) = sh83 C w0 l1 each2 h R := by kernel_rfl
/-! (*bellows/code.writer).instr -/
def an84 : ACode :=
 (.seq (.reg 0 [] [] [sD 3 (.bx none 24 (.t 1))])
 (.seq (.reg 0 [] [] [sD 7 (.mv (.t 0)),
 sD 8 (.fa 0 (.t 3)),
 sD 9 (.ld none (.t 8)),
 sD 10 (.call 34 [(.t 7), (.t 9)])])
 (.seq (.reg 0 [] [] [sD 11 (.fa 0 (.t 3)),
 sD 12 (.ld none (.t 11)),
 sD 13 (.call 10 [(.t 12)]),
 sD 14 (.cv none (.s2b 5) (.t 13)),
 sD 15 (.len false (.t 14)),
 sD 16 (.mv (.c (.int .i64 0)))])
 (.block 0 (.loop [16] 114697 (.seq (.reg 0 [] [] [sD 17 (.bin .lss .num (.t 16) (.t 15))])
 (.seq (.cond (.t 17) .skip
 (.exit 0))
 (.seq (.block 1 (.seq (.reg 0 [] [] [sD 18 (.ia none 1 (.t 14) (.t 16)),
 sD 19 (.ld none (.t 18)),
 sD 5 (.mv (.t 19))])
 (.seq (.reg 0 [] [] [sD 20 (.mv (.t 5)),
 sD 21 (.bin .eql .num (.t 20) (.c (.int .u8 78)))])
 (.cond (.t 21) (.reg 0 [0, 1, 2, 3, 4, 5, 6, 7, 8, 9, 10, 11] [[], [], [1], [1, 2], [2, 1, 3], [], [5], [5, 6], [6, 5, 7, 3, 1, 2, 4], [8, 7, 6, 5, 4, 3, 2, 1, 0], [0, 1, 2, 3, 4, 5, 6, 7, 8, 9], [9, 8, 7, 6, 5, 4, 3, 2, 1, 0, 10]] [sD 22 (.mv (.t 0)),
 sD 23 (.mv (.t 0)),
 sD 24 (.nilc (.t 23)),
 sD 25 (.fa 0 (.t 24)),
 sD 26 (.ld none (.t 25)),
 sD 27 (.fa 5 (.t 3)),
 sD 28 (.ld none (.t 27)),
 ⟨(some 29), none, (.call 63 [(.t 28)]), [⟨none, (.ld none (.t 25)), 26⟩]⟩,
 sD 30 (.app 5 1 1 [(.int .u8 0)] (.t 26) (.t 29)),
 sD 31 (.nilc (.t 22)),
 sD 32 (.fa 0 (.t 31)),
 sN (.st 1 (.t 32) (.t 30))])
 (.seq (.reg 0 [] [] [sD 33 (.mv (.t 5)),
 sD 34 (.call 23 [(.t 3), (.t 33)]),
 sD 6 (.mv (.t 34))])
 (.seq (.reg 0 [] [] [sD 35 (.mv (.t 6)),
 sD 36 (.bin .neq .ptr (.t 35) (.c .nilp))])
 (.cond (.t 36) (.reg 0 [] [] [sD 37 (.mv (.t 0)),
 sD 38 (.mv (.t 6)),
 sD 39 (.nilc (.t 38)),
 sD 40 (.ld none (.t 39)),
 sD 41 (.call 34 [(.t 37), (.t 40)])])
 (.reg 0 [] [] [sD 42 (.mv (.t 0)),
 sD 43 (.mv (.t 5)),
 sD 44 (.call 24 [(.t 3), (.t 43)]),
 sD 45 (.nilc (.t 44)),
 sD 46 (.ld none (.t 45)),
 sD 47 (.call 60 [(.t 42), (.t 46)])]))))))))
 (.reg 0 [] [] [sD 48 (.bin .add .num (.t 16) (.c (.int .i64 1))),
 sD 16 (.mv (.t 48))])))))))))
def fn84 : IFun := ⟨49, [], an84.erase⟩
theorem ok84 : okFun Try.prog 84 fn84 = true := by kernel_rfl
theorem oka84 : okA fn84.ntmps fn84.results an84 = true := by kernel_rfl
def sh84 (C : CallA) (w0 x1 : AV) (h : H) (R : AV → H → Prop) : Prop :=
 boxA h (AV.cells x1) 24 fun x3 h =>
 valA (faA 0 x3) h fun t8 h =>
 valA (ldA h none t8) h fun t9 h =>
 C 34 [w0, t9] h fun t10 h =>
 valA (faA 0 x3) h fun t11 h =>
 valA (ldA h none t11) h fun t12 h =>
 C 10 [t12] h fun t13 h =>
 s2bA h 5 t13 fun t14 h =>
 valA (lenA false t14) h fun t15 h =>
 loopA (fun N l h => argA l 0 fun t16 => 
  valA (binOp .lss .num t16 t15) h fun t17 h =>
  condA t17
   (joinA (fun (h : H) =>
   valA (binOp .add .num t16 (.int .i64 1)) h fun t48 h =>
   N [t48] h) fun J =>
  valA (iaA 1 t14 t16) h fun t18 h =>
  valA (ldA h none t18) h fun t19 h =>
  valA (binOp .eql .num t19 (.int .u8 78)) h fun t21 h =>
  condA t21
   (valA (nilcA w0) h fun t24 h =>
   valA (faA 0 t24) h fun t25 h =>
   valA (ldA h none t25) h fun t26 h =>
   valA (faA 5 x3) h fun t27 h =>
   valA (ldA h none t27) h fun t28 h =>
   C 63 [t28] h fun t29 h =>
   againK (valA (ldA h none t25) h (fun v _ => v = t26)) <|
   appendA h 5 1 1 t26 t29 fun t30 h =>
   valA (nilcA w0) h fun t31 h =>
   valA (faA 0 t31) h fun t32 h =>
   memA (stA h 1 t32 t30) .undef fun _ h =>
   J h)
   (C 23 [x3, t19] h fun t34 h =>
   valA (binOp .neq .ptr t34 .nilp) h fun t36 h =>
   condA t36
    (valA (nilcA t34) h fun t39 h =>
    valA (ldA h none t39) h fun t40 h =>
    C 34 [w0, t40] h fun t41 h =>
    J h)
    (C 24 [x3, t19] h fun t44 h =>
    valA (nilcA t44) h fun t45 h =>
    valA (ldA h none t45) h fun t46 h =>
    C 60 [w0, t46] h fun t47 h =>
    J h)))
   (R (.tup []) h)) [(.int .i64 0)] h
theorem she84 (C : CallA) (w0 x1 : AV) (h : H) (R : AV → H → Prop) : wpA C an84 (argE [w0, x1]) h (outA [] R) = sh84 C w0 x1 h R := by kernel_rfl
/-! slices.ContainsFunc[[][]bellows/api.Type,[]bellows/api.Type] -/
def an85 : ACode :=
 (.seq (.reg 0 [] [] [sD 4 (.mv (.c (.bool false)))])
 (.seq (.reg 0 [] [] [sD 5 (.mv (.t 0)),
 sD 6 (.mv (.t 1)),
 sD 7 (.call 103 [(.t 5), (.t 6)]),
 sD 8 (.bin .geq .num (.t 7) (.c (.int .i64 0))),
 sD 4 (.mv (.t 8))])
 .ret))
def fn85 : IFun := ⟨9, [(.tmp 4)], an85.erase⟩
theorem ok85 : okFun Try.prog 85 fn85 = true := by kernel_rfl
theorem oka85 : okA fn85.ntmps fn85.results an85 = true := by kernel_rfl
def sh85 (C : CallA) (s0 f1 : AV) (h : H) (R : AV → H → Prop) : Prop :=
 C 103 [s0, f1] h fun t7 h =>
 valA (binOp .geq .num t7 (.int .i64 0)) h fun t8 h =>
 R t8 h
theorem she85 (C : CallA) (s0 f1 : AV) (h : H) (R : AV → H → Prop) : wpA C an85 (argE [s0, f1]) h (outA [(.tmp 4)] R) = sh85 C s0 f1 h R := by kernel_rfl
/-! bellows/code.over[bellows/api.Type]$1 -/
def an86 : ACode :=
 (.seq (.reg 0 [] [] [sD 3 (.mv (.c (.bool false)))])
 (.seq (.reg 0 [] [] [sD 4 (.mv (.t 0)),
 sD 5 (.len false (.t 4)),
 sD 6 (.ld none (.t 1)),
 sD 7 (.bin .gtr .num (.t 5) (.t 6)),
 sD 3 (.mv (.t 7))])
 .ret))
def fn86 : IFun := ⟨8, [(.tmp 3)], an86.erase⟩
theorem ok86 : okFun Try.prog 86 fn86 = true := by kernel_rfl
theorem oka86 : okA fn86.ntmps fn86.results an86 = true := by kernel_rfl
def sh86 (C : CallA) (l0 t1 : AV) (h : H) (R : AV → H → Prop) : Prop :=
 valA (lenA false l0) h fun t5 h =>
 valA (ldA h none t1) h fun t6 h =>
 valA (binOp .gtr .num t5 t6) h fun t7 h =>
 R t7 h
theorem she86 (C : CallA) (l0 t1 : AV) (h : H) (R : AV → H → Prop) : wpA C an86 (argE [l0, t1]) h (outA [(.tmp 3)] R) = sh86 C l0 t1 h R := by kernel_rfl
/-! slices.ContainsFunc[[][]bellows/api.Shape,[]bellows/api.Shape] -/
def an87 : ACode :=
 (.seq (.reg 0 [] [] [sD 4 (.mv (.c (.bool false)))])
 (.seq (.reg 0 [] [] [sD 5 (.mv (.t 0)),
 sD 6 (.mv (.t 1)),
 sD 7 (.call 104 [(.t 5), (.t 6)]),
 sD 8 (.bin .geq .num (.t 7) (.c (.int .i64 0))),
 sD 4 (.mv (.t 8))])
 .ret))
def fn87 : IFun := ⟨9, [(.tmp 4)], an87.erase⟩
theorem ok87 : okFun Try.prog 87 fn87 = true := by kernel_rfl
theorem oka87 : okA fn87.ntmps fn87.results an87 = true := by kernel_rfl
def sh87 (C : CallA) (s0 f1 : AV) (h : H) (R : AV → H → Prop) : Prop :=
 C 104 [s0, f1] h fun t7 h =>
 valA (binOp .geq .num t7 (.int .i64 0)) h fun t8 h =>
 R t8 h
theorem she87 (C : CallA) (s0 f1 : AV) (h : H) (R : AV → H → Prop) : wpA C an87 (argE [s0, f1]) h (outA [(.tmp 4)] R) = sh87 C s0 f1 h R := by kernel_rfl
/-! bellows/code.over[bellows/api.Shape]$1 -/
def an88 : ACode :=
 (.seq (.reg 0 [] [] [sD 3 (.mv (.c (.bool false)))])
 (.seq (.reg 0 [] [] [sD 4 (.mv (.t 0)),
 sD 5 (.len false (.t 4)),
 sD 6 (.ld none (.t 1)),
 sD 7 (.bin .gtr .num (.t 5) (.t 6)),
 sD 3 (.mv (.t 7))])
 .ret))
def fn88 : IFun := ⟨8, [(.tmp 3)], an88.erase⟩
theorem ok88 : okFun Try.prog 88 fn88 = true := by kernel_rfl
theorem oka88 : okA fn88.ntmps fn88.results an88 = true := by kernel_rfl
def sh88 (C : CallA) (l0 t1 : AV) (h : H) (R : AV → H → Prop) : Prop :=
 valA (lenA false l0) h fun t5 h =>
 valA (ldA h none t1) h fun t6 h =>
 valA (binOp .gtr .num t5 t6) h fun t7 h =>
 R t7 h
theorem she88 (C : CallA) (l0 t1 : AV) (h : H) (R : AV → H → Prop) : wpA C an88 (argE [l0, t1]) h (outA [(.tmp 3)] R) = sh88 C l0 t1 h R := by kernel_rfl
/-! slices.ContainsFunc[[][]string,[]string] -/
def an89 : ACode :=
 (.seq (.reg 0 [] [] [sD 4 (.mv (.c (.bool false)))])
 (.seq (.reg 0 [] [] [sD 5 (.mv (.t 0)),
 sD 6 (.mv (.t 1)),
 sD 7 (.call 105 [(.t 5), (.t 6)]),
 sD 8 (.bin .geq .num (.t 7) (.c (.int .i64 0))),
 sD 4 (.mv (.t 8))])
 .ret))
def fn89 : IFun := ⟨9, [(.tmp 4)], an89.erase⟩
theorem ok89 : okFun Try.prog 89 fn89 = true := by kernel_rfl
theorem oka89 : okA fn89.ntmps fn89.results an89 = true := by kernel_rfl
def sh89 (C : CallA) (s0 f1 : AV) (h : H) (R : AV → H → Prop) : Prop :=
 C 105 [s0, f1] h fun t7 h =>
 valA (binOp .geq .num t7 (.int .i64 0)) h fun t8 h =>
 R t8 h
theorem she89 (C : CallA) (s0 f1 : AV) (h : H) (R : AV → H → Prop) : wpA C an89 (argE [s0, f1]) h (outA [(.tmp 4)] R) = sh89 C s0 f1 h R := by kernel_rfl
/-! bellows/code.over[string]$1 -/
def an90 : ACode :=
 (.seq (.reg 0 [] [] [sD 3 (.mv (.c (.bool false)))])
 (.seq (.reg 0 [] [] [sD 4 (.mv (.t 0)),
 sD 5 (.len false (.t 4)),
 sD 6 (.ld none (.t 1)),
 sD 7 (.bin .gtr .num (.t 5) (.t 6)),
 sD 3 (.mv (.t 7))])
 .ret))
def fn90 : IFun := ⟨8, [(.tmp 3)], an90.erase⟩
theorem ok90 : okFun Try.prog 90 fn90 = true := by kernel_rfl
theorem oka90 : okA fn90.ntmps fn90.results an90 = true := by kernel_rfl
def sh90 (C : CallA) (l0 t1 : AV) (h : H) (R : AV → H → Prop) : Prop :=
 valA (lenA false l0) h fun t5 h =>
 valA (ldA h none t1) h fun t6 h =>
 valA (binOp .gtr .num t5 t6) h fun t7 h =>
 R t7 h
theorem she90 (C : CallA) (l0 t1 : AV) (h : H) (R : AV → H → Prop) : wpA C an90 (argE [l0, t1]) h (outA [(.tmp 3)] R) = sh90 C l0 t1 h R := by kernel_rfl
/-! slices.ContainsFunc[[][]bellows/api.Func,[]bellows/api.Func] -/
def an91 : ACode :=
 (.seq (.reg 0 [] [] [sD 4 (.mv (.c (.bool false)))])
 (.seq (.reg 0 [] [] [sD 5 (.mv (.t 0)),
 sD 6 (.mv (.t 1)),
 sD 7 (.call 106 [(.t 5), (.t 6)]),
 sD 8 (.bin .geq .num (.t 7) (.c (.int .i64 0))),
 sD 4 (.mv (.t 8))])
 .ret))
def fn91 : IFun := ⟨9, [(.tmp 4)], an91.erase⟩
theorem ok91 : okFun Try.prog 91 fn91 = true := by kernel_rfl
theorem oka91 : okA fn91.ntmps fn91.results an91 = true := by kernel_rfl
def sh91 (C : CallA) (s0 f1 : AV) (h : H) (R : AV → H → Prop) : Prop :=
 C 106 [s0, f1] h fun t7 h =>
 valA (binOp .geq .num t7 (.int .i64 0)) h fun t8 h =>
 R t8 h
theorem she91 (C : CallA) (s0 f1 : AV) (h : H) (R : AV → H → Prop) : wpA C an91 (argE [s0, f1]) h (outA [(.tmp 4)] R) = sh91 C s0 f1 h R := by kernel_rfl
/-! bellows/code.over[bellows/api.Func]$1 -/
def an92 : ACode :=
 (.seq (.reg 0 [] [] [sD 3 (.mv (.c (.bool false)))])
 (.seq (.reg 0 [] [] [sD 4 (.mv (.t 0)),
 sD 5 (.len false (.t 4)),
 sD 6 (.ld none (.t 1)),
 sD 7 (.bin .gtr .num (.t 5) (.t 6)),
 sD 3 (.mv (.t 7))])
 .ret))
def fn92 : IFun := ⟨8, [(.tmp 3)], an92.erase⟩
theorem ok92 : okFun Try.prog 92 fn92 = true := by kernel_rfl
theorem oka92 : okA fn92.ntmps fn92.results an92 = true := by kernel_rfl
def sh92 (C : CallA) (l0 t1 : AV) (h : H) (R : AV → H → Prop) : Prop :=
 valA (lenA false l0) h fun t5 h =>
 valA (ldA h none t1) h fun t6 h =>
 valA (binOp .gtr .num t5 t6) h fun t7 h =>
 R t7 h
theorem she92 (C : CallA) (l0 t1 : AV) (h : H) (R : AV → H → Prop) : wpA C an92 (argE [l0, t1]) h (outA [(.tmp 3)] R) = sh92 C l0 t1 h R := by kernel_rfl
/-! slices.ContainsFunc[[]string,string] -/
def an93 : ACode :=
 (.seq (.reg 0 [] [] [sD 4 (.mv (.c (.bool false)))])
 (.seq (.reg 0 [] [] [sD 5 (.mv (.t 0)),
 sD 6 (.mv (.t 1)),
 sD 7 (.call 107 [(.t 5), (.t 6)]),
 sD 8 (.bin .geq .num (.t 7) (.c (.int .i64 0))),
 sD 4 (.mv (.t 8))])
 .ret))
def fn93 : IFun := ⟨9, [(.tmp 4)], an93.erase⟩
theorem ok93 : okFun Try.prog 93 fn93 = true := by kernel_rfl
theorem oka93 : okA fn93.ntmps fn93.results an93 = true := by kernel_rfl
def sh93 (C : CallA) (s0 f1 : AV) (h : H) (R : AV → H → Prop) : Prop :=
 C 107 [s0, f1] h fun t7 h =>
 valA (binOp .geq .num t7 (.int .i64 0)) h fun t8 h =>
 R t8 h
theorem she93 (C : CallA) (s0 f1 : AV) (h : H) (R : AV → H → Prop) : wpA C an93 (argE [s0, f1]) h (outA [(.tmp 4)] R) = sh93 C s0 f1 h R := by kernel_rfl
/-! bellows/code.wide$1 -/
def an94 : ACode :=
 (.seq (.reg 0 [] [] [sD 2 (.mv (.c (.bool false)))])
 (.seq (.reg 0 [] [] [sD 3 (.mv (.t 0)),
 sD 4 (.len true (.t 3)),
 sD 5 (.bin .gtr .num (.t 4) (.c (.int .i64 16384))),
 sD 2 (.mv (.t 5))])
 .ret))
def fn94 : IFun := ⟨6, [(.tmp 2)], an94.erase⟩
theorem ok94 : okFun Try.prog 94 fn94 = true := by kernel_rfl
theorem oka94 : okA fn94.ntmps fn94.results an94 = true := by kernel_rfl
def sh94 (C : CallA) (s0 : AV) (h : H) (R : AV → H → Prop) : Prop :=
 valA (lenA true s0) h fun t4 h =>
 valA (binOp .gtr .num t4 (.int .i64 16384)) h fun t5 h =>
 R t5 h
theorem she94 (C : CallA) (s0 : AV) (h : H) (R : AV → H → Prop) : wpA C an94 (argE [s0]) h (outA [(.tmp 2)] R) = sh94 C s0 h R := by kernel_rfl
/-! slices.ContainsFunc[[][]int,[]int] -/
def an95 : ACode :=
 (.seq (.reg 0 [] [] [sD 4 (.mv (.c (.bool false)))])
 (.seq (.reg 0 [] [] [sD 5 (.mv (.t 0)),
 sD 6 (.mv (.t 1)),
 sD 7 (.call 108 [(.t 5), (.t 6)]),
 sD 8 (.bin .geq .num (.t 7) (.c (.int .i64 0))),
 sD 4 (.mv (.t 8))])
 .ret))
def fn95 : IFun := ⟨9, [(.tmp 4)], an95.erase⟩
theorem ok95 : okFun Try.prog 95 fn95 = true := by kernel_rfl
theorem oka95 : okA fn95.ntmps fn95.results an95 = true := by kernel_rfl
def sh95 (C : CallA) (s0 f1 : AV) (h : H) (R : AV → H → Prop) : Prop :=
 C 108 [s0, f1] h fun t7 h =>
 valA (binOp .geq .num t7 (.int .i64 0)) h fun t8 h =>
 R t8 h
theorem she95 (C : CallA) (s0 f1 : AV) (h : H) (R : AV → H → Prop) : wpA C an95 (argE [s0, f1]) h (outA [(.tmp 4)] R) = sh95 C s0 f1 h R := by kernel_rfl
/-! bellows/code.over[int]$1 -/
def an96 : ACode :=
 (.seq (.reg 0 [] [] [sD 3 (.mv (.c (.bool false)))])
 (.seq (.reg 0 [] [] [sD 4 (.mv (.t 0)),
 sD 5 (.len false (.t 4)),
 sD 6 (.ld none (.t 1)),
 sD 7 (.bin .gtr .num (.t 5) (.t 6)),
 sD 3 (.mv (.t 7))])
 .ret))
def fn96 : IFun := ⟨8, [(.tmp 3)], an96.erase⟩
theorem ok96 : okFun Try.prog 96 fn96 = true := by kernel_rfl
theorem oka96 : okA fn96.ntmps fn96.results an96 = true := by kernel_rfl
def sh96 (C : CallA) (l0 t1 : AV) (h : H) (R : AV → H → Prop) : Prop :=
 valA (lenA false l0) h fun t5 h =>
 valA (ldA h none t1) h fun t6 h =>
 valA (binOp .gtr .num t5 t6) h fun t7 h =>
 R t7 h
theorem she96 (C : CallA) (l0 t1 : AV) (h : H) (R : AV → H → Prop) : wpA C an96 (argE [l0, t1]) h (outA [(.tmp 3)] R) = sh96 C l0 t1 h R := by kernel_rfl
/-! slices.ContainsFunc[[][]bellows/api.Block,[]bellows/api.Block] -/
def an97 : ACode :=
 (.seq (.reg 0 [] [] [sD 4 (.mv (.c (.bool false)))])
 (.seq (.reg 0 [] [] [sD 5 (.mv (.t 0)),
 sD 6 (.mv (.t 1)),
 sD 7 (.call 109 [(.t 5), (.t 6)]),
 sD 8 (.bin .geq .num (.t 7) (.c (.int .i64 0))),
 sD 4 (.mv (.t 8))])
 .ret))
def fn97 : IFun := ⟨9, [(.tmp 4)], an97.erase⟩
theorem ok97 : okFun Try.prog 97 fn97 = true := by kernel_rfl
theorem oka97 : okA fn97.ntmps fn97.results an97 = true := by kernel_rfl
def sh97 (C : CallA) (s0 f1 : AV) (h : H) (R : AV → H → Prop) : Prop :=
 C 109 [s0, f1] h fun t7 h =>
 valA (binOp .geq .num t7 (.int .i64 0)) h fun t8 h =>
 R t8 h
theorem she97 (C : CallA) (s0 f1 : AV) (h : H) (R : AV → H → Prop) : wpA C an97 (argE [s0, f1]) h (outA [(.tmp 4)] R) = sh97 C s0 f1 h R := by kernel_rfl
/-! bellows/code.over[bellows/api.Block]$1 -/
def an98 : ACode :=
 (.seq (.reg 0 [] [] [sD 3 (.mv (.c (.bool false)))])
 (.seq (.reg 0 [] [] [sD 4 (.mv (.t 0)),
 sD 5 (.len false (.t 4)),
 sD 6 (.ld none (.t 1)),
 sD 7 (.bin .gtr .num (.t 5) (.t 6)),
 sD 3 (.mv (.t 7))])
 .ret))
def fn98 : IFun := ⟨8, [(.tmp 3)], an98.erase⟩
theorem ok98 : okFun Try.prog 98 fn98 = true := by kernel_rfl
theorem oka98 : okA fn98.ntmps fn98.results an98 = true := by kernel_rfl
def sh98 (C : CallA) (l0 t1 : AV) (h : H) (R : AV → H → Prop) : Prop :=
 valA (lenA false l0) h fun t5 h =>
 valA (ldA h none t1) h fun t6 h =>
 valA (binOp .gtr .num t5 t6) h fun t7 h =>
 R t7 h
theorem she98 (C : CallA) (l0 t1 : AV) (h : H) (R : AV → H → Prop) : wpA C an98 (argE [l0, t1]) h (outA [(.tmp 3)] R) = sh98 C l0 t1 h R := by kernel_rfl
/-! bellows/code.some[int] -/
def an99 : ACode :=
 (.seq (.reg 0 [] [] [sD 4 (.mv (.c .nilsl))])
 (.seq (.reg 0 [] [] [sD 5 (.mv (.c .nilsl))])
 (.seq (.seq (.reg 0 [] [] [sD 6 (.mv (.t 0)),
 sD 7 (.call 73 [(.t 6)]),
 sD 8 (.mv (.c (.int .i64 0)))])
 (.block 0 (.loop [5, 8] 419 (.seq (.reg 0 [] [] [sD 9 (.bin .lss .num (.t 8) (.t 7))])
 (.seq (.cond (.t 9) .skip
 (.exit 0))
 (.seq (.block 1 (.seq (.seq (.reg 0 [] [] [sD 10 (.mv (.t 0)),
 sD 11 (.nilc (.t 10)),
 sD 12 (.fa 2 (.t 11)),
 sD 13 (.ld none (.t 12))])
 (.cond (.t 13) (.seq (.reg 0 [] [] [sD 4 (.mv (.c .nilsl))])
 .ret)
 .skip))
 (.reg 0 [] [] [sD 14 (.mv (.t 5)),
 sD 15 (.mv (.t 1)),
 sD 16 (.callv (.t 15) []),
 sD 17 (.mksl none 3 [(.int .i64 0)] 1 [(0, 1, (.t 16))]),
 sD 18 (.app 3 1 8 [(.int .i64 0)] (.t 14) (.t 17)),
 sD 5 (.mv (.t 18))])))
 (.reg 0 [] [] [sD 19 (.bin .add .num (.t 8) (.c (.int .i64 1))),
 sD 8 (.mv (.t 19))])))))))
 (.seq (.reg 0 [] [] [sD 20 (.mv (.t 5)),
 sD 4 (.mv (.t 20))])
 .ret))))
def fn99 : IFun := ⟨21, [(.tmp 4)], an99.erase⟩
theorem ok99 : okFun Try.prog 99 fn99 = true := by kernel_rfl
theorem oka99 : okA fn99.ntmps fn99.results an99 = true := by kernel_rfl
def sh99 (C : CallA) (r0 each1 : AV) (h : H) (R : AV → H → Prop) : Prop :=
 joinA (fun (l5' : AV) (h : H) =>
  R l5' h) fun J =>
 C 73 [r0] h fun t7 h =>
 loopA (fun N l h => argA l 0 fun l5 => argA l 1 fun t8 => 
  valA (binOp .lss .num t8 t7) h fun t9 h =>
  condA t9
   (valA (nilcA r0) h fun t11 h =>
  valA (faA 2 t11) h fun t12 h =>
  valA (ldA h none t12) h fun t13 h =>
  condA t13
   (R .nilsl h)
   (callvA C each1 [] h fun t16 h =>
  mkslA h 3 1 (fillV [(.int .i64 0)] [(0, 1, t16)]) fun t17 h =>
  appendA h 3 1 8 l5 t17 fun t18 h =>
  valA (binOp .add .num t8 (.int .i64 1)) h fun t19 h =>
  N [t18, t19] h))
   (J l5 h)) [.nilsl, (.int .i64 0)] h
theorem she99 (C : CallA) (r0 each1 : AV) (h : H) (R : AV → H → Prop) : wpA C an99 (argE [r0, each1]) h (outA [(.tmp 4)] R) = sh99 C r0 each1 h R := by kernel_rfl
/-! bellows/code.some[bellows/api.Instr] -/
def an100 : ACode :=
 (.seq (.reg 0 [] [] [sD 4 (.mv (.c .nilsl))])
 (.seq (.reg 0 [] [] [sD 5 (.mv (.c .nilsl))])
 (.seq (.seq (.reg 0 [] [] [sD 6 (.mv (.t 0)),
 sD 7 (.call 73 [(.t 6)]),
 sD 8 (.mv (.c (.int .i64 0)))])
 (.block 0 (.loop [5, 8] 419 (.seq (.reg 0 [] [] [sD 9 (.bin .lss .num (.t 8) (.t 7))])
 (.seq (.cond (.t 9) .skip
 (.exit 0))
 (.seq (.block 1 (.seq (.seq (.reg 0 [] [] [sD 10 (.mv (.t 0)),
 sD 11 (.nilc (.t 10)),
 sD 12 (.fa 2 (.t 11)),
 sD 13 (.ld none (.t 12))])
 (.cond (.t 13) (.seq (.reg 0 [] [] [sD 4 (.mv (.c .nilsl))])
 .ret)
 .skip))
 (.reg 0 [] [] [sD 14 (.mv (.t 5)),
 sD 15 (.mv (.t 1)),
 sD 16 (.callv (.t 15) []),
 sD 17 (.mksl none 24 [(.int .i64 0), (.int .i64 0), (.int .i64 0), (.int .i64 0), (.int .i64 0), (.int .i64 0), .nilsl, .nilsl, .nilsl] 1 [(0, 9, (.t 16))]),
 sD 18 (.app 24 9 120 [(.int .i64 0), (.int .i64 0), (.int .i64 0), (.int .i64 0), (.int .i64 0), (.int .i64 0), .nilsl, .nilsl, .nilsl] (.t 14) (.t 17)),
 sD 5 (.mv (.t 18))])))
 (.reg 0 [] [] [sD 19 (.bin .add .num (.t 8) (.c (.int .i64 1))),
 sD 8 (.mv (.t 19))])))))))
 (.seq (.reg 0 [] [] [sD 20 (.mv (.t 5)),
 sD 4 (.mv (.t 20))])
 .ret))))
def fn100 : IFun := ⟨21, [(.tmp 4)], an100.erase⟩
theorem ok100 : okFun Try.prog 100 fn100 = true := by kernel_rfl
theorem oka100 : okA fn100.ntmps fn100.results an100 = true := by kernel_rfl
def sh100 (C : CallA) (r0 each1 : AV) (h : H) (R : AV → H → Prop) : Prop :=
 joinA (fun (l5' : AV) (h : H) =>
  R l5' h) fun J =>
 C 73 [r0] h fun t7 h =>
 loopA (fun N l h => argA l 0 fun l5 => argA l 1 fun t8 => 
  valA (binOp .lss .num t8 t7) h fun t9 h =>
  condA t9
   (valA (nilcA r0) h fun t11 h =>
  valA (faA 2 t11) h fun t12 h =>
  valA (ldA h none t12) h fun t13 h =>
  condA t13
   (R .nilsl h)
   (callvA C each1 [] h fun t16 h =>
  mkslA h 24 1 (fillV [(.int .i64 0), (.int .i64 0), (.int .i64 0), (.int .i64 0), (.int .i64 0), (.int .i64 0), .nilsl, .nilsl, .nilsl] [(0, 9, t16)]) fun t17 h =>
  appendA h 24 9 120 l5 t17 fun t18 h =>
  valA (binOp .add .num t8 (.int .i64 1)) h fun t19 h =>
  N [t18, t19] h))
   (J l5 h)) [.nilsl, (.int .i64 0)] h
theorem she100 (C : CallA) (r0 each1 : AV) (h : H) (R : AV → H → Prop) : wpA C an100 (argE [r0, each1]) h (outA [(.tmp 4)] R) = sh100 C r0 each1 h R := by kernel_rfl
/-! (*bellows/code.reader).instr -/
def an101 : ACode :=
 (.seq (.reg 0 [] [] [sD 2 (.al none 24 [(.int .i64 0), (.int .i64 0), (.int .i64 0), (.int .i64 0), (.int .i64 0), (.int .i64 0), .nilsl, .nilsl, .nilsl])])
 (.seq (.reg 0 [] [] [sD 7 (.mv (.t 0)),
 sD 8 (.call 51 [(.t 7)]),
 sD 9 (.fa 0 (.t 2)),
 sN (.st 1 (.t 9) (.t 8))])
 (.seq (.reg 0 [] [] [sD 10 (.fa 0 (.t 2)),
 sD 11 (.ld none (.t 10)),
 sD 12 (.call 10 [(.t 11)]),
 sD 3 (.mv (.t 12))])
 (.seq (.reg 0 [] [] [sD 13 (.mv (.t 0)),
 sD 14 (.mv (.t 0)),
 sD 15 (.nilc (.t 14)),
 sD 16 (.fa 2 (.t 15)),
 sD 17 (.ld none (.t 16)),
 sD 18 (.mv (.t 17)),
 sG 19 18 false (.mv (.t 3)),
 sG 20 18 false (.bin .eql .num (.t 19) (.c (.str []))),
 sD 21 (.pick (.t 18) (.c (.bool true)) (.t 20)),
 sD 22 (.nilc (.t 13)),
 sD 23 (.fa 2 (.t 22)),
 sN (.st 1 (.t 23) (.t 21))])
 (.seq (.seq (.reg 0 [] [] [sD 24 (.mv (.t 3)),
 sD 25 (.cv none (.s2b 5) (.t 24)),
 sD 26 (.len false (.t 25)),
 sD 27 (.mv (.c (.int .i64 0)))])
 (.block 0 (.loop [27] 234881029 (.seq (.reg 0 [] [] [sD 28 (.bin .lss .num (.t 27) (.t 26))])
 (.seq (.cond (.t 28) .skip
 (.exit 0))
 (.seq (.block 1 (.seq (.reg 0 [] [] [sD 29 (.ia none 1 (.t 25) (.t 27)),
 sD 30 (.ld none (.t 29)),
 sD 5 (.mv (.t 30))])
 (.seq (.reg 0 [] [] [sD 31 (.mv (.t 5)),
 sD 32 (.bin .eql .num (.t 31) (.c (.int .u8 78)))])
 (.cond (.t 32) (.reg 0 [] [] [sD 33 (.mv (.t 0)),
 sD 34 (.call 77 [(.t 33)]),
 sD 35 (.fa 5 (.t 2)),
 sN (.st 1 (.t 35) (.t 34))])
 (.seq (.reg 0 [] [] [sD 36 (.mv (.t 5)),
 sD 37 (.call 23 [(.t 2), (.t 36)]),
 sD 6 (.mv (.t 37))])
 (.seq (.reg 0 [] [] [sD 38 (.mv (.t 6)),
 sD 39 (.bin .neq .ptr (.t 38) (.c .nilp))])
 (.cond (.t 39) (.reg 0 [] [] [sD 40 (.mv (.t 6)),
 sD 41 (.mv (.t 0)),
 sD 42 (.call 51 [(.t 41)]),
 sD 43 (.nilc (.t 40)),
 sN (.st 1 (.t 43) (.t 42))])
 (.reg 0 [] [] [sD 44 (.mv (.t 5)),
 sD 45 (.call 24 [(.t 2), (.t 44)]),
 sD 46 (.mv (.t 0)),
 sD 47 (.call 74 [(.t 46)]),
 sD 48 (.nilc (.t 45)),
 sN (.st 1 (.t 48) (.t 47))]))))))))
 (.reg 0 [] [] [sD 49 (.bin .add .num (.t 27) (.c (.int .i64 1))),
 sD 27 (.mv (.t 49))])))))))
 (.seq (.reg 0 [] [] [sD 50 (.ld (some 9) (.t 2)),
 sN (.st 9 (.t 2) (.t 50))])
 .ret))))))
def fn101 : IFun := ⟨51, [(.cell 2 (some 9))], an101.erase⟩
theorem ok101 : okFun Try.prog 101 fn101 = true := by kernel_rfl
theorem oka101 : okA fn101.ntmps fn101.results an101 = true := by kernel_rfl
def sh101 (C : CallA) (r0 : AV) (h : H) (R : AV → H → Prop) : Prop :=
 boxA h [(.int .i64 0), (.int .i64 0), (.int .i64 0), (.int .i64 0), (.int .i64 0), (.int .i64 0), .nilsl, .nilsl, .nilsl] 24 fun x2 h =>
 C 51 [r0] h fun t8 h =>
 valA (faA 0 x2) h fun t9 h =>
 memA (stA h 1 t9 t8) .undef fun _ h =>
 valA (faA 0 x2) h fun t10 h =>
 valA (ldA h none t10) h fun t11 h =>
 C 10 [t11] h fun t12 h =>
 valA (nilcA r0) h fun t15 h =>
 valA (faA 2 t15) h fun t16 h =>
 valA (ldA h none t16) h fun t17 h =>
 whenA t17 false (fun K => K t12 h) h fun t19 h =>
 whenA t17 false (fun K => valA (binOp .eql .num t19 (.str [])) h K) h fun t20 h =>
 valA (pickA t17 (.bool true) t20) h fun t21 h =>
 valA (nilcA r0) h fun t22 h =>
 valA (faA 2 t22) h fun t23 h =>
 memA (stA h 1 t23 t21) .undef fun _ h =>
 joinA (fun (h : H) =>
  valA (ldA h (some 9) x2) h fun t50 h =>
  memA (stA h 9 x2 t50) .undef fun _ h =>
  valA (ldA h (some 9) x2) h fun res _ => R res h) fun J =>
 s2bA h 5 t12 fun t25 h =>
 valA (lenA false t25) h fun t26 h =>
 loopA (fun N l h => argA l 0 fun t27 => 
  valA (binOp .lss .num t27 t26) h fun t28 h =>
  condA t28
   (joinA (fun (h : H) =>
   valA (binOp .add .num t27 (.int .i64 1)) h fun t49 h =>
   N [t49] h) fun J_22 =>
  valA (iaA 1 t25 t27) h fun t29 h =>
  valA (ldA h none t29) h fun t30 h =>
  valA (binOp .eql .num t30 (.int .u8 78)) h fun t32 h =>
  condA t32
   (C 77 [r0] h fun t34 h =>
   valA (faA 5 x2) h fun t35 h =>
   memA (stA h 1 t35 t34) .undef fun _ h =>
   J_22 h)
   (C 23 [x2, t30] h fun t37 h =>
   valA (binOp .neq .ptr t37 .nilp) h fun t39 h =>
   condA t39
    (C 51 [r0] h fun t42 h =>
    valA (nilcA t37) h fun t43 h =>
    memA (stA h 1 t43 t42) .undef fun _ h =>
    J_22 h)
    (C 24 [x2, t30] h fun t45 h =>
    C 74 [r0] h fun t47 h =>
    valA (nilcA t45) h fun t48 h =>
    memA (stA h 1 t48 t47) .undef fun _ h =>
    J_22 h)))
   (J h)) [(.int .i64 0)] h
theorem she101 (C : CallA) (r0 : AV) (h : H) (R : AV → H → Prop) : wpA C an101 (argE [r0]) h (outA [(.cell 2 (some 9))] R) = sh101 C r0 h R := by kernel_rfl
/-! bellows/word.Get -/
def an102 : ACode :=
 (.seq (.reg 0 [] [] [sD 4 (.mv (.c (.int .i64 0))),
 sD 5 (.mv (.c (.int .i64 0))),
 sD 6 (.mv (.c (.bool false)))])
 (.seq (.seq (.reg 0 [] [] [sD 11 (.mv (.t 1)),
 sD 12 (.bin .lss .num (.t 11) (.c (.int .i64 0))),
 sD 13 (.mv (.t 12)),
 sG 14 13 false (.mv (.t 1)),
 sG 15 13 false (.mv (.t 0)),
 sG 16 13 false (.len false (.t 15)),
 sG 17 13 false (.bin .geq .num (.t 14) (.t 16)),
 sD 18 (.pick (.t 13) (.c (.bool true)) (.t 17))])
 (.cond (.t 18) (.seq (.reg 0 [] [] [sD 4 (.mv (.c (.int .i64 0))),
 sD 5 (.mv (.c (.int .i64 0))),
 sD 6 (.mv (.c (.bool false)))])
 .ret)
 .skip))
 (.seq (.reg 0 [] [] [sD 7 (.mv (.c (.int .u64 0)))])
 (.seq (.seq (.reg 0 [] [] [sD 19 (.mv (.t 0)),
 sD 20 (.len false (.t 19)),
 sD 21 (.mv (.t 1)),
 sD 22 (.bin .sub .num (.t 20) (.t 21)),
 sD 23 (.mn [(.c (.int .i64 10)), (.t 22)]),
 sD 24 (.mv (.c (.int .i64 0)))])
 (.block 0 (.loop [7, 24] 25165955 (.seq (.reg 0 [] [] [sD 25 (.bin .lss .num (.t 24) (.t 23))])
 (.seq (.cond (.t 25) .skip
 (.exit 0))
 (.seq (.block 1 (.seq (.reg 0 [] [] [sD 26 (.mv (.t 24)),
 sD 8 (.mv (.t 26))])
 (.seq (.reg 0 [] [] [sD 27 (.mv (.t 0)),
 sD 28 (.mv (.t 1)),
 sD 29 (.mv (.t 8)),
 sD 30 (.bin .add .num (.t 28) (.t 29)),
 sD 31 (.ia none 1 (.t 27) (.t 30)),
 sD 32 (.ld none (.t 31)),
 sD 9 (.mv (.t 32))])
 (.seq (.seq (.reg 0 [] [] [sD 33 (.mv (.t 8)),
 sD 34 (.bin .eql .num (.t 33) (.c (.int .i64 9))),
 sD 35 (.mv (.t 34)),
 sG 36 35 true (.mv (.t 9)),
 sG 37 35 true (.bin .gtr .num (.t 36) (.c (.int .u8 1))),
 sD 38 (.pick (.t 35) (.t 37) (.c (.bool false)))])
 (.cond (.t 38) (.seq (.reg 0 [] [] [sD 4 (.mv (.c (.int .i64 0))),
 sD 5 (.mv (.c (.int .i64 0))),
 sD 6 (.mv (.c (.bool false)))])
 .ret)
 .skip))
 (.seq (.reg 0 [] [] [sD 39 (.mv (.t 7)),
 sD 40 (.mv (.t 9)),
 sD 41 (.bin .and .num (.t 40) (.c (.int .u8 127))),
 sD 42 (.cv none (.toInt .u64) (.t 41)),
 sD 43 (.mv (.t 8)),
 sD 44 (.bin .mul .num (.c (.int .i64 7)) (.t 43)),
 sD 45 (.bin .shl .num (.t 42) (.t 44)),
 sD 46 (.bin .or .num (.t 39) (.t 45)),
 sD 7 (.mv (.t 46))])
 (.seq (.reg 0 [] [] [sD 47 (.mv (.t 9)),
 sD 48 (.bin .lss .num (.t 47) (.c (.int .u8 128)))])
 (.cond (.t 48) (.seq (.seq (.reg 0 [] [] [sD 49 (.mv (.t 9)),
 sD 50 (.bin .eql .num (.t 49) (.c (.int .u8 0))),
 sD 51 (.mv (.t 50)),
 sG 52 51 true (.mv (.t 8)),
 sG 53 51 true (.bin .gtr .num (.t 52) (.c (.int .i64 0))),
 sD 54 (.pick (.t 51) (.t 53) (.c (.bool false)))])
 (.cond (.t 54) (.seq (.reg 0 [] [] [sD 4 (.mv (.c (.int .i64 0))),
 sD 5 (.mv (.c (.int .i64 0))),
 sD 6 (.mv (.c (.bool false)))])
 .ret)
 .skip))
 (.seq (.reg 0 [] [] [sD 55 (.mv (.t 7)),
 sD 56 (.bin .shr .num (.t 55) (.c (.int .u64 1))),
 sD 57 (.cv none (.toInt .i64) (.t 56)),
 sD 10 (.mv (.t 57))])
 (.seq (.seq (.reg 0 [] [] [sD 58 (.mv (.t 7)),
 sD 59 (.bin .and .num (.t 58) (.c (.int .u64 1))),
 sD 60 (.bin .eql .num (.t 59) (.c (.int .u64 1)))])
 (.cond (.t 60) (.reg 0 [] [] [sD 61 (.mv (.t 10)),
 sD 62 (.un .xor (.t 61)),
 sD 10 (.mv (.t 62))])
 .skip))
 (.seq (.reg 0 [] [] [sD 63 (.mv (.t 10)),
 sD 64 (.mv (.t 1)),
 sD 65 (.mv (.t 8)),
 sD 66 (.bin .add .num (.t 64) (.t 65)),
 sD 67 (.bin .add .num (.t 66) (.c (.int .i64 1))),
 sD 4 (.mv (.t 63)),
 sD 5 (.mv (.t 67)),
 sD 6 (.mv (.c (.bool true)))])
 .ret))))
 .skip)))))))
 (.reg 0 [] [] [sD 68 (.bin .add .num (.t 24) (.c (.int .i64 1))),
 sD 24 (.mv (.t 68))])))))))
 (.seq (.reg 0 [] [] [sD 4 (.mv (.c (.int .i64 0))),
 sD 5 (.mv (.c (.int .i64 0))),
 sD 6 (.mv (.c (.bool false)))])
 .ret)))))
def fn102 : IFun := ⟨69, [(.tmp 4), (.tmp 5), (.tmp 6)], an102.erase⟩
theorem ok102 : okFun Try.prog 102 fn102 = true := by kernel_rfl
theorem oka102 : okA fn102.ntmps fn102.results an102 = true := by kernel_rfl
def sh102 (C : CallA) (b0 at1 : AV) (h : H) (R : AV → H → Prop) : Prop :=
 valA (binOp .lss .num at1 (.int .i64 0)) h fun t12 h =>
 whenA t12 false (fun K => K at1 h) h fun t14 h =>
 whenA t12 false (fun K => K b0 h) h fun t15 h =>
 whenA t12 false (fun K => valA (lenA false t15) h K) h fun t16 h =>
 whenA t12 false (fun K => valA (binOp .geq .num t14 t16) h K) h fun t17 h =>
 valA (pickA t12 (.bool true) t17) h fun t18 h =>
 condA t18
  (R (.tup [(.int .i64 0), (.int .i64 0), (.bool false)]) h)
  (joinA (fun (h : H) =>
  R (.tup [(.int .i64 0), (.int .i64 0), (.bool false)]) h) fun J =>
 valA (lenA false b0) h fun t20 h =>
 valA (binOp .sub .num t20 at1) h fun t22 h =>
 valA (mnA [(.int .i64 10), t22]) h fun t23 h =>
 loopA (fun N l h => argA l 0 fun x7 => argA l 1 fun t24 => 
  valA (binOp .lss .num t24 t23) h fun t25 h =>
  condA t25
   (valA (binOp .add .num at1 t24) h fun t30 h =>
  valA (iaA 1 b0 t30) h fun t31 h =>
  valA (ldA h none t31) h fun t32 h =>
  valA (binOp .eql .num t24 (.int .i64 9)) h fun t34 h =>
  whenA t34 true (fun K => K t32 h) h fun t36 h =>
  whenA t34 true (fun K => valA (binOp .gtr .num t36 (.int .u8 1)) h K) h fun t37 h =>
  valA (pickA t34 t37 (.bool false)) h fun t38 h =>
  condA t38
   (R (.tup [(.int .i64 0), (.int .i64 0), (.bool false)]) h)
   (valA (binOp .and .num t32 (.int .u8 127)) h fun t41 h =>
  valA (cvA .u64 t41) h fun t42 h =>
  valA (binOp .mul .num (.int .i64 7) t24) h fun t44 h =>
  valA (binOp .shl .num t42 t44) h fun t45 h =>
  valA (binOp .or .num x7 t45) h fun t46 h =>
  valA (binOp .lss .num t32 (.int .u8 128)) h fun t48 h =>
  condA t48
   (valA (binOp .eql .num t32 (.int .u8 0)) h fun t50 h =>
   whenA t50 true (fun K => K t24 h) h fun t52 h =>
   whenA t50 true (fun K => valA (binOp .gtr .num t52 (.int .i64 0)) h K) h fun t53 h =>
   valA (pickA t50 t53 (.bool false)) h fun t54 h =>
   condA t54
    (R (.tup [(.int .i64 0), (.int .i64 0), (.bool false)]) h)
    (valA (binOp .shr .num t46 (.int .u64 1)) h fun t56 h =>
   valA (cvA .i64 t56) h fun t57 h =>
   joinA (fun (n10'_0 : AV) (h : H) =>
    valA (binOp .add .num at1 t24) h fun t66 h =>
    valA (binOp .add .num t66 (.int .i64 1)) h fun t67 h =>
    R (.tup [n10'_0, t67, (.bool true)]) h) fun J_6 =>
   valA (binOp .and .num t46 (.int .u64 1)) h fun t59 h =>
   valA (binOp .eql .num t59 (.int .u64 1)) h fun t60 h =>
   condA t60
    (valA (unOp .xor t57) h fun t62 h =>
    J_6 t62 h)
    (J_6 t57 h)))
   (valA (binOp .add .num t24 (.int .i64 1)) h fun t68 h =>
  N [t46, t68] h)))
   (J h)) [(.int .u64 0), (.int .i64 0)] h)
theorem she102 (C : CallA) (b0 at1 : AV) (h : H) (R : AV → H → Prop) : wpA C an102 (argE [b0, at1]) h (outA [(.tmp 4), (.tmp 5), (.tmp 6)] R) = sh102 C b0 at1 h R := by kernel_rfl
/-! slices.IndexFunc[[][]bellows/api.Type,[]bellows/api.Type] -/
def an103 : ACode :=
 (.seq (.reg 0 [] [] [sD 4 (.mv (.c (.int .i64 0)))])
 (.seq (.seq (.reg 0 [] [] [sD 6 (.mv (.t 0)),
 sD 7 (.len false (.t 6)),
 sD 8 (.mv (.c (.int .i64 0)))])
 (.block 0 (.loop [8] 387 (.seq (.reg 0 [] [] [sD 9 (.bin .lss .num (.t 8) (.t 7))])
 (.seq (.cond (.t 9) .skip
 (.exit 0))
 (.seq (.block 1 (.seq (.reg 0 [] [] [sD 10 (.mv (.t 8)),
 sD 5 (.mv (.t 10))])
 (.seq (.reg 0 [] [] [sD 11 (.mv (.t 1)),
 sD 12 (.mv (.t 0)),
 sD 13 (.mv (.t 5)),
 sD 14 (.ia none 1 (.t 12) (.t 13)),
 sD 15 (.ld none (.t 14)),
 sD 16 (.callv (.t 11) [(.t 15)])])
 (.cond (.t 16) (.seq (.reg 0 [] [] [sD 17 (.mv (.t 5)),
 sD 4 (.mv (.t 17))])
 .ret)
 .skip))))
 (.reg 0 [] [] [sD 18 (.bin .add .num (.t 8) (.c (.int .i64 1))),
 sD 8 (.mv (.t 18))])))))))
 (.seq (.reg 0 [] [] [sD 4 (.mv (.c (.int .i64 (-1))))])
 .ret)))
def fn103 : IFun := ⟨19, [(.tmp 4)], an103.erase⟩
theorem ok103 : okFun Try.prog 103 fn103 = true := by kernel_rfl
theorem oka103 : okA fn103.ntmps fn103.results an103 = true := by kernel_rfl
def sh103 (C : CallA) (s0 f1 : AV) (h : H) (R : AV → H → Prop) : Prop :=
 joinA (fun (h : H) =>
  R (.int .i64 (-1)) h) fun J =>
 valA (lenA false s0) h fun t7 h =>
 loopA (fun N l h => argA l 0 fun t8 => 
  valA (binOp .lss .num t8 t7) h fun t9 h =>
  condA t9
   (valA (iaA 1 s0 t8) h fun t14 h =>
  valA (ldA h none t14) h fun t15 h =>
  callvA C f1 [t15] h fun t16 h =>
  condA t16
   (R t8 h)
   (valA (binOp .add .num t8 (.int .i64 1)) h fun t18 h =>
  N [t18] h))
   (J h)) [(.int .i64 0)] h
theorem she103 (C : CallA) (s0 f1 : AV) (h : H) (R : AV → H → Prop) : wpA C an103 (argE [s0, f1]) h (outA [(.tmp 4)] R) = sh103 C s0 f1 h R := by kernel_rfl
/-! slices.IndexFunc[[][]bellows/api.Shape,[]bellows/api.Shape] -/
def an104 : ACode :=
 (.seq (.reg 0 [] [] [sD 4 (.mv (.c (.int .i64 0)))])
 (.seq (.seq (.reg 0 [] [] [sD 6 (.mv (.t 0)),
 sD 7 (.len false (.t 6)),
 sD 8 (.mv (.c (.int .i64 0)))])
 (.block 0 (.loop [8] 387 (.seq (.reg 0 [] [] [sD 9 (.bin .lss .num (.t 8) (.t 7))])
 (.seq (.cond (.t 9) .skip
 (.exit 0))
 (.seq (.block 1 (.seq (.reg 0 [] [] [sD 10 (.mv (.t 8)),
 sD 5 (.mv (.t 10))])
 (.seq (.reg 0 [] [] [sD 11 (.mv (.t 1)),
 sD 12 (.mv (.t 0)),
 sD 13 (.mv (.t 5)),
 sD 14 (.ia none 1 (.t 12) (.t 13)),
 sD 15 (.ld none (.t 14)),
 sD 16 (.callv (.t 11) [(.t 15)])])
 (.cond (.t 16) (.seq (.reg 0 [] [] [sD 17 (.mv (.t 5)),
 sD 4 (.mv (.t 17))])
 .ret)
 .skip))))
 (.reg 0 [] [] [sD 18 (.bin .add .num (.t 8) (.c (.int .i64 1))),
 sD 8 (.mv (.t 18))])))))))
 (.seq (.reg 0 [] [] [sD 4 (.mv (.c (.int .i64 (-1))))])
 .ret)))
def fn104 : IFun := ⟨19, [(.tmp 4)], an104.erase⟩
theorem ok104 : okFun Try.prog 104 fn104 = true := by kernel_rfl
theorem oka104 : okA fn104.ntmps fn104.results an104 = true := by kernel_rfl
def sh104 (C : CallA) (s0 f1 : AV) (h : H) (R : AV → H → Prop) : Prop :=
 joinA (fun (h : H) =>
  R (.int .i64 (-1)) h) fun J =>
 valA (lenA false s0) h fun t7 h =>
 loopA (fun N l h => argA l 0 fun t8 => 
  valA (binOp .lss .num t8 t7) h fun t9 h =>
  condA t9
   (valA (iaA 1 s0 t8) h fun t14 h =>
  valA (ldA h none t14) h fun t15 h =>
  callvA C f1 [t15] h fun t16 h =>
  condA t16
   (R t8 h)
   (valA (binOp .add .num t8 (.int .i64 1)) h fun t18 h =>
  N [t18] h))
   (J h)) [(.int .i64 0)] h
theorem she104 (C : CallA) (s0 f1 : AV) (h : H) (R : AV → H → Prop) : wpA C an104 (argE [s0, f1]) h (outA [(.tmp 4)] R) = sh104 C s0 f1 h R := by kernel_rfl
/-! slices.IndexFunc[[][]string,[]string] -/
def an105 : ACode :=
 (.seq (.reg 0 [] [] [sD 4 (.mv (.c (.int .i64 0)))])
 (.seq (.seq (.reg 0 [] [] [sD 6 (.mv (.t 0)),
 sD 7 (.len false (.t 6)),
 sD 8 (.mv (.c (.int .i64 0)))])
 (.block 0 (.loop [8] 387 (.seq (.reg 0 [] [] [sD 9 (.bin .lss .num (.t 8) (.t 7))])
 (.seq (.cond (.t 9) .skip
 (.exit 0))
 (.seq (.block 1 (.seq (.reg 0 [] [] [sD 10 (.mv (.t 8)),
 sD 5 (.mv (.t 10))])
 (.seq (.reg 0 [] [] [sD 11 (.mv (.t 1)),
 sD 12 (.mv (.t 0)),
 sD 13 (.mv (.t 5)),
 sD 14 (.ia none 1 (.t 12) (.t 13)),
 sD 15 (.ld none (.t 14)),
 sD 16 (.callv (.t 11) [(.t 15)])])
 (.cond (.t 16) (.seq (.reg 0 [] [] [sD 17 (.mv (.t 5)),
 sD 4 (.mv (.t 17))])
 .ret)
 .skip))))
 (.reg 0 [] [] [sD 18 (.bin .add .num (.t 8) (.c (.int .i64 1))),
 sD 8 (.mv (.t 18))])))))))
 (.seq (.reg 0 [] [] [sD 4 (.mv (.c (.int .i64 (-1))))])
 .ret)))
def fn105 : IFun := ⟨19, [(.tmp 4)], an105.erase⟩
theorem ok105 : okFun Try.prog 105 fn105 = true := by kernel_rfl
theorem oka105 : okA fn105.ntmps fn105.results an105 = true := by kernel_rfl
def sh105 (C : CallA) (s0 f1 : AV) (h : H) (R : AV → H → Prop) : Prop :=
 joinA (fun (h : H) =>
  R (.int .i64 (-1)) h) fun J =>
 valA (lenA false s0) h fun t7 h =>
 loopA (fun N l h => argA l 0 fun t8 => 
  valA (binOp .lss .num t8 t7) h fun t9 h =>
  condA t9
   (valA (iaA 1 s0 t8) h fun t14 h =>
  valA (ldA h none t14) h fun t15 h =>
  callvA C f1 [t15] h fun t16 h =>
  condA t16
   (R t8 h)
   (valA (binOp .add .num t8 (.int .i64 1)) h fun t18 h =>
  N [t18] h))
   (J h)) [(.int .i64 0)] h
theorem she105 (C : CallA) (s0 f1 : AV) (h : H) (R : AV → H → Prop) : wpA C an105 (argE [s0, f1]) h (outA [(.tmp 4)] R) = sh105 C s0 f1 h R := by kernel_rfl
/-! slices.IndexFunc[[][]bellows/api.Func,[]bellows/api.Func] -/
def an106 : ACode :=
 (.seq (.reg 0 [] [] [sD 4 (.mv (.c (.int .i64 0)))])
 (.seq (.seq (.reg 0 [] [] [sD 6 (.mv (.t 0)),
 sD 7 (.len false (.t 6)),
 sD 8 (.mv (.c (.int .i64 0)))])
 (.block 0 (.loop [8] 387 (.seq (.reg 0 [] [] [sD 9 (.bin .lss .num (.t 8) (.t 7))])
 (.seq (.cond (.t 9) .skip
 (.exit 0))
 (.seq (.block 1 (.seq (.reg 0 [] [] [sD 10 (.mv (.t 8)),
 sD 5 (.mv (.t 10))])
 (.seq (.reg 0 [] [] [sD 11 (.mv (.t 1)),
 sD 12 (.mv (.t 0)),
 sD 13 (.mv (.t 5)),
 sD 14 (.ia none 1 (.t 12) (.t 13)),
 sD 15 (.ld none (.t 14)),
 sD 16 (.callv (.t 11) [(.t 15)])])
 (.cond (.t 16) (.seq (.reg 0 [] [] [sD 17 (.mv (.t 5)),
 sD 4 (.mv (.t 17))])
 .ret)
 .skip))))
 (.reg 0 [] [] [sD 18 (.bin .add .num (.t 8) (.c (.int .i64 1))),
 sD 8 (.mv (.t 18))])))))))
 (.seq (.reg 0 [] [] [sD 4 (.mv (.c (.int .i64 (-1))))])
 .ret)))
def fn106 : IFun := ⟨19, [(.tmp 4)], an106.erase⟩
theorem ok106 : okFun Try.prog 106 fn106 = true := by kernel_rfl
theorem oka106 : okA fn106.ntmps fn106.results an106 = true := by kernel_rfl
def sh106 (C : CallA) (s0 f1 : AV) (h : H) (R : AV → H → Prop) : Prop :=
 joinA (fun (h : H) =>
  R (.int .i64 (-1)) h) fun J =>
 valA (lenA false s0) h fun t7 h =>
 loopA (fun N l h => argA l 0 fun t8 => 
  valA (binOp .lss .num t8 t7) h fun t9 h =>
  condA t9
   (valA (iaA 1 s0 t8) h fun t14 h =>
  valA (ldA h none t14) h fun t15 h =>
  callvA C f1 [t15] h fun t16 h =>
  condA t16
   (R t8 h)
   (valA (binOp .add .num t8 (.int .i64 1)) h fun t18 h =>
  N [t18] h))
   (J h)) [(.int .i64 0)] h
theorem she106 (C : CallA) (s0 f1 : AV) (h : H) (R : AV → H → Prop) : wpA C an106 (argE [s0, f1]) h (outA [(.tmp 4)] R) = sh106 C s0 f1 h R := by kernel_rfl
/-! slices.IndexFunc[[]string,string] -/
def an107 : ACode :=
 (.seq (.reg 0 [] [] [sD 4 (.mv (.c (.int .i64 0)))])
 (.seq (.seq (.reg 0 [] [] [sD 6 (.mv (.t 0)),
 sD 7 (.len false (.t 6)),
 sD 8 (.mv (.c (.int .i64 0)))])
 (.block 0 (.loop [8] 387 (.seq (.reg 0 [] [] [sD 9 (.bin .lss .num (.t 8) (.t 7))])
 (.seq (.cond (.t 9) .skip
 (.exit 0))
 (.seq (.block 1 (.seq (.reg 0 [] [] [sD 10 (.mv (.t 8)),
 sD 5 (.mv (.t 10))])
 (.seq (.reg 0 [] [] [sD 11 (.mv (.t 1)),
 sD 12 (.mv (.t 0)),
 sD 13 (.mv (.t 5)),
 sD 14 (.ia none 1 (.t 12) (.t 13)),
 sD 15 (.ld none (.t 14)),
 sD 16 (.callv (.t 11) [(.t 15)])])
 (.cond (.t 16) (.seq (.reg 0 [] [] [sD 17 (.mv (.t 5)),
 sD 4 (.mv (.t 17))])
 .ret)
 .skip))))
 (.reg 0 [] [] [sD 18 (.bin .add .num (.t 8) (.c (.int .i64 1))),
 sD 8 (.mv (.t 18))])))))))
 (.seq (.reg 0 [] [] [sD 4 (.mv (.c (.int .i64 (-1))))])
 .ret)))
def fn107 : IFun := ⟨19, [(.tmp 4)], an107.erase⟩
theorem ok107 : okFun Try.prog 107 fn107 = true := by kernel_rfl
theorem oka107 : okA fn107.ntmps fn107.results an107 = true := by kernel_rfl
def sh107 (C : CallA) (s0 f1 : AV) (h : H) (R : AV → H → Prop) : Prop :=
 joinA (fun (h : H) =>
  R (.int .i64 (-1)) h) fun J =>
 valA (lenA false s0) h fun t7 h =>
 loopA (fun N l h => argA l 0 fun t8 => 
  valA (binOp .lss .num t8 t7) h fun t9 h =>
  condA t9
   (valA (iaA 1 s0 t8) h fun t14 h =>
  valA (ldA h none t14) h fun t15 h =>
  callvA C f1 [t15] h fun t16 h =>
  condA t16
   (R t8 h)
   (valA (binOp .add .num t8 (.int .i64 1)) h fun t18 h =>
  N [t18] h))
   (J h)) [(.int .i64 0)] h
theorem she107 (C : CallA) (s0 f1 : AV) (h : H) (R : AV → H → Prop) : wpA C an107 (argE [s0, f1]) h (outA [(.tmp 4)] R) = sh107 C s0 f1 h R := by kernel_rfl
/-! slices.IndexFunc[[][]int,[]int] -/
def an108 : ACode :=
 (.seq (.reg 0 [] [] [sD 4 (.mv (.c (.int .i64 0)))])
 (.seq (.seq (.reg 0 [] [] [sD 6 (.mv (.t 0)),
 sD 7 (.len false (.t 6)),
 sD 8 (.mv (.c (.int .i64 0)))])
 (.block 0 (.loop [8] 387 (.seq (.reg 0 [] [] [sD 9 (.bin .lss .num (.t 8) (.t 7))])
 (.seq (.cond (.t 9) .skip
 (.exit 0))
 (.seq (.block 1 (.seq (.reg 0 [] [] [sD 10 (.mv (.t 8)),
 sD 5 (.mv (.t 10))])
 (.seq (.reg 0 [] [] [sD 11 (.mv (.t 1)),
 sD 12 (.mv (.t 0)),
 sD 13 (.mv (.t 5)),
 sD 14 (.ia none 1 (.t 12) (.t 13)),
 sD 15 (.ld none (.t 14)),
 sD 16 (.callv (.t 11) [(.t 15)])])
 (.cond (.t 16) (.seq (.reg 0 [] [] [sD 17 (.mv (.t 5)),
 sD 4 (.mv (.t 17))])
 .ret)
 .skip))))
 (.reg 0 [] [] [sD 18 (.bin .add .num (.t 8) (.c (.int .i64 1))),
 sD 8 (.mv (.t 18))])))))))
 (.seq (.reg 0 [] [] [sD 4 (.mv (.c (.int .i64 (-1))))])
 .ret)))
def fn108 : IFun := ⟨19, [(.tmp 4)], an108.erase⟩
theorem ok108 : okFun Try.prog 108 fn108 = true := by kernel_rfl
theorem oka108 : okA fn108.ntmps fn108.results an108 = true := by kernel_rfl
def sh108 (C : CallA) (s0 f1 : AV) (h : H) (R : AV → H → Prop) : Prop :=
 joinA (fun (h : H) =>
  R (.int .i64 (-1)) h) fun J =>
 valA (lenA false s0) h fun t7 h =>
 loopA (fun N l h => argA l 0 fun t8 => 
  valA (binOp .lss .num t8 t7) h fun t9 h =>
  condA t9
   (valA (iaA 1 s0 t8) h fun t14 h =>
  valA (ldA h none t14) h fun t15 h =>
  callvA C f1 [t15] h fun t16 h =>
  condA t16
   (R t8 h)
   (valA (binOp .add .num t8 (.int .i64 1)) h fun t18 h =>
  N [t18] h))
   (J h)) [(.int .i64 0)] h
theorem she108 (C : CallA) (s0 f1 : AV) (h : H) (R : AV → H → Prop) : wpA C an108 (argE [s0, f1]) h (outA [(.tmp 4)] R) = sh108 C s0 f1 h R := by kernel_rfl
/-! slices.IndexFunc[[][]bellows/api.Block,[]bellows/api.Block] -/
def an109 : ACode :=
 (.seq (.reg 0 [] [] [sD 4 (.mv (.c (.int .i64 0)))])
 (.seq (.seq (.reg 0 [] [] [sD 6 (.mv (.t 0)),
 sD 7 (.len false (.t 6)),
 sD 8 (.mv (.c (.int .i64 0)))])
 (.block 0 (.loop [8] 387 (.seq (.reg 0 [] [] [sD 9 (.bin .lss .num (.t 8) (.t 7))])
 (.seq (.cond (.t 9) .skip
 (.exit 0))
 (.seq (.block 1 (.seq (.reg 0 [] [] [sD 10 (.mv (.t 8)),
 sD 5 (.mv (.t 10))])
 (.seq (.reg 0 [] [] [sD 11 (.mv (.t 1)),
 sD 12 (.mv (.t 0)),
 sD 13 (.mv (.t 5)),
 sD 14 (.ia none 1 (.t 12) (.t 13)),
 sD 15 (.ld none (.t 14)),
 sD 16 (.callv (.t 11) [(.t 15)])])
 (.cond (.t 16) (.seq (.reg 0 [] [] [sD 17 (.mv (.t 5)),
 sD 4 (.mv (.t 17))])
 .ret)
 .skip))))
 (.reg 0 [] [] [sD 18 (.bin .add .num (.t 8) (.c (.int .i64 1))),
 sD 8 (.mv (.t 18))])))))))
 (.seq (.reg 0 [] [] [sD 4 (.mv (.c (.int .i64 (-1))))])
 .ret)))
def fn109 : IFun := ⟨19, [(.tmp 4)], an109.erase⟩
theorem ok109 : okFun Try.prog 109 fn109 = true := by kernel_rfl
theorem oka109 : okA fn109.ntmps fn109.results an109 = true := by kernel_rfl
def sh109 (C : CallA) (s0 f1 : AV) (h : H) (R : AV → H → Prop) : Prop :=
 joinA (fun (h : H) =>
  R (.int .i64 (-1)) h) fun J =>
 valA (lenA false s0) h fun t7 h =>
 loopA (fun N l h => argA l 0 fun t8 => 
  valA (binOp .lss .num t8 t7) h fun t9 h =>
  condA t9
   (valA (iaA 1 s0 t8) h fun t14 h =>
  valA (ldA h none t14) h fun t15 h =>
  callvA C f1 [t15] h fun t16 h =>
  condA t16
   (R t8 h)
   (valA (binOp .add .num t8 (.int .i64 1)) h fun t18 h =>
  N [t18] h))
   (J h)) [(.int .i64 0)] h
theorem she109 (C : CallA) (s0 f1 : AV) (h : H) (R : AV → H → Prop) : wpA C an109 (argE [s0, f1]) h (outA [(.tmp 4)] R) = sh109 C s0 f1 h R := by kernel_rfl
end Go.Proofs.Ytgcnliikibbcnaa.X
