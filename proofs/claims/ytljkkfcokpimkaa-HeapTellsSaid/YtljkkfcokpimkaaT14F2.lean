/- The plain programs of functions, printed; that they are the model's; what must hold ahead of each. -/
import Derived.Test.YtljkkfcokpimkaaProg
import Derived.Test.YtljkkfcokpimkaaXo
set_option maxRecDepth 100000
set_option linter.unusedVariables false
namespace Go.Proofs.Ytljkkfcokpimkaa.X
open Go
/-! (*bellows/heap.Heap).Text -/
def an71 : ACode :=
 (.seq (.reg 0 [] [] [sD 4 (.mv (.c (.str []))),
 sD 5 (.mv (.c (.int .i64 0)))])
 (.seq (.seq (.reg 0 [0, 1, 2, 3, 4, 5, 6, 7, 8, 9, 10, 11, 12, 13, 14, 15, 16, 17, 18, 19, 20, 21] [[], [], [1, 0], [0, 1, 2], [2, 1, 0, 3], [3, 0, 1, 2, 4], [4, 2, 1, 0, 3, 5], [5, 3, 0, 1, 2, 4, 6], [6, 4, 2, 1, 0, 3, 5, 7], [3, 0, 1, 2, 4], [4, 2, 1, 0, 3, 9], [9, 3, 0, 1, 2, 4, 10], [10, 4, 2, 1, 0, 3, 9, 11], [3, 0, 1, 2, 4], [13, 11, 9, 3, 0, 1, 2, 4, 10, 12], [12, 10, 4, 2, 1, 0, 3, 9, 11, 13, 14], [14, 13, 11, 9, 3, 0, 1, 2, 4, 10, 12, 15], [15, 12, 10, 9, 11, 13, 14, 16, 7, 5, 3, 0, 1, 2, 4, 6, 8], [8, 6, 4, 2, 1, 0, 3, 5, 7, 16, 14, 13, 11, 9, 10, 12, 15, 17], [17, 15, 12, 10, 9, 11, 13, 14, 16, 7, 5, 3, 0, 1, 2, 4, 6, 8, 18], [18, 8, 6, 4, 2, 1, 0, 3, 5, 7, 16, 14, 13, 11, 9, 10, 12, 15, 17, 19], [19, 17, 15, 12, 10, 9, 11, 13, 14, 16, 7, 5, 6, 8, 18, 20, 3, 0, 1, 2, 4]] [sD 8 (.mv (.t 0)),
 sD 9 (.mv (.t 1)),
 sD 10 (.call 56 [(.t 8), (.t 9)]),
 sD 11 (.un .not (.t 10)),
 sD 12 (.mv (.t 11)),
 sG 13 12 false (.mv (.t 0)),
 sG 14 12 false (.nilc (.t 13)),
 sG 15 12 false (.fa 2 (.t 14)),
 sG 16 12 false (.ld none (.t 15)),
 sG 17 12 false (.mv (.t 0)),
 sG 18 12 false (.nilc (.t 17)),
 sG 19 12 false (.fa 0 (.t 18)),
 sG 20 12 false (.ld none (.t 19)),
 sG 21 12 false (.mv (.t 1)),
 sG 22 12 false (.ia none 1 (.t 20) (.t 21)),
 sG 23 12 false (.ld none (.t 22)),
 ⟨(some 24), (some (12, false)), (.call 33 [(.t 23)]), [⟨(some (12, false)), (.ld none (.t 15)), 16⟩]⟩,
 sG 25 12 false (.ia none 2 (.t 16) (.t 24)),
 sG 26 12 false (.fa 0 (.t 25)),
 sG 27 12 false (.ld none (.t 26)),
 sG 28 12 false (.bin .neq .num (.t 27) (.c (.int .i64 3))),
 sD 29 (.pick (.t 12) (.c (.bool true)) (.t 28))])
 (.cond (.t 29) (.seq (.reg 0 [] [] [sD 4 (.mv (.c (.str []))),
 sD 5 (.mv (.c (.int .i64 1)))])
 .ret)
 .skip))
 (.seq (.reg 0 [] [] [sD 30 (.mv (.t 0)),
 sD 31 (.nilc (.t 30)),
 sD 32 (.fa 0 (.t 31)),
 sD 33 (.ld none (.t 32)),
 sD 34 (.mv (.t 1)),
 sD 35 (.ia none 1 (.t 33) (.t 34)),
 sD 36 (.ld none (.t 35)),
 sD 37 (.call 35 [(.t 36)]),
 sD 38 (.mks none 5 [(.int .u8 0)] 1 (.t 37) (.t 37)),
 sD 6 (.mv (.t 38))])
 (.seq (.seq (.reg 0 [] [] [sD 39 (.mv (.t 6)),
 sD 40 (.len false (.t 39)),
 sD 41 (.mv (.c (.int .i64 0)))])
 (.block 0 (.loop [41] 3298534883395 (.seq (.reg 0 [] [] [sD 42 (.bin .lss .num (.t 41) (.t 40))])
 (.seq (.cond (.t 42) .skip
 (.exit 0))
 (.seq (.block 1 (.seq (.reg 0 [] [] [sD 43 (.mv (.t 41)),
 sD 7 (.mv (.t 43))])
 (.reg 0 [] [] [sD 44 (.mv (.t 6)),
 sD 45 (.mv (.t 7)),
 sD 46 (.mv (.t 0)),
 sD 47 (.nilc (.t 46)),
 sD 48 (.fa 0 (.t 47)),
 sD 49 (.ld none (.t 48)),
 sD 50 (.mv (.t 1)),
 sD 51 (.bin .add .num (.t 50) (.c (.int .i64 1))),
 sD 52 (.mv (.t 7)),
 sD 53 (.bin .quo .num (.t 52) (.c (.int .i64 8))),
 sD 54 (.bin .add .num (.t 51) (.t 53)),
 sD 55 (.ia none 1 (.t 49) (.t 54)),
 sD 56 (.ld none (.t 55)),
 sD 57 (.mv (.t 7)),
 sD 58 (.bin .rem .num (.t 57) (.c (.int .i64 8))),
 sD 59 (.bin .mul .num (.t 58) (.c (.int .i64 8))),
 sD 60 (.bin .shr .num (.t 56) (.t 59)),
 sD 61 (.cv none (.toInt .u8) (.t 60)),
 sD 62 (.ia none 1 (.t 44) (.t 45)),
 sN (.st 1 (.t 62) (.t 61))])))
 (.reg 0 [] [] [sD 63 (.bin .add .num (.t 41) (.c (.int .i64 1))),
 sD 41 (.mv (.t 63))])))))))
 (.seq (.reg 0 [] [] [sD 64 (.mv (.t 6)),
 sD 65 (.cv none .b2s (.t 64)),
 sD 4 (.mv (.t 65)),
 sD 5 (.mv (.c (.int .i64 0)))])
 .ret)))))
def fn71 : IFun := ⟨66, [(.tmp 4), (.tmp 5)], an71.erase⟩
theorem ok71 : okFun Try.prog 71 fn71 = true := by kernel_rfl
theorem oka71 : okA fn71.ntmps fn71.results an71 = true := by kernel_rfl
def sh71 (C : CallA) (h0 at1 : AV) (h : H) (R : AV → H → Prop) : Prop :=
 C 56 [h0, at1] h fun t10 h =>
 valA (unOp .not t10) h fun t11 h =>
 whenA t11 false (fun K => K h0 h) h fun t13 h =>
 whenA t11 false (fun K => valA (nilcA t13) h K) h fun t14 h =>
 whenA t11 false (fun K => valA (faA 2 t14) h K) h fun t15 h =>
 whenA t11 false (fun K => valA (ldA h none t15) h K) h fun t16 h =>
 whenA t11 false (fun K => K h0 h) h fun t17 h =>
 whenA t11 false (fun K => valA (nilcA t17) h K) h fun t18 h =>
 whenA t11 false (fun K => valA (faA 0 t18) h K) h fun t19 h =>
 whenA t11 false (fun K => valA (ldA h none t19) h K) h fun t20 h =>
 whenA t11 false (fun K => K at1 h) h fun t21 h =>
 whenA t11 false (fun K => valA (iaA 1 t20 t21) h K) h fun t22 h =>
 whenA t11 false (fun K => valA (ldA h none t22) h K) h fun t23 h =>
 whenA t11 false (fun K => C 33 [t23] h K) h fun t24 h =>
 againK (whenP t11 false (valA (ldA h none t15) h (fun v _ => v = t16))) <|
 whenA t11 false (fun K => valA (iaA 2 t16 t24) h K) h fun t25 h =>
 whenA t11 false (fun K => valA (faA 0 t25) h K) h fun t26 h =>
 whenA t11 false (fun K => valA (ldA h none t26) h K) h fun t27 h =>
 whenA t11 false (fun K => valA (binOp .neq .num t27 (.int .i64 3)) h K) h fun t28 h =>
 valA (pickA t11 (.bool true) t28) h fun t29 h =>
 condA t29
  (R (.tup [(.str []), (.int .i64 1)]) h)
  (valA (nilcA h0) h fun t31 h =>
 valA (faA 0 t31) h fun t32 h =>
 valA (ldA h none t32) h fun t33 h =>
 valA (iaA 1 t33 at1) h fun t35 h =>
 valA (ldA h none t35) h fun t36 h =>
 C 35 [t36] h fun t37 h =>
 mksA h 5 [(.int .u8 0)] 1 t37 t37 fun t38 h =>
 joinA (fun (h : H) =>
  valA (b2sA h t38) h fun t65 h =>
  R (.tup [t65, (.int .i64 0)]) h) fun J =>
 valA (lenA false t38) h fun t40 h =>
 loopA (fun N l h => argA l 0 fun t41 => 
  valA (binOp .lss .num t41 t40) h fun t42 h =>
  condA t42
   (valA (nilcA h0) h fun t47 h =>
  valA (faA 0 t47) h fun t48 h =>
  valA (ldA h none t48) h fun t49 h =>
  valA (binOp .add .num at1 (.int .i64 1)) h fun t51 h =>
  valA (binOp .quo .num t41 (.int .i64 8)) h fun t53 h =>
  valA (binOp .add .num t51 t53) h fun t54 h =>
  valA (iaA 1 t49 t54) h fun t55 h =>
  valA (ldA h none t55) h fun t56 h =>
  valA (binOp .rem .num t41 (.int .i64 8)) h fun t58 h =>
  valA (binOp .mul .num t58 (.int .i64 8)) h fun t59 h =>
  valA (binOp .shr .num t56 t59) h fun t60 h =>
  valA (cvA .u8 t60) h fun t61 h =>
  valA (iaA 1 t38 t41) h fun t62 h =>
  memA (stA h 1 t62 t61) .undef fun _ h =>
  valA (binOp .add .num t41 (.int .i64 1)) h fun t63 h =>
  N [t63] h)
   (J h)) [(.int .i64 0)] h)
theorem she71 (C : CallA) (h0 at1 : AV) (h : H) (R : AV → H → Prop) : wpA C an71 (argE [h0, at1]) h (outA [(.tmp 4), (.tmp 5)] R) = sh71 C h0 at1 h R := by kernel_rfl
/-! (*bellows/heap.Heap).Len -/
def an72 : ACode :=
 (.seq (.reg 0 [] [] [sD 4 (.mv (.c (.int .i64 0))),
 sD 5 (.mv (.c (.int .i64 0)))])
 (.seq (.seq (.reg 0 [] [] [sD 6 (.mv (.t 0)),
 sD 7 (.mv (.t 1)),
 sD 8 (.call 56 [(.t 6), (.t 7)]),
 sD 9 (.un .not (.t 8))])
 (.cond (.t 9) (.seq (.reg 0 [] [] [sD 4 (.mv (.c (.int .i64 0))),
 sD 5 (.mv (.c (.int .i64 1)))])
 .ret)
 .skip))
 (.seq (.reg 0 [] [] [sD 10 (.mv (.t 0)),
 sD 11 (.nilc (.t 10)),
 sD 12 (.fa 0 (.t 11)),
 sD 13 (.ld none (.t 12)),
 sD 14 (.mv (.t 1)),
 sD 15 (.ia none 1 (.t 13) (.t 14)),
 sD 16 (.ld none (.t 15)),
 sD 17 (.call 35 [(.t 16)]),
 sD 4 (.mv (.t 17)),
 sD 5 (.mv (.c (.int .i64 0)))])
 .ret)))
def fn72 : IFun := ⟨18, [(.tmp 4), (.tmp 5)], an72.erase⟩
theorem ok72 : okFun Try.prog 72 fn72 = true := by kernel_rfl
theorem oka72 : okA fn72.ntmps fn72.results an72 = true := by kernel_rfl
def sh72 (C : CallA) (h0 at1 : AV) (h : H) (R : AV → H → Prop) : Prop :=
 C 56 [h0, at1] h fun t8 h =>
 valA (unOp .not t8) h fun t9 h =>
 condA t9
  (R (.tup [(.int .i64 0), (.int .i64 1)]) h)
  (valA (nilcA h0) h fun t11 h =>
 valA (faA 0 t11) h fun t12 h =>
 valA (ldA h none t12) h fun t13 h =>
 valA (iaA 1 t13 at1) h fun t15 h =>
 valA (ldA h none t15) h fun t16 h =>
 C 35 [t16] h fun t17 h =>
 R (.tup [t17, (.int .i64 0)]) h)
theorem she72 (C : CallA) (h0 at1 : AV) (h : H) (R : AV → H → Prop) : wpA C an72 (argE [h0, at1]) h (outA [(.tmp 4), (.tmp 5)] R) = sh72 C h0 at1 h R := by kernel_rfl
/-! bellows/bellowslaw02.Few -/
def an73 : ACode :=
 (.seq (.reg 0 [] [] [sD 2 (.mv (.c .nilsl))])
 (.seq (.seq (.reg 0 [] [] [sD 3 (.mv (.t 0)),
 sD 4 (.len false (.t 3)),
 sD 5 (.bin .gtr .num (.t 4) (.c (.int .i64 200)))])
 (.cond (.t 5) (.seq (.reg 0 [] [] [sD 6 (.mv (.t 0)),
 sD 7 (.sli (.row 5) (.t 6) none (some (.c (.int .i64 200))) none),
 sD 2 (.mv (.t 7))])
 .ret)
 .skip))
 (.seq (.reg 0 [] [] [sD 8 (.mv (.t 0)),
 sD 2 (.mv (.t 8))])
 .ret)))
def fn73 : IFun := ⟨9, [(.tmp 2)], an73.erase⟩
theorem ok73 : okFun Try.prog 73 fn73 = true := by kernel_rfl
theorem oka73 : okA fn73.ntmps fn73.results an73 = true := by kernel_rfl
def sh73 (C : CallA) (l0 : AV) (h : H) (R : AV → H → Prop) : Prop :=
 valA (lenA false l0) h fun t4 h =>
 valA (binOp .gtr .num t4 (.int .i64 200)) h fun t5 h =>
 condA t5
  (valA (sliceOp (.row 5) l0 none (some (.int .i64 200)) none) h fun t7 h =>
  R t7 h)
  (R l0 h)
theorem she73 (C : CallA) (l0 : AV) (h : H) (R : AV → H → Prop) : wpA C an73 (argE [l0]) h (outA [(.tmp 2)] R) = sh73 C l0 h R := by kernel_rfl
/-! bellows/bellowslaw02.Does -/
def an74 : ACode :=
 (.seq (.reg 0 [] [] [sD 5 (.bx none 72 (.t 2)),
 sD 6 (.mv (.c (.bool false)))])
 (.seq (.reg 0 [] [] [sD 13 (.fa 3 (.t 5)),
 sD 14 (.ld none (.t 13)),
 sD 7 (.mv (.t 14))])
 (.seq (.seq (.reg 0 [] [] [sD 15 (.fa 4 (.t 5)),
 sD 16 (.ld none (.t 15)),
 sD 17 (.mv (.t 16)),
 sG 18 17 true (.mv (.t 1)),
 sG 19 17 true (.nilc (.t 18)),
 sG 20 17 true (.fa 2 (.t 19)),
 sG 21 17 true (.ld none (.t 20)),
 sG 22 17 true (.len false (.t 21)),
 sG 23 17 true (.bin .gtr .num (.t 22) (.c (.int .i64 0))),
 sD 24 (.pick (.t 17) (.t 23) (.c (.bool false)))])
 (.cond (.t 24) (.reg 0 [0, 1, 2, 3, 4, 5, 6, 7, 8, 9, 10, 11, 12, 13, 14, 15, 16, 17, 18, 19] [[], [0], [0, 1], [1, 0, 2], [], [4], [], [6], [6, 7], [7, 6, 8], [8, 6, 7, 9], [9, 7, 6, 8, 10], [10, 8, 6, 7, 9, 11, 4, 5], [5, 4, 11, 9, 7, 6, 8, 10, 12], [12, 10, 8, 6, 7, 9, 11, 4, 5, 13, 2, 0, 1, 3], [3, 1, 0, 2, 13, 5, 4, 11, 9, 7, 6, 8, 10, 12, 14], [14, 12, 10, 8, 6, 7, 9, 11, 4, 5, 13, 2, 0, 1, 3, 15], [15, 3, 1, 0, 2, 13, 5, 4, 11, 9, 7, 6, 8, 10, 12, 14, 16], [16, 14, 12, 10, 8, 6, 7, 9, 11, 4, 5, 13, 2, 0, 1, 3, 15, 17], [17, 15, 3, 1, 0, 2, 13, 5, 4, 11, 9, 7, 6, 8, 10, 12, 14, 16, 18]] [sD 25 (.mv (.t 1)),
 sD 26 (.nilc (.t 25)),
 sD 27 (.fa 2 (.t 26)),
 sD 28 (.ld none (.t 27)),
 sD 29 (.fa 3 (.t 5)),
 sD 30 (.ld none (.t 29)),
 sD 31 (.mv (.t 1)),
 sD 32 (.nilc (.t 31)),
 sD 33 (.fa 2 (.t 32)),
 sD 34 (.ld none (.t 33)),
 sD 35 (.len false (.t 34)),
 sD 36 (.cv none (.toInt .u64) (.t 35)),
 sD 37 (.bin .rem .num (.t 30) (.t 36)),
 sD 38 (.cv none (.toInt .i64) (.t 37)),
 sD 39 (.ia none 5 (.t 28) (.t 38)),
 sD 40 (.fa 0 (.t 39)),
 sD 41 (.ld none (.t 40)),
 sD 42 (.cv none (.toInt .u64) (.t 41)),
 sD 43 (.bin .mul .num (.t 42) (.c (.int .u64 2))),
 sD 7 (.mv (.t 43))])
 .skip))
 (.seq (.reg 0 [0, 1, 2, 3, 4, 5, 6, 7] [[], [0], [0, 1], [1, 0, 2], [], [4], [4, 5, 2, 0, 1, 3], [3, 1, 0, 2, 5, 4, 6]] [sD 44 (.mv (.t 1)),
 sD 45 (.nilc (.t 44)),
 sD 46 (.fa 2 (.t 45)),
 sD 47 (.ld none (.t 46)),
 sD 48 (.fa 1 (.t 5)),
 sD 49 (.ld none (.t 48)),
 sD 50 (.call 61 [(.t 47), (.t 49)]),
 sD 8 (.mv (.t 50))])
 (.seq (.seq (.reg 0 [] [] [sD 51 (.fa 0 (.t 5)),
 sD 52 (.ld none (.t 51))])
 (.block 0 (.seq (.reg 0 [] [] [sD 54 (.bin .eql .num (.t 52) (.c (.int .i64 1))),
 sD 53 (.mv (.t 54))])
 (.cond (.t 53) (.seq (.reg 0 [] [] [sD 56 (.mv (.t 0)),
 sD 57 (.fa 1 (.t 5)),
 sD 58 (.ld none (.t 57)),
 sD 59 (.fa 2 (.t 5)),
 sD 60 (.ld none (.t 59)),
 sD 61 (.call 55 [(.t 56), (.t 58), (.t 60)]),
 sD 55 (.mv (.t 61)),
 sD 62 (.ext (.t 55) 0),
 sD 63 (.ext (.t 55) 1),
 sD 9 (.mv (.t 62)),
 sD 10 (.mv (.t 63))])
 (.seq (.reg 0 [] [] [sD 65 (.mv (.t 1)),
 sD 66 (.fa 1 (.t 5)),
 sD 67 (.ld none (.t 66)),
 sD 68 (.fa 2 (.t 5)),
 sD 69 (.ld none (.t 68)),
 sD 70 (.call 102 [(.t 65), (.t 67), (.t 69)]),
 sD 64 (.mv (.t 70)),
 sD 71 (.ext (.t 64) 0),
 sD 72 (.ext (.t 64) 1),
 sD 11 (.mv (.t 71)),
 sD 12 (.mv (.t 72))])
 (.seq (.reg 0 [] [] [sD 73 (.mv (.t 9)),
 sD 74 (.mv (.t 11)),
 sD 75 (.bin .eql .num (.t 73) (.t 74)),
 sD 76 (.mv (.t 75)),
 sG 77 76 true (.mv (.t 10)),
 sG 78 76 true (.mv (.t 12)),
 sG 79 76 true (.bin .eql .num (.t 77) (.t 78)),
 sD 80 (.pick (.t 76) (.t 79) (.c (.bool false))),
 sD 6 (.mv (.t 80))])
 .ret)))
 (.seq (.reg 0 [] [] [sD 82 (.bin .eql .num (.t 52) (.c (.int .i64 2))),
 sD 81 (.mv (.t 82))])
 (.cond (.t 81) (.seq (.reg 0 [0, 1, 2, 3, 4, 6, 7, 8, 9, 5, 10, 11, 12, 13] [[], [], [], [2], [], [4, 2, 3, 1, 0], [], [], [], [8], [], [0, 1, 3, 2, 4, 5, 10, 8, 9, 7, 6], [6, 7, 9, 8, 10, 11, 0, 1, 3, 2, 4, 5], [5, 4, 2, 3, 1, 0, 11, 10, 8, 9, 7, 6, 12]] [sD 83 (.mv (.t 0)),
 sD 84 (.mv (.t 8)),
 sD 85 (.fa 2 (.t 5)),
 sD 86 (.ld none (.t 85)),
 sD 87 (.mv (.t 7)),
 sD 89 (.mv (.t 1)),
 sD 90 (.mv (.t 8)),
 sD 91 (.fa 2 (.t 5)),
 sD 92 (.ld none (.t 91)),
 ⟨(some 88), none, (.call 63 [(.t 83), (.t 84), (.t 86), (.t 87)]), [⟨none, (.ld none (.t 91)), 92⟩]⟩,
 sD 93 (.mv (.t 7)),
 sD 94 (.call 103 [(.t 89), (.t 90), (.t 92), (.t 93)]),
 sD 95 (.bin .eql .num (.t 88) (.t 94)),
 sD 6 (.mv (.t 95))])
 .ret)
 (.seq (.reg 0 [] [] [sD 97 (.bin .eql .num (.t 52) (.c (.int .i64 3))),
 sD 96 (.mv (.t 97))])
 (.cond (.t 96) (.seq (.reg 0 [0, 1, 2, 3, 4, 5, 7, 8, 9, 10, 6, 11, 12, 13, 14, 15] [[], [], [], [2], [], [4], [4, 5, 2, 3, 1, 0], [], [], [], [9], [], [11], [0, 1, 3, 2, 5, 4, 6, 11, 12, 9, 10, 8, 7], [7, 8, 10, 9, 12, 11, 13, 0, 1, 3, 2, 5, 4, 6], [6, 4, 5, 2, 3, 1, 0, 13, 11, 12, 9, 10, 8, 7, 14]] [sD 98 (.mv (.t 0)),
 sD 99 (.mv (.t 8)),
 sD 100 (.fa 2 (.t 5)),
 sD 101 (.ld none (.t 100)),
 sD 102 (.mv (.t 7)),
 sD 103 (.cv none (.toInt .u8) (.t 102)),
 sD 105 (.mv (.t 1)),
 sD 106 (.mv (.t 8)),
 sD 107 (.fa 2 (.t 5)),
 sD 108 (.ld none (.t 107)),
 ⟨(some 104), none, (.call 65 [(.t 98), (.t 99), (.t 101), (.t 103)]), [⟨none, (.ld none (.t 107)), 108⟩]⟩,
 sD 109 (.mv (.t 7)),
 sD 110 (.cv none (.toInt .u8) (.t 109)),
 sD 111 (.call 104 [(.t 105), (.t 106), (.t 108), (.t 110)]),
 sD 112 (.bin .eql .num (.t 104) (.t 111)),
 sD 6 (.mv (.t 112))])
 .ret)
 .skip))))))))
 (.seq (.reg 0 [] [] [sD 6 (.mv (.c (.bool true)))])
 .ret))))))
def fn74 : IFun := ⟨113, [(.tmp 6)], an74.erase⟩
theorem ok74 : okFun Try.prog 74 fn74 = true := by kernel_rfl
theorem oka74 : okA fn74.ntmps fn74.results an74 = true := by kernel_rfl
def sh74 (C : CallA) (h0 x1 o2 : AV) (h : H) (R : AV → H → Prop) : Prop :=
 newA h (AV.cells o2) 72 (fun b => .ptr b 0) fun o5 h =>
 valA (faA 3 o5) h fun t13 h =>
 valA (ldA h none t13) h fun t14 h =>
 joinA (fun (w7' : AV) (h : H) =>
  valA (nilcA x1) h fun t45 h =>
  valA (faA 2 t45) h fun t46 h =>
  valA (ldA h none t46) h fun t47 h =>
  valA (faA 1 o5) h fun t48 h =>
  valA (ldA h none t48) h fun t49 h =>
  C 61 [t47, t49] h fun t50 h =>
  valA (faA 0 o5) h fun t51 h =>
  valA (ldA h none t51) h fun t52 h =>
  valA (binOp .eql .num t52 (.int .i64 1)) h fun t54 h =>
  condA t54
   (valA (faA 1 o5) h fun t57 h =>
   valA (ldA h none t57) h fun t58 h =>
   valA (faA 2 o5) h fun t59 h =>
   valA (ldA h none t59) h fun t60 h =>
   C 55 [h0, t58, t60] h fun t61 h =>
   valA (extA t61 0) h fun t62 h =>
   valA (extA t61 1) h fun t63 h =>
   valA (faA 1 o5) h fun t66 h =>
   valA (ldA h none t66) h fun t67 h =>
   valA (faA 2 o5) h fun t68 h =>
   valA (ldA h none t68) h fun t69 h =>
   C 102 [x1, t67, t69] h fun t70 h =>
   valA (extA t70 0) h fun t71 h =>
   valA (extA t70 1) h fun t72 h =>
   valA (binOp .eql .num t62 t71) h fun t75 h =>
   whenA t75 true (fun K => K t63 h) h fun t77 h =>
   whenA t75 true (fun K => K t72 h) h fun t78 h =>
   whenA t75 true (fun K => valA (binOp .eql .num t77 t78) h K) h fun t79 h =>
   valA (pickA t75 t79 (.bool false)) h fun t80 h =>
   R t80 h)
   (valA (binOp .eql .num t52 (.int .i64 2)) h fun t82 h =>
   condA t82
    (valA (faA 2 o5) h fun t85 h =>
    valA (ldA h none t85) h fun t86 h =>
    valA (faA 2 o5) h fun t91 h =>
    valA (ldA h none t91) h fun t92 h =>
    C 63 [h0, t50, t86, w7'] h fun t88 h =>
    againK (valA (ldA h none t91) h (fun v _ => v = t92)) <|
    C 103 [x1, t50, t92, w7'] h fun t94 h =>
    valA (binOp .eql .num t88 t94) h fun t95 h =>
    R t95 h)
    (valA (binOp .eql .num t52 (.int .i64 3)) h fun t97 h =>
    condA t97
     (valA (faA 2 o5) h fun t100 h =>
     valA (ldA h none t100) h fun t101 h =>
     valA (cvA .u8 w7') h fun t103 h =>
     valA (faA 2 o5) h fun t107 h =>
     valA (ldA h none t107) h fun t108 h =>
     C 65 [h0, t50, t101, t103] h fun t104 h =>
     againK (valA (ldA h none t107) h (fun v _ => v = t108)) <|
     valA (cvA .u8 w7') h fun t110 h =>
     C 104 [x1, t50, t108, t110] h fun t111 h =>
     valA (binOp .eql .num t104 t111) h fun t112 h =>
     R t112 h)
     (R (.bool true) h)))) fun J =>
 valA (faA 4 o5) h fun t15 h =>
 valA (ldA h none t15) h fun t16 h =>
 whenA t16 true (fun K => K x1 h) h fun t18 h =>
 whenA t16 true (fun K => valA (nilcA t18) h K) h fun t19 h =>
 whenA t16 true (fun K => valA (faA 2 t19) h K) h fun t20 h =>
 whenA t16 true (fun K => valA (ldA h none t20) h K) h fun t21 h =>
 whenA t16 true (fun K => valA (lenA false t21) h K) h fun t22 h =>
 whenA t16 true (fun K => valA (binOp .gtr .num t22 (.int .i64 0)) h K) h fun t23 h =>
 valA (pickA t16 t23 (.bool false)) h fun t24 h =>
 condA t24
  (valA (nilcA x1) h fun t26 h =>
  valA (faA 2 t26) h fun t27 h =>
  valA (ldA h none t27) h fun t28 h =>
  valA (faA 3 o5) h fun t29 h =>
  valA (ldA h none t29) h fun t30 h =>
  valA (nilcA x1) h fun t32 h =>
  valA (faA 2 t32) h fun t33 h =>
  valA (ldA h none t33) h fun t34 h =>
  valA (lenA false t34) h fun t35 h =>
  valA (cvA .u64 t35) h fun t36 h =>
  valA (binOp .rem .num t30 t36) h fun t37 h =>
  valA (cvA .i64 t37) h fun t38 h =>
  valA (iaA 5 t28 t38) h fun t39 h =>
  valA (faA 0 t39) h fun t40 h =>
  valA (ldA h none t40) h fun t41 h =>
  valA (cvA .u64 t41) h fun t42 h =>
  valA (binOp .mul .num t42 (.int .u64 2)) h fun t43 h =>
  J t43 h)
  (J t14 h)
theorem she74 (C : CallA) (h0 x1 o2 : AV) (h : H) (R : AV → H → Prop) : wpA C an74 (argE [h0, x1, o2]) h (outA [(.tmp 6)] R) = sh74 C h0 x1 o2 h R := by kernel_rfl
/-! (*bellows/bellowsref02.Heap).Top -/
def an75 : ACode :=
 (.seq (.reg 0 [] [] [sD 2 (.mv (.c (.int .i64 0)))])
 (.seq (.reg 0 [] [] [sD 3 (.mv (.c (.int .i64 0)))])
 (.seq (.seq (.reg 0 [] [] [sD 8 (.mv (.t 0)),
 sD 9 (.nilc (.t 8)),
 sD 10 (.fa 2 (.t 9)),
 sD 11 (.ld none (.t 10)),
 sD 12 (.len false (.t 11)),
 sD 13 (.mv (.c (.int .i64 0)))])
 (.block 0 (.loop [3, 13] 14345 (.seq (.reg 0 [] [] [sD 14 (.bin .lss .num (.t 13) (.t 12))])
 (.seq (.cond (.t 14) .skip
 (.exit 0))
 (.seq (.block 1 (.seq (.reg 0 [] [] [sD 15 (.ia none 5 (.t 11) (.t 13)),
 sD 16 (.ld (some 5) (.t 15)),
 sD 5 (.al none 89 [(.int .i64 0), (.int .i64 0), (.int .i64 0), .nilsl, .nilsl]),
 sN (.st 5 (.t 5) (.t 16))])
 (.seq (.reg 0 [] [] [sD 18 (.mv (.t 0)),
 sD 19 (.fa 1 (.t 5)),
 sD 20 (.ld none (.t 19)),
 sD 21 (.fa 2 (.t 5)),
 sD 22 (.ld none (.t 21)),
 sD 23 (.call 53 [(.t 18), (.t 20), (.t 22)]),
 sD 17 (.mv (.t 23)),
 sD 24 (.ext (.t 17) 0),
 sD 25 (.ext (.t 17) 1),
 sD 6 (.mv (.t 24)),
 sD 7 (.mv (.t 25))])
 (.reg 0 [] [] [sD 26 (.mv (.t 3)),
 sD 27 (.mv (.t 6)),
 sD 28 (.bin .add .num (.t 26) (.t 27)),
 sD 3 (.mv (.t 28))]))))
 (.reg 0 [] [] [sD 29 (.bin .add .num (.t 13) (.c (.int .i64 1))),
 sD 13 (.mv (.t 29))])))))))
 (.seq (.reg 0 [] [] [sD 30 (.mv (.t 3)),
 sD 2 (.mv (.t 30))])
 .ret))))
def fn75 : IFun := ⟨31, [(.tmp 2)], an75.erase⟩
theorem ok75 : okFun Try.prog 75 fn75 = true := by kernel_rfl
theorem oka75 : okA fn75.ntmps fn75.results an75 = true := by kernel_rfl
def sh75 (C : CallA) (h0 : AV) (h : H) (R : AV → H → Prop) : Prop :=
 joinA (fun (n3' : AV) (h : H) =>
  R n3' h) fun J =>
 valA (nilcA h0) h fun t9 h =>
 valA (faA 2 t9) h fun t10 h =>
 valA (ldA h none t10) h fun t11 h =>
 valA (lenA false t11) h fun t12 h =>
 loopA (fun N l h => argA l 0 fun n3 => argA l 1 fun t13 => 
  valA (binOp .lss .num t13 t12) h fun t14 h =>
  condA t14
   (valA (iaA 5 t11 t13) h fun t15 h =>
  valA (ldA h (some 5) t15) h fun t16 h =>
  newA h [(.int .i64 0), (.int .i64 0), (.int .i64 0), .nilsl, .nilsl] 89 (fun b => .ptr b 0) fun o5 h =>
  memA (stA h 5 o5 t16) .undef fun _ h =>
  valA (faA 1 o5) h fun t19 h =>
  valA (ldA h none t19) h fun t20 h =>
  valA (faA 2 o5) h fun t21 h =>
  valA (ldA h none t21) h fun t22 h =>
  C 53 [h0, t20, t22] h fun t23 h =>
  valA (extA t23 0) h fun t24 h =>
  valA (extA t23 1) h fun t25 h =>
  valA (binOp .add .num n3 t24) h fun t28 h =>
  valA (binOp .add .num t13 (.int .i64 1)) h fun t29 h =>
  N [t28, t29] h)
   (J n3 h)) [(.int .i64 0), (.int .i64 0)] h
theorem she75 (C : CallA) (h0 : AV) (h : H) (R : AV → H → Prop) : wpA C an75 (argE [h0]) h (outA [(.tmp 2)] R) = sh75 C h0 h R := by kernel_rfl
/-! bellows/word.Ptr -/
def an82 : ACode :=
 (.seq (.reg 0 [] [] [sD 2 (.mv (.c (.int .u64 0)))])
 (.seq (.reg 0 [] [] [sD 3 (.mv (.t 0)),
 sD 4 (.cv none (.toInt .u64) (.t 3)),
 sD 5 (.bin .shl .num (.t 4) (.c (.int .u64 1))),
 sD 6 (.bin .or .num (.t 5) (.c (.int .u64 0))),
 sD 2 (.mv (.t 6))])
 .ret))
def fn82 : IFun := ⟨7, [(.tmp 2)], an82.erase⟩
theorem ok82 : okFun Try.prog 82 fn82 = true := by kernel_rfl
theorem oka82 : okA fn82.ntmps fn82.results an82 = true := by kernel_rfl
def sh82 (C : CallA) (at0 : AV) (h : H) (R : AV → H → Prop) : Prop :=
 valA (cvA .u64 at0) h fun t4 h =>
 valA (binOp .shl .num t4 (.int .u64 1)) h fun t5 h =>
 valA (binOp .or .num t5 (.int .u64 0)) h fun t6 h =>
 R t6 h
theorem she82 (C : CallA) (at0 : AV) (h : H) (R : AV → H → Prop) : wpA C an82 (argE [at0]) h (outA [(.tmp 2)] R) = sh82 C at0 h R := by kernel_rfl
/-! bellows/word.Imm -/
def an83 : ACode :=
 (.seq (.reg 0 [] [] [sD 2 (.mv (.c (.int .u64 0)))])
 (.seq (.reg 0 [] [] [sD 3 (.mv (.t 0)),
 sD 4 (.cv none (.toInt .u64) (.t 3)),
 sD 5 (.bin .shl .num (.t 4) (.c (.int .u64 1))),
 sD 6 (.bin .or .num (.t 5) (.c (.int .u64 1))),
 sD 2 (.mv (.t 6))])
 .ret))
def fn83 : IFun := ⟨7, [(.tmp 2)], an83.erase⟩
theorem ok83 : okFun Try.prog 83 fn83 = true := by kernel_rfl
theorem oka83 : okA fn83.ntmps fn83.results an83 = true := by kernel_rfl
def sh83 (C : CallA) (n0 : AV) (h : H) (R : AV → H → Prop) : Prop :=
 valA (cvA .u64 n0) h fun t4 h =>
 valA (binOp .shl .num t4 (.int .u64 1)) h fun t5 h =>
 valA (binOp .or .num t5 (.int .u64 1)) h fun t6 h =>
 R t6 h
theorem she83 (C : CallA) (n0 : AV) (h : H) (R : AV → H → Prop) : wpA C an83 (argE [n0]) h (outA [(.tmp 2)] R) = sh83 C n0 h R := by kernel_rfl
/-! bellows/word.At -/
def an85 : ACode :=
 (.seq (.reg 0 [] [] [sD 2 (.mv (.c (.int .i64 0)))])
 (.seq (.reg 0 [] [] [sD 3 (.mv (.t 0)),
 sD 4 (.bin .shr .num (.t 3) (.c (.int .u64 1))),
 sD 5 (.cv none (.toInt .i64) (.t 4)),
 sD 2 (.mv (.t 5))])
 .ret))
def fn85 : IFun := ⟨6, [(.tmp 2)], an85.erase⟩
theorem ok85 : okFun Try.prog 85 fn85 = true := by kernel_rfl
theorem oka85 : okA fn85.ntmps fn85.results an85 = true := by kernel_rfl
def sh85 (C : CallA) (w0 : AV) (h : H) (R : AV → H → Prop) : Prop :=
 valA (binOp .shr .num w0 (.int .u64 1)) h fun t4 h =>
 valA (cvA .i64 t4) h fun t5 h =>
 R t5 h
theorem she85 (C : CallA) (w0 : AV) (h : H) (R : AV → H → Prop) : wpA C an85 (argE [w0]) h (outA [(.tmp 2)] R) = sh85 C w0 h R := by kernel_rfl
/-! (*bellows/heap.Heap).has -/
def an101 : ACode :=
 (.seq (.reg 0 [] [] [sD 8 (.mv (.c (.bool false)))])
 (.seq (.reg 0 [0, 1, 2, 3, 4, 5, 6, 7, 8, 9, 10, 11, 12, 13, 14, 15, 16, 17, 18, 19, 20, 21, 22, 23, 24, 25, 26, 27, 28, 29, 30, 31, 32, 33, 34, 35, 36, 37, 38, 39] [[], [], [1, 0], [0, 1, 2], [2, 1, 0, 3], [3, 0, 1, 2, 4], [4, 2, 1, 0, 3, 5], [5, 3, 0, 1, 2, 4, 6], [2, 1, 0, 3], [3, 0, 1, 2, 8], [8, 2, 1, 0, 3, 9], [9, 3, 0, 1, 2, 8, 10], [2, 1, 0, 3], [12, 10, 8, 2, 1, 0, 3, 9, 11], [11, 9, 3, 0, 1, 2, 8, 10, 12, 13], [13, 12, 10, 8, 2, 1, 0, 3, 9, 11, 14], [14, 11, 9, 8, 10, 12, 13, 15, 6, 4, 2, 1, 0, 3, 5, 7], [7, 5, 3, 0, 1, 2, 4, 6, 15, 13, 12, 10, 8, 9, 11, 14, 16], [16, 14, 11, 9, 8, 10, 12, 13, 15, 6, 4, 2, 1, 0, 3, 5, 7, 17], [17, 7, 5, 3, 0, 1, 2, 4, 6, 15, 13, 12, 10, 8, 9, 11, 14, 16, 18], [2, 1, 0, 3], [20, 18, 16, 14, 11, 9, 8, 10, 12, 13, 15, 6, 4, 2, 1, 0, 3, 5, 7, 17, 19], [19, 17, 7, 5, 4, 6, 15, 13, 12, 10, 8, 9, 11, 14, 16, 18, 20, 21, 2, 1, 0, 3], [3, 0, 1, 2, 21, 20, 18, 16, 14, 11, 9, 8, 10, 12, 13, 15, 6, 4, 5, 7, 17, 19, 22], [22, 19, 17, 7, 5, 4, 6, 15, 13, 12, 10, 8, 9, 11, 14, 16, 18, 20, 21, 2, 1, 0, 3, 23], [23, 3, 0, 1, 2, 21, 20, 18, 16, 14, 11, 9, 8, 10, 12, 13, 15, 6, 4, 5, 7, 17, 19, 22, 24], [24, 25, 22, 19, 17, 7, 5, 4, 6, 15, 13, 12, 10, 8, 9, 11, 14, 16, 18, 20, 21, 2, 1, 0, 3, 23], [23, 3, 0, 1, 2, 21, 20, 18, 16, 14, 11, 9, 8, 10, 12, 13, 15, 6, 4, 5, 7, 17, 19, 22, 25, 24, 26], [26, 24, 25, 22, 19, 17, 7, 5, 4, 6, 15, 13, 12, 10, 8, 9, 11, 14, 16, 18, 20, 21, 2, 1, 0, 3, 23, 27], [26, 24, 25, 22, 19, 17, 7, 5, 4, 6, 15, 13, 12, 10, 8, 9, 11, 14, 16, 18, 20, 21, 2, 1, 0, 3, 23, 27], [27, 23, 3, 0, 1, 2, 21, 20, 18, 16, 14, 11, 9, 8, 10, 12, 13, 15, 6, 4, 5, 7, 17, 19, 22, 25, 24, 26, 29], [29, 26, 24, 25, 22, 19, 17, 7, 5, 4, 6, 15, 13, 12, 10, 8, 9, 11, 14, 16, 18, 20, 21, 2, 1, 0, 3, 23, 27, 30], [30, 27, 23, 3, 0, 1, 2, 21, 20, 18, 16, 14, 11, 9, 8, 10, 12, 13, 15, 6, 4, 5, 7, 17, 19, 22, 25, 24, 26, 29, 31], [26, 24, 25, 22, 19, 17, 7, 5, 4, 6, 15, 13, 12, 10, 8, 9, 11, 14, 16, 18, 20, 21, 2, 1, 0, 3, 23, 27], [33, 31, 29, 26, 24, 25, 22, 19, 17, 7, 5, 4, 6, 15, 13, 12, 10, 8, 9, 11, 14, 16, 18, 20, 21, 2, 1, 0, 3, 23, 27, 30, 32], [32, 30, 27, 23, 3, 0, 1, 2, 21, 20, 18, 16, 14, 11, 9, 8, 10, 12, 13, 15, 6, 4, 5, 7, 17, 19, 22, 25, 24, 26, 29, 31, 33, 34], [34, 33, 31, 29, 26, 24, 25, 22, 19, 17, 7, 5, 4, 6, 15, 13, 12, 10, 8, 9, 11, 14, 16, 18, 20, 21, 2, 1, 0, 3, 23, 27, 30, 32, 35], [35, 32, 30, 29, 31, 33, 34, 36, 27, 23, 3, 0, 1, 2, 21, 20, 18, 16, 14, 11, 9, 8, 10, 12, 13, 15, 6, 4, 5, 7, 17, 19, 22, 25, 24, 26, 28], [28, 36, 34, 33, 31, 29, 30, 32, 35, 37, 26, 24, 25, 22, 19, 17, 7, 5, 4, 6, 15, 13, 12, 10, 8, 9, 11, 14, 16, 18, 20, 21, 2, 1, 0, 3, 23, 27], [27, 23, 3, 0, 1, 2, 21, 20, 18, 16, 14, 11, 9, 8, 10, 12, 13, 15, 6, 4, 5, 7, 17, 19, 22, 25, 24, 26, 37, 35, 32, 30, 29, 31, 33, 34, 36, 28, 38]] [sD 9 (.mv (.t 0)),
 sD 10 (.mv (.t 1)),
 sD 11 (.call 56 [(.t 9), (.t 10)]),
 sD 12 (.mv (.t 11)),
 sG 13 12 true (.mv (.t 0)),
 sG 14 12 true (.nilc (.t 13)),
 sG 15 12 true (.fa 2 (.t 14)),
 sG 16 12 true (.ld none (.t 15)),
 sG 17 12 true (.mv (.t 0)),
 sG 18 12 true (.nilc (.t 17)),
 sG 19 12 true (.fa 0 (.t 18)),
 sG 20 12 true (.ld none (.t 19)),
 sG 21 12 true (.mv (.t 1)),
 sG 22 12 true (.ia none 1 (.t 20) (.t 21)),
 sG 23 12 true (.ld none (.t 22)),
 ⟨(some 24), (some (12, true)), (.call 33 [(.t 23)]), [⟨(some (12, true)), (.ld none (.t 15)), 16⟩]⟩,
 sG 25 12 true (.ia none 2 (.t 16) (.t 24)),
 sG 26 12 true (.fa 0 (.t 25)),
 sG 27 12 true (.ld none (.t 26)),
 sG 28 12 true (.bin .eql .num (.t 27) (.c (.int .i64 3))),
 sG 29 12 true (.mv (.t 3)),
 sG 30 12 true (.bin .eql .bool (.t 28) (.t 29)),
 sD 31 (.pick (.t 12) (.t 30) (.c (.bool false))),
 sD 32 (.mv (.t 31)),
 sG 33 32 true (.mv (.t 2)),
 sG 34 32 true (.bin .geq .num (.t 33) (.c (.int .i64 0))),
 sD 35 (.pick (.t 32) (.t 34) (.c (.bool false))),
 sD 36 (.mv (.t 35)),
 sG 37 36 true (.mv (.t 2)),
 sG 38 36 true (.mv (.t 0)),
 sG 39 36 true (.nilc (.t 38)),
 sG 40 36 true (.fa 0 (.t 39)),
 sG 41 36 true (.ld none (.t 40)),
 sG 42 36 true (.mv (.t 1)),
 sG 43 36 true (.ia none 1 (.t 41) (.t 42)),
 sG 44 36 true (.ld none (.t 43)),
 sG 45 36 true (.call 35 [(.t 44)]),
 sG 46 36 true (.bin .lss .num (.t 37) (.t 45)),
 sD 47 (.pick (.t 36) (.t 46) (.c (.bool false))),
 sD 8 (.mv (.t 47))])
 .ret))
def fn101 : IFun := ⟨48, [(.tmp 8)], an101.erase⟩
theorem ok101 : okFun Try.prog 101 fn101 = true := by kernel_rfl
theorem oka101 : okA fn101.ntmps fn101.results an101 = true := by kernel_rfl
def sh101 (C : CallA) (h0 at1 i2 bytes3 : AV) (h : H) (R : AV → H → Prop) : Prop :=
 C 56 [h0, at1] h fun t11 h =>
 whenA t11 true (fun K => K h0 h) h fun t13 h =>
 whenA t11 true (fun K => valA (nilcA t13) h K) h fun t14 h =>
 whenA t11 true (fun K => valA (faA 2 t14) h K) h fun t15 h =>
 whenA t11 true (fun K => valA (ldA h none t15) h K) h fun t16 h =>
 whenA t11 true (fun K => K h0 h) h fun t17 h =>
 whenA t11 true (fun K => valA (nilcA t17) h K) h fun t18 h =>
 whenA t11 true (fun K => valA (faA 0 t18) h K) h fun t19 h =>
 whenA t11 true (fun K => valA (ldA h none t19) h K) h fun t20 h =>
 whenA t11 true (fun K => K at1 h) h fun t21 h =>
 whenA t11 true (fun K => valA (iaA 1 t20 t21) h K) h fun t22 h =>
 whenA t11 true (fun K => valA (ldA h none t22) h K) h fun t23 h =>
 whenA t11 true (fun K => C 33 [t23] h K) h fun t24 h =>
 againK (whenP t11 true (valA (ldA h none t15) h (fun v _ => v = t16))) <|
 whenA t11 true (fun K => valA (iaA 2 t16 t24) h K) h fun t25 h =>
 whenA t11 true (fun K => valA (faA 0 t25) h K) h fun t26 h =>
 whenA t11 true (fun K => valA (ldA h none t26) h K) h fun t27 h =>
 whenA t11 true (fun K => valA (binOp .eql .num t27 (.int .i64 3)) h K) h fun t28 h =>
 whenA t11 true (fun K => K bytes3 h) h fun t29 h =>
 whenA t11 true (fun K => valA (binOp .eql .bool t28 t29) h K) h fun t30 h =>
 valA (pickA t11 t30 (.bool false)) h fun t31 h =>
 whenA t31 true (fun K => K i2 h) h fun t33 h =>
 whenA t31 true (fun K => valA (binOp .geq .num t33 (.int .i64 0)) h K) h fun t34 h =>
 valA (pickA t31 t34 (.bool false)) h fun t35 h =>
 whenA t35 true (fun K => K i2 h) h fun t37 h =>
 whenA t35 true (fun K => K h0 h) h fun t38 h =>
 whenA t35 true (fun K => valA (nilcA t38) h K) h fun t39 h =>
 whenA t35 true (fun K => valA (faA 0 t39) h K) h fun t40 h =>
 whenA t35 true (fun K => valA (ldA h none t40) h K) h fun t41 h =>
 whenA t35 true (fun K => K at1 h) h fun t42 h =>
 whenA t35 true (fun K => valA (iaA 1 t41 t42) h K) h fun t43 h =>
 whenA t35 true (fun K => valA (ldA h none t43) h K) h fun t44 h =>
 whenA t35 true (fun K => C 35 [t44] h K) h fun t45 h =>
 whenA t35 true (fun K => valA (binOp .lss .num t37 t45) h K) h fun t46 h =>
 valA (pickA t35 t46 (.bool false)) h fun t47 h =>
 R t47 h
theorem she101 (C : CallA) (h0 at1 i2 bytes3 : AV) (h : H) (R : AV → H → Prop) : wpA C an101 (argE [h0, at1, i2, bytes3]) h (outA [(.tmp 8)] R) = sh101 C h0 at1 i2 bytes3 h R := by kernel_rfl
/-! (*bellows/bellowsref02.Heap).Alloc -/
def an102 : ACode :=
 (.seq (.reg 0 [] [] [sD 6 (.mv (.c (.int .i64 0))),
 sD 7 (.mv (.c (.int .i64 0)))])
 (.seq (.reg 0 [] [] [sD 14 (.mv (.t 0)),
 sD 15 (.mv (.t 1)),
 sD 16 (.mv (.t 2)),
 sD 17 (.call 53 [(.t 14), (.t 15), (.t 16)]),
 sD 13 (.mv (.t 17)),
 sD 18 (.ext (.t 13) 0),
 sD 19 (.ext (.t 13) 1),
 sD 8 (.mv (.t 18)),
 sD 9 (.mv (.t 19))])
 (.seq (.seq (.reg 0 [] [] [sD 20 (.mv (.t 9)),
 sD 21 (.bin .neq .num (.t 20) (.c (.int .i64 0)))])
 (.cond (.t 21) (.seq (.reg 0 [] [] [sD 22 (.mv (.t 9)),
 sD 6 (.mv (.c (.int .i64 0))),
 sD 7 (.mv (.t 22))])
 .ret)
 .skip))
 (.seq (.reg 0 [] [] [sD 23 (.mv (.t 0)),
 sD 24 (.call 75 [(.t 23)]),
 sD 10 (.mv (.t 24))])
 (.seq (.seq (.reg 0 [] [] [sD 25 (.mv (.t 8)),
 sD 26 (.mv (.t 0)),
 sD 27 (.nilc (.t 26)),
 sD 28 (.fa 0 (.t 27)),
 sD 29 (.ld none (.t 28)),
 sD 30 (.mv (.t 10)),
 sD 31 (.bin .sub .num (.t 29) (.t 30)),
 sD 32 (.bin .gtr .num (.t 25) (.t 31))])
 (.cond (.t 32) (.seq (.reg 0 [] [] [sD 6 (.mv (.c (.int .i64 0))),
 sD 7 (.mv (.c (.int .i64 3)))])
 .ret)
 .skip))
 (.seq (.reg 0 [] [] [sD 33 (.mv (.t 10)),
 sD 34 (.mv (.t 1)),
 sD 35 (.mv (.t 2)),
 sD 36 (.build [(.int .i64 0), (.int .i64 0), (.int .i64 0), .nilsl, .nilsl] [(0, 1, (.t 33)), (1, 1, (.t 34)), (2, 1, (.t 35))]),
 sD 11 (.al none 89 [(.int .i64 0), (.int .i64 0), (.int .i64 0), .nilsl, .nilsl]),
 sN (.st 5 (.t 11) (.t 36))])
 (.seq (.seq (.reg 0 [] [] [sD 12 (.mv (.c (.int .i64 0)))])
 (.block 0 (.loop [12] 7175 (.seq (.seq (.reg 0 [] [] [sD 37 (.mv (.t 12)),
 sD 38 (.mv (.t 2)),
 sD 39 (.bin .lss .num (.t 37) (.t 38))])
 (.cond (.t 39) .skip
 (.exit 0)))
 (.seq (.block 1 (.seq (.reg 0 [] [] [sD 42 (.mv (.t 0)),
 sD 43 (.nilc (.t 42)),
 sD 44 (.fa 1 (.t 43)),
 sD 45 (.ld none (.t 44)),
 sD 46 (.mv (.t 1)),
 sD 47 (.ia none 2 (.t 45) (.t 46)),
 sD 48 (.fa 0 (.t 47)),
 sD 49 (.ld none (.t 48)),
 sD 50 (.bin .eql .num (.t 49) (.c (.int .i64 3)))])
 (.cond (.t 50) (.reg 0 [] [] [sD 51 (.fa 4 (.t 11)),
 sD 52 (.ld none (.t 51)),
 sD 53 (.mksl none 5 [(.int .u8 0)] 1 [(0, 1, (.c (.int .u8 0)))]),
 sD 54 (.app 5 1 1 [(.int .u8 0)] (.t 52) (.t 53)),
 sD 55 (.fa 4 (.t 11)),
 sN (.st 1 (.t 55) (.t 54))])
 (.reg 0 [] [] [sD 56 (.fa 3 (.t 11)),
 sD 57 (.ld none (.t 56)),
 sD 58 (.mksl none 25 [(.int .u64 0)] 1 [(0, 1, (.c (.int .u64 1)))]),
 sD 59 (.app 25 1 8 [(.int .u64 0)] (.t 57) (.t 58)),
 sD 60 (.fa 3 (.t 11)),
 sN (.st 1 (.t 60) (.t 59))]))))
 (.reg 0 [] [] [sD 40 (.mv (.t 12)),
 sD 41 (.bin .add .num (.t 40) (.c (.int .i64 1))),
 sD 12 (.mv (.t 41))]))))))
 (.seq (.reg 1 [0, 1, 2, 3, 4, 5, 6, 7, 8, 9, 10] [[], [], [1], [1, 2], [2, 1, 3], [], [5], [5, 6, 3, 1, 2, 4], [7, 6, 5, 4, 3, 2, 1, 0], [0, 1, 2, 3, 4, 5, 6, 7, 8], [8, 7, 6, 5, 4, 3, 2, 1, 0, 9]] [sD 61 (.mv (.t 0)),
 sD 62 (.mv (.t 0)),
 sD 63 (.nilc (.t 62)),
 sD 64 (.fa 2 (.t 63)),
 sD 65 (.ld none (.t 64)),
 sD 66 (.ld (some 5) (.t 11)),
 sD 67 (.mksl (some 0) 89 [(.int .i64 0), (.int .i64 0), (.int .i64 0), .nilsl, .nilsl] 1 [(0, 5, (.t 66))]),
 sD 68 (.app 89 5 72 [(.int .i64 0), (.int .i64 0), (.int .i64 0), .nilsl, .nilsl] (.t 65) (.t 67)),
 sD 69 (.nilc (.t 61)),
 sD 70 (.fa 2 (.t 69)),
 sN (.st 1 (.t 70) (.t 68))])
 (.seq (.reg 0 [] [] [sD 71 (.mv (.t 10)),
 sD 6 (.mv (.t 71)),
 sD 7 (.mv (.c (.int .i64 0)))])
 .ret)))))))))
def fn102 : IFun := ⟨72, [(.tmp 6), (.tmp 7)], an102.erase⟩
theorem ok102 : okFun Try.prog 102 fn102 = true := by kernel_rfl
theorem oka102 : okA fn102.ntmps fn102.results an102 = true := by kernel_rfl
def sh102 (C : CallA) (h0 shape1 n2 : AV) (h : H) (R : AV → H → Prop) : Prop :=
 C 53 [h0, shape1, n2] h fun t17 h =>
 valA (extA t17 0) h fun t18 h =>
 valA (extA t17 1) h fun t19 h =>
 valA (binOp .neq .num t19 (.int .i64 0)) h fun t21 h =>
 condA t21
  (R (.tup [(.int .i64 0), t19]) h)
  (C 75 [h0] h fun t24 h =>
 valA (nilcA h0) h fun t27 h =>
 valA (faA 0 t27) h fun t28 h =>
 valA (ldA h none t28) h fun t29 h =>
 valA (binOp .sub .num t29 t24) h fun t31 h =>
 valA (binOp .gtr .num t18 t31) h fun t32 h =>
 condA t32
  (R (.tup [(.int .i64 0), (.int .i64 3)]) h)
  (valA (buildA (fillV [(.int .i64 0), (.int .i64 0), (.int .i64 0), .nilsl, .nilsl] [(0, 1, t24), (1, 1, shape1), (2, 1, n2)])) h fun t36 h =>
 newA h [(.int .i64 0), (.int .i64 0), (.int .i64 0), .nilsl, .nilsl] 89 (fun b => .ptr b 0) fun o11 h =>
 memA (stA h 5 o11 t36) .undef fun _ h =>
 joinA (fun (h : H) =>
  valA (nilcA h0) h fun t63 h =>
  valA (faA 2 t63) h fun t64 h =>
  valA (ldA h none t64) h fun t65 h =>
  valA (ldA h (some 5) o11) h fun t66 h =>
  mkslA h 89 1 (fillV [(.int .i64 0), (.int .i64 0), (.int .i64 0), .nilsl, .nilsl] [(0, 5, t66)]) fun t67 h =>
  appendA h 89 5 72 t65 t67 fun t68 h =>
  valA (nilcA h0) h fun t69 h =>
  valA (faA 2 t69) h fun t70 h =>
  memA (stA h 1 t70 t68) .undef fun _ h =>
  R (.tup [t24, (.int .i64 0)]) h) fun J =>
 loopA (fun N l h => argA l 0 fun i12 => 
  valA (binOp .lss .num i12 n2) h fun t39 h =>
  condA t39
   (joinA (fun (h : H) =>
   valA (binOp .add .num i12 (.int .i64 1)) h fun t41 h =>
   N [t41] h) fun J_19 =>
  valA (nilcA h0) h fun t43 h =>
  valA (faA 1 t43) h fun t44 h =>
  valA (ldA h none t44) h fun t45 h =>
  valA (iaA 2 t45 shape1) h fun t47 h =>
  valA (faA 0 t47) h fun t48 h =>
  valA (ldA h none t48) h fun t49 h =>
  valA (binOp .eql .num t49 (.int .i64 3)) h fun t50 h =>
  condA t50
   (valA (faA 4 o11) h fun t51 h =>
   valA (ldA h none t51) h fun t52 h =>
   mkslA h 5 1 (fillV [(.int .u8 0)] [(0, 1, (.int .u8 0))]) fun t53 h =>
   appendA h 5 1 1 t52 t53 fun t54 h =>
   valA (faA 4 o11) h fun t55 h =>
   memA (stA h 1 t55 t54) .undef fun _ h =>
   J_19 h)
   (valA (faA 3 o11) h fun t56 h =>
   valA (ldA h none t56) h fun t57 h =>
   mkslA h 25 1 (fillV [(.int .u64 0)] [(0, 1, (.int .u64 1))]) fun t58 h =>
   appendA h 25 1 8 t57 t58 fun t59 h =>
   valA (faA 3 o11) h fun t60 h =>
   memA (stA h 1 t60 t59) .undef fun _ h =>
   J_19 h))
   (J h)) [(.int .i64 0)] h))
theorem she102 (C : CallA) (h0 shape1 n2 : AV) (h : H) (R : AV → H → Prop) : wpA C an102 (argE [h0, shape1, n2]) h (outA [(.tmp 6), (.tmp 7)] R) = sh102 C h0 shape1 n2 h R := by kernel_rfl
/-! (*bellows/bellowsref02.Heap).Set -/
def an103 : ACode :=
 (.seq (.reg 0 [] [] [sD 8 (.mv (.c (.int .i64 0)))])
 (.seq (.reg 0 [] [] [sD 10 (.mv (.t 0)),
 sD 11 (.mv (.t 1)),
 sD 12 (.call 67 [(.t 10), (.t 11)]),
 sD 9 (.mv (.t 12))])
 (.seq (.seq (.reg 0 [] [] [sD 13 (.mv (.t 9)),
 sD 14 (.bin .lss .num (.t 13) (.c (.int .i64 0))),
 sD 15 (.mv (.t 14)),
 sG 16 15 false (.mv (.t 2)),
 sG 17 15 false (.bin .lss .num (.t 16) (.c (.int .i64 0))),
 sD 18 (.pick (.t 15) (.c (.bool true)) (.t 17)),
 sD 19 (.mv (.t 18)),
 sG 20 19 false (.mv (.t 2)),
 sG 21 19 false (.mv (.t 0)),
 sG 22 19 false (.nilc (.t 21)),
 sG 23 19 false (.fa 2 (.t 22)),
 sG 24 19 false (.ld none (.t 23)),
 sG 25 19 false (.mv (.t 9)),
 sG 26 19 false (.ia none 5 (.t 24) (.t 25)),
 sG 27 19 false (.fa 3 (.t 26)),
 sG 28 19 false (.ld none (.t 27)),
 sG 29 19 false (.len false (.t 28)),
 sG 30 19 false (.bin .geq .num (.t 20) (.t 29)),
 sD 31 (.pick (.t 19) (.c (.bool true)) (.t 30)),
 sD 32 (.mv (.t 31)),
 sG 33 32 false (.mv (.t 0)),
 sG 34 32 false (.mv (.t 3)),
 sG 35 32 false (.call 69 [(.t 33), (.t 34)]),
 sG 36 32 false (.un .not (.t 35)),
 sD 37 (.pick (.t 32) (.c (.bool true)) (.t 36))])
 (.cond (.t 37) (.seq (.reg 0 [] [] [sD 8 (.mv (.c (.int .i64 1)))])
 .ret)
 .skip))
 (.seq (.reg 0 [] [] [sD 38 (.mv (.t 0)),
 sD 39 (.nilc (.t 38)),
 sD 40 (.fa 2 (.t 39)),
 sD 41 (.ld none (.t 40)),
 sD 42 (.mv (.t 9)),
 sD 43 (.ia none 5 (.t 41) (.t 42)),
 sD 44 (.fa 3 (.t 43)),
 sD 45 (.ld none (.t 44)),
 sD 46 (.mv (.t 2)),
 sD 47 (.mv (.t 3)),
 sD 48 (.ia none 1 (.t 45) (.t 46)),
 sN (.st 1 (.t 48) (.t 47))])
 (.seq (.reg 0 [] [] [sD 8 (.mv (.c (.int .i64 0)))])
 .ret)))))
def fn103 : IFun := ⟨49, [(.tmp 8)], an103.erase⟩
theorem ok103 : okFun Try.prog 103 fn103 = true := by kernel_rfl
theorem oka103 : okA fn103.ntmps fn103.results an103 = true := by kernel_rfl
def sh103 (C : CallA) (h0 at1 i2 w3 : AV) (h : H) (R : AV → H → Prop) : Prop :=
 C 67 [h0, at1] h fun t12 h =>
 valA (binOp .lss .num t12 (.int .i64 0)) h fun t14 h =>
 whenA t14 false (fun K => K i2 h) h fun t16 h =>
 whenA t14 false (fun K => valA (binOp .lss .num t16 (.int .i64 0)) h K) h fun t17 h =>
 valA (pickA t14 (.bool true) t17) h fun t18 h =>
 whenA t18 false (fun K => K i2 h) h fun t20 h =>
 whenA t18 false (fun K => K h0 h) h fun t21 h =>
 whenA t18 false (fun K => valA (nilcA t21) h K) h fun t22 h =>
 whenA t18 false (fun K => valA (faA 2 t22) h K) h fun t23 h =>
 whenA t18 false (fun K => valA (ldA h none t23) h K) h fun t24 h =>
 whenA t18 false (fun K => K t12 h) h fun t25 h =>
 whenA t18 false (fun K => valA (iaA 5 t24 t25) h K) h fun t26 h =>
 whenA t18 false (fun K => valA (faA 3 t26) h K) h fun t27 h =>
 whenA t18 false (fun K => valA (ldA h none t27) h K) h fun t28 h =>
 whenA t18 false (fun K => valA (lenA false t28) h K) h fun t29 h =>
 whenA t18 false (fun K => valA (binOp .geq .num t20 t29) h K) h fun t30 h =>
 valA (pickA t18 (.bool true) t30) h fun t31 h =>
 whenA t31 false (fun K => K h0 h) h fun t33 h =>
 whenA t31 false (fun K => K w3 h) h fun t34 h =>
 whenA t31 false (fun K => C 69 [t33, t34] h K) h fun t35 h =>
 whenA t31 false (fun K => valA (unOp .not t35) h K) h fun t36 h =>
 valA (pickA t31 (.bool true) t36) h fun t37 h =>
 condA t37
  (R (.int .i64 1) h)
  (valA (nilcA h0) h fun t39 h =>
 valA (faA 2 t39) h fun t40 h =>
 valA (ldA h none t40) h fun t41 h =>
 valA (iaA 5 t41 t12) h fun t43 h =>
 valA (faA 3 t43) h fun t44 h =>
 valA (ldA h none t44) h fun t45 h =>
 valA (iaA 1 t45 i2) h fun t48 h =>
 memA (stA h 1 t48 w3) .undef fun _ h =>
 R (.int .i64 0) h)
theorem she103 (C : CallA) (h0 at1 i2 w3 : AV) (h : H) (R : AV → H → Prop) : wpA C an103 (argE [h0, at1, i2, w3]) h (outA [(.tmp 8)] R) = sh103 C h0 at1 i2 w3 h R := by kernel_rfl
/-! (*bellows/bellowsref02.Heap).SetByte -/
def an104 : ACode :=
 (.seq (.reg 0 [] [] [sD 8 (.mv (.c (.int .i64 0)))])
 (.seq (.reg 0 [] [] [sD 10 (.mv (.t 0)),
 sD 11 (.mv (.t 1)),
 sD 12 (.call 67 [(.t 10), (.t 11)]),
 sD 9 (.mv (.t 12))])
 (.seq (.seq (.reg 0 [] [] [sD 13 (.mv (.t 9)),
 sD 14 (.bin .lss .num (.t 13) (.c (.int .i64 0))),
 sD 15 (.mv (.t 14)),
 sG 16 15 false (.mv (.t 2)),
 sG 17 15 false (.bin .lss .num (.t 16) (.c (.int .i64 0))),
 sD 18 (.pick (.t 15) (.c (.bool true)) (.t 17)),
 sD 19 (.mv (.t 18)),
 sG 20 19 false (.mv (.t 2)),
 sG 21 19 false (.mv (.t 0)),
 sG 22 19 false (.nilc (.t 21)),
 sG 23 19 false (.fa 2 (.t 22)),
 sG 24 19 false (.ld none (.t 23)),
 sG 25 19 false (.mv (.t 9)),
 sG 26 19 false (.ia none 5 (.t 24) (.t 25)),
 sG 27 19 false (.fa 4 (.t 26)),
 sG 28 19 false (.ld none (.t 27)),
 sG 29 19 false (.len false (.t 28)),
 sG 30 19 false (.bin .geq .num (.t 20) (.t 29)),
 sD 31 (.pick (.t 19) (.c (.bool true)) (.t 30))])
 (.cond (.t 31) (.seq (.reg 0 [] [] [sD 8 (.mv (.c (.int .i64 1)))])
 .ret)
 .skip))
 (.seq (.reg 0 [] [] [sD 32 (.mv (.t 0)),
 sD 33 (.nilc (.t 32)),
 sD 34 (.fa 2 (.t 33)),
 sD 35 (.ld none (.t 34)),
 sD 36 (.mv (.t 9)),
 sD 37 (.ia none 5 (.t 35) (.t 36)),
 sD 38 (.fa 4 (.t 37)),
 sD 39 (.ld none (.t 38)),
 sD 40 (.mv (.t 2)),
 sD 41 (.mv (.t 3)),
 sD 42 (.ia none 1 (.t 39) (.t 40)),
 sN (.st 1 (.t 42) (.t 41))])
 (.seq (.reg 0 [] [] [sD 8 (.mv (.c (.int .i64 0)))])
 .ret)))))
def fn104 : IFun := ⟨43, [(.tmp 8)], an104.erase⟩
theorem ok104 : okFun Try.prog 104 fn104 = true := by kernel_rfl
theorem oka104 : okA fn104.ntmps fn104.results an104 = true := by kernel_rfl
def sh104 (C : CallA) (h0 at1 i2 c3 : AV) (h : H) (R : AV → H → Prop) : Prop :=
 C 67 [h0, at1] h fun t12 h =>
 valA (binOp .lss .num t12 (.int .i64 0)) h fun t14 h =>
 whenA t14 false (fun K => K i2 h) h fun t16 h =>
 whenA t14 false (fun K => valA (binOp .lss .num t16 (.int .i64 0)) h K) h fun t17 h =>
 valA (pickA t14 (.bool true) t17) h fun t18 h =>
 whenA t18 false (fun K => K i2 h) h fun t20 h =>
 whenA t18 false (fun K => K h0 h) h fun t21 h =>
 whenA t18 false (fun K => valA (nilcA t21) h K) h fun t22 h =>
 whenA t18 false (fun K => valA (faA 2 t22) h K) h fun t23 h =>
 whenA t18 false (fun K => valA (ldA h none t23) h K) h fun t24 h =>
 whenA t18 false (fun K => K t12 h) h fun t25 h =>
 whenA t18 false (fun K => valA (iaA 5 t24 t25) h K) h fun t26 h =>
 whenA t18 false (fun K => valA (faA 4 t26) h K) h fun t27 h =>
 whenA t18 false (fun K => valA (ldA h none t27) h K) h fun t28 h =>
 whenA t18 false (fun K => valA (lenA false t28) h K) h fun t29 h =>
 whenA t18 false (fun K => valA (binOp .geq .num t20 t29) h K) h fun t30 h =>
 valA (pickA t18 (.bool true) t30) h fun t31 h =>
 condA t31
  (R (.int .i64 1) h)
  (valA (nilcA h0) h fun t33 h =>
 valA (faA 2 t33) h fun t34 h =>
 valA (ldA h none t34) h fun t35 h =>
 valA (iaA 5 t35 t12) h fun t37 h =>
 valA (faA 4 t37) h fun t38 h =>
 valA (ldA h none t38) h fun t39 h =>
 valA (iaA 1 t39 i2) h fun t42 h =>
 memA (stA h 1 t42 c3) .undef fun _ h =>
 R (.int .i64 0) h)
theorem she104 (C : CallA) (h0 at1 i2 c3 : AV) (h : H) (R : AV → H → Prop) : wpA C an104 (argE [h0, at1, i2, c3]) h (outA [(.tmp 8)] R) = sh104 C h0 at1 i2 c3 h R := by kernel_rfl
end Go.Proofs.Ytljkkfcokpimkaa.X
