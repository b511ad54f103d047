/- The plain programs of functions, printed; that they are the model's; what must hold ahead of each. -/
import Derived.Test.YtljkkfcokpimkaaProg
import Derived.Test.YtljkkfcokpimkaaXo
set_option maxRecDepth 100000
set_option linter.unusedVariables false
namespace Go.Proofs.Ytljkkfcokpimkaa.X
open Go
/-! (*bellows/bellowsref02.Heap).Find -/
def an67 : ACode :=
 (.seq (.reg 0 [] [] [sD 4 (.mv (.c (.int .i64 0)))])
 (.seq (.seq (.reg 0 [] [] [sD 7 (.mv (.t 0)),
 sD 8 (.nilc (.t 7)),
 sD 9 (.fa 2 (.t 8)),
 sD 10 (.ld none (.t 9)),
 sD 11 (.len false (.t 10)),
 sD 12 (.mv (.c (.int .i64 0)))])
 (.block 0 (.loop [12] 7170 (.seq (.reg 0 [] [] [sD 13 (.bin .lss .num (.t 12) (.t 11))])
 (.seq (.cond (.t 13) .skip
 (.exit 0))
 (.seq (.block 1 (.seq (.reg 0 [] [] [sD 14 (.mv (.t 12)),
 sD 15 (.ia none 5 (.t 10) (.t 12)),
 sD 16 (.ld (some 5) (.t 15)),
 sD 6 (.al none 89 [(.int .i64 0), (.int .i64 0), (.int .i64 0), .nilsl, .nilsl]),
 sD 5 (.mv (.t 14)),
 sN (.st 5 (.t 6) (.t 16))])
 (.seq (.reg 0 [] [] [sD 17 (.fa 0 (.t 6)),
 sD 18 (.ld none (.t 17)),
 sD 19 (.mv (.t 1)),
 sD 20 (.bin .eql .num (.t 18) (.t 19))])
 (.cond (.t 20) (.seq (.reg 0 [] [] [sD 21 (.mv (.t 5)),
 sD 4 (.mv (.t 21))])
 .ret)
 .skip))))
 (.reg 0 [] [] [sD 22 (.bin .add .num (.t 12) (.c (.int .i64 1))),
 sD 12 (.mv (.t 22))])))))))
 (.seq (.reg 0 [] [] [sD 4 (.mv (.c (.int .i64 (-1))))])
 .ret)))
def fn67 : IFun := ⟨23, [(.tmp 4)], an67.erase⟩
theorem ok67 : okFun Try.prog 67 fn67 = true := by kernel_rfl
theorem oka67 : okA fn67.ntmps fn67.results an67 = true := by kernel_rfl
def sh67 (C : CallA) (h0 at1 : AV) (h : H) (R : AV → H → Prop) : Prop :=
 joinA (fun (h : H) =>
 R (.int .i64 (-1)) h) fun J =>
 valA (nilcA h0) h fun t8 h =>
 valA (faA 2 t8) h fun t9 h =>
 valA (ldA h none t9) h fun t10 h =>
 valA (lenA false t10) h fun t11 h =>
 loopA (fun N l h => argA l 0 fun t12 => 
 valA (binOp .lss .num t12 t11) h fun t13 h =>
 condA t13
 (valA (iaA 5 t10 t12) h fun t15 h =>
 valA (ldA h (some 5) t15) h fun t16 h =>
 boxA h [(.int .i64 0), (.int .i64 0), (.int .i64 0), .nilsl, .nilsl] 89 fun o6 h =>
 memA (stA h 5 o6 t16) .undef fun _ h =>
 valA (faA 0 o6) h fun t17 h =>
 valA (ldA h none t17) h fun t18 h =>
 valA (binOp .eql .num t18 at1) h fun t20 h =>
 condA t20
 (R t12 h)
 (valA (binOp .add .num t12 (.int .i64 1)) h fun t22 h =>
 N [t22] h))
 (J h)) [(.int .i64 0)] h
theorem she67 (C : CallA) (h0 at1 : AV) (h : H) (R : AV → H → Prop) : wpA C an67 (argE [h0, at1]) h (outA [(.tmp 4)] R) = sh67 C h0 at1 h R := by kernel_rfl
/-! (*bellows/heap.Heap).Fits -/
def an68 : ACode :=
 (.seq (.reg 0 [] [] [sD 4 (.mv (.c (.bool false)))])
 (.seq (.reg 0 [] [] [sD 5 (.mv (.t 0)),
 sD 6 (.bin .neq .ptr (.t 5) (.c .nilp)),
 sD 7 (.mv (.t 6)),
 sG 8 7 true (.mv (.t 1)),
 sG 9 7 true (.call 48 [(.t 8)]),
 sG 10 7 true (.mv (.t 9)),
 sG 11 10 false (.mv (.t 0)),
 sG 12 10 false (.mv (.t 1)),
 sG 13 10 false (.call 85 [(.t 12)]),
 sG 14 10 false (.call 56 [(.t 11), (.t 13)]),
 sG 15 7 true (.pick (.t 10) (.c (.bool true)) (.t 14)),
 sD 16 (.pick (.t 7) (.t 15) (.c (.bool false))),
 sD 4 (.mv (.t 16))])
 .ret))
def fn68 : IFun := ⟨17, [(.tmp 4)], an68.erase⟩
theorem ok68 : okFun Try.prog 68 fn68 = true := by kernel_rfl
theorem oka68 : okA fn68.ntmps fn68.results an68 = true := by kernel_rfl
def sh68 (C : CallA) (h0 w1 : AV) (h : H) (R : AV → H → Prop) : Prop :=
 valA (binOp .neq .ptr h0 .nilp) h fun t6 h =>
 whenA t6 true (fun K => K w1 h) h fun t8 h =>
 whenA t6 true (fun K => C 48 [t8] h K) h fun t9 h =>
 whenA t6 true (fun K => K t9 h) h fun t10 h =>
 whenA t10 false (fun K => K h0 h) h fun t11 h =>
 whenA t10 false (fun K => K w1 h) h fun t12 h =>
 whenA t10 false (fun K => C 85 [t12] h K) h fun t13 h =>
 whenA t10 false (fun K => C 56 [t11, t13] h K) h fun t14 h =>
 whenA t6 true (fun K => valA (pickA t10 (.bool true) t14) h K) h fun t15 h =>
 valA (pickA t6 t15 (.bool false)) h fun t16 h =>
 R t16 h
theorem she68 (C : CallA) (h0 w1 : AV) (h : H) (R : AV → H → Prop) : wpA C an68 (argE [h0, w1]) h (outA [(.tmp 4)] R) = sh68 C h0 w1 h R := by kernel_rfl
/-! (*bellows/bellowsref02.Heap).Fits -/
def an69 : ACode :=
 (.seq (.reg 0 [] [] [sD 4 (.mv (.c (.bool false)))])
 (.seq (.reg 0 [] [] [sD 5 (.mv (.t 1)),
 sD 6 (.bin .rem .num (.t 5) (.c (.int .u64 2))),
 sD 7 (.bin .eql .num (.t 6) (.c (.int .u64 1))),
 sD 8 (.mv (.t 7)),
 sG 9 8 false (.mv (.t 0)),
 sG 10 8 false (.mv (.t 1)),
 sG 11 8 false (.bin .quo .num (.t 10) (.c (.int .u64 2))),
 sG 12 8 false (.cv none (.toInt .i64) (.t 11)),
 sG 13 8 false (.call 67 [(.t 9), (.t 12)]),
 sG 14 8 false (.bin .geq .num (.t 13) (.c (.int .i64 0))),
 sD 15 (.pick (.t 8) (.c (.bool true)) (.t 14)),
 sD 4 (.mv (.t 15))])
 .ret))
def fn69 : IFun := ⟨16, [(.tmp 4)], an69.erase⟩
theorem ok69 : okFun Try.prog 69 fn69 = true := by kernel_rfl
theorem oka69 : okA fn69.ntmps fn69.results an69 = true := by kernel_rfl
def sh69 (C : CallA) (h0 w1 : AV) (h : H) (R : AV → H → Prop) : Prop :=
 valA (binOp .rem .num w1 (.int .u64 2)) h fun t6 h =>
 valA (binOp .eql .num t6 (.int .u64 1)) h fun t7 h =>
 whenA t7 false (fun K => K h0 h) h fun t9 h =>
 whenA t7 false (fun K => K w1 h) h fun t10 h =>
 whenA t7 false (fun K => valA (binOp .quo .num t10 (.int .u64 2)) h K) h fun t11 h =>
 whenA t7 false (fun K => valA (cvA .i64 t11) h K) h fun t12 h =>
 whenA t7 false (fun K => C 67 [t9, t12] h K) h fun t13 h =>
 whenA t7 false (fun K => valA (binOp .geq .num t13 (.int .i64 0)) h K) h fun t14 h =>
 valA (pickA t7 (.bool true) t14) h fun t15 h =>
 R t15 h
theorem she69 (C : CallA) (h0 w1 : AV) (h : H) (R : AV → H → Prop) : wpA C an69 (argE [h0, w1]) h (outA [(.tmp 4)] R) = sh69 C h0 w1 h R := by kernel_rfl
/-! (*bellows/heap.Heap).Text -/
def an71 : ACode :=
 (.seq (.reg 0 [] [] [sD 4 (.mv (.c (.str []))),
 sD 5 (.mv (.c (.int .i64 0)))])
 (.seq (.seq (.reg 0 [0, 1, 2, 3, 4, 5, 6, 7, 8, 9, 10, 11, 12, 13, 14, 15, 16, 17, 18, 19, 20, 21] [[], [], [1, 0], [0, 1, 2], [2, 1, 0, 3], [3, 0, 1, 2, 4], [4, 2, 1, 0, 3, 5], [5, 3, 0, 1, 2, 4, 6], [6, 4, 2, 1, 0, 3, 5, 7], [3, 0, 1, 2, 4], [4, 2, 1, 0, 3, 9], [9, 3, 0, 1, 2, 4, 10], [10, 4, 2, 1, 0, 3, 9, 11], [3, 0, 1, 2, 4], [13, 11, 9, 3, 0, 1, 2, 4, 10, 12], [12, 10, 4, 2, 1, 0, 3, 9, 11, 13, 14], [14, 13, 11, 9, 3, 0, 1, 2, 4, 10, 12, 15], [15, 12, 10, 9, 11, 13, 14, 16, 7, 5, 3, 0, 1, 2, 4, 6, 8], [8, 6, 4, 2, 1, 0, 3, 5, 7, 16, 14, 13, 11, 9, 10, 12, 15, 17], [17, 15, 12, 10, 9, 11, 13, 14, 16, 7, 5, 3, 0, 1, 2, 4, 6, 8, 18], [18, 8, 6, 4, 2, 1, 0, 3, 5, 7, 16, 14, 13, 11, 9, 10, 12, 15, 17, 19], [19, 17, 15, 12, 10, 9, 11, 13, 14, 16, 7, 5, 6, 8, 18, 20, 3, 0, 1, 2, 4]] [sD 8 (.mv (.t 0)),
 sD 9 (.mv (.t 1)),
 sD 10 (.call 56 [(.t 8), (.t 9)]),
 sD 11 (.un .not (.t 10)),
 sD 12 (.mv (.t 11)),
 sG 13 12 false (.mv (.t 0)),
 sG 14 12 false (.nilc (.t 13)),
 sG 15 12 false (.fa 2 (.t 14)),
 sG 16 12 false (.ld none (.t 15)),
 sG 17 12 false (.mv (.t 0)),
 sG 18 12 false (.nilc (.t 17)),
 sG 19 12 false (.fa 0 (.t 18)),
 sG 20 12 false (.ld none (.t 19)),
 sG 21 12 false (.mv (.t 1)),
 sG 22 12 false (.ia none 1 (.t 20) (.t 21)),
 sG 23 12 false (.ld none (.t 22)),
 ⟨(some 24), (some (12, false)), (.call 33 [(.t 23)]), [⟨(some (12, false)), (.ld none (.t 15)), 16⟩]⟩,
 sG 25 12 false (.ia none 2 (.t 16) (.t 24)),
 sG 26 12 false (.fa 0 (.t 25)),
 sG 27 12 false (.ld none (.t 26)),
 sG 28 12 false (.bin .neq .num (.t 27) (.c (.int .i64 3))),
 sD 29 (.pick (.t 12) (.c (.bool true)) (.t 28))])
 (.cond (.t 29) (.seq (.reg 0 [] [] [sD 4 (.mv (.c (.str []))),
 sD 5 (.mv (.c (.int .i64 1)))])
 .ret)
 .skip))
 (.seq (.reg 0 [] [] [sD 30 (.mv (.t 0)),
 sD 31 (.nilc (.t 30)),
 sD 32 (.fa 0 (.t 31)),
 sD 33 (.ld none (.t 32)),
 sD 34 (.mv (.t 1)),
 sD 35 (.ia none 1 (.t 33) (.t 34)),
 sD 36 (.ld none (.t 35)),
 sD 37 (.call 35 [(.t 36)]),
 sD 38 (.mks none 5 [(.int .u8 0)] 1 (.t 37) (.t 37)),
 sD 6 (.mv (.t 38))])
 (.seq (.seq (.reg 0 [] [] [sD 39 (.mv (.t 6)),
 sD 40 (.len false (.t 39)),
 sD 41 (.mv (.c (.int .i64 0)))])
 (.block 0 (.loop [41] 3298534883395 (.seq (.reg 0 [] [] [sD 42 (.bin .lss .num (.t 41) (.t 40))])
 (.seq (.cond (.t 42) .skip
 (.exit 0))
 (.seq (.block 1 (.seq (.reg 0 [] [] [sD 43 (.mv (.t 41)),
 sD 7 (.mv (.t 43))])
 (.reg 0 [] [] [sD 44 (.mv (.t 6)),
 sD 45 (.mv (.t 7)),
 sD 46 (.mv (.t 0)),
 sD 47 (.nilc (.t 46)),
 sD 48 (.fa 0 (.t 47)),
 sD 49 (.ld none (.t 48)),
 sD 50 (.mv (.t 1)),
 sD 51 (.bin .add .num (.t 50) (.c (.int .i64 1))),
 sD 52 (.mv (.t 7)),
 sD 53 (.bin .quo .num (.t 52) (.c (.int .i64 8))),
 sD 54 (.bin .add .num (.t 51) (.t 53)),
 sD 55 (.ia none 1 (.t 49) (.t 54)),
 sD 56 (.ld none (.t 55)),
 sD 57 (.mv (.t 7)),
 sD 58 (.bin .rem .num (.t 57) (.c (.int .i64 8))),
 sD 59 (.bin .mul .num (.t 58) (.c (.int .i64 8))),
 sD 60 (.bin .shr .num (.t 56) (.t 59)),
 sD 61 (.cv none (.toInt .u8) (.t 60)),
 sD 62 (.ia none 1 (.t 44) (.t 45)),
 sN (.st 1 (.t 62) (.t 61))])))
 (.reg 0 [] [] [sD 63 (.bin .add .num (.t 41) (.c (.int .i64 1))),
 sD 41 (.mv (.t 63))])))))))
 (.seq (.reg 0 [] [] [sD 64 (.mv (.t 6)),
 sD 65 (.cv none .b2s (.t 64)),
 sD 4 (.mv (.t 65)),
 sD 5 (.mv (.c (.int .i64 0)))])
 .ret)))))
def fn71 : IFun := ⟨66, [(.tmp 4), (.tmp 5)], an71.erase⟩
theorem ok71 : okFun Try.prog 71 fn71 = true := by kernel_rfl
theorem oka71 : okA fn71.ntmps fn71.results an71 = true := by kernel_rfl
def sh71 (C : CallA) (h0 at1 : AV) (h : H) (R : AV → H → Prop) : Prop :=
 C 56 [h0, at1] h fun t10 h =>
 valA (unOp .not t10) h fun t11 h =>
 whenA t11 false (fun K => K h0 h) h fun t13 h =>
 whenA t11 false (fun K => valA (nilcA t13) h K) h fun t14 h =>
 whenA t11 false (fun K => valA (faA 2 t14) h K) h fun t15 h =>
 whenA t11 false (fun K => valA (ldA h none t15) h K) h fun t16 h =>
 whenA t11 false (fun K => K h0 h) h fun t17 h =>
 whenA t11 false (fun K => valA (nilcA t17) h K) h fun t18 h =>
 whenA t11 false (fun K => valA (faA 0 t18) h K) h fun t19 h =>
 whenA t11 false (fun K => valA (ldA h none t19) h K) h fun t20 h =>
 whenA t11 false (fun K => K at1 h) h fun t21 h =>
 whenA t11 false (fun K => valA (iaA 1 t20 t21) h K) h fun t22 h =>
 whenA t11 false (fun K => valA (ldA h none t22) h K) h fun t23 h =>
 whenA t11 false (fun K => C 33 [t23] h K) h fun t24 h =>
 againK (whenP t11 false (valA (ldA h none t15) h (fun v _ => v = t16))) <|
 whenA t11 false (fun K => valA (iaA 2 t16 t24) h K) h fun t25 h =>
 whenA t11 false (fun K => valA (faA 0 t25) h K) h fun t26 h =>
 whenA t11 false (fun K => valA (ldA h none t26) h K) h fun t27 h =>
 whenA t11 false (fun K => valA (binOp .neq .num t27 (.int .i64 3)) h K) h fun t28 h =>
 valA (pickA t11 (.bool true) t28) h fun t29 h =>
 condA t29
 (R (.tup [(.str []), (.int .i64 1)]) h)
 (valA (nilcA h0) h fun t31 h =>
 valA (faA 0 t31) h fun t32 h =>
 valA (ldA h none t32) h fun t33 h =>
 valA (iaA 1 t33 at1) h fun t35 h =>
 valA (ldA h none t35) h fun t36 h =>
 C 35 [t36] h fun t37 h =>
 mksA h 5 [(.int .u8 0)] 1 t37 t37 fun t38 h =>
 joinA (fun (h : H) =>
 valA (b2sA h t38) h fun t65 h =>
 R (.tup [t65, (.int .i64 0)]) h) fun J =>
 valA (lenA false t38) h fun t40 h =>
 loopA (fun N l h => argA l 0 fun t41 => 
 valA (binOp .lss .num t41 t40) h fun t42 h =>
 condA t42
 (valA (nilcA h0) h fun t47 h =>
 valA (faA 0 t47) h fun t48 h =>
 valA (ldA h none t48) h fun t49 h =>
 valA (binOp .add .num at1 (.int .i64 1)) h fun t51 h =>
 valA (binOp .quo .num t41 (.int .i64 8)) h fun t53 h =>
 valA (binOp .add .num t51 t53) h fun t54 h =>
 valA (iaA 1 t49 t54) h fun t55 h =>
 valA (ldA h none t55) h fun t56 h =>
 valA (binOp .rem .num t41 (.int .i64 8)) h fun t58 h =>
 valA (binOp .mul .num t58 (.int .i64 8)) h fun t59 h =>
 valA (binOp .shr .num t56 t59) h fun t60 h =>
 valA (cvA .u8 t60) h fun t61 h =>
 valA (iaA 1 t38 t41) h fun t62 h =>
 memA (stA h 1 t62 t61) .undef fun _ h =>
 valA (binOp .add .num t41 (.int .i64 1)) h fun t63 h =>
 N [t63] h)
 (J h)) [(.int .i64 0)] h)
theorem she71 (C : CallA) (h0 at1 : AV) (h : H) (R : AV → H → Prop) : wpA C an71 (argE [h0, at1]) h (outA [(.tmp 4), (.tmp 5)] R) = sh71 C h0 at1 h R := by kernel_rfl
/-! (*bellows/heap.Heap).Len -/
def an72 : ACode :=
 (.seq (.reg 0 [] [] [sD 4 (.mv (.c (.int .i64 0))),
 sD 5 (.mv (.c (.int .i64 0)))])
 (.seq (.seq (.reg 0 [] [] [sD 6 (.mv (.t 0)),
 sD 7 (.mv (.t 1)),
 sD 8 (.call 56 [(.t 6), (.t 7)]),
 sD 9 (.un .not (.t 8))])
 (.cond (.t 9) (.seq (.reg 0 [] [] [sD 4 (.mv (.c (.int .i64 0))),
 sD 5 (.mv (.c (.int .i64 1)))])
 .ret)
 .skip))
 (.seq (.reg 0 [] [] [sD 10 (.mv (.t 0)),
 sD 11 (.nilc (.t 10)),
 sD 12 (.fa 0 (.t 11)),
 sD 13 (.ld none (.t 12)),
 sD 14 (.mv (.t 1)),
 sD 15 (.ia none 1 (.t 13) (.t 14)),
 sD 16 (.ld none (.t 15)),
 sD 17 (.call 35 [(.t 16)]),
 sD 4 (.mv (.t 17)),
 sD 5 (.mv (.c (.int .i64 0)))])
 .ret)))
def fn72 : IFun := ⟨18, [(.tmp 4), (.tmp 5)], an72.erase⟩
theorem ok72 : okFun Try.prog 72 fn72 = true := by kernel_rfl
theorem oka72 : okA fn72.ntmps fn72.results an72 = true := by kernel_rfl
def sh72 (C : CallA) (h0 at1 : AV) (h : H) (R : AV → H → Prop) : Prop :=
 C 56 [h0, at1] h fun t8 h =>
 valA (unOp .not t8) h fun t9 h =>
 condA t9
 (R (.tup [(.int .i64 0), (.int .i64 1)]) h)
 (valA (nilcA h0) h fun t11 h =>
 valA (faA 0 t11) h fun t12 h =>
 valA (ldA h none t12) h fun t13 h =>
 valA (iaA 1 t13 at1) h fun t15 h =>
 valA (ldA h none t15) h fun t16 h =>
 C 35 [t16] h fun t17 h =>
 R (.tup [t17, (.int .i64 0)]) h)
theorem she72 (C : CallA) (h0 at1 : AV) (h : H) (R : AV → H → Prop) : wpA C an72 (argE [h0, at1]) h (outA [(.tmp 4), (.tmp 5)] R) = sh72 C h0 at1 h R := by kernel_rfl
/-! bellows/bellowslaw02.Few -/
def an73 : ACode :=
 (.seq (.reg 0 [] [] [sD 2 (.mv (.c .nilsl))])
 (.seq (.seq (.reg 0 [] [] [sD 3 (.mv (.t 0)),
 sD 4 (.len false (.t 3)),
 sD 5 (.bin .gtr .num (.t 4) (.c (.int .i64 200)))])
 (.cond (.t 5) (.seq (.reg 0 [] [] [sD 6 (.mv (.t 0)),
 sD 7 (.sli (.row 5) (.t 6) none (some (.c (.int .i64 200))) none),
 sD 2 (.mv (.t 7))])
 .ret)
 .skip))
 (.seq (.reg 0 [] [] [sD 8 (.mv (.t 0)),
 sD 2 (.mv (.t 8))])
 .ret)))
def fn73 : IFun := ⟨9, [(.tmp 2)], an73.erase⟩
theorem ok73 : okFun Try.prog 73 fn73 = true := by kernel_rfl
theorem oka73 : okA fn73.ntmps fn73.results an73 = true := by kernel_rfl
def sh73 (C : CallA) (l0 : AV) (h : H) (R : AV → H → Prop) : Prop :=
 valA (lenA false l0) h fun t4 h =>
 valA (binOp .gtr .num t4 (.int .i64 200)) h fun t5 h =>
 condA t5
 (valA (sliceOp (.row 5) l0 none (some (.int .i64 200)) none) h fun t7 h =>
 R t7 h)
 (R l0 h)
theorem she73 (C : CallA) (l0 : AV) (h : H) (R : AV → H → Prop) : wpA C an73 (argE [l0]) h (outA [(.tmp 2)] R) = sh73 C l0 h R := by kernel_rfl
/-! bellows/bellowslaw02.Does -/
def an74 : ACode :=
 (.seq (.reg 0 [] [] [sD 5 (.bx none 72 (.t 2)),
 sD 6 (.mv (.c (.bool false)))])
 (.seq (.reg 0 [] [] [sD 13 (.fa 3 (.t 5)),
 sD 14 (.ld none (.t 13)),
 sD 7 (.mv (.t 14))])
 (.seq (.seq (.reg 0 [] [] [sD 15 (.fa 4 (.t 5)),
 sD 16 (.ld none (.t 15)),
 sD 17 (.mv (.t 16)),
 sG 18 17 true (.mv (.t 1)),
 sG 19 17 true (.nilc (.t 18)),
 sG 20 17 true (.fa 2 (.t 19)),
 sG 21 17 true (.ld none (.t 20)),
 sG 22 17 true (.len false (.t 21)),
 sG 23 17 true (.bin .gtr .num (.t 22) (.c (.int .i64 0))),
 sD 24 (.pick (.t 17) (.t 23) (.c (.bool false)))])
 (.cond (.t 24) (.reg 0 [0, 1, 2, 3, 4, 5, 6, 7, 8, 9, 10, 11, 12, 13, 14, 15, 16, 17, 18, 19] [[], [0], [0, 1], [1, 0, 2], [], [4], [], [6], [6, 7], [7, 6, 8], [8, 6, 7, 9], [9, 7, 6, 8, 10], [10, 8, 6, 7, 9, 11, 4, 5], [5, 4, 11, 9, 7, 6, 8, 10, 12], [12, 10, 8, 6, 7, 9, 11, 4, 5, 13, 2, 0, 1, 3], [3, 1, 0, 2, 13, 5, 4, 11, 9, 7, 6, 8, 10, 12, 14], [14, 12, 10, 8, 6, 7, 9, 11, 4, 5, 13, 2, 0, 1, 3, 15], [15, 3, 1, 0, 2, 13, 5, 4, 11, 9, 7, 6, 8, 10, 12, 14, 16], [16, 14, 12, 10, 8, 6, 7, 9, 11, 4, 5, 13, 2, 0, 1, 3, 15, 17], [17, 15, 3, 1, 0, 2, 13, 5, 4, 11, 9, 7, 6, 8, 10, 12, 14, 16, 18]] [sD 25 (.mv (.t 1)),
 sD 26 (.nilc (.t 25)),
 sD 27 (.fa 2 (.t 26)),
 sD 28 (.ld none (.t 27)),
 sD 29 (.fa 3 (.t 5)),
 sD 30 (.ld none (.t 29)),
 sD 31 (.mv (.t 1)),
 sD 32 (.nilc (.t 31)),
 sD 33 (.fa 2 (.t 32)),
 sD 34 (.ld none (.t 33)),
 sD 35 (.len false (.t 34)),
 sD 36 (.cv none (.toInt .u64) (.t 35)),
 sD 37 (.bin .rem .num (.t 30) (.t 36)),
 sD 38 (.cv none (.toInt .i64) (.t 37)),
 sD 39 (.ia none 5 (.t 28) (.t 38)),
 sD 40 (.fa 0 (.t 39)),
 sD 41 (.ld none (.t 40)),
 sD 42 (.cv none (.toInt .u64) (.t 41)),
 sD 43 (.bin .mul .num (.t 42) (.c (.int .u64 2))),
 sD 7 (.mv (.t 43))])
 .skip))
 (.seq (.reg 0 [0, 1, 2, 3, 4, 5, 6, 7] [[], [0], [0, 1], [1, 0, 2], [], [4], [4, 5, 2, 0, 1, 3], [3, 1, 0, 2, 5, 4, 6]] [sD 44 (.mv (.t 1)),
 sD 45 (.nilc (.t 44)),
 sD 46 (.fa 2 (.t 45)),
 sD 47 (.ld none (.t 46)),
 sD 48 (.fa 1 (.t 5)),
 sD 49 (.ld none (.t 48)),
 sD 50 (.call 61 [(.t 47), (.t 49)]),
 sD 8 (.mv (.t 50))])
 (.seq (.seq (.reg 0 [] [] [sD 51 (.fa 0 (.t 5)),
 sD 52 (.ld none (.t 51))])
 (.block 0 (.seq (.reg 0 [] [] [sD 54 (.bin .eql .num (.t 52) (.c (.int .i64 1))),
 sD 53 (.mv (.t 54))])
 (.cond (.t 53) (.seq (.reg 0 [] [] [sD 56 (.mv (.t 0)),
 sD 57 (.fa 1 (.t 5)),
 sD 58 (.ld none (.t 57)),
 sD 59 (.fa 2 (.t 5)),
 sD 60 (.ld none (.t 59)),
 sD 61 (.call 55 [(.t 56), (.t 58), (.t 60)]),
 sD 55 (.mv (.t 61)),
 sD 62 (.ext (.t 55) 0),
 sD 63 (.ext (.t 55) 1),
 sD 9 (.mv (.t 62)),
 sD 10 (.mv (.t 63))])
 (.seq (.reg 0 [] [] [sD 65 (.mv (.t 1)),
 sD 66 (.fa 1 (.t 5)),
 sD 67 (.ld none (.t 66)),
 sD 68 (.fa 2 (.t 5)),
 sD 69 (.ld none (.t 68)),
 sD 70 (.call 102 [(.t 65), (.t 67), (.t 69)]),
 sD 64 (.mv (.t 70)),
 sD 71 (.ext (.t 64) 0),
 sD 72 (.ext (.t 64) 1),
 sD 11 (.mv (.t 71)),
 sD 12 (.mv (.t 72))])
 (.seq (.reg 0 [] [] [sD 73 (.mv (.t 9)),
 sD 74 (.mv (.t 11)),
 sD 75 (.bin .eql .num (.t 73) (.t 74)),
 sD 76 (.mv (.t 75)),
 sG 77 76 true (.mv (.t 10)),
 sG 78 76 true (.mv (.t 12)),
 sG 79 76 true (.bin .eql .num (.t 77) (.t 78)),
 sD 80 (.pick (.t 76) (.t 79) (.c (.bool false))),
 sD 6 (.mv (.t 80))])
 .ret)))
 (.seq (.reg 0 [] [] [sD 82 (.bin .eql .num (.t 52) (.c (.int .i64 2))),
 sD 81 (.mv (.t 82))])
 (.cond (.t 81) (.seq (.reg 0 [0, 1, 2, 3, 4, 6, 7, 8, 9, 5, 10, 11, 12, 13] [[], [], [], [2], [], [4, 2, 3, 1, 0], [], [], [], [8], [], [0, 1, 3, 2, 4, 5, 10, 8, 9, 7, 6], [6, 7, 9, 8, 10, 11, 0, 1, 3, 2, 4, 5], [5, 4, 2, 3, 1, 0, 11, 10, 8, 9, 7, 6, 12]] [sD 83 (.mv (.t 0)),
 sD 84 (.mv (.t 8)),
 sD 85 (.fa 2 (.t 5)),
 sD 86 (.ld none (.t 85)),
 sD 87 (.mv (.t 7)),
 sD 89 (.mv (.t 1)),
 sD 90 (.mv (.t 8)),
 sD 91 (.fa 2 (.t 5)),
 sD 92 (.ld none (.t 91)),
 ⟨(some 88), none, (.call 63 [(.t 83), (.t 84), (.t 86), (.t 87)]), [⟨none, (.ld none (.t 91)), 92⟩]⟩,
 sD 93 (.mv (.t 7)),
 sD 94 (.call 103 [(.t 89), (.t 90), (.t 92), (.t 93)]),
 sD 95 (.bin .eql .num (.t 88) (.t 94)),
 sD 6 (.mv (.t 95))])
 .ret)
 (.seq (.reg 0 [] [] [sD 97 (.bin .eql .num (.t 52) (.c (.int .i64 3))),
 sD 96 (.mv (.t 97))])
 (.cond (.t 96) (.seq (.reg 0 [0, 1, 2, 3, 4, 5, 7, 8, 9, 10, 6, 11, 12, 13, 14, 15] [[], [], [], [2], [], [4], [4, 5, 2, 3, 1, 0], [], [], [], [9], [], [11], [0, 1, 3, 2, 5, 4, 6, 11, 12, 9, 10, 8, 7], [7, 8, 10, 9, 12, 11, 13, 0, 1, 3, 2, 5, 4, 6], [6, 4, 5, 2, 3, 1, 0, 13, 11, 12, 9, 10, 8, 7, 14]] [sD 98 (.mv (.t 0)),
 sD 99 (.mv (.t 8)),
 sD 100 (.fa 2 (.t 5)),
 sD 101 (.ld none (.t 100)),
 sD 102 (.mv (.t 7)),
 sD 103 (.cv none (.toInt .u8) (.t 102)),
 sD 105 (.mv (.t 1)),
 sD 106 (.mv (.t 8)),
 sD 107 (.fa 2 (.t 5)),
 sD 108 (.ld none (.t 107)),
 ⟨(some 104), none, (.call 65 [(.t 98), (.t 99), (.t 101), (.t 103)]), [⟨none, (.ld none (.t 107)), 108⟩]⟩,
 sD 109 (.mv (.t 7)),
 sD 110 (.cv none (.toInt .u8) (.t 109)),
 sD 111 (.call 104 [(.t 105), (.t 106), (.t 108), (.t 110)]),
 sD 112 (.bin .eql .num (.t 104) (.t 111)),
 sD 6 (.mv (.t 112))])
 .ret)
 .skip))))))))
 (.seq (.reg 0 [] [] [sD 6 (.mv (.c (.bool true)))])
 .ret))))))
def fn74 : IFun := ⟨113, [(.tmp 6)], an74.erase⟩
theorem ok74 : okFun Try.prog 74 fn74 = true := by kernel_rfl
theorem oka74 : okA fn74.ntmps fn74.results an74 = true := by kernel_rfl
def sh74 (C : CallA) (h0 x1 o2 : AV) (h : H) (R : AV → H → Prop) : Prop :=
 boxA h (AV.cells o2) 72 fun o5 h =>
 valA (faA 3 o5) h fun t13 h =>
 valA (ldA h none t13) h fun t14 h =>
 joinA (fun (w7' : AV) (h : H) =>
 valA (nilcA x1) h fun t45 h =>
 valA (faA 2 t45) h fun t46 h =>
 valA (ldA h none t46) h fun t47 h =>
 valA (faA 1 o5) h fun t48 h =>
 valA (ldA h none t48) h fun t49 h =>
 C 61 [t47, t49] h fun t50 h =>
 valA (faA 0 o5) h fun t51 h =>
 valA (ldA h none t51) h fun t52 h =>
 valA (binOp .eql .num t52 (.int .i64 1)) h fun t54 h =>
 condA t54
 (valA (faA 1 o5) h fun t57 h =>
 valA (ldA h none t57) h fun t58 h =>
 valA (faA 2 o5) h fun t59 h =>
 valA (ldA h none t59) h fun t60 h =>
 C 55 [h0, t58, t60] h fun t61 h =>
 valA (extA t61 0) h fun t62 h =>
 valA (extA t61 1) h fun t63 h =>
 valA (faA 1 o5) h fun t66 h =>
 valA (ldA h none t66) h fun t67 h =>
 valA (faA 2 o5) h fun t68 h =>
 valA (ldA h none t68) h fun t69 h =>
 C 102 [x1, t67, t69] h fun t70 h =>
 valA (extA t70 0) h fun t71 h =>
 valA (extA t70 1) h fun t72 h =>
 valA (binOp .eql .num t62 t71) h fun t75 h =>
 whenA t75 true (fun K => K t63 h) h fun t77 h =>
 whenA t75 true (fun K => K t72 h) h fun t78 h =>
 whenA t75 true (fun K => valA (binOp .eql .num t77 t78) h K) h fun t79 h =>
 valA (pickA t75 t79 (.bool false)) h fun t80 h =>
 R t80 h)
 (valA (binOp .eql .num t52 (.int .i64 2)) h fun t82 h =>
 condA t82
 (valA (faA 2 o5) h fun t85 h =>
 valA (ldA h none t85) h fun t86 h =>
 valA (faA 2 o5) h fun t91 h =>
 valA (ldA h none t91) h fun t92 h =>
 C 63 [h0, t50, t86, w7'] h fun t88 h =>
 againK (valA (ldA h none t91) h (fun v _ => v = t92)) <|
 C 103 [x1, t50, t92, w7'] h fun t94 h =>
 valA (binOp .eql .num t88 t94) h fun t95 h =>
 R t95 h)
 (valA (binOp .eql .num t52 (.int .i64 3)) h fun t97 h =>
 condA t97
 (valA (faA 2 o5) h fun t100 h =>
 valA (ldA h none t100) h fun t101 h =>
 valA (cvA .u8 w7') h fun t103 h =>
 valA (faA 2 o5) h fun t107 h =>
 valA (ldA h none t107) h fun t108 h =>
 C 65 [h0, t50, t101, t103] h fun t104 h =>
 againK (valA (ldA h none t107) h (fun v _ => v = t108)) <|
 valA (cvA .u8 w7') h fun t110 h =>
 C 104 [x1, t50, t108, t110] h fun t111 h =>
 valA (binOp .eql .num t104 t111) h fun t112 h =>
 R t112 h)
 (R (.bool true) h)))) fun J =>
 valA (faA 4 o5) h fun t15 h =>
 valA (ldA h none t15) h fun t16 h =>
 whenA t16 true (fun K => K x1 h) h fun t18 h =>
 whenA t16 true (fun K => valA (nilcA t18) h K) h fun t19 h =>
 whenA t16 true (fun K => valA (faA 2 t19) h K) h fun t20 h =>
 whenA t16 true (fun K => valA (ldA h none t20) h K) h fun t21 h =>
 whenA t16 true (fun K => valA (lenA false t21) h K) h fun t22 h =>
 whenA t16 true (fun K => valA (binOp .gtr .num t22 (.int .i64 0)) h K) h fun t23 h =>
 valA (pickA t16 t23 (.bool false)) h fun t24 h =>
 condA t24
 (valA (nilcA x1) h fun t26 h =>
 valA (faA 2 t26) h fun t27 h =>
 valA (ldA h none t27) h fun t28 h =>
 valA (faA 3 o5) h fun t29 h =>
 valA (ldA h none t29) h fun t30 h =>
 valA (nilcA x1) h fun t32 h =>
 valA (faA 2 t32) h fun t33 h =>
 valA (ldA h none t33) h fun t34 h =>
 valA (lenA false t34) h fun t35 h =>
 valA (cvA .u64 t35) h fun t36 h =>
 valA (binOp .rem .num t30 t36) h fun t37 h =>
 valA (cvA .i64 t37) h fun t38 h =>
 valA (iaA 5 t28 t38) h fun t39 h =>
 valA (faA 0 t39) h fun t40 h =>
 valA (ldA h none t40) h fun t41 h =>
 valA (cvA .u64 t41) h fun t42 h =>
 valA (binOp .mul .num t42 (.int .u64 2)) h fun t43 h =>
 J t43 h)
 (J t14 h)
theorem she74 (C : CallA) (h0 x1 o2 : AV) (h : H) (R : AV → H → Prop) : wpA C an74 (argE [h0, x1, o2]) h (outA [(.tmp 6)] R) = sh74 C h0 x1 o2 h R := by kernel_rfl
/-! (*bellows/bellowsref02.Heap).Top -/
def an75 : ACode :=
 (.seq (.reg 0 [] [] [sD 2 (.mv (.c (.int .i64 0)))])
 (.seq (.reg 0 [] [] [sD 3 (.mv (.c (.int .i64 0)))])
 (.seq (.seq (.reg 0 [] [] [sD 8 (.mv (.t 0)),
 sD 9 (.nilc (.t 8)),
 sD 10 (.fa 2 (.t 9)),
 sD 11 (.ld none (.t 10)),
 sD 12 (.len false (.t 11)),
 sD 13 (.mv (.c (.int .i64 0)))])
 (.block 0 (.loop [3, 13] 14345 (.seq (.reg 0 [] [] [sD 14 (.bin .lss .num (.t 13) (.t 12))])
 (.seq (.cond (.t 14) .skip
 (.exit 0))
 (.seq (.block 1 (.seq (.reg 0 [] [] [sD 15 (.ia none 5 (.t 11) (.t 13)),
 sD 16 (.ld (some 5) (.t 15)),
 sD 5 (.al none 89 [(.int .i64 0), (.int .i64 0), (.int .i64 0), .nilsl, .nilsl]),
 sN (.st 5 (.t 5) (.t 16))])
 (.seq (.reg 0 [] [] [sD 18 (.mv (.t 0)),
 sD 19 (.fa 1 (.t 5)),
 sD 20 (.ld none (.t 19)),
 sD 21 (.fa 2 (.t 5)),
 sD 22 (.ld none (.t 21)),
 sD 23 (.call 53 [(.t 18), (.t 20), (.t 22)]),
 sD 17 (.mv (.t 23)),
 sD 24 (.ext (.t 17) 0),
 sD 25 (.ext (.t 17) 1),
 sD 6 (.mv (.t 24)),
 sD 7 (.mv (.t 25))])
 (.reg 0 [] [] [sD 26 (.mv (.t 3)),
 sD 27 (.mv (.t 6)),
 sD 28 (.bin .add .num (.t 26) (.t 27)),
 sD 3 (.mv (.t 28))]))))
 (.reg 0 [] [] [sD 29 (.bin .add .num (.t 13) (.c (.int .i64 1))),
 sD 13 (.mv (.t 29))])))))))
 (.seq (.reg 0 [] [] [sD 30 (.mv (.t 3)),
 sD 2 (.mv (.t 30))])
 .ret))))
def fn75 : IFun := ⟨31, [(.tmp 2)], an75.erase⟩
theorem ok75 : okFun Try.prog 75 fn75 = true := by kernel_rfl
theorem oka75 : okA fn75.ntmps fn75.results an75 = true := by kernel_rfl
def sh75 (C : CallA) (h0 : AV) (h : H) (R : AV → H → Prop) : Prop :=
 joinA (fun (n3' : AV) (h : H) =>
 R n3' h) fun J =>
 valA (nilcA h0) h fun t9 h =>
 valA (faA 2 t9) h fun t10 h =>
 valA (ldA h none t10) h fun t11 h =>
 valA (lenA false t11) h fun t12 h =>
 loopA (fun N l h => argA l 0 fun n3 => argA l 1 fun t13 => 
 valA (binOp .lss .num t13 t12) h fun t14 h =>
 condA t14
 (valA (iaA 5 t11 t13) h fun t15 h =>
 valA (ldA h (some 5) t15) h fun t16 h =>
 boxA h [(.int .i64 0), (.int .i64 0), (.int .i64 0), .nilsl, .nilsl] 89 fun o5 h =>
 memA (stA h 5 o5 t16) .undef fun _ h =>
 valA (faA 1 o5) h fun t19 h =>
 valA (ldA h none t19) h fun t20 h =>
 valA (faA 2 o5) h fun t21 h =>
 valA (ldA h none t21) h fun t22 h =>
 C 53 [h0, t20, t22] h fun t23 h =>
 valA (extA t23 0) h fun t24 h =>
 valA (extA t23 1) h fun t25 h =>
 valA (binOp .add .num n3 t24) h fun t28 h =>
 valA (binOp .add .num t13 (.int .i64 1)) h fun t29 h =>
 N [t28, t29] h)
 (J n3 h)) [(.int .i64 0), (.int .i64 0)] h
theorem she75 (C : CallA) (h0 : AV) (h : H) (R : AV → H → Prop) : wpA C an75 (argE [h0]) h (outA [(.tmp 2)] R) = sh75 C h0 h R := by kernel_rfl
/-! (*bellows/heap.Heap).Store -/
def an78 : ACode :=
 (.seq (.reg 0 [] [] [sD 6 (.mv (.t 1)),
 sD 7 (.bin .geq .num (.t 6) (.c (.int .i64 0))),
 sD 8 (.mv (.t 7)),
 sG 9 8 true (.mv (.t 1)),
 sG 10 8 true (.mv (.t 0)),
 sG 11 8 true (.call 58 [(.t 10)]),
 sG 12 8 true (.bin .lss .num (.t 9) (.t 11)),
 sD 13 (.pick (.t 8) (.t 12) (.c (.bool false)))])
 (.cond (.t 13) (.reg 0 [] [] [sD 14 (.mv (.t 0)),
 sD 15 (.nilc (.t 14)),
 sD 16 (.fa 0 (.t 15)),
 sD 17 (.ld none (.t 16)),
 sD 18 (.mv (.t 1)),
 sD 19 (.mv (.t 2)),
 sD 20 (.ia none 1 (.t 17) (.t 18)),
 sN (.st 1 (.t 20) (.t 19))])
 .skip))
def fn78 : IFun := ⟨21, [], an78.erase⟩
theorem ok78 : okFun Try.prog 78 fn78 = true := by kernel_rfl
theorem oka78 : okA fn78.ntmps fn78.results an78 = true := by kernel_rfl
def sh78 (C : CallA) (h0 i1 w2 : AV) (h : H) (R : AV → H → Prop) : Prop :=
 valA (binOp .geq .num i1 (.int .i64 0)) h fun t7 h =>
 whenA t7 true (fun K => K i1 h) h fun t9 h =>
 whenA t7 true (fun K => K h0 h) h fun t10 h =>
 whenA t7 true (fun K => C 58 [t10] h K) h fun t11 h =>
 whenA t7 true (fun K => valA (binOp .lss .num t9 t11) h K) h fun t12 h =>
 valA (pickA t7 t12 (.bool false)) h fun t13 h =>
 condA t13
 (valA (nilcA h0) h fun t15 h =>
 valA (faA 0 t15) h fun t16 h =>
 valA (ldA h none t16) h fun t17 h =>
 valA (iaA 1 t17 i1) h fun t20 h =>
 memA (stA h 1 t20 w2) .undef fun _ h =>
 R (.tup []) h)
 (R (.tup []) h)
theorem she78 (C : CallA) (h0 i1 w2 : AV) (h : H) (R : AV → H → Prop) : wpA C an78 (argE [h0, i1, w2]) h (outA [] R) = sh78 C h0 i1 w2 h R := by kernel_rfl
/-! (*bellows/heap.Heap).Close -/
def an80 : ACode :=
 (.seq (.reg 0 [] [] [sD 4 (.mv (.c (.int .i64 0)))])
 (.seq (.seq (.reg 0 [] [] [sD 12 (.mv (.t 0)),
 sD 13 (.bin .eql .ptr (.t 12) (.c .nilp)),
 sD 14 (.mv (.t 13)),
 sG 15 14 false (.mv (.t 1)),
 sG 16 14 false (.bin .lss .num (.t 15) (.c (.int .i64 0))),
 sD 17 (.pick (.t 14) (.c (.bool true)) (.t 16)),
 sD 18 (.mv (.t 17)),
 sG 19 18 false (.mv (.t 1)),
 sG 20 18 false (.mv (.t 0)),
 sG 21 18 false (.nilc (.t 20)),
 sG 22 18 false (.fa 0 (.t 21)),
 sG 23 18 false (.ld none (.t 22)),
 sG 24 18 false (.len false (.t 23)),
 sG 25 18 false (.bin .gtr .num (.t 19) (.t 24)),
 sD 26 (.pick (.t 18) (.c (.bool true)) (.t 25))])
 (.cond (.t 26) (.seq (.reg 0 [] [] [sD 4 (.mv (.c (.int .i64 1)))])
 .ret)
 .skip))
 (.seq (.reg 0 [] [] [sD 27 (.mv (.t 0)),
 sD 28 (.nilc (.t 27)),
 sD 29 (.fa 1 (.t 28)),
 sD 30 (.ld none (.t 29)),
 sD 31 (.len false (.t 30)),
 sD 32 (.mks none 25 [(.int .u64 0)] 8 (.t 31) (.t 31)),
 sD 5 (.mv (.t 32))])
 (.seq (.seq (.reg 0 [] [] [sD 6 (.mv (.c (.int .i64 0)))])
 (.block 0 (.loop [6] 99 (.seq (.seq (.reg 0 [] [] [sD 33 (.mv (.t 6)),
 sD 34 (.mv (.t 1)),
 sD 35 (.bin .lss .num (.t 33) (.t 34))])
 (.cond (.t 35) .skip
 (.exit 0)))
 (.block 1 (.seq (.reg 0 [] [] [sD 36 (.mv (.t 0)),
 sD 37 (.nilc (.t 36)),
 sD 38 (.fa 0 (.t 37)),
 sD 39 (.ld none (.t 38)),
 sD 40 (.mv (.t 6)),
 sD 41 (.ia none 1 (.t 39) (.t 40)),
 sD 42 (.ld none (.t 41)),
 sD 7 (.mv (.t 42))])
 (.seq (.reg 0 [] [] [sD 44 (.mv (.t 0)),
 sD 45 (.mv (.t 7)),
 sD 46 (.call 33 [(.t 45)]),
 sD 47 (.mv (.t 7)),
 sD 48 (.call 35 [(.t 47)]),
 sD 49 (.call 52 [(.t 44), (.t 46), (.t 48)]),
 sD 43 (.mv (.t 49)),
 sD 50 (.ext (.t 43) 0),
 sD 51 (.ext (.t 43) 1),
 sD 8 (.mv (.t 50)),
 sD 9 (.mv (.t 51))])
 (.seq (.seq (.reg 0 [] [] [sD 52 (.mv (.t 9)),
 sD 53 (.bin .neq .num (.t 52) (.c (.int .i64 0))),
 sD 54 (.mv (.t 53)),
 sG 55 54 false (.mv (.t 7)),
 sG 56 54 false (.mv (.t 7)),
 sG 57 54 false (.call 33 [(.t 56)]),
 sG 58 54 false (.mv (.t 7)),
 sG 59 54 false (.call 35 [(.t 58)]),
 sG 60 54 false (.call 31 [(.t 57), (.t 59)]),
 sG 61 54 false (.bin .neq .num (.t 55) (.t 60)),
 sD 62 (.pick (.t 54) (.c (.bool true)) (.t 61)),
 sD 63 (.mv (.t 62)),
 sG 64 63 false (.mv (.t 8)),
 sG 65 63 false (.mv (.t 1)),
 sG 66 63 false (.mv (.t 6)),
 sG 67 63 false (.bin .sub .num (.t 65) (.t 66)),
 sG 68 63 false (.bin .gtr .num (.t 64) (.t 67)),
 sD 69 (.pick (.t 63) (.c (.bool true)) (.t 68))])
 (.cond (.t 69) (.seq (.reg 0 [] [] [sD 4 (.mv (.c (.int .i64 1)))])
 .ret)
 .skip))
 (.seq (.reg 0 [0, 1, 2, 3, 4, 5, 6, 7, 8, 9, 10] [[], [], [1], [1, 2, 0], [0, 2, 1, 3], [], [5], [5, 6], [6, 5, 7, 3, 1, 2, 0, 4], [8, 7, 6, 5, 4, 3, 1, 2, 0], [0, 2, 1, 3, 4, 5, 6, 7, 8, 9]] [sD 70 (.mv (.t 5)),
 sD 71 (.mv (.t 6)),
 sD 72 (.bin .quo .num (.t 71) (.c (.int .i64 64))),
 sD 73 (.ia none 1 (.t 70) (.t 72)),
 sD 74 (.ld none (.t 73)),
 sD 75 (.mv (.t 6)),
 sD 76 (.bin .rem .num (.t 75) (.c (.int .i64 64))),
 sD 77 (.bin .shl .num (.c (.int .u64 1)) (.t 76)),
 sD 78 (.bin .or .num (.t 74) (.t 77)),
 sD 79 (.ia none 1 (.t 70) (.t 72)),
 sN (.st 1 (.t 79) (.t 78))])
 (.reg 0 [] [] [sD 80 (.mv (.t 6)),
 sD 81 (.mv (.t 8)),
 sD 82 (.bin .add .num (.t 80) (.t 81)),
 sD 6 (.mv (.t 82))]))))))))))
 (.seq (.reg 0 [0, 1, 2, 3, 4, 5, 6, 7, 8, 9] [[], [0], [0, 1], [1, 0, 2], [], [4], [4, 5], [5, 4, 6], [2, 0, 1, 3], [3, 1, 0, 2, 8, 6, 4, 5, 7]] [sD 83 (.mv (.t 0)),
 sD 84 (.nilc (.t 83)),
 sD 85 (.fa 1 (.t 84)),
 sD 86 (.ld none (.t 85)),
 sD 87 (.mv (.t 0)),
 sD 88 (.nilc (.t 87)),
 sD 89 (.fa 3 (.t 88)),
 sD 90 (.ld none (.t 89)),
 sD 10 (.mv (.t 86)),
 sD 11 (.mv (.t 90))])
 (.seq (.reg 0 [] [] [sD 91 (.mv (.t 0)),
 sD 92 (.mv (.t 0)),
 sD 93 (.mv (.t 5)),
 sD 94 (.mv (.t 1)),
 sD 95 (.nilc (.t 91)),
 sD 96 (.fa 1 (.t 95)),
 sN (.st 1 (.t 96) (.t 93)),
 sD 97 (.nilc (.t 92)),
 sD 98 (.fa 3 (.t 97)),
 sN (.st 1 (.t 98) (.t 94))])
 (.seq (.seq (.reg 0 [] [] [sD 99 (.mv (.t 0)),
 sD 100 (.call 106 [(.t 99)]),
 sD 101 (.un .not (.t 100))])
 (.cond (.t 101) (.seq (.reg 0 [] [] [sD 102 (.mv (.t 0)),
 sD 103 (.mv (.t 0)),
 sD 104 (.mv (.t 10)),
 sD 105 (.mv (.t 11)),
 sD 106 (.nilc (.t 102)),
 sD 107 (.fa 1 (.t 106)),
 sN (.st 1 (.t 107) (.t 104)),
 sD 108 (.nilc (.t 103)),
 sD 109 (.fa 3 (.t 108)),
 sN (.st 1 (.t 109) (.t 105))])
 (.seq (.reg 0 [] [] [sD 4 (.mv (.c (.int .i64 1)))])
 .ret))
 .skip))
 (.seq (.reg 0 [] [] [sD 110 (.mv (.t 0)),
 sD 111 (.nilc (.t 110)),
 sD 112 (.fa 0 (.t 111)),
 sD 113 (.ld none (.t 112)),
 sD 114 (.mv (.t 1)),
 sD 115 (.sli (.row 1) (.t 113) (some (.t 114)) none none),
 sN (.clear [(.int .u64 0)] (.t 115))])
 (.seq (.reg 0 [] [] [sD 4 (.mv (.c (.int .i64 0)))])
 .ret)))))))))
def fn80 : IFun := ⟨116, [(.tmp 4)], an80.erase⟩
theorem ok80 : okFun Try.prog 80 fn80 = true := by kernel_rfl
theorem oka80 : okA fn80.ntmps fn80.results an80 = true := by kernel_rfl
def sh80 (C : CallA) (h0 top1 : AV) (h : H) (R : AV → H → Prop) : Prop :=
 valA (binOp .eql .ptr h0 .nilp) h fun t13 h =>
 whenA t13 false (fun K => K top1 h) h fun t15 h =>
 whenA t13 false (fun K => valA (binOp .lss .num t15 (.int .i64 0)) h K) h fun t16 h =>
 valA (pickA t13 (.bool true) t16) h fun t17 h =>
 whenA t17 false (fun K => K top1 h) h fun t19 h =>
 whenA t17 false (fun K => K h0 h) h fun t20 h =>
 whenA t17 false (fun K => valA (nilcA t20) h K) h fun t21 h =>
 whenA t17 false (fun K => valA (faA 0 t21) h K) h fun t22 h =>
 whenA t17 false (fun K => valA (ldA h none t22) h K) h fun t23 h =>
 whenA t17 false (fun K => valA (lenA false t23) h K) h fun t24 h =>
 whenA t17 false (fun K => valA (binOp .gtr .num t19 t24) h K) h fun t25 h =>
 valA (pickA t17 (.bool true) t25) h fun t26 h =>
 condA t26
 (R (.int .i64 1) h)
 (valA (nilcA h0) h fun t28 h =>
 valA (faA 1 t28) h fun t29 h =>
 valA (ldA h none t29) h fun t30 h =>
 valA (lenA false t30) h fun t31 h =>
 mksA h 25 [(.int .u64 0)] 8 t31 t31 fun t32 h =>
 joinA (fun (h : H) =>
 valA (nilcA h0) h fun t84 h =>
 valA (faA 1 t84) h fun t85 h =>
 valA (ldA h none t85) h fun t86 h =>
 valA (nilcA h0) h fun t88 h =>
 valA (faA 3 t88) h fun t89 h =>
 valA (ldA h none t89) h fun t90 h =>
 valA (nilcA h0) h fun t95 h =>
 valA (faA 1 t95) h fun t96 h =>
 memA (stA h 1 t96 t32) .undef fun _ h =>
 valA (nilcA h0) h fun t97 h =>
 valA (faA 3 t97) h fun t98 h =>
 memA (stA h 1 t98 top1) .undef fun _ h =>
 C 106 [h0] h fun t100 h =>
 valA (unOp .not t100) h fun t101 h =>
 condA t101
 (valA (nilcA h0) h fun t106 h =>
 valA (faA 1 t106) h fun t107 h =>
 memA (stA h 1 t107 t86) .undef fun _ h =>
 valA (nilcA h0) h fun t108 h =>
 valA (faA 3 t108) h fun t109 h =>
 memA (stA h 1 t109 t90) .undef fun _ h =>
 R (.int .i64 1) h)
 (valA (nilcA h0) h fun t111 h =>
 valA (faA 0 t111) h fun t112 h =>
 valA (ldA h none t112) h fun t113 h =>
 valA (sliceOp (.row 1) t113 (some top1) none none) h fun t115 h =>
 clearA h [(.int .u64 0)] t115 fun _ h =>
 R (.int .i64 0) h)) fun J =>
 loopA (fun N l h => argA l 0 fun at6 => 
 valA (binOp .lss .num at6 top1) h fun t35 h =>
 condA t35
 (valA (nilcA h0) h fun t37 h =>
 valA (faA 0 t37) h fun t38 h =>
 valA (ldA h none t38) h fun t39 h =>
 valA (iaA 1 t39 at6) h fun t41 h =>
 valA (ldA h none t41) h fun t42 h =>
 C 33 [t42] h fun t46 h =>
 C 35 [t42] h fun t48 h =>
 C 52 [h0, t46, t48] h fun t49 h =>
 valA (extA t49 0) h fun t50 h =>
 valA (extA t49 1) h fun t51 h =>
 valA (binOp .neq .num t51 (.int .i64 0)) h fun t53 h =>
 whenA t53 false (fun K => K t42 h) h fun t55 h =>
 whenA t53 false (fun K => K t42 h) h fun t56 h =>
 whenA t53 false (fun K => C 33 [t56] h K) h fun t57 h =>
 whenA t53 false (fun K => K t42 h) h fun t58 h =>
 whenA t53 false (fun K => C 35 [t58] h K) h fun t59 h =>
 whenA t53 false (fun K => C 31 [t57, t59] h K) h fun t60 h =>
 whenA t53 false (fun K => valA (binOp .neq .num t55 t60) h K) h fun t61 h =>
 valA (pickA t53 (.bool true) t61) h fun t62 h =>
 whenA t62 false (fun K => K t50 h) h fun t64 h =>
 whenA t62 false (fun K => K top1 h) h fun t65 h =>
 whenA t62 false (fun K => K at6 h) h fun t66 h =>
 whenA t62 false (fun K => valA (binOp .sub .num t65 t66) h K) h fun t67 h =>
 whenA t62 false (fun K => valA (binOp .gtr .num t64 t67) h K) h fun t68 h =>
 valA (pickA t62 (.bool true) t68) h fun t69 h =>
 condA t69
 (R (.int .i64 1) h)
 (valA (binOp .quo .num at6 (.int .i64 64)) h fun t72 h =>
 valA (iaA 1 t32 t72) h fun t73 h =>
 valA (ldA h none t73) h fun t74 h =>
 valA (binOp .rem .num at6 (.int .i64 64)) h fun t76 h =>
 valA (binOp .shl .num (.int .u64 1) t76) h fun t77 h =>
 valA (binOp .or .num t74 t77) h fun t78 h =>
 valA (iaA 1 t32 t72) h fun t79 h =>
 memA (stA h 1 t79 t78) .undef fun _ h =>
 valA (binOp .add .num at6 t50) h fun t82 h =>
 N [t82] h))
 (J h)) [(.int .i64 0)] h)
theorem she80 (C : CallA) (h0 top1 : AV) (h : H) (R : AV → H → Prop) : wpA C an80 (argE [h0, top1]) h (outA [(.tmp 4)] R) = sh80 C h0 top1 h R := by kernel_rfl
/-! (*bellows/heap.Heap).Shape -/
def an81 : ACode :=
 (.seq (.reg 0 [] [] [sD 4 (.mv (.c (.int .i64 0))),
 sD 5 (.mv (.c (.int .i64 0)))])
 (.seq (.seq (.reg 0 [] [] [sD 6 (.mv (.t 0)),
 sD 7 (.mv (.t 1)),
 sD 8 (.call 56 [(.t 6), (.t 7)]),
 sD 9 (.un .not (.t 8))])
 (.cond (.t 9) (.seq (.reg 0 [] [] [sD 4 (.mv (.c (.int .i64 0))),
 sD 5 (.mv (.c (.int .i64 1)))])
 .ret)
 .skip))
 (.seq (.reg 0 [] [] [sD 10 (.mv (.t 0)),
 sD 11 (.nilc (.t 10)),
 sD 12 (.fa 0 (.t 11)),
 sD 13 (.ld none (.t 12)),
 sD 14 (.mv (.t 1)),
 sD 15 (.ia none 1 (.t 13) (.t 14)),
 sD 16 (.ld none (.t 15)),
 sD 17 (.call 33 [(.t 16)]),
 sD 4 (.mv (.t 17)),
 sD 5 (.mv (.c (.int .i64 0)))])
 .ret)))
def fn81 : IFun := ⟨18, [(.tmp 4), (.tmp 5)], an81.erase⟩
theorem ok81 : okFun Try.prog 81 fn81 = true := by kernel_rfl
theorem oka81 : okA fn81.ntmps fn81.results an81 = true := by kernel_rfl
def sh81 (C : CallA) (h0 at1 : AV) (h : H) (R : AV → H → Prop) : Prop :=
 C 56 [h0, at1] h fun t8 h =>
 valA (unOp .not t8) h fun t9 h =>
 condA t9
 (R (.tup [(.int .i64 0), (.int .i64 1)]) h)
 (valA (nilcA h0) h fun t11 h =>
 valA (faA 0 t11) h fun t12 h =>
 valA (ldA h none t12) h fun t13 h =>
 valA (iaA 1 t13 at1) h fun t15 h =>
 valA (ldA h none t15) h fun t16 h =>
 C 33 [t16] h fun t17 h =>
 R (.tup [t17, (.int .i64 0)]) h)
theorem she81 (C : CallA) (h0 at1 : AV) (h : H) (R : AV → H → Prop) : wpA C an81 (argE [h0, at1]) h (outA [(.tmp 4), (.tmp 5)] R) = sh81 C h0 at1 h R := by kernel_rfl
/-! bellows/word.Ptr -/
def an82 : ACode :=
 (.seq (.reg 0 [] [] [sD 2 (.mv (.c (.int .u64 0)))])
 (.seq (.reg 0 [] [] [sD 3 (.mv (.t 0)),
 sD 4 (.cv none (.toInt .u64) (.t 3)),
 sD 5 (.bin .shl .num (.t 4) (.c (.int .u64 1))),
 sD 6 (.bin .or .num (.t 5) (.c (.int .u64 0))),
 sD 2 (.mv (.t 6))])
 .ret))
def fn82 : IFun := ⟨7, [(.tmp 2)], an82.erase⟩
theorem ok82 : okFun Try.prog 82 fn82 = true := by kernel_rfl
theorem oka82 : okA fn82.ntmps fn82.results an82 = true := by kernel_rfl
def sh82 (C : CallA) (at0 : AV) (h : H) (R : AV → H → Prop) : Prop :=
 valA (cvA .u64 at0) h fun t4 h =>
 valA (binOp .shl .num t4 (.int .u64 1)) h fun t5 h =>
 valA (binOp .or .num t5 (.int .u64 0)) h fun t6 h =>
 R t6 h
theorem she82 (C : CallA) (at0 : AV) (h : H) (R : AV → H → Prop) : wpA C an82 (argE [at0]) h (outA [(.tmp 2)] R) = sh82 C at0 h R := by kernel_rfl
/-! bellows/word.Imm -/
def an83 : ACode :=
 (.seq (.reg 0 [] [] [sD 2 (.mv (.c (.int .u64 0)))])
 (.seq (.reg 0 [] [] [sD 3 (.mv (.t 0)),
 sD 4 (.cv none (.toInt .u64) (.t 3)),
 sD 5 (.bin .shl .num (.t 4) (.c (.int .u64 1))),
 sD 6 (.bin .or .num (.t 5) (.c (.int .u64 1))),
 sD 2 (.mv (.t 6))])
 .ret))
def fn83 : IFun := ⟨7, [(.tmp 2)], an83.erase⟩
theorem ok83 : okFun Try.prog 83 fn83 = true := by kernel_rfl
theorem oka83 : okA fn83.ntmps fn83.results an83 = true := by kernel_rfl
def sh83 (C : CallA) (n0 : AV) (h : H) (R : AV → H → Prop) : Prop :=
 valA (cvA .u64 n0) h fun t4 h =>
 valA (binOp .shl .num t4 (.int .u64 1)) h fun t5 h =>
 valA (binOp .or .num t5 (.int .u64 1)) h fun t6 h =>
 R t6 h
theorem she83 (C : CallA) (n0 : AV) (h : H) (R : AV → H → Prop) : wpA C an83 (argE [n0]) h (outA [(.tmp 2)] R) = sh83 C n0 h R := by kernel_rfl
/-! bellows/gc.Collect -/
def an84 : ACode :=
 (.seq (.reg 0 [] [] [sD 4 (.mv (.c .nilsl)),
 sD 5 (.mv (.c (.int .i64 0)))])
 (.seq (.reg 0 [] [] [sD 11 (.mv (.t 0)),
 sD 12 (.mv (.t 1)),
 sD 13 (.call 107 [(.t 11), (.t 12)]),
 sD 10 (.mv (.t 13)),
 sD 14 (.ext (.t 10) 0),
 sD 15 (.ext (.t 10) 1),
 sD 6 (.al none 133 [.nilp]),
 sN (.st 1 (.t 6) (.t 14)),
 sD 7 (.mv (.t 15))])
 (.seq (.seq (.reg 0 [] [] [sD 16 (.mv (.t 7)),
 sD 17 (.bin .neq .num (.t 16) (.c (.int .i64 0)))])
 (.cond (.t 17) (.seq (.reg 0 [] [] [sD 18 (.mv (.t 7)),
 sD 4 (.mv (.c .nilsl)),
 sD 5 (.mv (.t 18))])
 .ret)
 .skip))
 (.seq (.reg 0 [] [] [sD 19 (.ld none (.t 6)),
 sD 20 (.call 108 [(.t 19)])])
 (.seq (.seq (.reg 0 [] [] [sD 21 (.ld none (.t 6)),
 sD 22 (.nilc (.t 21)),
 sD 23 (.fa 1 (.t 22)),
 sD 24 (.ld none (.t 23)),
 sD 25 (.len false (.t 24)),
 sD 26 (.mv (.c (.int .i64 0)))])
 (.block 0 (.loop [26] 100663361 (.seq (.reg 0 [] [] [sD 27 (.bin .lss .num (.t 26) (.t 25))])
 (.seq (.cond (.t 27) .skip
 (.exit 0))
 (.seq (.block 1 (.seq (.reg 0 [] [] [sD 28 (.mv (.t 26)),
 sD 8 (.mv (.t 28))])
 (.reg 0 [0, 1, 2, 3, 4, 5] [[], [], [1], [], [3, 1, 2], [2, 1, 3, 4, 0]] [sD 29 (.ld none (.t 6)),
 sD 30 (.mv (.t 0)),
 ⟨(some 31), none, (.call 58 [(.t 30)]), [⟨none, (.ld none (.t 6)), 29⟩]⟩,
 sD 32 (.mv (.t 8)),
 sD 33 (.bin .add .num (.t 31) (.t 32)),
 sD 34 (.call 109 [(.t 29), (.t 33)])])))
 (.reg 0 [] [] [sD 35 (.bin .add .num (.t 26) (.c (.int .i64 1))),
 sD 26 (.mv (.t 35))])))))))
 (.seq (.reg 0 [] [] [sD 36 (.ld none (.t 6)),
 sD 37 (.mkf 111 [] [(.t 6)]),
 sD 38 (.call 110 [(.t 36), (.t 37)])])
 (.seq (.reg 0 [] [] [sD 39 (.ld none (.t 6)),
 sD 40 (.mkf 113 [] [(.t 6)]),
 sD 41 (.call 110 [(.t 39), (.t 40)]),
 sD 9 (.mv (.t 41))])
 (.seq (.reg 0 [0, 1, 2, 3, 4, 5, 6, 7, 8] [[], [0], [0, 1], [1, 0, 2], [], [], [5, 4], [4, 5, 6, 2, 0, 1, 3], [3, 1, 0, 2, 7, 4, 5, 6]] [sD 42 (.ld none (.t 6)),
 sD 43 (.nilc (.t 42)),
 sD 44 (.fa 1 (.t 43)),
 sD 45 (.ld none (.t 44)),
 sD 46 (.mv (.t 0)),
 sD 47 (.mv (.t 9)),
 ⟨(some 48), none, (.call 80 [(.t 46), (.t 47)]), [⟨none, (.ld none (.t 6)), 42⟩, ⟨none, (.ld none (.t 44)), 45⟩]⟩,
 sD 4 (.mv (.t 45)),
 sD 5 (.mv (.t 48))])
 .ret))))))))
def fn84 : IFun := ⟨49, [(.tmp 4), (.tmp 5)], an84.erase⟩
theorem ok84 : okFun Try.prog 84 fn84 = true := by kernel_rfl
theorem oka84 : okA fn84.ntmps fn84.results an84 = true := by kernel_rfl
def sh84 (C : CallA) (h0 roots1 : AV) (h : H) (R : AV → H → Prop) : Prop :=
 C 107 [h0, roots1] h fun t13 h =>
 valA (extA t13 0) h fun t14 h =>
 valA (extA t13 1) h fun t15 h =>
 boxA h [.nilp] 133 fun s6 h =>
 memA (stA h 1 s6 t14) .undef fun _ h =>
 valA (binOp .neq .num t15 (.int .i64 0)) h fun t17 h =>
 condA t17
 (R (.tup [.nilsl, t15]) h)
 (valA (ldA h none s6) h fun t19 h =>
 C 108 [t19] h fun t20 h =>
 joinA (fun (h : H) =>
 valA (ldA h none s6) h fun t36 h =>
 C 110 [t36, (.fn 111 [] [s6])] h fun t38 h =>
 valA (ldA h none s6) h fun t39 h =>
 C 110 [t39, (.fn 113 [] [s6])] h fun t41 h =>
 valA (ldA h none s6) h fun t42 h =>
 valA (nilcA t42) h fun t43 h =>
 valA (faA 1 t43) h fun t44 h =>
 valA (ldA h none t44) h fun t45 h =>
 C 80 [h0, t41] h fun t48 h =>
 againK (valA (ldA h none s6) h (fun v _ => v = t42)) <|
 againK (valA (ldA h none t44) h (fun v _ => v = t45)) <|
 R (.tup [t45, t48]) h) fun J =>
 valA (ldA h none s6) h fun t21 h =>
 valA (nilcA t21) h fun t22 h =>
 valA (faA 1 t22) h fun t23 h =>
 valA (ldA h none t23) h fun t24 h =>
 valA (lenA false t24) h fun t25 h =>
 loopA (fun N l h => argA l 0 fun t26 => 
 valA (binOp .lss .num t26 t25) h fun t27 h =>
 condA t27
 (valA (ldA h none s6) h fun t29 h =>
 C 58 [h0] h fun t31 h =>
 againK (valA (ldA h none s6) h (fun v _ => v = t29)) <|
 valA (binOp .add .num t31 t26) h fun t33 h =>
 C 109 [t29, t33] h fun t34 h =>
 valA (binOp .add .num t26 (.int .i64 1)) h fun t35 h =>
 N [t35] h)
 (J h)) [(.int .i64 0)] h)
theorem she84 (C : CallA) (h0 roots1 : AV) (h : H) (R : AV → H → Prop) : wpA C an84 (argE [h0, roots1]) h (outA [(.tmp 4), (.tmp 5)] R) = sh84 C h0 roots1 h R := by kernel_rfl
/-! bellows/word.At -/
def an85 : ACode :=
 (.seq (.reg 0 [] [] [sD 2 (.mv (.c (.int .i64 0)))])
 (.seq (.reg 0 [] [] [sD 3 (.mv (.t 0)),
 sD 4 (.bin .shr .num (.t 3) (.c (.int .u64 1))),
 sD 5 (.cv none (.toInt .i64) (.t 4)),
 sD 2 (.mv (.t 5))])
 .ret))
def fn85 : IFun := ⟨6, [(.tmp 2)], an85.erase⟩
theorem ok85 : okFun Try.prog 85 fn85 = true := by kernel_rfl
theorem oka85 : okA fn85.ntmps fn85.results an85 = true := by kernel_rfl
def sh85 (C : CallA) (w0 : AV) (h : H) (R : AV → H → Prop) : Prop :=
 valA (binOp .shr .num w0 (.int .u64 1)) h fun t4 h =>
 valA (cvA .i64 t4) h fun t5 h =>
 R t5 h
theorem she85 (C : CallA) (w0 : AV) (h : H) (R : AV → H → Prop) : wpA C an85 (argE [w0]) h (outA [(.tmp 2)] R) = sh85 C w0 h R := by kernel_rfl
/-! bellows/bellowslaw03.lives -/
def an86 : ACode :=
 (.seq (.reg 0 [] [] [sD 0 (.mv (.c (.bool false)))])
 (.seq (.reg 0 [] [] [sD 10 (.build [(.int .i64 0), (.int .i64 0)] [(0, 1, (.c (.int .i64 1))), (1, 1, (.c (.int .i64 2)))]),
 sD 11 (.mksl none 60 [(.int .i64 0), (.int .i64 0)] 1 [(0, 2, (.t 10))]),
 sD 12 (.call 49 [(.c (.int .i64 9)), (.t 11)]),
 sD 9 (.mv (.t 12)),
 sD 13 (.ext (.t 9) 0),
 sD 14 (.ext (.t 9) 1),
 sD 1 (.mv (.t 13)),
 sD 2 (.mv (.t 14))])
 (.seq (.seq (.reg 0 [] [] [sD 15 (.mv (.c (.int .i64 0)))])
 (.block 0 (.loop [15] 32770 (.seq (.reg 0 [] [] [sD 16 (.bin .lss .num (.t 15) (.c (.int .i64 3)))])
 (.seq (.cond (.t 16) .skip
 (.exit 0))
 (.seq (.block 1 (.reg 0 [] [] [sD 17 (.mv (.t 1)),
 sD 18 (.call 55 [(.t 17), (.c (.int .i64 0)), (.c (.int .i64 2))])]))
 (.reg 0 [] [] [sD 19 (.bin .add .num (.t 15) (.c (.int .i64 1))),
 sD 15 (.mv (.t 19))])))))))
 (.seq (.reg 0 [] [] [sD 20 (.mv (.t 1)),
 sD 21 (.call 82 [(.c (.int .i64 3))]),
 sD 22 (.call 63 [(.t 20), (.c (.int .i64 6)), (.c (.int .i64 0)), (.t 21)])])
 (.seq (.reg 0 [] [] [sD 23 (.mv (.t 1)),
 sD 24 (.call 82 [(.c (.int .i64 3))]),
 sD 25 (.call 63 [(.t 23), (.c (.int .i64 6)), (.c (.int .i64 1)), (.t 24)])])
 (.seq (.reg 0 [] [] [sD 27 (.mv (.t 1)),
 sD 28 (.call 82 [(.c (.int .i64 6))]),
 sD 29 (.call 83 [(.c (.int .i64 5))]),
 sD 30 (.mksl none 25 [(.int .u64 0), (.int .u64 0)] 2 [(0, 1, (.t 28)), (1, 1, (.t 29))]),
 sD 31 (.call 88 [(.t 27), (.t 30)]),
 sD 26 (.mv (.t 31)),
 sD 32 (.ext (.t 26) 0),
 sD 33 (.ext (.t 26) 1),
 sD 3 (.mv (.t 32)),
 sD 4 (.mv (.t 33))])
 (.seq (.reg 0 [] [] [sD 35 (.mv (.t 1)),
 sD 36 (.call 82 [(.c (.int .i64 6))]),
 sD 37 (.call 83 [(.c (.int .i64 5))]),
 sD 38 (.mksl none 25 [(.int .u64 0), (.int .u64 0)] 2 [(0, 1, (.t 36)), (1, 1, (.t 37))]),
 sD 39 (.call 84 [(.t 35), (.t 38)]),
 sD 34 (.mv (.t 39)),
 sD 40 (.ext (.t 34) 0),
 sD 41 (.ext (.t 34) 1),
 sD 5 (.mv (.t 40)),
 sD 6 (.mv (.t 41))])
 (.seq (.reg 0 [] [] [sD 43 (.mv (.t 1)),
 sD 44 (.call 64 [(.t 43), (.c (.int .i64 3)), (.c (.int .i64 1))]),
 sD 42 (.mv (.t 44)),
 sD 45 (.ext (.t 42) 0),
 sD 46 (.ext (.t 42) 1),
 sD 7 (.mv (.t 45)),
 sD 8 (.mv (.t 46))])
 (.seq (.reg 0 [0, 1, 2, 3, 4, 5, 6, 7, 8, 9, 10, 11, 12, 13, 14, 15, 16, 17, 18, 19, 20, 21, 22, 23, 24, 25, 26, 27, 28, 29, 30, 31, 32, 33, 34, 35, 36, 37, 38, 39, 40, 41, 42, 43] [[], [0], [0, 1], [1, 0, 2], [2, 0, 1, 3], [3, 4, 1, 0, 2], [2, 0, 1, 4, 3, 5], [5, 3, 4, 1, 0, 2, 6], [6, 2, 0, 1, 4, 3, 5, 7], [7, 8, 5, 3, 4, 1, 0, 2, 6], [6, 2, 0, 1, 4, 3, 5, 8, 7, 9], [9, 7, 8, 5, 3, 4, 1, 0, 2, 6, 10], [10, 6, 2, 0, 1, 4, 3, 5, 8, 7, 9, 11], [11, 12, 9, 7, 8, 5, 3, 4, 1, 0, 2, 6, 10], [10, 6, 2, 0, 1, 4, 3, 5, 8, 7, 9, 12, 11, 13], [13, 11, 12, 9, 7, 8, 5, 3, 4, 1, 0, 2, 6, 10, 14], [14, 10, 6, 2, 0, 1, 4, 3, 5, 8, 7, 9, 12, 11, 13, 15], [15, 13, 11, 12, 9, 7, 8, 5, 3, 4, 1, 0, 2, 6, 10, 14, 16], [16, 15, 17, 13, 11, 12, 9, 7, 8, 5, 3, 4, 1, 0, 2, 6, 10, 14], [14, 10, 6, 2, 0, 1, 4, 3, 5, 8, 7, 9, 12, 11, 13, 17, 15, 16, 18], [18, 16, 15, 17, 13, 11, 12, 9, 7, 8, 5, 3, 4, 1, 0, 2, 6, 10, 14, 19], [19, 14, 10, 6, 2, 0, 1, 4, 3, 5, 8, 7, 9, 12, 11, 13, 17, 15, 16, 18, 20], [20, 18, 16, 15, 17, 13, 11, 12, 9, 7, 8, 5, 3, 4, 1, 0, 2, 6, 10, 14, 19, 21], [18, 16, 15, 17, 13, 11, 12, 9, 7, 8, 5, 3, 4, 1, 0, 2, 6, 10, 14, 19], [23, 21, 19, 14, 10, 6, 2, 0, 1, 4, 3, 5, 8, 7, 9, 12, 11, 13, 17, 15, 16, 18, 20, 22], [22, 20, 21, 23, 24, 18, 16, 15, 17, 13, 11, 12, 9, 7, 8, 5, 3, 4, 1, 0, 2, 6, 10, 14, 19], [19, 14, 10, 6, 2, 0, 1, 4, 3, 5, 8, 7, 9, 12, 11, 13, 17, 15, 16, 18, 24, 23, 21, 20, 22, 25], [25, 22, 20, 21, 23, 24, 18, 16, 15, 17, 13, 11, 12, 9, 7, 8, 5, 3, 4, 1, 0, 2, 6, 10, 14, 19, 26], [26, 19, 14, 10, 6, 2, 0, 1, 4, 3, 5, 8, 7, 9, 12, 11, 13, 17, 15, 16, 18, 24, 23, 21, 20, 22, 25, 27], [27, 25, 22, 20, 21, 23, 24, 18, 16, 15, 17, 13, 11, 12, 9, 7, 8, 5, 3, 4, 1, 0, 2, 6, 10, 14, 19, 26, 28], [25, 22, 20, 21, 23, 24, 18, 16, 15, 17, 13, 11, 12, 9, 7, 8, 5, 3, 4, 1, 0, 2, 6, 10, 14, 19, 26], [30, 28, 26, 19, 14, 10, 6, 2, 0, 1, 4, 3, 5, 8, 7, 9, 12, 11, 13, 17, 15, 16, 18, 24, 23, 21, 20, 22, 25, 27, 29], [29, 27, 28, 30, 31, 25, 22, 20, 21, 23, 24, 18, 16, 15, 17, 13, 11, 12, 9, 7, 8, 5, 3, 4, 1, 0, 2, 6, 10, 14, 19, 26], [26, 19, 14, 10, 6, 2, 0, 1, 4, 3, 5, 8, 7, 9, 12, 11, 13, 17, 15, 16, 18, 24, 23, 21, 20, 22, 25, 31, 30, 28, 27, 29, 32], [32, 29, 27, 28, 30, 31, 25, 22, 20, 21, 23, 24, 18, 16, 15, 17, 13, 11, 12, 9, 7, 8, 5, 3, 4, 1, 0, 2, 6, 10, 14, 19, 26, 33], [32, 29, 27, 28, 30, 31, 25, 22, 20, 21, 23, 24, 18, 16, 15, 17, 13, 11, 12, 9, 7, 8, 5, 3, 4, 1, 0, 2, 6, 10, 14, 19, 26, 33], [35, 33, 26, 19, 14, 10, 6, 2, 0, 1, 4, 3, 5, 8, 7, 9, 12, 11, 13, 17, 15, 16, 18, 24, 23, 21, 20, 22, 25, 31, 30, 28, 27, 29, 32, 34], [34, 35, 36, 32, 29, 27, 28, 30, 31, 25, 22, 20, 21, 23, 24, 18, 16, 15, 17, 13, 11, 12, 9, 7, 8, 5, 3, 4, 1, 0, 2, 6, 10, 14, 19, 26, 33], [33, 26, 19, 14, 10, 6, 2, 0, 1, 4, 3, 5, 8, 7, 9, 12, 11, 13, 17, 15, 16, 18, 24, 23, 21, 20, 22, 25, 31, 30, 28, 27, 29, 32, 36, 35, 34, 37], [37, 34, 35, 36, 32, 29, 27, 28, 30, 31, 25, 22, 20, 21, 23, 24, 18, 16, 15, 17, 13, 11, 12, 9, 7, 8, 5, 3, 4, 1, 0, 2, 6, 10, 14, 19, 26, 33, 38], [38, 33, 26, 19, 14, 10, 6, 2, 0, 1, 4, 3, 5, 8, 7, 9, 12, 11, 13, 17, 15, 16, 18, 24, 23, 21, 20, 22, 25, 31, 30, 28, 27, 29, 32, 36, 35, 34, 37, 39], [39, 37, 34, 35, 36, 32, 29, 27, 28, 30, 31, 25, 22, 20, 21, 23, 24, 18, 16, 15, 17, 13, 11, 12, 9, 7, 8, 5, 3, 4, 1, 0, 2, 6, 10, 14, 19, 26, 33, 38, 40], [40, 39, 41, 37, 34, 35, 36, 32, 29, 27, 28, 30, 31, 25, 22, 20, 21, 23, 24, 18, 16, 15, 17, 13, 11, 12, 9, 7, 8, 5, 3, 4, 1, 0, 2, 6, 10, 14, 19, 26, 33, 38], [38, 33, 26, 19, 14, 10, 6, 2, 0, 1, 4, 3, 5, 8, 7, 9, 12, 11, 13, 17, 15, 16, 18, 24, 23, 21, 20, 22, 25, 31, 30, 28, 27, 29, 32, 36, 35, 34, 37, 41, 39, 40, 42]] [sD 47 (.mv (.t 4)),
 sD 48 (.bin .eql .num (.t 47) (.c (.int .i64 0))),
 sD 49 (.mv (.t 48)),
 sG 50 49 true (.mv (.t 6)),
 sG 51 49 true (.bin .eql .num (.t 50) (.c (.int .i64 0))),
 sD 52 (.pick (.t 49) (.t 51) (.c (.bool false))),
 sD 53 (.mv (.t 52)),
 sG 54 53 true (.mv (.t 8)),
 sG 55 53 true (.bin .eql .num (.t 54) (.c (.int .i64 0))),
 sD 56 (.pick (.t 53) (.t 55) (.c (.bool false))),
 sD 57 (.mv (.t 56)),
 sG 58 57 true (.mv (.t 3)),
 sG 59 57 true (.bin .eql .num (.t 58) (.c (.int .i64 6))),
 sD 60 (.pick (.t 57) (.t 59) (.c (.bool false))),
 sD 61 (.mv (.t 60)),
 sG 62 61 true (.mv (.t 5)),
 sG 63 61 true (.len false (.t 62)),
 sG 64 61 true (.bin .eql .num (.t 63) (.c (.int .i64 2))),
 sD 65 (.pick (.t 61) (.t 64) (.c (.bool false))),
 sD 66 (.mv (.t 65)),
 sG 67 66 true (.mv (.t 5)),
 sG 68 66 true (.ia none 1 (.t 67) (.c (.int .i64 0))),
 sG 69 66 true (.ld none (.t 68)),
 ⟨(some 70), (some (66, true)), (.call 82 [(.c (.int .i64 3))]), [⟨(some (66, true)), (.ld none (.t 68)), 69⟩]⟩,
 sG 71 66 true (.bin .eql .num (.t 69) (.t 70)),
 sD 72 (.pick (.t 66) (.t 71) (.c (.bool false))),
 sD 73 (.mv (.t 72)),
 sG 74 73 true (.mv (.t 5)),
 sG 75 73 true (.ia none 1 (.t 74) (.c (.int .i64 1))),
 sG 76 73 true (.ld none (.t 75)),
 ⟨(some 77), (some (73, true)), (.call 83 [(.c (.int .i64 5))]), [⟨(some (73, true)), (.ld none (.t 75)), 76⟩]⟩,
 sG 78 73 true (.bin .eql .num (.t 76) (.t 77)),
 sD 79 (.pick (.t 73) (.t 78) (.c (.bool false))),
 sD 80 (.mv (.t 79)),
 sG 81 80 true (.mv (.t 7)),
 sG 82 80 true (.call 82 [(.c (.int .i64 0))]),
 sG 83 80 true (.bin .eql .num (.t 81) (.t 82)),
 sD 84 (.pick (.t 80) (.t 83) (.c (.bool false))),
 sD 85 (.mv (.t 84)),
 sG 86 85 true (.mv (.t 1)),
 sG 87 85 true (.call 57 [(.t 86)]),
 sG 88 85 true (.bin .eql .num (.t 87) (.c (.int .i64 6))),
 sD 89 (.pick (.t 85) (.t 88) (.c (.bool false))),
 sD 0 (.mv (.t 89))])
 .ret)))))))))
def fn86 : IFun := ⟨90, [(.tmp 0)], an86.erase⟩
theorem ok86 : okFun Try.prog 86 fn86 = true := by kernel_rfl
theorem oka86 : okA fn86.ntmps fn86.results an86 = true := by kernel_rfl
def sh86 (C : CallA) (h : H) (R : AV → H → Prop) : Prop :=
 valA (buildA (fillV [(.int .i64 0), (.int .i64 0)] [(0, 1, (.int .i64 1)), (1, 1, (.int .i64 2))])) h fun t10 h =>
 mkslA h 60 1 (fillV [(.int .i64 0), (.int .i64 0)] [(0, 2, t10)]) fun t11 h =>
 C 49 [(.int .i64 9), t11] h fun t12 h =>
 valA (extA t12 0) h fun t13 h =>
 valA (extA t12 1) h fun t14 h =>
 joinA (fun (h : H) =>
 C 82 [(.int .i64 3)] h fun t21 h =>
 C 63 [t13, (.int .i64 6), (.int .i64 0), t21] h fun t22 h =>
 C 82 [(.int .i64 3)] h fun t24 h =>
 C 63 [t13, (.int .i64 6), (.int .i64 1), t24] h fun t25 h =>
 C 82 [(.int .i64 6)] h fun t28 h =>
 C 83 [(.int .i64 5)] h fun t29 h =>
 mkslA h 25 2 (fillV [(.int .u64 0), (.int .u64 0)] [(0, 1, t28), (1, 1, t29)]) fun t30 h =>
 C 88 [t13, t30] h fun t31 h =>
 valA (extA t31 0) h fun t32 h =>
 valA (extA t31 1) h fun t33 h =>
 C 82 [(.int .i64 6)] h fun t36 h =>
 C 83 [(.int .i64 5)] h fun t37 h =>
 mkslA h 25 2 (fillV [(.int .u64 0), (.int .u64 0)] [(0, 1, t36), (1, 1, t37)]) fun t38 h =>
 C 84 [t13, t38] h fun t39 h =>
 valA (extA t39 0) h fun t40 h =>
 valA (extA t39 1) h fun t41 h =>
 C 64 [t13, (.int .i64 3), (.int .i64 1)] h fun t44 h =>
 valA (extA t44 0) h fun t45 h =>
 valA (extA t44 1) h fun t46 h =>
 valA (binOp .eql .num t33 (.int .i64 0)) h fun t48 h =>
 whenA t48 true (fun K => K t41 h) h fun t50 h =>
 whenA t48 true (fun K => valA (binOp .eql .num t50 (.int .i64 0)) h K) h fun t51 h =>
 valA (pickA t48 t51 (.bool false)) h fun t52 h =>
 whenA t52 true (fun K => K t46 h) h fun t54 h =>
 whenA t52 true (fun K => valA (binOp .eql .num t54 (.int .i64 0)) h K) h fun t55 h =>
 valA (pickA t52 t55 (.bool false)) h fun t56 h =>
 whenA t56 true (fun K => K t32 h) h fun t58 h =>
 whenA t56 true (fun K => valA (binOp .eql .num t58 (.int .i64 6)) h K) h fun t59 h =>
 valA (pickA t56 t59 (.bool false)) h fun t60 h =>
 whenA t60 true (fun K => K t40 h) h fun t62 h =>
 whenA t60 true (fun K => valA (lenA false t62) h K) h fun t63 h =>
 whenA t60 true (fun K => valA (binOp .eql .num t63 (.int .i64 2)) h K) h fun t64 h =>
 valA (pickA t60 t64 (.bool false)) h fun t65 h =>
 whenA t65 true (fun K => K t40 h) h fun t67 h =>
 whenA t65 true (fun K => valA (iaA 1 t67 (.int .i64 0)) h K) h fun t68 h =>
 whenA t65 true (fun K => valA (ldA h none t68) h K) h fun t69 h =>
 whenA t65 true (fun K => C 82 [(.int .i64 3)] h K) h fun t70 h =>
 againK (whenP t65 true (valA (ldA h none t68) h (fun v _ => v = t69))) <|
 whenA t65 true (fun K => valA (binOp .eql .num t69 t70) h K) h fun t71 h =>
 valA (pickA t65 t71 (.bool false)) h fun t72 h =>
 whenA t72 true (fun K => K t40 h) h fun t74 h =>
 whenA t72 true (fun K => valA (iaA 1 t74 (.int .i64 1)) h K) h fun t75 h =>
 whenA t72 true (fun K => valA (ldA h none t75) h K) h fun t76 h =>
 whenA t72 true (fun K => C 83 [(.int .i64 5)] h K) h fun t77 h =>
 againK (whenP t72 true (valA (ldA h none t75) h (fun v _ => v = t76))) <|
 whenA t72 true (fun K => valA (binOp .eql .num t76 t77) h K) h fun t78 h =>
 valA (pickA t72 t78 (.bool false)) h fun t79 h =>
 whenA t79 true (fun K => K t45 h) h fun t81 h =>
 whenA t79 true (fun K => C 82 [(.int .i64 0)] h K) h fun t82 h =>
 whenA t79 true (fun K => valA (binOp .eql .num t81 t82) h K) h fun t83 h =>
 valA (pickA t79 t83 (.bool false)) h fun t84 h =>
 whenA t84 true (fun K => K t13 h) h fun t86 h =>
 whenA t84 true (fun K => C 57 [t86] h K) h fun t87 h =>
 whenA t84 true (fun K => valA (binOp .eql .num t87 (.int .i64 6)) h K) h fun t88 h =>
 valA (pickA t84 t88 (.bool false)) h fun t89 h =>
 R t89 h) fun J =>
 loopA (fun N l h => argA l 0 fun t15 => 
 valA (binOp .lss .num t15 (.int .i64 3)) h fun t16 h =>
 condA t16
 (C 55 [t13, (.int .i64 0), (.int .i64 2)] h fun t18 h =>
 valA (binOp .add .num t15 (.int .i64 1)) h fun t19 h =>
 N [t19] h)
 (J h)) [(.int .i64 0)] h
theorem she86 (C : CallA) (h : H) (R : AV → H → Prop) : wpA C an86 (argE []) h (outA [(.tmp 0)] R) = sh86 C h R := by kernel_rfl
/-! bellows/gc.Marks -/
def an87 : ACode :=
 (.seq (.reg 0 [] [] [sD 4 (.mv (.c .nilsl)),
 sD 5 (.mv (.c (.int .i64 0)))])
 (.seq (.reg 0 [] [] [sD 10 (.mv (.t 0)),
 sD 11 (.mv (.t 1)),
 sD 12 (.call 107 [(.t 10), (.t 11)]),
 sD 9 (.mv (.t 12)),
 sD 13 (.ext (.t 9) 0),
 sD 14 (.ext (.t 9) 1),
 sD 6 (.al none 133 [.nilp]),
 sN (.st 1 (.t 6) (.t 13)),
 sD 7 (.mv (.t 14))])
 (.seq (.seq (.reg 0 [] [] [sD 15 (.mv (.t 7)),
 sD 16 (.bin .neq .num (.t 15) (.c (.int .i64 0)))])
 (.cond (.t 16) (.seq (.reg 0 [] [] [sD 17 (.mv (.t 7)),
 sD 4 (.mv (.c .nilsl)),
 sD 5 (.mv (.t 17))])
 .ret)
 .skip))
 (.seq (.reg 0 [] [] [sD 18 (.ld none (.t 6)),
 sD 19 (.call 108 [(.t 18)])])
 (.seq (.reg 0 [] [] [sD 8 (.al none 63 [.nilsl])])
 (.seq (.reg 0 [] [] [sD 20 (.ld none (.t 6)),
 sD 21 (.mkf 117 [] [(.t 8), (.t 6)]),
 sD 22 (.call 116 [(.t 20), (.t 21)])])
 (.seq (.reg 0 [] [] [sD 23 (.ld none (.t 8)),
 sD 4 (.mv (.t 23)),
 sD 5 (.mv (.c (.int .i64 0)))])
 .ret)))))))
def fn87 : IFun := ⟨24, [(.tmp 4), (.tmp 5)], an87.erase⟩
theorem ok87 : okFun Try.prog 87 fn87 = true := by kernel_rfl
theorem oka87 : okA fn87.ntmps fn87.results an87 = true := by kernel_rfl
def sh87 (C : CallA) (h0 roots1 : AV) (h : H) (R : AV → H → Prop) : Prop :=
 C 107 [h0, roots1] h fun t12 h =>
 valA (extA t12 0) h fun t13 h =>
 valA (extA t12 1) h fun t14 h =>
 boxA h [.nilp] 133 fun s6 h =>
 memA (stA h 1 s6 t13) .undef fun _ h =>
 valA (binOp .neq .num t14 (.int .i64 0)) h fun t16 h =>
 condA t16
 (R (.tup [.nilsl, t14]) h)
 (valA (ldA h none s6) h fun t18 h =>
 C 108 [t18] h fun t19 h =>
 boxA h [.nilsl] 63 fun l8 h =>
 valA (ldA h none s6) h fun t20 h =>
 C 116 [t20, (.fn 117 [] [l8, s6])] h fun t22 h =>
 valA (ldA h none l8) h fun t23 h =>
 R (.tup [t23, (.int .i64 0)]) h)
theorem she87 (C : CallA) (h0 roots1 : AV) (h : H) (R : AV → H → Prop) : wpA C an87 (argE [h0, roots1]) h (outA [(.tmp 4), (.tmp 5)] R) = sh87 C h0 roots1 h R := by kernel_rfl
/-! bellows/gc.Live -/
def an88 : ACode :=
 (.seq (.reg 0 [] [] [sD 4 (.mv (.c (.int .i64 0))),
 sD 5 (.mv (.c (.int .i64 0)))])
 (.seq (.reg 0 [] [] [sD 18 (.mv (.t 0)),
 sD 19 (.mv (.t 1)),
 sD 20 (.call 87 [(.t 18), (.t 19)]),
 sD 17 (.mv (.t 20)),
 sD 21 (.ext (.t 17) 0),
 sD 22 (.ext (.t 17) 1),
 sD 6 (.mv (.t 21)),
 sD 7 (.mv (.t 22))])
 (.seq (.reg 0 [] [] [sD 8 (.mv (.c (.int .i64 0)))])
 (.seq (.seq (.reg 0 [] [] [sD 23 (.mv (.t 6)),
 sD 24 (.len false (.t 23)),
 sD 25 (.mv (.c (.int .i64 0)))])
 (.block 0 (.loop [8, 25] 58720641 (.seq (.reg 0 [] [] [sD 26 (.bin .lss .num (.t 25) (.t 24))])
 (.seq (.cond (.t 26) .skip
 (.exit 0))
 (.seq (.block 1 (.seq (.reg 0 [] [] [sD 27 (.ia none 1 (.t 23) (.t 25)),
 sD 28 (.ld none (.t 27)),
 sD 10 (.mv (.t 28))])
 (.seq (.reg 0 [] [] [sD 30 (.mv (.t 0)),
 sD 31 (.mv (.t 10)),
 sD 32 (.call 81 [(.t 30), (.t 31)]),
 sD 29 (.mv (.t 32)),
 sD 33 (.ext (.t 29) 0),
 sD 34 (.ext (.t 29) 1),
 sD 11 (.mv (.t 33)),
 sD 12 (.mv (.t 34))])
 (.seq (.reg 0 [] [] [sD 36 (.mv (.t 0)),
 sD 37 (.mv (.t 10)),
 sD 38 (.call 72 [(.t 36), (.t 37)]),
 sD 35 (.mv (.t 38)),
 sD 39 (.ext (.t 35) 0),
 sD 40 (.ext (.t 35) 1),
 sD 13 (.mv (.t 39)),
 sD 14 (.mv (.t 40))])
 (.seq (.reg 0 [] [] [sD 42 (.mv (.t 0)),
 sD 43 (.mv (.t 11)),
 sD 44 (.mv (.t 13)),
 sD 45 (.call 52 [(.t 42), (.t 43), (.t 44)]),
 sD 41 (.mv (.t 45)),
 sD 46 (.ext (.t 41) 0),
 sD 47 (.ext (.t 41) 1),
 sD 15 (.mv (.t 46)),
 sD 16 (.mv (.t 47))])
 (.reg 0 [] [] [sD 48 (.mv (.t 8)),
 sD 49 (.mv (.t 15)),
 sD 50 (.bin .add .num (.t 48) (.t 49)),
 sD 8 (.mv (.t 50))]))))))
 (.reg 0 [] [] [sD 51 (.bin .add .num (.t 25) (.c (.int .i64 1))),
 sD 25 (.mv (.t 51))])))))))
 (.seq (.reg 0 [] [] [sD 52 (.mv (.t 8)),
 sD 53 (.mv (.t 7)),
 sD 4 (.mv (.t 52)),
 sD 5 (.mv (.t 53))])
 .ret)))))
def fn88 : IFun := ⟨54, [(.tmp 4), (.tmp 5)], an88.erase⟩
theorem ok88 : okFun Try.prog 88 fn88 = true := by kernel_rfl
theorem oka88 : okA fn88.ntmps fn88.results an88 = true := by kernel_rfl
def sh88 (C : CallA) (h0 roots1 : AV) (h : H) (R : AV → H → Prop) : Prop :=
 C 87 [h0, roots1] h fun t20 h =>
 valA (extA t20 0) h fun t21 h =>
 valA (extA t20 1) h fun t22 h =>
 joinA (fun (n8' : AV) (h : H) =>
 R (.tup [n8', t22]) h) fun J =>
 valA (lenA false t21) h fun t24 h =>
 loopA (fun N l h => argA l 0 fun n8 => argA l 1 fun t25 => 
 valA (binOp .lss .num t25 t24) h fun t26 h =>
 condA t26
 (valA (iaA 1 t21 t25) h fun t27 h =>
 valA (ldA h none t27) h fun t28 h =>
 C 81 [h0, t28] h fun t32 h =>
 valA (extA t32 0) h fun t33 h =>
 valA (extA t32 1) h fun t34 h =>
 C 72 [h0, t28] h fun t38 h =>
 valA (extA t38 0) h fun t39 h =>
 valA (extA t38 1) h fun t40 h =>
 C 52 [h0, t33, t39] h fun t45 h =>
 valA (extA t45 0) h fun t46 h =>
 valA (extA t45 1) h fun t47 h =>
 valA (binOp .add .num n8 t46) h fun t50 h =>
 valA (binOp .add .num t25 (.int .i64 1)) h fun t51 h =>
 N [t50, t51] h)
 (J n8 h)) [(.int .i64 0), (.int .i64 0)] h
theorem she88 (C : CallA) (h0 roots1 : AV) (h : H) (R : AV → H → Prop) : wpA C an88 (argE [h0, roots1]) h (outA [(.tmp 4), (.tmp 5)] R) = sh88 C h0 roots1 h R := by kernel_rfl
/-! bellows/bellowslaw03.Made -/
def an89 : ACode :=
 (.seq (.reg 0 [] [] [sD 1 (.bx none 114 (.t 0)),
 sD 2 (.mv (.c .nilp)),
 sD 3 (.mv (.c .nilp)),
 sD 4 (.mv (.c .nilsl))])
 (.seq (.reg 0 [] [] [sD 12 (.fa 0 (.t 1)),
 sD 13 (.ld none (.t 12)),
 sD 14 (.fa 1 (.t 1)),
 sD 15 (.ld none (.t 14)),
 sD 16 (.call 60 [(.c (.int .i64 1500)), (.t 13), (.t 15)]),
 sD 11 (.mv (.t 16)),
 sD 17 (.ext (.t 11) 0),
 sD 18 (.ext (.t 11) 1),
 sD 5 (.mv (.t 17)),
 sD 6 (.mv (.t 18))])
 (.seq (.seq (.reg 0 [] [] [sD 19 (.mv (.t 5)),
 sD 20 (.bin .eql .ptr (.t 19) (.c .nilp))])
 (.cond (.t 20) (.seq (.reg 0 [] [] [sD 2 (.mv (.c .nilp)),
 sD 3 (.mv (.c .nilp)),
 sD 4 (.mv (.c .nilsl))])
 .ret)
 .skip))
 (.seq (.reg 0 [] [] [sD 7 (.mv (.c .nilsl))])
 (.seq (.seq (.reg 0 [] [] [sD 21 (.fa 2 (.t 1)),
 sD 22 (.ld none (.t 21)),
 sD 23 (.len false (.t 22)),
 sD 24 (.mv (.c (.int .i64 0)))])
 (.block 0 (.loop [7, 24] 29360352 (.seq (.reg 0 [] [] [sD 25 (.bin .lss .num (.t 24) (.t 23))])
 (.seq (.cond (.t 25) .skip
 (.exit 0))
 (.seq (.block 1 (.seq (.reg 0 [] [] [sD 26 (.mv (.t 24)),
 sD 27 (.ia none 2 (.t 22) (.t 24)),
 sD 28 (.ld (some 2) (.t 27)),
 sD 9 (.al none 146 [(.int .u64 0), (.bool false)]),
 sD 8 (.mv (.t 26)),
 sN (.st 2 (.t 9) (.t 28))])
 (.seq (.seq (.reg 0 [] [] [sD 29 (.mv (.t 8)),
 sD 30 (.bin .geq .num (.t 29) (.c (.int .i64 30)))])
 (.cond (.t 30) (.exit 0)
 .skip))
 (.seq (.reg 0 [] [] [sD 31 (.fa 0 (.t 9)),
 sD 32 (.ld none (.t 31)),
 sD 10 (.mv (.t 32))])
 (.seq (.seq (.reg 0 [] [] [sD 33 (.fa 1 (.t 9)),
 sD 34 (.ld none (.t 33)),
 sD 35 (.mv (.t 34)),
 sG 36 35 true (.mv (.t 6)),
 sG 37 35 true (.nilc (.t 36)),
 sG 38 35 true (.fa 2 (.t 37)),
 sG 39 35 true (.ld none (.t 38)),
 sG 40 35 true (.len false (.t 39)),
 sG 41 35 true (.bin .gtr .num (.t 40) (.c (.int .i64 0))),
 sD 42 (.pick (.t 35) (.t 41) (.c (.bool false)))])
 (.cond (.t 42) (.reg 0 [0, 1, 2, 3, 4, 5, 6, 7, 8, 9, 10, 11, 12, 13, 14, 15, 16, 17, 18, 19] [[], [0], [0, 1], [1, 0, 2], [], [4], [], [6], [6, 7], [7, 6, 8], [8, 6, 7, 9], [9, 7, 6, 8, 10], [10, 8, 6, 7, 9, 11, 4, 5], [5, 4, 11, 9, 7, 6, 8, 10, 12], [12, 10, 8, 6, 7, 9, 11, 4, 5, 13, 2, 0, 1, 3], [3, 1, 0, 2, 13, 5, 4, 11, 9, 7, 6, 8, 10, 12, 14], [14, 12, 10, 8, 6, 7, 9, 11, 4, 5, 13, 2, 0, 1, 3, 15], [15, 3, 1, 0, 2, 13, 5, 4, 11, 9, 7, 6, 8, 10, 12, 14, 16], [16, 14, 12, 10, 8, 6, 7, 9, 11, 4, 5, 13, 2, 0, 1, 3, 15, 17], [17, 15, 3, 1, 0, 2, 13, 5, 4, 11, 9, 7, 6, 8, 10, 12, 14, 16, 18]] [sD 43 (.mv (.t 6)),
 sD 44 (.nilc (.t 43)),
 sD 45 (.fa 2 (.t 44)),
 sD 46 (.ld none (.t 45)),
 sD 47 (.fa 0 (.t 9)),
 sD 48 (.ld none (.t 47)),
 sD 49 (.mv (.t 6)),
 sD 50 (.nilc (.t 49)),
 sD 51 (.fa 2 (.t 50)),
 sD 52 (.ld none (.t 51)),
 sD 53 (.len false (.t 52)),
 sD 54 (.cv none (.toInt .u64) (.t 53)),
 sD 55 (.bin .rem .num (.t 48) (.t 54)),
 sD 56 (.cv none (.toInt .i64) (.t 55)),
 sD 57 (.ia none 5 (.t 46) (.t 56)),
 sD 58 (.fa 0 (.t 57)),
 sD 59 (.ld none (.t 58)),
 sD 60 (.cv none (.toInt .u64) (.t 59)),
 sD 61 (.bin .mul .num (.t 60) (.c (.int .u64 2))),
 sD 10 (.mv (.t 61))])
 .skip))
 (.reg 0 [] [] [sD 62 (.mv (.t 7)),
 sD 63 (.mv (.t 10)),
 sD 64 (.mksl none 25 [(.int .u64 0)] 1 [(0, 1, (.t 63))]),
 sD 65 (.app 25 1 8 [(.int .u64 0)] (.t 62) (.t 64)),
 sD 7 (.mv (.t 65))]))))))
 (.reg 0 [] [] [sD 66 (.bin .add .num (.t 24) (.c (.int .i64 1))),
 sD 24 (.mv (.t 66))])))))))
 (.seq (.reg 0 [] [] [sD 67 (.mv (.t 5)),
 sD 68 (.mv (.t 6)),
 sD 69 (.mv (.t 7)),
 sD 2 (.mv (.t 67)),
 sD 3 (.mv (.t 68)),
 sD 4 (.mv (.t 69))])
 .ret))))))
def fn89 : IFun := ⟨70, [(.tmp 2), (.tmp 3), (.tmp 4)], an89.erase⟩
theorem ok89 : okFun Try.prog 89 fn89 = true := by kernel_rfl
theorem oka89 : okA fn89.ntmps fn89.results an89 = true := by kernel_rfl
def sh89 (C : CallA) (c0 : AV) (h : H) (R : AV → H → Prop) : Prop :=
 boxA h (AV.cells c0) 114 fun c1 h =>
 valA (faA 0 c1) h fun t12 h =>
 valA (ldA h none t12) h fun t13 h =>
 valA (faA 1 c1) h fun t14 h =>
 valA (ldA h none t14) h fun t15 h =>
 C 60 [(.int .i64 1500), t13, t15] h fun t16 h =>
 valA (extA t16 0) h fun t17 h =>
 valA (extA t16 1) h fun t18 h =>
 valA (binOp .eql .ptr t17 .nilp) h fun t20 h =>
 condA t20
 (R (.tup [.nilp, .nilp, .nilsl]) h)
 (joinA (fun (roots7' : AV) (h : H) =>
 R (.tup [t17, t18, roots7']) h) fun J =>
 valA (faA 2 c1) h fun t21 h =>
 valA (ldA h none t21) h fun t22 h =>
 valA (lenA false t22) h fun t23 h =>
 loopA (fun N l h => argA l 0 fun roots7 => argA l 1 fun t24 => 
 valA (binOp .lss .num t24 t23) h fun t25 h =>
 condA t25
 (valA (iaA 2 t22 t24) h fun t27 h =>
 valA (ldA h (some 2) t27) h fun t28 h =>
 boxA h [(.int .u64 0), (.bool false)] 146 fun r9 h =>
 memA (stA h 2 r9 t28) .undef fun _ h =>
 valA (binOp .geq .num t24 (.int .i64 30)) h fun t30 h =>
 condA t30
 (J roots7 h)
 (valA (faA 0 r9) h fun t31 h =>
 valA (ldA h none t31) h fun t32 h =>
 joinA (fun (w10'_0 : AV) (h : H) =>
 mkslA h 25 1 (fillV [(.int .u64 0)] [(0, 1, w10'_0)]) fun t64 h =>
 appendA h 25 1 8 roots7 t64 fun t65 h =>
 valA (binOp .add .num t24 (.int .i64 1)) h fun t66 h =>
 N [t65, t66] h) fun J_30 =>
 valA (faA 1 r9) h fun t33 h =>
 valA (ldA h none t33) h fun t34 h =>
 whenA t34 true (fun K => K t18 h) h fun t36 h =>
 whenA t34 true (fun K => valA (nilcA t36) h K) h fun t37 h =>
 whenA t34 true (fun K => valA (faA 2 t37) h K) h fun t38 h =>
 whenA t34 true (fun K => valA (ldA h none t38) h K) h fun t39 h =>
 whenA t34 true (fun K => valA (lenA false t39) h K) h fun t40 h =>
 whenA t34 true (fun K => valA (binOp .gtr .num t40 (.int .i64 0)) h K) h fun t41 h =>
 valA (pickA t34 t41 (.bool false)) h fun t42 h =>
 condA t42
 (valA (nilcA t18) h fun t44 h =>
 valA (faA 2 t44) h fun t45 h =>
 valA (ldA h none t45) h fun t46 h =>
 valA (faA 0 r9) h fun t47 h =>
 valA (ldA h none t47) h fun t48 h =>
 valA (nilcA t18) h fun t50 h =>
 valA (faA 2 t50) h fun t51 h =>
 valA (ldA h none t51) h fun t52 h =>
 valA (lenA false t52) h fun t53 h =>
 valA (cvA .u64 t53) h fun t54 h =>
 valA (binOp .rem .num t48 t54) h fun t55 h =>
 valA (cvA .i64 t55) h fun t56 h =>
 valA (iaA 5 t46 t56) h fun t57 h =>
 valA (faA 0 t57) h fun t58 h =>
 valA (ldA h none t58) h fun t59 h =>
 valA (cvA .u64 t59) h fun t60 h =>
 valA (binOp .mul .num t60 (.int .u64 2)) h fun t61 h =>
 J_30 t61 h)
 (J_30 t32 h)))
 (J roots7 h)) [.nilsl, (.int .i64 0)] h)
theorem she89 (C : CallA) (c0 : AV) (h : H) (R : AV → H → Prop) : wpA C an89 (argE [c0]) h (outA [(.tmp 2), (.tmp 3), (.tmp 4)] R) = sh89 C c0 h R := by kernel_rfl
/-! bellows/bellowsref03.Fit -/
def an90 : ACode :=
 (.seq (.reg 0 [] [] [sD 4 (.mv (.c (.bool false)))])
 (.seq (.seq (.reg 0 [] [] [sD 7 (.mv (.t 1)),
 sD 8 (.len false (.t 7)),
 sD 9 (.mv (.c (.int .i64 0)))])
 (.block 0 (.loop [9] 897 (.seq (.reg 0 [] [] [sD 10 (.bin .lss .num (.t 9) (.t 8))])
 (.seq (.cond (.t 10) .skip
 (.exit 0))
 (.seq (.block 1 (.seq (.reg 0 [] [] [sD 11 (.ia none 1 (.t 7) (.t 9)),
 sD 12 (.ld none (.t 11)),
 sD 6 (.mv (.t 12))])
 (.seq (.reg 0 [] [] [sD 13 (.mv (.t 0)),
 sD 14 (.mv (.t 6)),
 sD 15 (.call 69 [(.t 13), (.t 14)]),
 sD 16 (.un .not (.t 15))])
 (.cond (.t 16) (.seq (.reg 0 [] [] [sD 4 (.mv (.c (.bool false)))])
 .ret)
 .skip))))
 (.reg 0 [] [] [sD 17 (.bin .add .num (.t 9) (.c (.int .i64 1))),
 sD 9 (.mv (.t 17))])))))))
 (.seq (.reg 0 [] [] [sD 4 (.mv (.c (.bool true)))])
 .ret)))
def fn90 : IFun := ⟨18, [(.tmp 4)], an90.erase⟩
theorem ok90 : okFun Try.prog 90 fn90 = true := by kernel_rfl
theorem oka90 : okA fn90.ntmps fn90.results an90 = true := by kernel_rfl
def sh90 (C : CallA) (h0 roots1 : AV) (h : H) (R : AV → H → Prop) : Prop :=
 joinA (fun (h : H) =>
 R (.bool true) h) fun J =>
 valA (lenA false roots1) h fun t8 h =>
 loopA (fun N l h => argA l 0 fun t9 => 
 valA (binOp .lss .num t9 t8) h fun t10 h =>
 condA t10
 (valA (iaA 1 roots1 t9) h fun t11 h =>
 valA (ldA h none t11) h fun t12 h =>
 C 69 [h0, t12] h fun t15 h =>
 valA (unOp .not t15) h fun t16 h =>
 condA t16
 (R (.bool false) h)
 (valA (binOp .add .num t9 (.int .i64 1)) h fun t17 h =>
 N [t17] h))
 (J h)) [(.int .i64 0)] h
theorem she90 (C : CallA) (h0 roots1 : AV) (h : H) (R : AV → H → Prop) : wpA C an90 (argE [h0, roots1]) h (outA [(.tmp 4)] R) = sh90 C h0 roots1 h R := by kernel_rfl
/-! bellows/bellowslaw03.alike -/
def an92 : ACode :=
 (.seq (.reg 0 [] [] [sD 4 (.mv (.c (.bool false)))])
 (.seq (.seq (.reg 0 [] [] [sD 6 (.mv (.t 0)),
 sD 7 (.len false (.t 6)),
 sD 8 (.mv (.t 1)),
 sD 9 (.len false (.t 8)),
 sD 10 (.bin .neq .num (.t 7) (.t 9))])
 (.cond (.t 10) (.seq (.reg 0 [] [] [sD 4 (.mv (.c (.bool false)))])
 .ret)
 .skip))
 (.seq (.seq (.reg 0 [] [] [sD 11 (.mv (.t 0)),
 sD 12 (.len false (.t 11)),
 sD 13 (.mv (.c (.int .i64 0)))])
 (.block 0 (.loop [13] 12291 (.seq (.reg 0 [] [] [sD 14 (.bin .lss .num (.t 13) (.t 12))])
 (.seq (.cond (.t 14) .skip
 (.exit 0))
 (.seq (.block 1 (.seq (.reg 0 [] [] [sD 15 (.mv (.t 13)),
 sD 5 (.mv (.t 15))])
 (.seq (.reg 0 [0, 1, 2, 3, 4, 5, 6, 7, 8] [[], [], [1, 0], [0, 1, 2], [], [], [5, 4], [4, 5, 6], [6, 5, 4, 7, 2, 1, 0, 3]] [sD 16 (.mv (.t 0)),
 sD 17 (.mv (.t 5)),
 sD 18 (.ia none 1 (.t 16) (.t 17)),
 sD 19 (.ld none (.t 18)),
 sD 20 (.mv (.t 1)),
 sD 21 (.mv (.t 5)),
 sD 22 (.ia none 1 (.t 20) (.t 21)),
 sD 23 (.ld none (.t 22)),
 sD 24 (.bin .neq .num (.t 19) (.t 23))])
 (.cond (.t 24) (.seq (.reg 0 [] [] [sD 4 (.mv (.c (.bool false)))])
 .ret)
 .skip))))
 (.reg 0 [] [] [sD 25 (.bin .add .num (.t 13) (.c (.int .i64 1))),
 sD 13 (.mv (.t 25))])))))))
 (.seq (.reg 0 [] [] [sD 4 (.mv (.c (.bool true)))])
 .ret))))
def fn92 : IFun := ⟨26, [(.tmp 4)], an92.erase⟩
theorem ok92 : okFun Try.prog 92 fn92 = true := by kernel_rfl
theorem oka92 : okA fn92.ntmps fn92.results an92 = true := by kernel_rfl
def sh92 (C : CallA) (a0 b1 : AV) (h : H) (R : AV → H → Prop) : Prop :=
 valA (lenA false a0) h fun t7 h =>
 valA (lenA false b1) h fun t9 h =>
 valA (binOp .neq .num t7 t9) h fun t10 h =>
 condA t10
 (R (.bool false) h)
 (joinA (fun (h : H) =>
 R (.bool true) h) fun J =>
 valA (lenA false a0) h fun t12 h =>
 loopA (fun N l h => argA l 0 fun t13 => 
 valA (binOp .lss .num t13 t12) h fun t14 h =>
 condA t14
 (valA (iaA 1 a0 t13) h fun t18 h =>
 valA (ldA h none t18) h fun t19 h =>
 valA (iaA 1 b1 t13) h fun t22 h =>
 valA (ldA h none t22) h fun t23 h =>
 valA (binOp .neq .num t19 t23) h fun t24 h =>
 condA t24
 (R (.bool false) h)
 (valA (binOp .add .num t13 (.int .i64 1)) h fun t25 h =>
 N [t25] h))
 (J h)) [(.int .i64 0)] h)
theorem she92 (C : CallA) (a0 b1 : AV) (h : H) (R : AV → H → Prop) : wpA C an92 (argE [a0, b1]) h (outA [(.tmp 4)] R) = sh92 C a0 b1 h R := by kernel_rfl
/-! bellows/bellowslaw03.sight -/
def an94 : ACode :=
 (.seq (.reg 0 [] [] [sD 4 (.mv (.c .nilsl))])
 (.seq (.reg 0 [] [] [sD 5 (.mv (.c .nilsl))])
 (.seq (.reg 0 [] [] [sD 6 (.mv (.c .nilsl))])
 (.seq (.reg 0 [] [] [sD 7 (.mv (.c (.int .i64 0)))])
 (.seq (.seq (.reg 0 [] [] [sD 22 (.mv (.t 1)),
 sD 23 (.len false (.t 22)),
 sD 24 (.mv (.c (.int .i64 0)))])
 (.block 0 (.loop [5, 6, 24] 29360225 (.seq (.reg 0 [] [] [sD 25 (.bin .lss .num (.t 24) (.t 23))])
 (.seq (.cond (.t 25) .skip
 (.exit 0))
 (.seq (.block 1 (.seq (.reg 0 [] [] [sD 26 (.ia none 1 (.t 22) (.t 24)),
 sD 27 (.ld none (.t 26)),
 sD 9 (.mv (.t 27))])
 (.seq (.seq (.reg 0 [] [] [sD 28 (.mv (.t 9)),
 sD 29 (.call 48 [(.t 28)])])
 (.cond (.t 29) (.seq (.reg 0 [] [] [sD 30 (.mv (.t 6)),
 sD 31 (.mv (.t 9)),
 sD 32 (.mksl none 25 [(.int .u64 0)] 1 [(0, 1, (.t 31))]),
 sD 33 (.app 25 1 8 [(.int .u64 0)] (.t 30) (.t 32)),
 sD 6 (.mv (.t 33))])
 (.exit 1))
 .skip))
 (.seq (.reg 0 [] [] [sD 35 (.mv (.t 5)),
 sD 36 (.mv (.t 9)),
 sD 37 (.call 85 [(.t 36)]),
 sD 38 (.call 118 [(.t 35), (.t 37)]),
 sD 34 (.mv (.t 38)),
 sD 39 (.ext (.t 34) 0),
 sD 40 (.ext (.t 34) 1),
 sD 5 (.mv (.t 39)),
 sD 7 (.mv (.t 40))])
 (.reg 0 [] [] [sD 41 (.mv (.t 6)),
 sD 42 (.mv (.t 7)),
 sD 43 (.cv none (.toInt .u64) (.t 42)),
 sD 44 (.bin .mul .num (.t 43) (.c (.int .u64 2))),
 sD 45 (.mksl none 25 [(.int .u64 0)] 1 [(0, 1, (.t 44))]),
 sD 46 (.app 25 1 8 [(.int .u64 0)] (.t 41) (.t 45)),
 sD 6 (.mv (.t 46))])))))
 (.reg 0 [] [] [sD 47 (.bin .add .num (.t 24) (.c (.int .i64 1))),
 sD 24 (.mv (.t 47))])))))))
 (.seq (.seq (.reg 0 [] [] [sD 10 (.mv (.c (.int .i64 0)))])
 (.block 2 (.loop [5, 6, 10] 1121 (.seq (.seq (.reg 0 [] [] [sD 48 (.mv (.t 10)),
 sD 49 (.mv (.t 5)),
 sD 50 (.len false (.t 49)),
 sD 51 (.bin .lss .num (.t 48) (.t 50)),
 sD 52 (.mv (.t 51)),
 sG 53 52 true (.mv (.t 10)),
 sG 54 52 true (.bin .lss .num (.t 53) (.c (.int .i64 1600))),
 sD 55 (.pick (.t 52) (.t 54) (.c (.bool false)))])
 (.cond (.t 55) .skip
 (.exit 2)))
 (.seq (.block 3 (.seq (.reg 0 [] [] [sD 59 (.mv (.t 0)),
 sD 60 (.mv (.t 5)),
 sD 61 (.mv (.t 10)),
 sD 62 (.ia none 1 (.t 60) (.t 61)),
 sD 63 (.ld none (.t 62)),
 sD 64 (.call 81 [(.t 59), (.t 63)]),
 sD 58 (.mv (.t 64)),
 sD 65 (.ext (.t 58) 0),
 sD 66 (.ext (.t 58) 1),
 sD 11 (.mv (.t 65)),
 sD 12 (.mv (.t 66))])
 (.seq (.reg 0 [] [] [sD 68 (.mv (.t 0)),
 sD 69 (.mv (.t 5)),
 sD 70 (.mv (.t 10)),
 sD 71 (.ia none 1 (.t 69) (.t 70)),
 sD 72 (.ld none (.t 71)),
 sD 73 (.call 72 [(.t 68), (.t 72)]),
 sD 67 (.mv (.t 73)),
 sD 74 (.ext (.t 67) 0),
 sD 75 (.ext (.t 67) 1),
 sD 13 (.mv (.t 74)),
 sD 14 (.mv (.t 75))])
 (.seq (.reg 0 [] [] [sD 76 (.mv (.t 6)),
 sD 77 (.mv (.t 11)),
 sD 78 (.cv none (.toInt .u64) (.t 77)),
 sD 79 (.mv (.t 13)),
 sD 80 (.cv none (.toInt .u64) (.t 79)),
 sD 81 (.mksl none 25 [(.int .u64 0), (.int .u64 0)] 2 [(0, 1, (.t 78)), (1, 1, (.t 80))]),
 sD 82 (.app 25 1 8 [(.int .u64 0)] (.t 76) (.t 81)),
 sD 6 (.mv (.t 82))])
 (.seq (.reg 0 [] [] [sD 84 (.mv (.t 0)),
 sD 85 (.mv (.t 5)),
 sD 86 (.mv (.t 10)),
 sD 87 (.ia none 1 (.t 85) (.t 86)),
 sD 88 (.ld none (.t 87)),
 sD 89 (.call 71 [(.t 84), (.t 88)]),
 sD 83 (.mv (.t 89)),
 sD 90 (.ext (.t 83) 0),
 sD 91 (.ext (.t 83) 1),
 sD 15 (.mv (.t 90)),
 sD 16 (.mv (.t 91))])
 (.seq (.seq (.reg 0 [] [] [sD 92 (.mv (.t 15)),
 sD 93 (.cv none (.s2b 5) (.t 92)),
 sD 94 (.len false (.t 93)),
 sD 95 (.mv (.c (.int .i64 0)))])
 (.block 4 (.loop [6, 95] 69324642199981295394351031393 (.seq (.reg 0 [] [] [sD 96 (.bin .lss .num (.t 95) (.t 94))])
 (.seq (.cond (.t 96) .skip
 (.exit 4))
 (.seq (.block 5 (.seq (.reg 0 [] [] [sD 97 (.ia none 1 (.t 93) (.t 95)),
 sD 98 (.ld none (.t 97)),
 sD 18 (.mv (.t 98))])
 (.reg 0 [] [] [sD 99 (.mv (.t 6)),
 sD 100 (.mv (.t 18)),
 sD 101 (.cv none (.toInt .u64) (.t 100)),
 sD 102 (.mksl none 25 [(.int .u64 0)] 1 [(0, 1, (.t 101))]),
 sD 103 (.app 25 1 8 [(.int .u64 0)] (.t 99) (.t 102)),
 sD 6 (.mv (.t 103))])))
 (.reg 0 [] [] [sD 104 (.bin .add .num (.t 95) (.c (.int .i64 1))),
 sD 95 (.mv (.t 104))])))))))
 (.seq (.reg 0 [] [] [sD 19 (.mv (.c (.int .i64 0)))])
 (.block 6 (.loop [5, 6, 19] 599137 (.seq (.seq (.reg 0 [] [] [sD 105 (.mv (.t 19)),
 sD 106 (.mv (.t 13)),
 sD 107 (.bin .lss .num (.t 105) (.t 106)),
 sD 108 (.mv (.t 107)),
 sG 109 108 true (.mv (.t 16)),
 sG 110 108 true (.bin .neq .num (.t 109) (.c (.int .i64 0))),
 sD 111 (.pick (.t 108) (.t 110) (.c (.bool false)))])
 (.cond (.t 111) .skip
 (.exit 6)))
 (.seq (.block 7 (.seq (.reg 0 [] [] [sD 115 (.mv (.t 0)),
 sD 116 (.mv (.t 5)),
 sD 117 (.mv (.t 10)),
 sD 118 (.ia none 1 (.t 116) (.t 117)),
 sD 119 (.ld none (.t 118)),
 sD 120 (.mv (.t 19)),
 sD 121 (.call 64 [(.t 115), (.t 119), (.t 120)]),
 sD 114 (.mv (.t 121)),
 sD 122 (.ext (.t 114) 0),
 sD 123 (.ext (.t 114) 1),
 sD 20 (.mv (.t 122)),
 sD 21 (.mv (.t 123))])
 (.seq (.seq (.reg 0 [] [] [sD 124 (.mv (.t 20)),
 sD 125 (.call 48 [(.t 124)])])
 (.cond (.t 125) (.seq (.reg 0 [] [] [sD 126 (.mv (.t 6)),
 sD 127 (.mv (.t 20)),
 sD 128 (.mksl none 25 [(.int .u64 0)] 1 [(0, 1, (.t 127))]),
 sD 129 (.app 25 1 8 [(.int .u64 0)] (.t 126) (.t 128)),
 sD 6 (.mv (.t 129))])
 (.exit 7))
 .skip))
 (.seq (.reg 0 [] [] [sD 131 (.mv (.t 5)),
 sD 132 (.mv (.t 20)),
 sD 133 (.call 85 [(.t 132)]),
 sD 134 (.call 118 [(.t 131), (.t 133)]),
 sD 130 (.mv (.t 134)),
 sD 135 (.ext (.t 130) 0),
 sD 136 (.ext (.t 130) 1),
 sD 5 (.mv (.t 135)),
 sD 7 (.mv (.t 136))])
 (.reg 0 [] [] [sD 137 (.mv (.t 6)),
 sD 138 (.mv (.t 7)),
 sD 139 (.cv none (.toInt .u64) (.t 138)),
 sD 140 (.bin .mul .num (.t 139) (.c (.int .u64 2))),
 sD 141 (.mksl none 25 [(.int .u64 0)] 1 [(0, 1, (.t 140))]),
 sD 142 (.app 25 1 8 [(.int .u64 0)] (.t 137) (.t 141)),
 sD 6 (.mv (.t 142))])))))
 (.reg 0 [] [] [sD 112 (.mv (.t 19)),
 sD 113 (.bin .add .num (.t 112) (.c (.int .i64 1))),
 sD 19 (.mv (.t 113))]))))))))))))
 (.reg 0 [] [] [sD 56 (.mv (.t 10)),
 sD 57 (.bin .add .num (.t 56) (.c (.int .i64 1))),
 sD 10 (.mv (.t 57))]))))))
 (.seq (.reg 0 [] [] [sD 143 (.mv (.t 6)),
 sD 4 (.mv (.t 143))])
 .ret)))))))
def fn94 : IFun := ⟨144, [(.tmp 4)], an94.erase⟩
theorem ok94 : okFun Try.prog 94 fn94 = true := by kernel_rfl
theorem oka94 : okA fn94.ntmps fn94.results an94 = true := by kernel_rfl
def sh94 (C : CallA) (h0 roots1 : AV) (h : H) (R : AV → H → Prop) : Prop :=
 joinA (fun (met5' : AV) (out6' : AV) (h : H) =>
 joinA (fun (out6'_1 : AV) (h : H) =>
 R out6'_1 h) fun J =>
 loopA (fun N l h => argA l 0 fun met5 => argA l 1 fun out6 => argA l 2 fun i10 => 
 valA (lenA false met5) h fun t50 h =>
 valA (binOp .lss .num i10 t50) h fun t51 h =>
 whenA t51 true (fun K => K i10 h) h fun t53 h =>
 whenA t51 true (fun K => valA (binOp .lss .num t53 (.int .i64 1600)) h K) h fun t54 h =>
 valA (pickA t51 t54 (.bool false)) h fun t55 h =>
 condA t55
 (joinA (fun (met5'_3 : AV) (out6'_4 : AV) (h : H) =>
 valA (binOp .add .num i10 (.int .i64 1)) h fun t57 h =>
 N [met5'_3, out6'_4, t57] h) fun J_101 =>
 valA (iaA 1 met5 i10) h fun t62 h =>
 valA (ldA h none t62) h fun t63 h =>
 C 81 [h0, t63] h fun t64 h =>
 valA (extA t64 0) h fun t65 h =>
 valA (extA t64 1) h fun t66 h =>
 valA (iaA 1 met5 i10) h fun t71 h =>
 valA (ldA h none t71) h fun t72 h =>
 C 72 [h0, t72] h fun t73 h =>
 valA (extA t73 0) h fun t74 h =>
 valA (extA t73 1) h fun t75 h =>
 valA (cvA .u64 t65) h fun t78 h =>
 valA (cvA .u64 t74) h fun t80 h =>
 mkslA h 25 2 (fillV [(.int .u64 0), (.int .u64 0)] [(0, 1, t78), (1, 1, t80)]) fun t81 h =>
 appendA h 25 1 8 out6 t81 fun t82 h =>
 valA (iaA 1 met5 i10) h fun t87 h =>
 valA (ldA h none t87) h fun t88 h =>
 C 71 [h0, t88] h fun t89 h =>
 valA (extA t89 0) h fun t90 h =>
 valA (extA t89 1) h fun t91 h =>
 joinA (fun (out6'_102 : AV) (h : H) =>
 loopA (fun N_117 l h => argA l 0 fun met5_118 => argA l 1 fun out6_119 => argA l 2 fun j19 => 
 valA (binOp .lss .num j19 t74) h fun t107 h =>
 whenA t107 true (fun K => K t91 h) h fun t109 h =>
 whenA t107 true (fun K => valA (binOp .neq .num t109 (.int .i64 0)) h K) h fun t110 h =>
 valA (pickA t107 t110 (.bool false)) h fun t111 h =>
 condA t111
 (joinA (fun (met5'_120 : AV) (out6'_121 : AV) (h : H) =>
 valA (binOp .add .num j19 (.int .i64 1)) h fun t113 h =>
 N_117 [met5'_120, out6'_121, t113] h) fun J_154 =>
 valA (iaA 1 met5_118 i10) h fun t118 h =>
 valA (ldA h none t118) h fun t119 h =>
 C 64 [h0, t119, j19] h fun t121 h =>
 valA (extA t121 0) h fun t122 h =>
 valA (extA t121 1) h fun t123 h =>
 C 48 [t122] h fun t125 h =>
 condA t125
 (mkslA h 25 1 (fillV [(.int .u64 0)] [(0, 1, t122)]) fun t128 h =>
 appendA h 25 1 8 out6_119 t128 fun t129 h =>
 J_154 met5_118 t129 h)
 (C 85 [t122] h fun t133 h =>
 C 118 [met5_118, t133] h fun t134 h =>
 valA (extA t134 0) h fun t135 h =>
 valA (extA t134 1) h fun t136 h =>
 valA (cvA .u64 t136) h fun t139 h =>
 valA (binOp .mul .num t139 (.int .u64 2)) h fun t140 h =>
 mkslA h 25 1 (fillV [(.int .u64 0)] [(0, 1, t140)]) fun t141 h =>
 appendA h 25 1 8 out6_119 t141 fun t142 h =>
 J_154 t135 t142 h))
 (J_101 met5_118 out6_119 h)) [met5, out6'_102, (.int .i64 0)] h) fun J_155 =>
 s2bA h 5 t90 fun t93 h =>
 valA (lenA false t93) h fun t94 h =>
 loopA (fun N_156 l h => argA l 0 fun out6_157 => argA l 1 fun t95 => 
 valA (binOp .lss .num t95 t94) h fun t96 h =>
 condA t96
 (valA (iaA 1 t93 t95) h fun t97 h =>
 valA (ldA h none t97) h fun t98 h =>
 valA (cvA .u64 t98) h fun t101 h =>
 mkslA h 25 1 (fillV [(.int .u64 0)] [(0, 1, t101)]) fun t102 h =>
 appendA h 25 1 8 out6_157 t102 fun t103 h =>
 valA (binOp .add .num t95 (.int .i64 1)) h fun t104 h =>
 N_156 [t103, t104] h)
 (J_155 out6_157 h)) [t82, (.int .i64 0)] h)
 (J out6 h)) [met5', out6', (.int .i64 0)] h) fun J_158 =>
 valA (lenA false roots1) h fun t23 h =>
 loopA (fun N_159 l h => argA l 0 fun met5_160 => argA l 1 fun out6_161 => argA l 2 fun t24 => 
 valA (binOp .lss .num t24 t23) h fun t25 h =>
 condA t25
 (joinA (fun (met5'_162 : AV) (out6'_163 : AV) (h : H) =>
 valA (binOp .add .num t24 (.int .i64 1)) h fun t47 h =>
 N_159 [met5'_162, out6'_163, t47] h) fun J_187 =>
 valA (iaA 1 roots1 t24) h fun t26 h =>
 valA (ldA h none t26) h fun t27 h =>
 C 48 [t27] h fun t29 h =>
 condA t29
 (mkslA h 25 1 (fillV [(.int .u64 0)] [(0, 1, t27)]) fun t32 h =>
 appendA h 25 1 8 out6_161 t32 fun t33 h =>
 J_187 met5_160 t33 h)
 (C 85 [t27] h fun t37 h =>
 C 118 [met5_160, t37] h fun t38 h =>
 valA (extA t38 0) h fun t39 h =>
 valA (extA t38 1) h fun t40 h =>
 valA (cvA .u64 t40) h fun t43 h =>
 valA (binOp .mul .num t43 (.int .u64 2)) h fun t44 h =>
 mkslA h 25 1 (fillV [(.int .u64 0)] [(0, 1, t44)]) fun t45 h =>
 appendA h 25 1 8 out6_161 t45 fun t46 h =>
 J_187 t39 t46 h))
 (J_158 met5_160 out6_161 h)) [.nilsl, .nilsl, (.int .i64 0)] h
theorem she94 (C : CallA) (h0 roots1 : AV) (h : H) (R : AV → H → Prop) : wpA C an94 (argE [h0, roots1]) h (outA [(.tmp 4)] R) = sh94 C h0 roots1 h R := by kernel_rfl
end Go.Proofs.Ytljkkfcokpimkaa.X
