/- The plain programs of functions, printed; that they are the model's; what must hold ahead of each. -/
import Derived.Test.YtljkkfcokpimkaaProg
import Derived.Test.YtljkkfcokpimkaaXo
set_option maxRecDepth 100000
set_option linter.unusedVariables false
namespace Go.Proofs.Ytljkkfcokpimkaa.X
open Go
/-! bellows/bellowslaw02.Made -/
def an60 : ACode :=
 (.seq (.reg 0 [] [] [sD 6 (.mv (.c .nilp)),
 sD 7 (.mv (.c .nilp))])
 (.seq (.seq (.reg 0 [] [] [sD 13 (.mv (.t 1)),
 sD 14 (.len false (.t 13)),
 sD 15 (.bin .gtr .num (.t 14) (.c (.int .i64 600)))])
 (.cond (.t 15) (.reg 0 [] [] [sD 16 (.mv (.t 1)),
 sD 17 (.sli (.row 2) (.t 16) none (some (.c (.int .i64 600))) none),
 sD 1 (.mv (.t 17))])
 .skip))
 (.seq (.reg 0 [] [] [sD 18 (.mv (.t 0)),
 sD 19 (.mn [(.t 18), (.c (.int .i64 4000))]),
 sD 0 (.mv (.t 19))])
 (.seq (.reg 0 [] [] [sD 21 (.mv (.t 0)),
 sD 22 (.mv (.t 1)),
 sD 23 (.call 49 [(.t 21), (.t 22)]),
 sD 20 (.mv (.t 23)),
 sD 24 (.ext (.t 20) 0),
 sD 25 (.ext (.t 20) 1),
 sD 8 (.mv (.t 24)),
 sD 9 (.mv (.t 25))])
 (.seq (.seq (.reg 0 [] [] [sD 26 (.mv (.t 9)),
 sD 27 (.bin .neq .num (.t 26) (.c (.int .i64 0))),
 sD 28 (.mv (.t 27)),
 sG 29 28 false (.mv (.t 8)),
 sG 30 28 false (.bin .eql .ptr (.t 29) (.c .nilp)),
 sD 31 (.pick (.t 28) (.c (.bool true)) (.t 30)),
 sD 32 (.mv (.t 31)),
 sG 33 32 false (.mv (.t 0)),
 sG 34 32 false (.mv (.t 1)),
 sG 35 32 false (.call 50 [(.t 33), (.t 34)]),
 sG 36 32 false (.bin .neq .num (.t 35) (.c (.int .i64 0))),
 sD 37 (.pick (.t 32) (.c (.bool true)) (.t 36))])
 (.cond (.t 37) (.seq (.reg 0 [] [] [sD 6 (.mv (.c .nilp)),
 sD 7 (.mv (.c .nilp))])
 .ret)
 .skip))
 (.seq (.reg 0 [] [] [sD 38 (.mv (.t 0)),
 sD 39 (.mv (.t 1)),
 sD 40 (.build [(.int .i64 0), .nilsl, .nilsl] [(0, 1, (.t 38)), (1, 1, (.t 39))]),
 sD 41 (.bx none 56 (.t 40)),
 sD 10 (.mv (.t 41))])
 (.seq (.seq (.reg 0 [] [] [sD 42 (.mv (.t 2)),
 sD 43 (.call 73 [(.t 42)]),
 sD 44 (.len false (.t 43)),
 sD 45 (.mv (.c (.int .i64 0)))])
 (.block 0 (.loop [45] 61572651156736 (.seq (.reg 0 [] [] [sD 46 (.bin .lss .num (.t 45) (.t 44))])
 (.seq (.cond (.t 46) .skip
 (.exit 0))
 (.seq (.block 1 (.seq (.reg 0 [] [] [sD 47 (.ia none 5 (.t 43) (.t 45)),
 sD 48 (.ld (some 5) (.t 47)),
 sD 12 (.al none 72 [(.int .i64 0), (.int .i64 0), (.int .i64 0), (.int .u64 0), (.bool false)]),
 sN (.st 5 (.t 12) (.t 48))])
 (.seq (.reg 0 [] [] [sD 49 (.fa 0 (.t 12)),
 sD 50 (.ld none (.t 49)),
 sD 51 (.bin .neq .num (.t 50) (.c (.int .i64 1))),
 sD 52 (.mv (.t 51)),
 sG 53 52 false (.mv (.t 10)),
 sG 54 52 false (.nilc (.t 53)),
 sG 55 52 false (.fa 2 (.t 54)),
 sG 56 52 false (.ld none (.t 55)),
 sG 57 52 false (.len false (.t 56)),
 sG 58 52 false (.bin .lss .num (.t 57) (.c (.int .i64 150))),
 sD 59 (.pick (.t 52) (.c (.bool true)) (.t 58))])
 (.cond (.t 59) (.reg 0 [] [] [sD 60 (.mv (.t 8)),
 sD 61 (.mv (.t 10)),
 sD 62 (.ld (some 5) (.t 12)),
 sD 63 (.call 74 [(.t 60), (.t 61), (.t 62)])])
 .skip))))
 (.reg 0 [] [] [sD 64 (.bin .add .num (.t 45) (.c (.int .i64 1))),
 sD 45 (.mv (.t 64))])))))))
 (.seq (.reg 0 [] [] [sD 65 (.mv (.t 8)),
 sD 66 (.mv (.t 10)),
 sD 6 (.mv (.t 65)),
 sD 7 (.mv (.t 66))])
 .ret))))))))
def fn60 : IFun := ⟨67, [(.tmp 6), (.tmp 7)], an60.erase⟩
theorem ok60 : okFun Try.prog 60 fn60 = true := by kernel_rfl
theorem oka60 : okA fn60.ntmps fn60.results an60 = true := by kernel_rfl
def sh60 (C : CallA) (words0 layouts1 l2 : AV) (h : H) (R : AV → H → Prop) : Prop :=
 joinA (fun (layouts1' : AV) (h : H) =>
  valA (mnA [words0, (.int .i64 4000)]) h fun t19 h =>
  C 49 [t19, layouts1'] h fun t23 h =>
  valA (extA t23 0) h fun t24 h =>
  valA (extA t23 1) h fun t25 h =>
  valA (binOp .neq .num t25 (.int .i64 0)) h fun t27 h =>
  whenA t27 false (fun K => K t24 h) h fun t29 h =>
  whenA t27 false (fun K => valA (binOp .eql .ptr t29 .nilp) h K) h fun t30 h =>
  valA (pickA t27 (.bool true) t30) h fun t31 h =>
  whenA t31 false (fun K => K t19 h) h fun t33 h =>
  whenA t31 false (fun K => K layouts1' h) h fun t34 h =>
  whenA t31 false (fun K => C 50 [t33, t34] h K) h fun t35 h =>
  whenA t31 false (fun K => valA (binOp .neq .num t35 (.int .i64 0)) h K) h fun t36 h =>
  valA (pickA t31 (.bool true) t36) h fun t37 h =>
  condA t37
   (R (.tup [.nilp, .nilp]) h)
   (valA (buildA (fillV [(.int .i64 0), .nilsl, .nilsl] [(0, 1, t19), (1, 1, layouts1')])) h fun t40 h =>
  newA h (AV.cells t40) 56 (fun b => .ptr b 0) fun t41 h =>
  joinA (fun (h : H) =>
   R (.tup [t24, t41]) h) fun J =>
  C 73 [l2] h fun t43 h =>
  valA (lenA false t43) h fun t44 h =>
  loopA (fun N l h => argA l 0 fun t45 => 
   valA (binOp .lss .num t45 t44) h fun t46 h =>
   condA t46
    (joinA (fun (h : H) =>
    valA (binOp .add .num t45 (.int .i64 1)) h fun t64 h =>
    N [t64] h) fun J_18 =>
   valA (iaA 5 t43 t45) h fun t47 h =>
   valA (ldA h (some 5) t47) h fun t48 h =>
   newA h [(.int .i64 0), (.int .i64 0), (.int .i64 0), (.int .u64 0), (.bool false)] 72 (fun b => .ptr b 0) fun o12 h =>
   memA (stA h 5 o12 t48) .undef fun _ h =>
   valA (faA 0 o12) h fun t49 h =>
   valA (ldA h none t49) h fun t50 h =>
   valA (binOp .neq .num t50 (.int .i64 1)) h fun t51 h =>
   whenA t51 false (fun K => K t41 h) h fun t53 h =>
   whenA t51 false (fun K => valA (nilcA t53) h K) h fun t54 h =>
   whenA t51 false (fun K => valA (faA 2 t54) h K) h fun t55 h =>
   whenA t51 false (fun K => valA (ldA h none t55) h K) h fun t56 h =>
   whenA t51 false (fun K => valA (lenA false t56) h K) h fun t57 h =>
   whenA t51 false (fun K => valA (binOp .lss .num t57 (.int .i64 150)) h K) h fun t58 h =>
   valA (pickA t51 (.bool true) t58) h fun t59 h =>
   condA t59
    (valA (ldA h (some 5) o12) h fun t62 h =>
    C 74 [t24, t41, t62] h fun t63 h =>
    J_18 h)
    (J_18 h))
    (J h)) [(.int .i64 0)] h)) fun J_19 =>
 valA (lenA false layouts1) h fun t14 h =>
 valA (binOp .gtr .num t14 (.int .i64 600)) h fun t15 h =>
 condA t15
  (valA (sliceOp (.row 2) layouts1 none (some (.int .i64 600)) none) h fun t17 h =>
  J_19 t17 h)
  (J_19 layouts1 h)
theorem she60 (C : CallA) (words0 layouts1 l2 : AV) (h : H) (R : AV → H → Prop) : wpA C an60 (argE [words0, layouts1, l2]) h (outA [(.tmp 6), (.tmp 7)] R) = sh60 C words0 layouts1 l2 h R := by kernel_rfl
/-! bellows/bellowslaw02.place -/
def an61 : ACode :=
 (.seq (.reg 0 [] [] [sD 4 (.mv (.c (.int .i64 0)))])
 (.seq (.seq (.reg 0 [] [] [sD 5 (.mv (.t 1)),
 sD 6 (.bin .geq .num (.t 5) (.c (.int .i64 0))),
 sD 7 (.mv (.t 6)),
 sG 8 7 false (.mv (.t 0)),
 sG 9 7 false (.len false (.t 8)),
 sG 10 7 false (.bin .eql .num (.t 9) (.c (.int .i64 0))),
 sD 11 (.pick (.t 7) (.c (.bool true)) (.t 10))])
 (.cond (.t 11) (.seq (.reg 0 [] [] [sD 12 (.mv (.t 1)),
 sD 4 (.mv (.t 12))])
 .ret)
 .skip))
 (.seq (.reg 0 [] [] [sD 13 (.mv (.t 0)),
 sD 14 (.mv (.t 1)),
 sD 15 (.bin .add .num (.t 14) (.c (.int .i64 1))),
 sD 16 (.un .neg (.t 15)),
 sD 17 (.cv none (.toInt .u64) (.t 16)),
 sD 18 (.mv (.t 0)),
 sD 19 (.len false (.t 18)),
 sD 20 (.cv none (.toInt .u64) (.t 19)),
 sD 21 (.bin .rem .num (.t 17) (.t 20)),
 sD 22 (.cv none (.toInt .i64) (.t 21)),
 sD 23 (.ia none 5 (.t 13) (.t 22)),
 sD 24 (.fa 0 (.t 23)),
 sD 25 (.ld none (.t 24)),
 sD 4 (.mv (.t 25))])
 .ret)))
def fn61 : IFun := ⟨26, [(.tmp 4)], an61.erase⟩
theorem ok61 : okFun Try.prog 61 fn61 = true := by kernel_rfl
theorem oka61 : okA fn61.ntmps fn61.results an61 = true := by kernel_rfl
def sh61 (C : CallA) (l0 a1 : AV) (h : H) (R : AV → H → Prop) : Prop :=
 valA (binOp .geq .num a1 (.int .i64 0)) h fun t6 h =>
 whenA t6 false (fun K => K l0 h) h fun t8 h =>
 whenA t6 false (fun K => valA (lenA false t8) h K) h fun t9 h =>
 whenA t6 false (fun K => valA (binOp .eql .num t9 (.int .i64 0)) h K) h fun t10 h =>
 valA (pickA t6 (.bool true) t10) h fun t11 h =>
 condA t11
  (R a1 h)
  (valA (binOp .add .num a1 (.int .i64 1)) h fun t15 h =>
 valA (unOp .neg t15) h fun t16 h =>
 valA (cvA .u64 t16) h fun t17 h =>
 valA (lenA false l0) h fun t19 h =>
 valA (cvA .u64 t19) h fun t20 h =>
 valA (binOp .rem .num t17 t20) h fun t21 h =>
 valA (cvA .i64 t21) h fun t22 h =>
 valA (iaA 5 l0 t22) h fun t23 h =>
 valA (faA 0 t23) h fun t24 h =>
 valA (ldA h none t24) h fun t25 h =>
 R t25 h)
theorem she61 (C : CallA) (l0 a1 : AV) (h : H) (R : AV → H → Prop) : wpA C an61 (argE [l0, a1]) h (outA [(.tmp 4)] R) = sh61 C l0 a1 h R := by kernel_rfl
/-! (*bellows/heap.Heap).Load -/
def an62 : ACode :=
 (.seq (.reg 0 [] [] [sD 4 (.mv (.c (.int .u64 0)))])
 (.seq (.seq (.reg 0 [] [] [sD 5 (.mv (.t 1)),
 sD 6 (.bin .lss .num (.t 5) (.c (.int .i64 0))),
 sD 7 (.mv (.t 6)),
 sG 8 7 false (.mv (.t 1)),
 sG 9 7 false (.mv (.t 0)),
 sG 10 7 false (.call 58 [(.t 9)]),
 sG 11 7 false (.bin .geq .num (.t 8) (.t 10)),
 sD 12 (.pick (.t 7) (.c (.bool true)) (.t 11))])
 (.cond (.t 12) (.seq (.reg 0 [] [] [sD 4 (.mv (.c (.int .u64 0)))])
 .ret)
 .skip))
 (.seq (.reg 0 [] [] [sD 13 (.mv (.t 0)),
 sD 14 (.nilc (.t 13)),
 sD 15 (.fa 0 (.t 14)),
 sD 16 (.ld none (.t 15)),
 sD 17 (.mv (.t 1)),
 sD 18 (.ia none 1 (.t 16) (.t 17)),
 sD 19 (.ld none (.t 18)),
 sD 4 (.mv (.t 19))])
 .ret)))
def fn62 : IFun := ⟨20, [(.tmp 4)], an62.erase⟩
theorem ok62 : okFun Try.prog 62 fn62 = true := by kernel_rfl
theorem oka62 : okA fn62.ntmps fn62.results an62 = true := by kernel_rfl
def sh62 (C : CallA) (h0 i1 : AV) (h : H) (R : AV → H → Prop) : Prop :=
 valA (binOp .lss .num i1 (.int .i64 0)) h fun t6 h =>
 whenA t6 false (fun K => K i1 h) h fun t8 h =>
 whenA t6 false (fun K => K h0 h) h fun t9 h =>
 whenA t6 false (fun K => C 58 [t9] h K) h fun t10 h =>
 whenA t6 false (fun K => valA (binOp .geq .num t8 t10) h K) h fun t11 h =>
 valA (pickA t6 (.bool true) t11) h fun t12 h =>
 condA t12
  (R (.int .u64 0) h)
  (valA (nilcA h0) h fun t14 h =>
 valA (faA 0 t14) h fun t15 h =>
 valA (ldA h none t15) h fun t16 h =>
 valA (iaA 1 t16 i1) h fun t18 h =>
 valA (ldA h none t18) h fun t19 h =>
 R t19 h)
theorem she62 (C : CallA) (h0 i1 : AV) (h : H) (R : AV → H → Prop) : wpA C an62 (argE [h0, i1]) h (outA [(.tmp 4)] R) = sh62 C h0 i1 h R := by kernel_rfl
/-! (*bellows/heap.Heap).Set -/
def an63 : ACode :=
 (.seq (.reg 0 [] [] [sD 8 (.mv (.c (.int .i64 0)))])
 (.seq (.seq (.reg 0 [] [] [sD 9 (.mv (.t 0)),
 sD 10 (.mv (.t 1)),
 sD 11 (.mv (.t 2)),
 sD 12 (.call 101 [(.t 9), (.t 10), (.t 11), (.c (.bool false))]),
 sD 13 (.un .not (.t 12)),
 sD 14 (.mv (.t 13)),
 sG 15 14 false (.mv (.t 0)),
 sG 16 14 false (.mv (.t 3)),
 sG 17 14 false (.call 68 [(.t 15), (.t 16)]),
 sG 18 14 false (.un .not (.t 17)),
 sD 19 (.pick (.t 14) (.c (.bool true)) (.t 18))])
 (.cond (.t 19) (.seq (.reg 0 [] [] [sD 8 (.mv (.c (.int .i64 1)))])
 .ret)
 .skip))
 (.seq (.reg 0 [] [] [sD 20 (.mv (.t 0)),
 sD 21 (.nilc (.t 20)),
 sD 22 (.fa 0 (.t 21)),
 sD 23 (.ld none (.t 22)),
 sD 24 (.mv (.t 1)),
 sD 25 (.bin .add .num (.t 24) (.c (.int .i64 1))),
 sD 26 (.mv (.t 2)),
 sD 27 (.bin .add .num (.t 25) (.t 26)),
 sD 28 (.mv (.t 3)),
 sD 29 (.ia none 1 (.t 23) (.t 27)),
 sN (.st 1 (.t 29) (.t 28))])
 (.seq (.reg 0 [] [] [sD 8 (.mv (.c (.int .i64 0)))])
 .ret))))
def fn63 : IFun := ⟨30, [(.tmp 8)], an63.erase⟩
theorem ok63 : okFun Try.prog 63 fn63 = true := by kernel_rfl
theorem oka63 : okA fn63.ntmps fn63.results an63 = true := by kernel_rfl
def sh63 (C : CallA) (h0 at1 i2 w3 : AV) (h : H) (R : AV → H → Prop) : Prop :=
 C 101 [h0, at1, i2, (.bool false)] h fun t12 h =>
 valA (unOp .not t12) h fun t13 h =>
 whenA t13 false (fun K => K h0 h) h fun t15 h =>
 whenA t13 false (fun K => K w3 h) h fun t16 h =>
 whenA t13 false (fun K => C 68 [t15, t16] h K) h fun t17 h =>
 whenA t13 false (fun K => valA (unOp .not t17) h K) h fun t18 h =>
 valA (pickA t13 (.bool true) t18) h fun t19 h =>
 condA t19
  (R (.int .i64 1) h)
  (valA (nilcA h0) h fun t21 h =>
 valA (faA 0 t21) h fun t22 h =>
 valA (ldA h none t22) h fun t23 h =>
 valA (binOp .add .num at1 (.int .i64 1)) h fun t25 h =>
 valA (binOp .add .num t25 i2) h fun t27 h =>
 valA (iaA 1 t23 t27) h fun t29 h =>
 memA (stA h 1 t29 w3) .undef fun _ h =>
 R (.int .i64 0) h)
theorem she63 (C : CallA) (h0 at1 i2 w3 : AV) (h : H) (R : AV → H → Prop) : wpA C an63 (argE [h0, at1, i2, w3]) h (outA [(.tmp 8)] R) = sh63 C h0 at1 i2 w3 h R := by kernel_rfl
/-! (*bellows/heap.Heap).SetByte -/
def an65 : ACode :=
 (.seq (.reg 0 [] [] [sD 8 (.mv (.c (.int .i64 0)))])
 (.seq (.seq (.reg 0 [] [] [sD 11 (.mv (.t 0)),
 sD 12 (.mv (.t 1)),
 sD 13 (.mv (.t 2)),
 sD 14 (.call 101 [(.t 11), (.t 12), (.t 13), (.c (.bool true))]),
 sD 15 (.un .not (.t 14))])
 (.cond (.t 15) (.seq (.reg 0 [] [] [sD 8 (.mv (.c (.int .i64 1)))])
 .ret)
 .skip))
 (.seq (.reg 0 [] [] [sD 16 (.mv (.t 0)),
 sD 17 (.nilc (.t 16)),
 sD 18 (.fa 0 (.t 17)),
 sD 19 (.ld none (.t 18)),
 sD 20 (.mv (.t 1)),
 sD 21 (.bin .add .num (.t 20) (.c (.int .i64 1))),
 sD 22 (.mv (.t 2)),
 sD 23 (.bin .quo .num (.t 22) (.c (.int .i64 8))),
 sD 24 (.bin .add .num (.t 21) (.t 23)),
 sD 25 (.ia none 1 (.t 19) (.t 24)),
 sD 26 (.mv (.t 2)),
 sD 27 (.bin .rem .num (.t 26) (.c (.int .i64 8))),
 sD 28 (.bin .mul .num (.t 27) (.c (.int .i64 8))),
 sD 9 (.mv (.t 25)),
 sD 10 (.mv (.t 28))])
 (.seq (.reg 0 [0, 1, 2, 3, 4, 5, 6, 7, 8, 9, 10, 11, 12, 13] [[], [], [1], [1, 2], [], [4], [4, 5, 2, 1, 3], [], [7], [], [9, 7, 8], [8, 7, 9, 10, 3, 1, 2, 5, 4, 6], [11, 10, 9, 8, 7, 6, 5, 4, 3, 2, 1, 0], [0, 1, 2, 3, 4, 5, 6, 7, 8, 9, 10, 11, 12]] [sD 29 (.mv (.t 9)),
 sD 30 (.mv (.t 9)),
 sD 31 (.nilc (.t 30)),
 sD 32 (.ld none (.t 31)),
 sD 33 (.mv (.t 10)),
 sD 34 (.bin .shl .num (.c (.int .u64 255)) (.t 33)),
 sD 35 (.bin .andNot .num (.t 32) (.t 34)),
 sD 36 (.mv (.t 3)),
 sD 37 (.cv none (.toInt .u64) (.t 36)),
 sD 38 (.mv (.t 10)),
 sD 39 (.bin .shl .num (.t 37) (.t 38)),
 sD 40 (.bin .or .num (.t 35) (.t 39)),
 sD 41 (.nilc (.t 29)),
 sN (.st 1 (.t 41) (.t 40))])
 (.seq (.reg 0 [] [] [sD 8 (.mv (.c (.int .i64 0)))])
 .ret)))))
def fn65 : IFun := ⟨42, [(.tmp 8)], an65.erase⟩
theorem ok65 : okFun Try.prog 65 fn65 = true := by kernel_rfl
theorem oka65 : okA fn65.ntmps fn65.results an65 = true := by kernel_rfl
def sh65 (C : CallA) (h0 at1 i2 c3 : AV) (h : H) (R : AV → H → Prop) : Prop :=
 C 101 [h0, at1, i2, (.bool true)] h fun t14 h =>
 valA (unOp .not t14) h fun t15 h =>
 condA t15
  (R (.int .i64 1) h)
  (valA (nilcA h0) h fun t17 h =>
 valA (faA 0 t17) h fun t18 h =>
 valA (ldA h none t18) h fun t19 h =>
 valA (binOp .add .num at1 (.int .i64 1)) h fun t21 h =>
 valA (binOp .quo .num i2 (.int .i64 8)) h fun t23 h =>
 valA (binOp .add .num t21 t23) h fun t24 h =>
 valA (iaA 1 t19 t24) h fun t25 h =>
 valA (binOp .rem .num i2 (.int .i64 8)) h fun t27 h =>
 valA (binOp .mul .num t27 (.int .i64 8)) h fun t28 h =>
 valA (nilcA t25) h fun t31 h =>
 valA (ldA h none t31) h fun t32 h =>
 valA (binOp .shl .num (.int .u64 255) t28) h fun t34 h =>
 valA (binOp .andNot .num t32 t34) h fun t35 h =>
 valA (cvA .u64 c3) h fun t37 h =>
 valA (binOp .shl .num t37 t28) h fun t39 h =>
 valA (binOp .or .num t35 t39) h fun t40 h =>
 valA (nilcA t25) h fun t41 h =>
 memA (stA h 1 t41 t40) .undef fun _ h =>
 R (.int .i64 0) h)
theorem she65 (C : CallA) (h0 at1 i2 c3 : AV) (h : H) (R : AV → H → Prop) : wpA C an65 (argE [h0, at1, i2, c3]) h (outA [(.tmp 8)] R) = sh65 C h0 at1 i2 c3 h R := by kernel_rfl
/-! (*bellows/bellowsref02.Heap).Find -/
def an67 : ACode :=
 (.seq (.reg 0 [] [] [sD 4 (.mv (.c (.int .i64 0)))])
 (.seq (.seq (.reg 0 [] [] [sD 7 (.mv (.t 0)),
 sD 8 (.nilc (.t 7)),
 sD 9 (.fa 2 (.t 8)),
 sD 10 (.ld none (.t 9)),
 sD 11 (.len false (.t 10)),
 sD 12 (.mv (.c (.int .i64 0)))])
 (.block 0 (.loop [12] 7170 (.seq (.reg 0 [] [] [sD 13 (.bin .lss .num (.t 12) (.t 11))])
 (.seq (.cond (.t 13) .skip
 (.exit 0))
 (.seq (.block 1 (.seq (.reg 0 [] [] [sD 14 (.mv (.t 12)),
 sD 15 (.ia none 5 (.t 10) (.t 12)),
 sD 16 (.ld (some 5) (.t 15)),
 sD 6 (.al none 89 [(.int .i64 0), (.int .i64 0), (.int .i64 0), .nilsl, .nilsl]),
 sD 5 (.mv (.t 14)),
 sN (.st 5 (.t 6) (.t 16))])
 (.seq (.reg 0 [] [] [sD 17 (.fa 0 (.t 6)),
 sD 18 (.ld none (.t 17)),
 sD 19 (.mv (.t 1)),
 sD 20 (.bin .eql .num (.t 18) (.t 19))])
 (.cond (.t 20) (.seq (.reg 0 [] [] [sD 21 (.mv (.t 5)),
 sD 4 (.mv (.t 21))])
 .ret)
 .skip))))
 (.reg 0 [] [] [sD 22 (.bin .add .num (.t 12) (.c (.int .i64 1))),
 sD 12 (.mv (.t 22))])))))))
 (.seq (.reg 0 [] [] [sD 4 (.mv (.c (.int .i64 (-1))))])
 .ret)))
def fn67 : IFun := ⟨23, [(.tmp 4)], an67.erase⟩
theorem ok67 : okFun Try.prog 67 fn67 = true := by kernel_rfl
theorem oka67 : okA fn67.ntmps fn67.results an67 = true := by kernel_rfl
def sh67 (C : CallA) (h0 at1 : AV) (h : H) (R : AV → H → Prop) : Prop :=
 joinA (fun (h : H) =>
  R (.int .i64 (-1)) h) fun J =>
 valA (nilcA h0) h fun t8 h =>
 valA (faA 2 t8) h fun t9 h =>
 valA (ldA h none t9) h fun t10 h =>
 valA (lenA false t10) h fun t11 h =>
 loopA (fun N l h => argA l 0 fun t12 => 
  valA (binOp .lss .num t12 t11) h fun t13 h =>
  condA t13
   (valA (iaA 5 t10 t12) h fun t15 h =>
  valA (ldA h (some 5) t15) h fun t16 h =>
  newA h [(.int .i64 0), (.int .i64 0), (.int .i64 0), .nilsl, .nilsl] 89 (fun b => .ptr b 0) fun o6 h =>
  memA (stA h 5 o6 t16) .undef fun _ h =>
  valA (faA 0 o6) h fun t17 h =>
  valA (ldA h none t17) h fun t18 h =>
  valA (binOp .eql .num t18 at1) h fun t20 h =>
  condA t20
   (R t12 h)
   (valA (binOp .add .num t12 (.int .i64 1)) h fun t22 h =>
  N [t22] h))
   (J h)) [(.int .i64 0)] h
theorem she67 (C : CallA) (h0 at1 : AV) (h : H) (R : AV → H → Prop) : wpA C an67 (argE [h0, at1]) h (outA [(.tmp 4)] R) = sh67 C h0 at1 h R := by kernel_rfl
/-! (*bellows/heap.Heap).Fits -/
def an68 : ACode :=
 (.seq (.reg 0 [] [] [sD 4 (.mv (.c (.bool false)))])
 (.seq (.reg 0 [] [] [sD 5 (.mv (.t 0)),
 sD 6 (.bin .neq .ptr (.t 5) (.c .nilp)),
 sD 7 (.mv (.t 6)),
 sG 8 7 true (.mv (.t 1)),
 sG 9 7 true (.call 48 [(.t 8)]),
 sG 10 7 true (.mv (.t 9)),
 sG 11 10 false (.mv (.t 0)),
 sG 12 10 false (.mv (.t 1)),
 sG 13 10 false (.call 85 [(.t 12)]),
 sG 14 10 false (.call 56 [(.t 11), (.t 13)]),
 sG 15 7 true (.pick (.t 10) (.c (.bool true)) (.t 14)),
 sD 16 (.pick (.t 7) (.t 15) (.c (.bool false))),
 sD 4 (.mv (.t 16))])
 .ret))
def fn68 : IFun := ⟨17, [(.tmp 4)], an68.erase⟩
theorem ok68 : okFun Try.prog 68 fn68 = true := by kernel_rfl
theorem oka68 : okA fn68.ntmps fn68.results an68 = true := by kernel_rfl
def sh68 (C : CallA) (h0 w1 : AV) (h : H) (R : AV → H → Prop) : Prop :=
 valA (binOp .neq .ptr h0 .nilp) h fun t6 h =>
 whenA t6 true (fun K => K w1 h) h fun t8 h =>
 whenA t6 true (fun K => C 48 [t8] h K) h fun t9 h =>
 whenA t6 true (fun K => K t9 h) h fun t10 h =>
 whenA t10 false (fun K => K h0 h) h fun t11 h =>
 whenA t10 false (fun K => K w1 h) h fun t12 h =>
 whenA t10 false (fun K => C 85 [t12] h K) h fun t13 h =>
 whenA t10 false (fun K => C 56 [t11, t13] h K) h fun t14 h =>
 whenA t6 true (fun K => valA (pickA t10 (.bool true) t14) h K) h fun t15 h =>
 valA (pickA t6 t15 (.bool false)) h fun t16 h =>
 R t16 h
theorem she68 (C : CallA) (h0 w1 : AV) (h : H) (R : AV → H → Prop) : wpA C an68 (argE [h0, w1]) h (outA [(.tmp 4)] R) = sh68 C h0 w1 h R := by kernel_rfl
/-! (*bellows/bellowsref02.Heap).Fits -/
def an69 : ACode :=
 (.seq (.reg 0 [] [] [sD 4 (.mv (.c (.bool false)))])
 (.seq (.reg 0 [] [] [sD 5 (.mv (.t 1)),
 sD 6 (.bin .rem .num (.t 5) (.c (.int .u64 2))),
 sD 7 (.bin .eql .num (.t 6) (.c (.int .u64 1))),
 sD 8 (.mv (.t 7)),
 sG 9 8 false (.mv (.t 0)),
 sG 10 8 false (.mv (.t 1)),
 sG 11 8 false (.bin .quo .num (.t 10) (.c (.int .u64 2))),
 sG 12 8 false (.cv none (.toInt .i64) (.t 11)),
 sG 13 8 false (.call 67 [(.t 9), (.t 12)]),
 sG 14 8 false (.bin .geq .num (.t 13) (.c (.int .i64 0))),
 sD 15 (.pick (.t 8) (.c (.bool true)) (.t 14)),
 sD 4 (.mv (.t 15))])
 .ret))
def fn69 : IFun := ⟨16, [(.tmp 4)], an69.erase⟩
theorem ok69 : okFun Try.prog 69 fn69 = true := by kernel_rfl
theorem oka69 : okA fn69.ntmps fn69.results an69 = true := by kernel_rfl
def sh69 (C : CallA) (h0 w1 : AV) (h : H) (R : AV → H → Prop) : Prop :=
 valA (binOp .rem .num w1 (.int .u64 2)) h fun t6 h =>
 valA (binOp .eql .num t6 (.int .u64 1)) h fun t7 h =>
 whenA t7 false (fun K => K h0 h) h fun t9 h =>
 whenA t7 false (fun K => K w1 h) h fun t10 h =>
 whenA t7 false (fun K => valA (binOp .quo .num t10 (.int .u64 2)) h K) h fun t11 h =>
 whenA t7 false (fun K => valA (cvA .i64 t11) h K) h fun t12 h =>
 whenA t7 false (fun K => C 67 [t9, t12] h K) h fun t13 h =>
 whenA t7 false (fun K => valA (binOp .geq .num t13 (.int .i64 0)) h K) h fun t14 h =>
 valA (pickA t7 (.bool true) t14) h fun t15 h =>
 R t15 h
theorem she69 (C : CallA) (h0 w1 : AV) (h : H) (R : AV → H → Prop) : wpA C an69 (argE [h0, w1]) h (outA [(.tmp 4)] R) = sh69 C h0 w1 h R := by kernel_rfl
/-! (*bellows/heap.Heap).Len -/
def an72 : ACode :=
 (.seq (.reg 0 [] [] [sD 4 (.mv (.c (.int .i64 0))),
 sD 5 (.mv (.c (.int .i64 0)))])
 (.seq (.seq (.reg 0 [] [] [sD 6 (.mv (.t 0)),
 sD 7 (.mv (.t 1)),
 sD 8 (.call 56 [(.t 6), (.t 7)]),
 sD 9 (.un .not (.t 8))])
 (.cond (.t 9) (.seq (.reg 0 [] [] [sD 4 (.mv (.c (.int .i64 0))),
 sD 5 (.mv (.c (.int .i64 1)))])
 .ret)
 .skip))
 (.seq (.reg 0 [] [] [sD 10 (.mv (.t 0)),
 sD 11 (.nilc (.t 10)),
 sD 12 (.fa 0 (.t 11)),
 sD 13 (.ld none (.t 12)),
 sD 14 (.mv (.t 1)),
 sD 15 (.ia none 1 (.t 13) (.t 14)),
 sD 16 (.ld none (.t 15)),
 sD 17 (.call 35 [(.t 16)]),
 sD 4 (.mv (.t 17)),
 sD 5 (.mv (.c (.int .i64 0)))])
 .ret)))
def fn72 : IFun := ⟨18, [(.tmp 4), (.tmp 5)], an72.erase⟩
theorem ok72 : okFun Try.prog 72 fn72 = true := by kernel_rfl
theorem oka72 : okA fn72.ntmps fn72.results an72 = true := by kernel_rfl
def sh72 (C : CallA) (h0 at1 : AV) (h : H) (R : AV → H → Prop) : Prop :=
 C 56 [h0, at1] h fun t8 h =>
 valA (unOp .not t8) h fun t9 h =>
 condA t9
  (R (.tup [(.int .i64 0), (.int .i64 1)]) h)
  (valA (nilcA h0) h fun t11 h =>
 valA (faA 0 t11) h fun t12 h =>
 valA (ldA h none t12) h fun t13 h =>
 valA (iaA 1 t13 at1) h fun t15 h =>
 valA (ldA h none t15) h fun t16 h =>
 C 35 [t16] h fun t17 h =>
 R (.tup [t17, (.int .i64 0)]) h)
theorem she72 (C : CallA) (h0 at1 : AV) (h : H) (R : AV → H → Prop) : wpA C an72 (argE [h0, at1]) h (outA [(.tmp 4), (.tmp 5)] R) = sh72 C h0 at1 h R := by kernel_rfl
/-! bellows/bellowslaw02.Few -/
def an73 : ACode :=
 (.seq (.reg 0 [] [] [sD 2 (.mv (.c .nilsl))])
 (.seq (.seq (.reg 0 [] [] [sD 3 (.mv (.t 0)),
 sD 4 (.len false (.t 3)),
 sD 5 (.bin .gtr .num (.t 4) (.c (.int .i64 200)))])
 (.cond (.t 5) (.seq (.reg 0 [] [] [sD 6 (.mv (.t 0)),
 sD 7 (.sli (.row 5) (.t 6) none (some (.c (.int .i64 200))) none),
 sD 2 (.mv (.t 7))])
 .ret)
 .skip))
 (.seq (.reg 0 [] [] [sD 8 (.mv (.t 0)),
 sD 2 (.mv (.t 8))])
 .ret)))
def fn73 : IFun := ⟨9, [(.tmp 2)], an73.erase⟩
theorem ok73 : okFun Try.prog 73 fn73 = true := by kernel_rfl
theorem oka73 : okA fn73.ntmps fn73.results an73 = true := by kernel_rfl
def sh73 (C : CallA) (l0 : AV) (h : H) (R : AV → H → Prop) : Prop :=
 valA (lenA false l0) h fun t4 h =>
 valA (binOp .gtr .num t4 (.int .i64 200)) h fun t5 h =>
 condA t5
  (valA (sliceOp (.row 5) l0 none (some (.int .i64 200)) none) h fun t7 h =>
  R t7 h)
  (R l0 h)
theorem she73 (C : CallA) (l0 : AV) (h : H) (R : AV → H → Prop) : wpA C an73 (argE [l0]) h (outA [(.tmp 2)] R) = sh73 C l0 h R := by kernel_rfl
/-! bellows/bellowslaw02.Does -/
def an74 : ACode :=
 (.seq (.reg 0 [] [] [sD 5 (.bx none 72 (.t 2)),
 sD 6 (.mv (.c (.bool false)))])
 (.seq (.reg 0 [] [] [sD 13 (.fa 3 (.t 5)),
 sD 14 (.ld none (.t 13)),
 sD 7 (.mv (.t 14))])
 (.seq (.seq (.reg 0 [] [] [sD 15 (.fa 4 (.t 5)),
 sD 16 (.ld none (.t 15)),
 sD 17 (.mv (.t 16)),
 sG 18 17 true (.mv (.t 1)),
 sG 19 17 true (.nilc (.t 18)),
 sG 20 17 true (.fa 2 (.t 19)),
 sG 21 17 true (.ld none (.t 20)),
 sG 22 17 true (.len false (.t 21)),
 sG 23 17 true (.bin .gtr .num (.t 22) (.c (.int .i64 0))),
 sD 24 (.pick (.t 17) (.t 23) (.c (.bool false)))])
 (.cond (.t 24) (.reg 0 [0, 1, 2, 3, 4, 5, 6, 7, 8, 9, 10, 11, 12, 13, 14, 15, 16, 17, 18, 19] [[], [0], [0, 1], [1, 0, 2], [], [4], [], [6], [6, 7], [7, 6, 8], [8, 6, 7, 9], [9, 7, 6, 8, 10], [10, 8, 6, 7, 9, 11, 4, 5], [5, 4, 11, 9, 7, 6, 8, 10, 12], [12, 10, 8, 6, 7, 9, 11, 4, 5, 13, 2, 0, 1, 3], [3, 1, 0, 2, 13, 5, 4, 11, 9, 7, 6, 8, 10, 12, 14], [14, 12, 10, 8, 6, 7, 9, 11, 4, 5, 13, 2, 0, 1, 3, 15], [15, 3, 1, 0, 2, 13, 5, 4, 11, 9, 7, 6, 8, 10, 12, 14, 16], [16, 14, 12, 10, 8, 6, 7, 9, 11, 4, 5, 13, 2, 0, 1, 3, 15, 17], [17, 15, 3, 1, 0, 2, 13, 5, 4, 11, 9, 7, 6, 8, 10, 12, 14, 16, 18]] [sD 25 (.mv (.t 1)),
 sD 26 (.nilc (.t 25)),
 sD 27 (.fa 2 (.t 26)),
 sD 28 (.ld none (.t 27)),
 sD 29 (.fa 3 (.t 5)),
 sD 30 (.ld none (.t 29)),
 sD 31 (.mv (.t 1)),
 sD 32 (.nilc (.t 31)),
 sD 33 (.fa 2 (.t 32)),
 sD 34 (.ld none (.t 33)),
 sD 35 (.len false (.t 34)),
 sD 36 (.cv none (.toInt .u64) (.t 35)),
 sD 37 (.bin .rem .num (.t 30) (.t 36)),
 sD 38 (.cv none (.toInt .i64) (.t 37)),
 sD 39 (.ia none 5 (.t 28) (.t 38)),
 sD 40 (.fa 0 (.t 39)),
 sD 41 (.ld none (.t 40)),
 sD 42 (.cv none (.toInt .u64) (.t 41)),
 sD 43 (.bin .mul .num (.t 42) (.c (.int .u64 2))),
 sD 7 (.mv (.t 43))])
 .skip))
 (.seq (.reg 0 [0, 1, 2, 3, 4, 5, 6, 7] [[], [0], [0, 1], [1, 0, 2], [], [4], [4, 5, 2, 0, 1, 3], [3, 1, 0, 2, 5, 4, 6]] [sD 44 (.mv (.t 1)),
 sD 45 (.nilc (.t 44)),
 sD 46 (.fa 2 (.t 45)),
 sD 47 (.ld none (.t 46)),
 sD 48 (.fa 1 (.t 5)),
 sD 49 (.ld none (.t 48)),
 sD 50 (.call 61 [(.t 47), (.t 49)]),
 sD 8 (.mv (.t 50))])
 (.seq (.seq (.reg 0 [] [] [sD 51 (.fa 0 (.t 5)),
 sD 52 (.ld none (.t 51))])
 (.block 0 (.seq (.reg 0 [] [] [sD 54 (.bin .eql .num (.t 52) (.c (.int .i64 1))),
 sD 53 (.mv (.t 54))])
 (.cond (.t 53) (.seq (.reg 0 [] [] [sD 56 (.mv (.t 0)),
 sD 57 (.fa 1 (.t 5)),
 sD 58 (.ld none (.t 57)),
 sD 59 (.fa 2 (.t 5)),
 sD 60 (.ld none (.t 59)),
 sD 61 (.call 55 [(.t 56), (.t 58), (.t 60)]),
 sD 55 (.mv (.t 61)),
 sD 62 (.ext (.t 55) 0),
 sD 63 (.ext (.t 55) 1),
 sD 9 (.mv (.t 62)),
 sD 10 (.mv (.t 63))])
 (.seq (.reg 0 [] [] [sD 65 (.mv (.t 1)),
 sD 66 (.fa 1 (.t 5)),
 sD 67 (.ld none (.t 66)),
 sD 68 (.fa 2 (.t 5)),
 sD 69 (.ld none (.t 68)),
 sD 70 (.call 102 [(.t 65), (.t 67), (.t 69)]),
 sD 64 (.mv (.t 70)),
 sD 71 (.ext (.t 64) 0),
 sD 72 (.ext (.t 64) 1),
 sD 11 (.mv (.t 71)),
 sD 12 (.mv (.t 72))])
 (.seq (.reg 0 [] [] [sD 73 (.mv (.t 9)),
 sD 74 (.mv (.t 11)),
 sD 75 (.bin .eql .num (.t 73) (.t 74)),
 sD 76 (.mv (.t 75)),
 sG 77 76 true (.mv (.t 10)),
 sG 78 76 true (.mv (.t 12)),
 sG 79 76 true (.bin .eql .num (.t 77) (.t 78)),
 sD 80 (.pick (.t 76) (.t 79) (.c (.bool false))),
 sD 6 (.mv (.t 80))])
 .ret)))
 (.seq (.reg 0 [] [] [sD 82 (.bin .eql .num (.t 52) (.c (.int .i64 2))),
 sD 81 (.mv (.t 82))])
 (.cond (.t 81) (.seq (.reg 0 [0, 1, 2, 3, 4, 6, 7, 8, 9, 5, 10, 11, 12, 13] [[], [], [], [2], [], [4, 2, 3, 1, 0], [], [], [], [8], [], [0, 1, 3, 2, 4, 5, 10, 8, 9, 7, 6], [6, 7, 9, 8, 10, 11, 0, 1, 3, 2, 4, 5], [5, 4, 2, 3, 1, 0, 11, 10, 8, 9, 7, 6, 12]] [sD 83 (.mv (.t 0)),
 sD 84 (.mv (.t 8)),
 sD 85 (.fa 2 (.t 5)),
 sD 86 (.ld none (.t 85)),
 sD 87 (.mv (.t 7)),
 sD 89 (.mv (.t 1)),
 sD 90 (.mv (.t 8)),
 sD 91 (.fa 2 (.t 5)),
 sD 92 (.ld none (.t 91)),
 ⟨(some 88), none, (.call 63 [(.t 83), (.t 84), (.t 86), (.t 87)]), [⟨none, (.ld none (.t 91)), 92⟩]⟩,
 sD 93 (.mv (.t 7)),
 sD 94 (.call 103 [(.t 89), (.t 90), (.t 92), (.t 93)]),
 sD 95 (.bin .eql .num (.t 88) (.t 94)),
 sD 6 (.mv (.t 95))])
 .ret)
 (.seq (.reg 0 [] [] [sD 97 (.bin .eql .num (.t 52) (.c (.int .i64 3))),
 sD 96 (.mv (.t 97))])
 (.cond (.t 96) (.seq (.reg 0 [0, 1, 2, 3, 4, 5, 7, 8, 9, 10, 6, 11, 12, 13, 14, 15] [[], [], [], [2], [], [4], [4, 5, 2, 3, 1, 0], [], [], [], [9], [], [11], [0, 1, 3, 2, 5, 4, 6, 11, 12, 9, 10, 8, 7], [7, 8, 10, 9, 12, 11, 13, 0, 1, 3, 2, 5, 4, 6], [6, 4, 5, 2, 3, 1, 0, 13, 11, 12, 9, 10, 8, 7, 14]] [sD 98 (.mv (.t 0)),
 sD 99 (.mv (.t 8)),
 sD 100 (.fa 2 (.t 5)),
 sD 101 (.ld none (.t 100)),
 sD 102 (.mv (.t 7)),
 sD 103 (.cv none (.toInt .u8) (.t 102)),
 sD 105 (.mv (.t 1)),
 sD 106 (.mv (.t 8)),
 sD 107 (.fa 2 (.t 5)),
 sD 108 (.ld none (.t 107)),
 ⟨(some 104), none, (.call 65 [(.t 98), (.t 99), (.t 101), (.t 103)]), [⟨none, (.ld none (.t 107)), 108⟩]⟩,
 sD 109 (.mv (.t 7)),
 sD 110 (.cv none (.toInt .u8) (.t 109)),
 sD 111 (.call 104 [(.t 105), (.t 106), (.t 108), (.t 110)]),
 sD 112 (.bin .eql .num (.t 104) (.t 111)),
 sD 6 (.mv (.t 112))])
 .ret)
 .skip))))))))
 (.seq (.reg 0 [] [] [sD 6 (.mv (.c (.bool true)))])
 .ret))))))
def fn74 : IFun := ⟨113, [(.tmp 6)], an74.erase⟩
theorem ok74 : okFun Try.prog 74 fn74 = true := by kernel_rfl
theorem oka74 : okA fn74.ntmps fn74.results an74 = true := by kernel_rfl
def sh74 (C : CallA) (h0 x1 o2 : AV) (h : H) (R : AV → H → Prop) : Prop :=
 newA h (AV.cells o2) 72 (fun b => .ptr b 0) fun o5 h =>
 valA (faA 3 o5) h fun t13 h =>
 valA (ldA h none t13) h fun t14 h =>
 joinA (fun (w7' : AV) (h : H) =>
  valA (nilcA x1) h fun t45 h =>
  valA (faA 2 t45) h fun t46 h =>
  valA (ldA h none t46) h fun t47 h =>
  valA (faA 1 o5) h fun t48 h =>
  valA (ldA h none t48) h fun t49 h =>
  C 61 [t47, t49] h fun t50 h =>
  valA (faA 0 o5) h fun t51 h =>
  valA (ldA h none t51) h fun t52 h =>
  valA (binOp .eql .num t52 (.int .i64 1)) h fun t54 h =>
  condA t54
   (valA (faA 1 o5) h fun t57 h =>
   valA (ldA h none t57) h fun t58 h =>
   valA (faA 2 o5) h fun t59 h =>
   valA (ldA h none t59) h fun t60 h =>
   C 55 [h0, t58, t60] h fun t61 h =>
   valA (extA t61 0) h fun t62 h =>
   valA (extA t61 1) h fun t63 h =>
   valA (faA 1 o5) h fun t66 h =>
   valA (ldA h none t66) h fun t67 h =>
   valA (faA 2 o5) h fun t68 h =>
   valA (ldA h none t68) h fun t69 h =>
   C 102 [x1, t67, t69] h fun t70 h =>
   valA (extA t70 0) h fun t71 h =>
   valA (extA t70 1) h fun t72 h =>
   valA (binOp .eql .num t62 t71) h fun t75 h =>
   whenA t75 true (fun K => K t63 h) h fun t77 h =>
   whenA t75 true (fun K => K t72 h) h fun t78 h =>
   whenA t75 true (fun K => valA (binOp .eql .num t77 t78) h K) h fun t79 h =>
   valA (pickA t75 t79 (.bool false)) h fun t80 h =>
   R t80 h)
   (valA (binOp .eql .num t52 (.int .i64 2)) h fun t82 h =>
   condA t82
    (valA (faA 2 o5) h fun t85 h =>
    valA (ldA h none t85) h fun t86 h =>
    valA (faA 2 o5) h fun t91 h =>
    valA (ldA h none t91) h fun t92 h =>
    C 63 [h0, t50, t86, w7'] h fun t88 h =>
    againK (valA (ldA h none t91) h (fun v _ => v = t92)) <|
    C 103 [x1, t50, t92, w7'] h fun t94 h =>
    valA (binOp .eql .num t88 t94) h fun t95 h =>
    R t95 h)
    (valA (binOp .eql .num t52 (.int .i64 3)) h fun t97 h =>
    condA t97
     (valA (faA 2 o5) h fun t100 h =>
     valA (ldA h none t100) h fun t101 h =>
     valA (cvA .u8 w7') h fun t103 h =>
     valA (faA 2 o5) h fun t107 h =>
     valA (ldA h none t107) h fun t108 h =>
     C 65 [h0, t50, t101, t103] h fun t104 h =>
     againK (valA (ldA h none t107) h (fun v _ => v = t108)) <|
     valA (cvA .u8 w7') h fun t110 h =>
     C 104 [x1, t50, t108, t110] h fun t111 h =>
     valA (binOp .eql .num t104 t111) h fun t112 h =>
     R t112 h)
     (R (.bool true) h)))) fun J =>
 valA (faA 4 o5) h fun t15 h =>
 valA (ldA h none t15) h fun t16 h =>
 whenA t16 true (fun K => K x1 h) h fun t18 h =>
 whenA t16 true (fun K => valA (nilcA t18) h K) h fun t19 h =>
 whenA t16 true (fun K => valA (faA 2 t19) h K) h fun t20 h =>
 whenA t16 true (fun K => valA (ldA h none t20) h K) h fun t21 h =>
 whenA t16 true (fun K => valA (lenA false t21) h K) h fun t22 h =>
 whenA t16 true (fun K => valA (binOp .gtr .num t22 (.int .i64 0)) h K) h fun t23 h =>
 valA (pickA t16 t23 (.bool false)) h fun t24 h =>
 condA t24
  (valA (nilcA x1) h fun t26 h =>
  valA (faA 2 t26) h fun t27 h =>
  valA (ldA h none t27) h fun t28 h =>
  valA (faA 3 o5) h fun t29 h =>
  valA (ldA h none t29) h fun t30 h =>
  valA (nilcA x1) h fun t32 h =>
  valA (faA 2 t32) h fun t33 h =>
  valA (ldA h none t33) h fun t34 h =>
  valA (lenA false t34) h fun t35 h =>
  valA (cvA .u64 t35) h fun t36 h =>
  valA (binOp .rem .num t30 t36) h fun t37 h =>
  valA (cvA .i64 t37) h fun t38 h =>
  valA (iaA 5 t28 t38) h fun t39 h =>
  valA (faA 0 t39) h fun t40 h =>
  valA (ldA h none t40) h fun t41 h =>
  valA (cvA .u64 t41) h fun t42 h =>
  valA (binOp .mul .num t42 (.int .u64 2)) h fun t43 h =>
  J t43 h)
  (J t14 h)
theorem she74 (C : CallA) (h0 x1 o2 : AV) (h : H) (R : AV → H → Prop) : wpA C an74 (argE [h0, x1, o2]) h (outA [(.tmp 6)] R) = sh74 C h0 x1 o2 h R := by kernel_rfl
/-! (*bellows/bellowsref02.Heap).Top -/
def an75 : ACode :=
 (.seq (.reg 0 [] [] [sD 2 (.mv (.c (.int .i64 0)))])
 (.seq (.reg 0 [] [] [sD 3 (.mv (.c (.int .i64 0)))])
 (.seq (.seq (.reg 0 [] [] [sD 8 (.mv (.t 0)),
 sD 9 (.nilc (.t 8)),
 sD 10 (.fa 2 (.t 9)),
 sD 11 (.ld none (.t 10)),
 sD 12 (.len false (.t 11)),
 sD 13 (.mv (.c (.int .i64 0)))])
 (.block 0 (.loop [3, 13] 14345 (.seq (.reg 0 [] [] [sD 14 (.bin .lss .num (.t 13) (.t 12))])
 (.seq (.cond (.t 14) .skip
 (.exit 0))
 (.seq (.block 1 (.seq (.reg 0 [] [] [sD 15 (.ia none 5 (.t 11) (.t 13)),
 sD 16 (.ld (some 5) (.t 15)),
 sD 5 (.al none 89 [(.int .i64 0), (.int .i64 0), (.int .i64 0), .nilsl, .nilsl]),
 sN (.st 5 (.t 5) (.t 16))])
 (.seq (.reg 0 [] [] [sD 18 (.mv (.t 0)),
 sD 19 (.fa 1 (.t 5)),
 sD 20 (.ld none (.t 19)),
 sD 21 (.fa 2 (.t 5)),
 sD 22 (.ld none (.t 21)),
 sD 23 (.call 53 [(.t 18), (.t 20), (.t 22)]),
 sD 17 (.mv (.t 23)),
 sD 24 (.ext (.t 17) 0),
 sD 25 (.ext (.t 17) 1),
 sD 6 (.mv (.t 24)),
 sD 7 (.mv (.t 25))])
 (.reg 0 [] [] [sD 26 (.mv (.t 3)),
 sD 27 (.mv (.t 6)),
 sD 28 (.bin .add .num (.t 26) (.t 27)),
 sD 3 (.mv (.t 28))]))))
 (.reg 0 [] [] [sD 29 (.bin .add .num (.t 13) (.c (.int .i64 1))),
 sD 13 (.mv (.t 29))])))))))
 (.seq (.reg 0 [] [] [sD 30 (.mv (.t 3)),
 sD 2 (.mv (.t 30))])
 .ret))))
def fn75 : IFun := ⟨31, [(.tmp 2)], an75.erase⟩
theorem ok75 : okFun Try.prog 75 fn75 = true := by kernel_rfl
theorem oka75 : okA fn75.ntmps fn75.results an75 = true := by kernel_rfl
def sh75 (C : CallA) (h0 : AV) (h : H) (R : AV → H → Prop) : Prop :=
 joinA (fun (n3' : AV) (h : H) =>
  R n3' h) fun J =>
 valA (nilcA h0) h fun t9 h =>
 valA (faA 2 t9) h fun t10 h =>
 valA (ldA h none t10) h fun t11 h =>
 valA (lenA false t11) h fun t12 h =>
 loopA (fun N l h => argA l 0 fun n3 => argA l 1 fun t13 => 
  valA (binOp .lss .num t13 t12) h fun t14 h =>
  condA t14
   (valA (iaA 5 t11 t13) h fun t15 h =>
  valA (ldA h (some 5) t15) h fun t16 h =>
  newA h [(.int .i64 0), (.int .i64 0), (.int .i64 0), .nilsl, .nilsl] 89 (fun b => .ptr b 0) fun o5 h =>
  memA (stA h 5 o5 t16) .undef fun _ h =>
  valA (faA 1 o5) h fun t19 h =>
  valA (ldA h none t19) h fun t20 h =>
  valA (faA 2 o5) h fun t21 h =>
  valA (ldA h none t21) h fun t22 h =>
  C 53 [h0, t20, t22] h fun t23 h =>
  valA (extA t23 0) h fun t24 h =>
  valA (extA t23 1) h fun t25 h =>
  valA (binOp .add .num n3 t24) h fun t28 h =>
  valA (binOp .add .num t13 (.int .i64 1)) h fun t29 h =>
  N [t28, t29] h)
   (J n3 h)) [(.int .i64 0), (.int .i64 0)] h
theorem she75 (C : CallA) (h0 : AV) (h : H) (R : AV → H → Prop) : wpA C an75 (argE [h0]) h (outA [(.tmp 2)] R) = sh75 C h0 h R := by kernel_rfl
/-! bellows/bellowslaw02.Same -/
def an76 : ACode :=
 (.seq (.reg 0 [] [] [sD 4 (.mv (.c (.bool false)))])
 (.seq (.seq (.reg 0 [0, 1, 2, 3, 4, 5, 6, 8, 9, 10, 11, 7, 12, 13] [[], [0], [], [0, 1, 2], [2, 3, 0, 1], [1, 0, 3, 2, 4], [4, 2, 3, 0, 1, 5], [5, 1, 0, 3, 2, 4, 6], [4, 2, 3, 0, 1, 5], [5, 1, 0, 3, 2, 4, 8], [8, 4, 2, 3, 0, 1, 5, 9], [9, 5, 1, 0, 3, 2, 4, 8, 10], [10, 8, 9, 11, 6, 4, 2, 3, 0, 1, 5, 7], [7, 6, 11, 9, 8, 10, 12, 4, 2, 3, 0, 1, 5]] [sD 14 (.mv (.t 0)),
 sD 15 (.call 57 [(.t 14)]),
 sD 16 (.mv (.t 1)),
 sD 17 (.call 75 [(.t 16)]),
 sD 18 (.bin .neq .num (.t 15) (.t 17)),
 sD 19 (.mv (.t 18)),
 sG 20 19 false (.mv (.t 0)),
 sG 22 19 false (.mv (.t 1)),
 sG 23 19 false (.nilc (.t 22)),
 sG 24 19 false (.fa 0 (.t 23)),
 sG 25 19 false (.ld none (.t 24)),
 ⟨(some 21), (some (19, false)), (.call 58 [(.t 20)]), [⟨(some (19, false)), (.ld none (.t 24)), 25⟩]⟩,
 sG 26 19 false (.bin .neq .num (.t 21) (.t 25)),
 sD 27 (.pick (.t 19) (.c (.bool true)) (.t 26))])
 (.cond (.t 27) (.seq (.reg 0 [] [] [sD 4 (.mv (.c (.bool false)))])
 .ret)
 .skip))
 (.seq (.seq (.reg 0 [] [] [sD 28 (.mv (.t 1)),
 sD 29 (.call 77 [(.t 28)]),
 sD 30 (.len false (.t 29)),
 sD 31 (.mv (.c (.int .i64 0)))])
 (.block 0 (.loop [31] 3758096387 (.seq (.reg 0 [] [] [sD 32 (.bin .lss .num (.t 31) (.t 30))])
 (.seq (.cond (.t 32) .skip
 (.exit 0))
 (.seq (.block 1 (.seq (.reg 0 [] [] [sD 33 (.mv (.t 31)),
 sD 34 (.ia none 1 (.t 29) (.t 31)),
 sD 35 (.ld none (.t 34)),
 sD 5 (.mv (.t 33)),
 sD 6 (.mv (.t 35))])
 (.seq (.reg 0 [] [] [sD 36 (.mv (.t 0)),
 sD 37 (.mv (.t 5)),
 sD 38 (.call 62 [(.t 36), (.t 37)]),
 sD 39 (.mv (.t 6)),
 sD 40 (.bin .neq .num (.t 38) (.t 39))])
 (.cond (.t 40) (.seq (.reg 0 [] [] [sD 4 (.mv (.c (.bool false)))])
 .ret)
 .skip))))
 (.reg 0 [] [] [sD 41 (.bin .add .num (.t 31) (.c (.int .i64 1))),
 sD 31 (.mv (.t 41))])))))))
 (.seq (.reg 0 [] [] [sD 42 (.mv (.t 0)),
 sD 43 (.call 59 [(.t 42)]),
 sD 7 (.mv (.t 43))])
 (.seq (.seq (.reg 0 [] [] [sD 44 (.mv (.t 7)),
 sD 45 (.len false (.t 44)),
 sD 46 (.mv (.t 1)),
 sD 47 (.nilc (.t 46)),
 sD 48 (.fa 2 (.t 47)),
 sD 49 (.ld none (.t 48)),
 sD 50 (.len false (.t 49)),
 sD 51 (.bin .neq .num (.t 45) (.t 50))])
 (.cond (.t 51) (.seq (.reg 0 [] [] [sD 4 (.mv (.c (.bool false)))])
 .ret)
 .skip))
 (.seq (.seq (.reg 0 [] [] [sD 52 (.mv (.t 1)),
 sD 53 (.nilc (.t 52)),
 sD 54 (.fa 2 (.t 53)),
 sD 55 (.ld none (.t 54)),
 sD 56 (.len false (.t 55)),
 sD 57 (.mv (.c (.int .i64 0)))])
 (.block 2 (.loop [57] 252201579132747905 (.seq (.reg 0 [] [] [sD 58 (.bin .lss .num (.t 57) (.t 56))])
 (.seq (.cond (.t 58) .skip
 (.exit 2))
 (.seq (.block 3 (.seq (.reg 0 [] [] [sD 59 (.mv (.t 57)),
 sD 60 (.ia none 5 (.t 55) (.t 57)),
 sD 61 (.ld (some 5) (.t 60)),
 sD 9 (.al none 89 [(.int .i64 0), (.int .i64 0), (.int .i64 0), .nilsl, .nilsl]),
 sD 8 (.mv (.t 59)),
 sN (.st 5 (.t 9) (.t 61))])
 (.seq (.reg 0 [] [] [sD 63 (.mv (.t 0)),
 sD 64 (.fa 0 (.t 9)),
 sD 65 (.ld none (.t 64)),
 sD 66 (.call 72 [(.t 63), (.t 65)]),
 sD 62 (.mv (.t 66)),
 sD 67 (.ext (.t 62) 0),
 sD 68 (.ext (.t 62) 1),
 sD 10 (.mv (.t 67)),
 sD 11 (.mv (.t 68))])
 (.seq (.reg 0 [] [] [sD 70 (.mv (.t 0)),
 sD 71 (.fa 0 (.t 9)),
 sD 72 (.ld none (.t 71)),
 sD 73 (.call 81 [(.t 70), (.t 72)]),
 sD 69 (.mv (.t 73)),
 sD 74 (.ext (.t 69) 0),
 sD 75 (.ext (.t 69) 1),
 sD 12 (.mv (.t 74)),
 sD 13 (.mv (.t 75))])
 (.seq (.reg 0 [0, 1, 2, 3, 4, 5, 6, 7, 8, 9, 10, 11, 12, 13, 14, 15, 16, 17, 18, 19, 20, 21, 22, 23, 24, 25, 26] [[], [], [1, 0], [0, 1, 2], [], [4], [4, 5, 2, 1, 0, 3], [3, 0, 1, 2, 5, 4, 6], [6, 4, 5, 2, 1, 0, 3, 7], [6, 4, 5, 2, 1, 0, 3, 7], [7, 3, 0, 1, 2, 5, 4, 6, 9], [9, 10, 7, 3, 0, 1, 2, 5, 4, 6, 8], [8, 10, 9, 11, 6, 4, 5, 2, 1, 0, 3, 7], [7, 3, 0, 1, 2, 5, 4, 6, 11, 9, 10, 8, 12], [12, 8, 10, 9, 11, 6, 4, 5, 2, 1, 0, 3, 7, 13], [12, 8, 10, 9, 11, 6, 4, 5, 2, 1, 0, 3, 7, 13], [13, 7, 3, 0, 1, 2, 5, 4, 6, 11, 9, 10, 8, 12, 15], [15, 16, 13, 7, 3, 0, 1, 2, 5, 4, 6, 11, 9, 10, 8, 12, 14], [14, 16, 15, 17, 12, 8, 10, 9, 11, 6, 4, 5, 2, 1, 0, 3, 7, 13], [13, 7, 3, 0, 1, 2, 5, 4, 6, 11, 9, 10, 8, 12, 17, 15, 16, 14, 18], [18, 14, 16, 15, 17, 12, 8, 10, 9, 11, 6, 4, 5, 2, 1, 0, 3, 7, 13, 19], [19, 13, 7, 3, 0, 1, 2, 5, 4, 6, 11, 9, 10, 8, 12, 17, 15, 16, 14, 18, 20], [20, 21, 18, 14, 16, 15, 17, 12, 8, 10, 9, 11, 6, 4, 5, 2, 1, 0, 3, 7, 13, 19], [19, 13, 7, 3, 0, 1, 2, 5, 4, 6, 11, 9, 10, 8, 12, 17, 15, 16, 14, 18, 21, 20, 22], [22, 20, 21, 18, 14, 16, 15, 17, 12, 8, 10, 9, 11, 6, 4, 5, 2, 1, 0, 3, 7, 13, 19, 23], [23, 19, 13, 7, 3, 0, 1, 2, 5, 4, 6, 11, 9, 10, 8, 12, 17, 15, 16, 14, 18, 21, 20, 22, 24], [24, 25, 22, 20, 21, 18, 14, 16, 15, 17, 12, 8, 10, 9, 11, 6, 4, 5, 2, 1, 0, 3, 7, 13, 19, 23]] [sD 76 (.mv (.t 7)),
 sD 77 (.mv (.t 8)),
 sD 78 (.ia none 1 (.t 76) (.t 77)),
 sD 79 (.ld none (.t 78)),
 sD 80 (.fa 0 (.t 9)),
 sD 81 (.ld none (.t 80)),
 sD 82 (.bin .neq .num (.t 79) (.t 81)),
 sD 83 (.mv (.t 82)),
 sG 84 83 false (.mv (.t 10)),
 sG 85 83 false (.fa 2 (.t 9)),
 sG 86 83 false (.ld none (.t 85)),
 sG 87 83 false (.bin .neq .num (.t 84) (.t 86)),
 sD 88 (.pick (.t 83) (.c (.bool true)) (.t 87)),
 sD 89 (.mv (.t 88)),
 sG 90 89 false (.mv (.t 12)),
 sG 91 89 false (.fa 1 (.t 9)),
 sG 92 89 false (.ld none (.t 91)),
 sG 93 89 false (.bin .neq .num (.t 90) (.t 92)),
 sD 94 (.pick (.t 89) (.c (.bool true)) (.t 93)),
 sD 95 (.mv (.t 94)),
 sG 96 95 false (.mv (.t 11)),
 sG 97 95 false (.bin .neq .num (.t 96) (.c (.int .i64 0))),
 sD 98 (.pick (.t 95) (.c (.bool true)) (.t 97)),
 sD 99 (.mv (.t 98)),
 sG 100 99 false (.mv (.t 13)),
 sG 101 99 false (.bin .neq .num (.t 100) (.c (.int .i64 0))),
 sD 102 (.pick (.t 99) (.c (.bool true)) (.t 101))])
 (.cond (.t 102) (.seq (.reg 0 [] [] [sD 4 (.mv (.c (.bool false)))])
 .ret)
 .skip))))))
 (.reg 0 [] [] [sD 103 (.bin .add .num (.t 57) (.c (.int .i64 1))),
 sD 57 (.mv (.t 103))])))))))
 (.seq (.reg 0 [] [] [sD 4 (.mv (.c (.bool true)))])
 .ret)))))))
def fn76 : IFun := ⟨104, [(.tmp 4)], an76.erase⟩
theorem ok76 : okFun Try.prog 76 fn76 = true := by kernel_rfl
theorem oka76 : okA fn76.ntmps fn76.results an76 = true := by kernel_rfl
def sh76 (C : CallA) (h0 x1 : AV) (h : H) (R : AV → H → Prop) : Prop :=
 C 57 [h0] h fun t15 h =>
 C 75 [x1] h fun t17 h =>
 valA (binOp .neq .num t15 t17) h fun t18 h =>
 whenA t18 false (fun K => K h0 h) h fun t20 h =>
 whenA t18 false (fun K => K x1 h) h fun t22 h =>
 whenA t18 false (fun K => valA (nilcA t22) h K) h fun t23 h =>
 whenA t18 false (fun K => valA (faA 0 t23) h K) h fun t24 h =>
 whenA t18 false (fun K => valA (ldA h none t24) h K) h fun t25 h =>
 whenA t18 false (fun K => C 58 [t20] h K) h fun t21 h =>
 againK (whenP t18 false (valA (ldA h none t24) h (fun v _ => v = t25))) <|
 whenA t18 false (fun K => valA (binOp .neq .num t21 t25) h K) h fun t26 h =>
 valA (pickA t18 (.bool true) t26) h fun t27 h =>
 condA t27
  (R (.bool false) h)
  (joinA (fun (h : H) =>
  C 59 [h0] h fun t43 h =>
  valA (lenA false t43) h fun t45 h =>
  valA (nilcA x1) h fun t47 h =>
  valA (faA 2 t47) h fun t48 h =>
  valA (ldA h none t48) h fun t49 h =>
  valA (lenA false t49) h fun t50 h =>
  valA (binOp .neq .num t45 t50) h fun t51 h =>
  condA t51
   (R (.bool false) h)
   (joinA (fun (h : H) =>
   R (.bool true) h) fun J =>
  valA (nilcA x1) h fun t53 h =>
  valA (faA 2 t53) h fun t54 h =>
  valA (ldA h none t54) h fun t55 h =>
  valA (lenA false t55) h fun t56 h =>
  loopA (fun N l h => argA l 0 fun t57 => 
   valA (binOp .lss .num t57 t56) h fun t58 h =>
   condA t58
    (valA (iaA 5 t55 t57) h fun t60 h =>
   valA (ldA h (some 5) t60) h fun t61 h =>
   newA h [(.int .i64 0), (.int .i64 0), (.int .i64 0), .nilsl, .nilsl] 89 (fun b => .ptr b 0) fun o9 h =>
   memA (stA h 5 o9 t61) .undef fun _ h =>
   valA (faA 0 o9) h fun t64 h =>
   valA (ldA h none t64) h fun t65 h =>
   C 72 [h0, t65] h fun t66 h =>
   valA (extA t66 0) h fun t67 h =>
   valA (extA t66 1) h fun t68 h =>
   valA (faA 0 o9) h fun t71 h =>
   valA (ldA h none t71) h fun t72 h =>
   C 81 [h0, t72] h fun t73 h =>
   valA (extA t73 0) h fun t74 h =>
   valA (extA t73 1) h fun t75 h =>
   valA (iaA 1 t43 t57) h fun t78 h =>
   valA (ldA h none t78) h fun t79 h =>
   valA (faA 0 o9) h fun t80 h =>
   valA (ldA h none t80) h fun t81 h =>
   valA (binOp .neq .num t79 t81) h fun t82 h =>
   whenA t82 false (fun K => K t67 h) h fun t84 h =>
   whenA t82 false (fun K => valA (faA 2 o9) h K) h fun t85 h =>
   whenA t82 false (fun K => valA (ldA h none t85) h K) h fun t86 h =>
   whenA t82 false (fun K => valA (binOp .neq .num t84 t86) h K) h fun t87 h =>
   valA (pickA t82 (.bool true) t87) h fun t88 h =>
   whenA t88 false (fun K => K t74 h) h fun t90 h =>
   whenA t88 false (fun K => valA (faA 1 o9) h K) h fun t91 h =>
   whenA t88 false (fun K => valA (ldA h none t91) h K) h fun t92 h =>
   whenA t88 false (fun K => valA (binOp .neq .num t90 t92) h K) h fun t93 h =>
   valA (pickA t88 (.bool true) t93) h fun t94 h =>
   whenA t94 false (fun K => K t68 h) h fun t96 h =>
   whenA t94 false (fun K => valA (binOp .neq .num t96 (.int .i64 0)) h K) h fun t97 h =>
   valA (pickA t94 (.bool true) t97) h fun t98 h =>
   whenA t98 false (fun K => K t75 h) h fun t100 h =>
   whenA t98 false (fun K => valA (binOp .neq .num t100 (.int .i64 0)) h K) h fun t101 h =>
   valA (pickA t98 (.bool true) t101) h fun t102 h =>
   condA t102
    (R (.bool false) h)
    (valA (binOp .add .num t57 (.int .i64 1)) h fun t103 h =>
   N [t103] h))
    (J h)) [(.int .i64 0)] h)) fun J_1 =>
 C 77 [x1] h fun t29 h =>
 valA (lenA false t29) h fun t30 h =>
 loopA (fun N_2 l h => argA l 0 fun t31 => 
  valA (binOp .lss .num t31 t30) h fun t32 h =>
  condA t32
   (valA (iaA 1 t29 t31) h fun t34 h =>
  valA (ldA h none t34) h fun t35 h =>
  C 62 [h0, t31] h fun t38 h =>
  valA (binOp .neq .num t38 t35) h fun t40 h =>
  condA t40
   (R (.bool false) h)
   (valA (binOp .add .num t31 (.int .i64 1)) h fun t41 h =>
  N_2 [t41] h))
   (J_1 h)) [(.int .i64 0)] h)
theorem she76 (C : CallA) (h0 x1 : AV) (h : H) (R : AV → H → Prop) : wpA C an76 (argE [h0, x1]) h (outA [(.tmp 4)] R) = sh76 C h0 x1 h R := by kernel_rfl
/-! (*bellows/bellowsref02.Heap).Row -/
def an77 : ACode :=
 (.seq (.reg 0 [] [] [sD 2 (.mv (.c .nilsl))])
 (.seq (.reg 0 [] [] [sD 3 (.mv (.c .nilsl))])
 (.seq (.seq (.reg 0 [] [] [sD 9 (.mv (.t 0)),
 sD 10 (.nilc (.t 9)),
 sD 11 (.fa 2 (.t 10)),
 sD 12 (.ld none (.t 11)),
 sD 13 (.len false (.t 12)),
 sD 14 (.mv (.c (.int .i64 0)))])
 (.block 0 (.loop [3, 14] 28681 (.seq (.reg 0 [] [] [sD 15 (.bin .lss .num (.t 14) (.t 13))])
 (.seq (.cond (.t 15) .skip
 (.exit 0))
 (.seq (.block 1 (.seq (.reg 0 [] [] [sD 16 (.ia none 5 (.t 12) (.t 14)),
 sD 17 (.ld (some 5) (.t 16)),
 sD 5 (.al none 89 [(.int .i64 0), (.int .i64 0), (.int .i64 0), .nilsl, .nilsl]),
 sN (.st 5 (.t 5) (.t 17))])
 (.seq (.reg 0 [] [] [sD 18 (.mv (.t 3)),
 sD 19 (.fa 1 (.t 5)),
 sD 20 (.ld none (.t 19)),
 sD 21 (.fa 2 (.t 5)),
 sD 22 (.ld none (.t 21)),
 sD 23 (.call 32 [(.t 20), (.t 22)]),
 sD 24 (.mksl none 25 [(.int .u64 0)] 1 [(0, 1, (.t 23))]),
 sD 25 (.app 25 1 8 [(.int .u64 0)] (.t 18) (.t 24)),
 sD 3 (.mv (.t 25))])
 (.seq (.reg 0 [] [] [sD 26 (.mv (.t 3)),
 sD 27 (.fa 3 (.t 5)),
 sD 28 (.ld none (.t 27)),
 sD 29 (.app 25 1 8 [(.int .u64 0)] (.t 26) (.t 28)),
 sD 3 (.mv (.t 29))])
 (.seq (.reg 0 [] [] [sD 6 (.mv (.c (.int .i64 0)))])
 (.block 2 (.loop [3, 6] 28777 (.seq (.seq (.reg 0 [] [] [sD 30 (.mv (.t 6)),
 sD 31 (.fa 4 (.t 5)),
 sD 32 (.ld none (.t 31)),
 sD 33 (.len false (.t 32)),
 sD 34 (.bin .lss .num (.t 30) (.t 33))])
 (.cond (.t 34) .skip
 (.exit 2)))
 (.seq (.block 3 (.seq (.reg 0 [] [] [sD 7 (.mv (.c (.int .u64 0)))])
 (.seq (.seq (.reg 0 [] [] [sD 8 (.mv (.c (.int .i64 7)))])
 (.block 4 (.loop [7, 8] 29161 (.seq (.seq (.reg 0 [] [] [sD 37 (.mv (.t 8)),
 sD 38 (.bin .geq .num (.t 37) (.c (.int .i64 0)))])
 (.cond (.t 38) .skip
 (.exit 4)))
 (.seq (.block 5 (.seq (.reg 0 [] [] [sD 41 (.mv (.t 7)),
 sD 42 (.bin .mul .num (.t 41) (.c (.int .u64 256))),
 sD 7 (.mv (.t 42))])
 (.seq (.reg 0 [] [] [sD 43 (.mv (.t 6)),
 sD 44 (.mv (.t 8)),
 sD 45 (.bin .add .num (.t 43) (.t 44)),
 sD 46 (.fa 4 (.t 5)),
 sD 47 (.ld none (.t 46)),
 sD 48 (.len false (.t 47)),
 sD 49 (.bin .lss .num (.t 45) (.t 48))])
 (.cond (.t 49) (.reg 0 [] [] [sD 50 (.mv (.t 7)),
 sD 51 (.fa 4 (.t 5)),
 sD 52 (.ld none (.t 51)),
 sD 53 (.mv (.t 6)),
 sD 54 (.mv (.t 8)),
 sD 55 (.bin .add .num (.t 53) (.t 54)),
 sD 56 (.ia none 1 (.t 52) (.t 55)),
 sD 57 (.ld none (.t 56)),
 sD 58 (.cv none (.toInt .u64) (.t 57)),
 sD 59 (.bin .add .num (.t 50) (.t 58)),
 sD 7 (.mv (.t 59))])
 .skip))))
 (.reg 0 [] [] [sD 39 (.mv (.t 8)),
 sD 40 (.bin .sub .num (.t 39) (.c (.int .i64 1))),
 sD 8 (.mv (.t 40))]))))))
 (.reg 0 [] [] [sD 60 (.mv (.t 3)),
 sD 61 (.mv (.t 7)),
 sD 62 (.mksl none 25 [(.int .u64 0)] 1 [(0, 1, (.t 61))]),
 sD 63 (.app 25 1 8 [(.int .u64 0)] (.t 60) (.t 62)),
 sD 3 (.mv (.t 63))]))))
 (.reg 0 [] [] [sD 35 (.mv (.t 6)),
 sD 36 (.bin .add .num (.t 35) (.c (.int .i64 8))),
 sD 6 (.mv (.t 36))]))))))))))
 (.reg 0 [] [] [sD 64 (.bin .add .num (.t 14) (.c (.int .i64 1))),
 sD 14 (.mv (.t 64))])))))))
 (.seq (.block 6 (.loop [3] 9 (.seq (.seq (.reg 0 [] [] [sD 65 (.mv (.t 3)),
 sD 66 (.len false (.t 65)),
 sD 67 (.mv (.t 0)),
 sD 68 (.nilc (.t 67)),
 sD 69 (.fa 0 (.t 68)),
 sD 70 (.ld none (.t 69)),
 sD 71 (.bin .lss .num (.t 66) (.t 70))])
 (.cond (.t 71) .skip
 (.exit 6)))
 (.block 7 (.reg 0 [] [] [sD 72 (.mv (.t 3)),
 sD 73 (.mksl none 25 [(.int .u64 0)] 1 [(0, 1, (.c (.int .u64 0)))]),
 sD 74 (.app 25 1 8 [(.int .u64 0)] (.t 72) (.t 73)),
 sD 3 (.mv (.t 74))])))))
 (.seq (.reg 0 [] [] [sD 75 (.mv (.t 3)),
 sD 2 (.mv (.t 75))])
 .ret)))))
def fn77 : IFun := ⟨76, [(.tmp 2)], an77.erase⟩
theorem ok77 : okFun Try.prog 77 fn77 = true := by kernel_rfl
theorem oka77 : okA fn77.ntmps fn77.results an77 = true := by kernel_rfl
def sh77 (C : CallA) (h0 : AV) (h : H) (R : AV → H → Prop) : Prop :=
 joinA (fun (l3' : AV) (h : H) =>
  joinA (fun (l3'_0 : AV) (h : H) =>
   R l3'_0 h) fun J =>
  loopA (fun N l h => argA l 0 fun l3 => 
   valA (lenA false l3) h fun t66 h =>
   valA (nilcA h0) h fun t68 h =>
   valA (faA 0 t68) h fun t69 h =>
   valA (ldA h none t69) h fun t70 h =>
   valA (binOp .lss .num t66 t70) h fun t71 h =>
   condA t71
    (mkslA h 25 1 (fillV [(.int .u64 0)] [(0, 1, (.int .u64 0))]) fun t73 h =>
   appendA h 25 1 8 l3 t73 fun t74 h =>
   N [t74] h)
    (J l3 h)) [l3'] h) fun J_1 =>
 valA (nilcA h0) h fun t10 h =>
 valA (faA 2 t10) h fun t11 h =>
 valA (ldA h none t11) h fun t12 h =>
 valA (lenA false t12) h fun t13 h =>
 loopA (fun N_2 l h => argA l 0 fun l3_3 => argA l 1 fun t14 => 
  valA (binOp .lss .num t14 t13) h fun t15 h =>
  condA t15
   (joinA (fun (l3'_4 : AV) (h : H) =>
   valA (binOp .add .num t14 (.int .i64 1)) h fun t64 h =>
   N_2 [l3'_4, t64] h) fun J_57 =>
  valA (iaA 5 t12 t14) h fun t16 h =>
  valA (ldA h (some 5) t16) h fun t17 h =>
  newA h [(.int .i64 0), (.int .i64 0), (.int .i64 0), .nilsl, .nilsl] 89 (fun b => .ptr b 0) fun o5 h =>
  memA (stA h 5 o5 t17) .undef fun _ h =>
  valA (faA 1 o5) h fun t19 h =>
  valA (ldA h none t19) h fun t20 h =>
  valA (faA 2 o5) h fun t21 h =>
  valA (ldA h none t21) h fun t22 h =>
  C 32 [t20, t22] h fun t23 h =>
  mkslA h 25 1 (fillV [(.int .u64 0)] [(0, 1, t23)]) fun t24 h =>
  appendA h 25 1 8 l3_3 t24 fun t25 h =>
  valA (faA 3 o5) h fun t27 h =>
  valA (ldA h none t27) h fun t28 h =>
  appendA h 25 1 8 t25 t28 fun t29 h =>
  loopA (fun N_58 l h => argA l 0 fun l3_59 => argA l 1 fun i6 => 
   valA (faA 4 o5) h fun t31 h =>
   valA (ldA h none t31) h fun t32 h =>
   valA (lenA false t32) h fun t33 h =>
   valA (binOp .lss .num i6 t33) h fun t34 h =>
   condA t34
    (joinA (fun (l3'_60 : AV) (h : H) =>
    valA (binOp .add .num i6 (.int .i64 8)) h fun t36 h =>
    N_58 [l3'_60, t36] h) fun J_90 =>
   joinA (fun (w7'_91 : AV) (h : H) =>
    mkslA h 25 1 (fillV [(.int .u64 0)] [(0, 1, w7'_91)]) fun t62 h =>
    appendA h 25 1 8 l3_59 t62 fun t63 h =>
    J_90 t63 h) fun J_116 =>
   loopA (fun N_117 l h => argA l 0 fun w7 => argA l 1 fun k8 => 
    valA (binOp .geq .num k8 (.int .i64 0)) h fun t38 h =>
    condA t38
     (joinA (fun (w7'_118 : AV) (h : H) =>
     valA (binOp .sub .num k8 (.int .i64 1)) h fun t40 h =>
     N_117 [w7'_118, t40] h) fun J_138 =>
    valA (binOp .mul .num w7 (.int .u64 256)) h fun t42 h =>
    valA (binOp .add .num i6 k8) h fun t45 h =>
    valA (faA 4 o5) h fun t46 h =>
    valA (ldA h none t46) h fun t47 h =>
    valA (lenA false t47) h fun t48 h =>
    valA (binOp .lss .num t45 t48) h fun t49 h =>
    condA t49
     (valA (faA 4 o5) h fun t51 h =>
     valA (ldA h none t51) h fun t52 h =>
     valA (binOp .add .num i6 k8) h fun t55 h =>
     valA (iaA 1 t52 t55) h fun t56 h =>
     valA (ldA h none t56) h fun t57 h =>
     valA (cvA .u64 t57) h fun t58 h =>
     valA (binOp .add .num t42 t58) h fun t59 h =>
     J_138 t59 h)
     (J_138 t42 h))
     (J_116 w7 h)) [(.int .u64 0), (.int .i64 7)] h)
    (J_57 l3_59 h)) [t29, (.int .i64 0)] h)
   (J_1 l3_3 h)) [.nilsl, (.int .i64 0)] h
theorem she77 (C : CallA) (h0 : AV) (h : H) (R : AV → H → Prop) : wpA C an77 (argE [h0]) h (outA [(.tmp 2)] R) = sh77 C h0 h R := by kernel_rfl
/-! (*bellows/heap.Heap).Store -/
def an78 : ACode :=
 (.seq (.reg 0 [] [] [sD 6 (.mv (.t 1)),
 sD 7 (.bin .geq .num (.t 6) (.c (.int .i64 0))),
 sD 8 (.mv (.t 7)),
 sG 9 8 true (.mv (.t 1)),
 sG 10 8 true (.mv (.t 0)),
 sG 11 8 true (.call 58 [(.t 10)]),
 sG 12 8 true (.bin .lss .num (.t 9) (.t 11)),
 sD 13 (.pick (.t 8) (.t 12) (.c (.bool false)))])
 (.cond (.t 13) (.reg 0 [] [] [sD 14 (.mv (.t 0)),
 sD 15 (.nilc (.t 14)),
 sD 16 (.fa 0 (.t 15)),
 sD 17 (.ld none (.t 16)),
 sD 18 (.mv (.t 1)),
 sD 19 (.mv (.t 2)),
 sD 20 (.ia none 1 (.t 17) (.t 18)),
 sN (.st 1 (.t 20) (.t 19))])
 .skip))
def fn78 : IFun := ⟨21, [], an78.erase⟩
theorem ok78 : okFun Try.prog 78 fn78 = true := by kernel_rfl
theorem oka78 : okA fn78.ntmps fn78.results an78 = true := by kernel_rfl
def sh78 (C : CallA) (h0 i1 w2 : AV) (h : H) (R : AV → H → Prop) : Prop :=
 valA (binOp .geq .num i1 (.int .i64 0)) h fun t7 h =>
 whenA t7 true (fun K => K i1 h) h fun t9 h =>
 whenA t7 true (fun K => K h0 h) h fun t10 h =>
 whenA t7 true (fun K => C 58 [t10] h K) h fun t11 h =>
 whenA t7 true (fun K => valA (binOp .lss .num t9 t11) h K) h fun t12 h =>
 valA (pickA t7 t12 (.bool false)) h fun t13 h =>
 condA t13
  (valA (nilcA h0) h fun t15 h =>
  valA (faA 0 t15) h fun t16 h =>
  valA (ldA h none t16) h fun t17 h =>
  valA (iaA 1 t17 i1) h fun t20 h =>
  memA (stA h 1 t20 w2) .undef fun _ h =>
  R (.tup []) h)
  (R (.tup []) h)
theorem she78 (C : CallA) (h0 i1 w2 : AV) (h : H) (R : AV → H → Prop) : wpA C an78 (argE [h0, i1, w2]) h (outA [] R) = sh78 C h0 i1 w2 h R := by kernel_rfl
/-! bellows/bellowsref02.Read -/
def an79 : ACode :=
 (.seq (.reg 0 [] [] [sD 6 (.mv (.c .nilp)),
 sD 7 (.mv (.c (.bool false)))])
 (.seq (.reg 0 [] [] [sD 20 (.mv (.t 0)),
 sD 21 (.len false (.t 20)),
 sD 22 (.mv (.t 2)),
 sD 23 (.build [(.int .i64 0), .nilsl, .nilsl] [(0, 1, (.t 21)), (1, 1, (.t 22))]),
 sD 24 (.bx none 56 (.t 23)),
 sD 8 (.mv (.t 24))])
 (.seq (.seq (.reg 0 [] [] [sD 25 (.mv (.t 1)),
 sD 26 (.bin .lss .num (.t 25) (.c (.int .i64 0))),
 sD 27 (.mv (.t 26)),
 sG 28 27 false (.mv (.t 1)),
 sG 29 27 false (.mv (.t 0)),
 sG 30 27 false (.len false (.t 29)),
 sG 31 27 false (.bin .gtr .num (.t 28) (.t 30)),
 sD 32 (.pick (.t 27) (.c (.bool true)) (.t 31))])
 (.cond (.t 32) (.seq (.reg 0 [] [] [sD 6 (.mv (.c .nilp)),
 sD 7 (.mv (.c (.bool false)))])
 .ret)
 .skip))
 (.seq (.seq (.reg 0 [] [] [sD 9 (.mv (.c (.int .i64 0)))])
 (.block 0 (.loop [9] 775 (.seq (.seq (.reg 0 [] [] [sD 33 (.mv (.t 9)),
 sD 34 (.mv (.t 1)),
 sD 35 (.bin .lss .num (.t 33) (.t 34))])
 (.cond (.t 35) .skip
 (.exit 0)))
 (.block 1 (.seq (.reg 0 [0, 1, 2, 3, 6, 7, 8, 9, 4, 5, 10, 11, 12, 13] [[], [], [1, 0], [0, 1, 2], [2, 1, 0, 3], [3, 0, 1, 2, 4], [], [], [7, 6], [6, 7, 8], [3, 0, 1, 2, 4, 8, 7, 6, 9], [9, 6, 7, 8, 4, 2, 1, 0, 3, 10], [9, 6, 7, 8, 10, 4, 2, 1, 0, 3, 5], [5, 12, 10, 3, 0, 1, 2, 4, 8, 7, 6, 9, 11]] [sD 36 (.mv (.t 0)),
 sD 37 (.mv (.t 9)),
 sD 38 (.ia none 1 (.t 36) (.t 37)),
 sD 39 (.ld none (.t 38)),
 sD 42 (.mv (.t 0)),
 sD 43 (.mv (.t 9)),
 sD 44 (.ia none 1 (.t 42) (.t 43)),
 sD 45 (.ld none (.t 44)),
 ⟨(some 40), none, (.call 34 [(.t 39), (.c (.int .i64 1)), (.c (.int .i64 20))]), [⟨none, (.ld none (.t 44)), 45⟩]⟩,
 sD 41 (.cv none (.toInt .i64) (.t 40)),
 sD 46 (.call 34 [(.t 45), (.c (.int .i64 21)), (.c (.int .i64 20))]),
 sD 47 (.cv none (.toInt .i64) (.t 46)),
 sD 10 (.mv (.t 41)),
 sD 11 (.mv (.t 47))])
 (.seq (.reg 0 [] [] [sD 49 (.mv (.t 8)),
 sD 50 (.mv (.t 10)),
 sD 51 (.mv (.t 11)),
 sD 52 (.call 53 [(.t 49), (.t 50), (.t 51)]),
 sD 48 (.mv (.t 52)),
 sD 53 (.ext (.t 48) 0),
 sD 54 (.ext (.t 48) 1),
 sD 12 (.mv (.t 53)),
 sD 13 (.mv (.t 54))])
 (.seq (.seq (.reg 0 [0, 1, 2, 3, 4, 6, 7, 8, 9, 5, 10, 11, 12, 13, 14, 15, 16, 17, 18] [[], [0], [0, 1], [1, 0, 2], [1, 0, 2], [4, 2, 0, 1, 3], [1, 0, 2], [1, 0, 2], [7, 2, 0, 1, 6], [6, 1, 0, 2, 7, 8], [8, 7, 6, 9, 3, 1, 0, 2, 4, 5], [5, 4, 3, 9, 6, 7, 8, 10, 1, 0, 2], [2, 0, 1, 10, 8, 7, 6, 9, 3, 4, 5, 11], [11, 5, 4, 3, 9, 6, 7, 8, 10, 1, 0, 2, 12], [11, 5, 4, 3, 9, 6, 7, 8, 10, 1, 0, 2, 12], [11, 5, 4, 3, 9, 6, 7, 8, 10, 1, 0, 2, 12], [15, 12, 2, 0, 1, 10, 8, 7, 6, 9, 3, 4, 5, 11, 14], [14, 15, 16, 12, 2, 0, 1, 10, 8, 7, 6, 9, 3, 4, 5, 11, 13], [13, 16, 15, 14, 17, 11, 5, 4, 3, 9, 6, 7, 8, 10, 1, 0, 2, 12]] [sD 55 (.mv (.t 13)),
 sD 56 (.bin .neq .num (.t 55) (.c (.int .i64 0))),
 sD 57 (.mv (.t 56)),
 sG 58 57 false (.mv (.t 10)),
 sG 59 57 false (.mv (.t 11)),
 sG 61 57 false (.mv (.t 0)),
 sG 62 57 false (.mv (.t 9)),
 sG 63 57 false (.ia none 1 (.t 61) (.t 62)),
 sG 64 57 false (.ld none (.t 63)),
 ⟨(some 60), (some (57, false)), (.call 32 [(.t 58), (.t 59)]), [⟨(some (57, false)), (.ld none (.t 63)), 64⟩]⟩,
 sG 65 57 false (.bin .neq .num (.t 60) (.t 64)),
 sD 66 (.pick (.t 57) (.c (.bool true)) (.t 65)),
 sD 67 (.mv (.t 66)),
 sG 68 67 false (.mv (.t 12)),
 sG 69 67 false (.mv (.t 1)),
 sG 70 67 false (.mv (.t 9)),
 sG 71 67 false (.bin .sub .num (.t 69) (.t 70)),
 sG 72 67 false (.bin .gtr .num (.t 68) (.t 71)),
 sD 73 (.pick (.t 67) (.c (.bool true)) (.t 72))])
 (.cond (.t 73) (.seq (.reg 0 [] [] [sD 6 (.mv (.c .nilp)),
 sD 7 (.mv (.c (.bool false)))])
 .ret)
 .skip))
 (.seq (.reg 0 [] [] [sD 74 (.mv (.t 9)),
 sD 75 (.mv (.t 10)),
 sD 76 (.mv (.t 11)),
 sD 77 (.build [(.int .i64 0), (.int .i64 0), (.int .i64 0), .nilsl, .nilsl] [(0, 1, (.t 74)), (1, 1, (.t 75)), (2, 1, (.t 76))]),
 sD 14 (.al none 89 [(.int .i64 0), (.int .i64 0), (.int .i64 0), .nilsl, .nilsl]),
 sN (.st 5 (.t 14) (.t 77))])
 (.seq (.seq (.reg 0 [] [] [sD 15 (.mv (.c (.int .i64 0)))])
 (.block 2 (.loop [15] 57095 (.seq (.seq (.reg 0 [] [] [sD 78 (.mv (.t 15)),
 sD 79 (.mv (.t 11)),
 sD 80 (.bin .lss .num (.t 78) (.t 79))])
 (.cond (.t 80) .skip
 (.exit 2)))
 (.seq (.block 3 (.seq (.reg 0 [] [] [sD 83 (.mv (.t 2)),
 sD 84 (.mv (.t 10)),
 sD 85 (.ia none 2 (.t 83) (.t 84)),
 sD 86 (.fa 0 (.t 85)),
 sD 87 (.ld none (.t 86)),
 sD 88 (.bin .eql .num (.t 87) (.c (.int .i64 3)))])
 (.cond (.t 88) (.reg 1 [0, 1, 2, 3, 4, 5, 6, 7, 8, 9, 10, 11, 12, 13, 14, 15, 16, 17, 18] [[], [0], [], [], [3], [], [5], [5, 6, 3, 4], [4, 3, 6, 5, 7, 2], [2, 7, 5, 6, 3, 4, 8], [], [10], [10, 11], [11, 10, 12, 8, 4, 3, 6, 5, 7, 2, 9], [9, 2, 7, 5, 6, 3, 4, 8, 12, 10, 11, 13], [13, 11, 10, 12, 8, 4, 3, 6, 5, 7, 2, 9, 14], [14, 9, 2, 7, 5, 6, 3, 4, 8, 12, 10, 11, 13, 15, 0, 1], [16, 15, 14, 13, 12, 11, 10, 9, 8, 7, 6, 5, 4, 3, 2, 1, 0], [0, 1, 2, 3, 4, 5, 6, 7, 8, 9, 10, 11, 12, 13, 14, 15, 16, 17]] [sD 89 (.fa 4 (.t 14)),
 sD 90 (.ld none (.t 89)),
 sD 91 (.mv (.t 0)),
 sD 92 (.mv (.t 9)),
 sD 93 (.bin .add .num (.t 92) (.c (.int .i64 1))),
 sD 94 (.mv (.t 15)),
 sD 95 (.bin .quo .num (.t 94) (.c (.int .i64 8))),
 sD 96 (.bin .add .num (.t 93) (.t 95)),
 sD 97 (.ia none 1 (.t 91) (.t 96)),
 sD 98 (.ld none (.t 97)),
 sD 99 (.mv (.t 15)),
 sD 100 (.bin .rem .num (.t 99) (.c (.int .i64 8))),
 sD 101 (.bin .mul .num (.t 100) (.c (.int .i64 8))),
 ⟨(some 102), none, (.call 34 [(.t 98), (.t 101), (.c (.int .i64 8))]), [⟨none, (.ld none (.t 89)), 90⟩]⟩,
 sD 103 (.cv none (.toInt .u8) (.t 102)),
 sD 104 (.mksl (some 0) 5 [(.int .u8 0)] 1 [(0, 1, (.t 103))]),
 sD 105 (.app 5 1 1 [(.int .u8 0)] (.t 90) (.t 104)),
 sD 106 (.fa 4 (.t 14)),
 sN (.st 1 (.t 106) (.t 105))])
 (.reg 1 [0, 1, 2, 3, 4, 5, 6, 7, 8, 9, 10, 11, 12] [[], [0], [], [], [3], [], [5, 3, 4], [4, 3, 5, 6, 2], [2, 6, 5, 3, 4, 7], [7, 4, 3, 5, 6, 2, 8], [8, 2, 6, 5, 3, 4, 7, 9, 0, 1], [10, 9, 8, 7, 6, 5, 4, 3, 2, 1, 0], [0, 1, 2, 3, 4, 5, 6, 7, 8, 9, 10, 11]] [sD 107 (.fa 3 (.t 14)),
 sD 108 (.ld none (.t 107)),
 sD 109 (.mv (.t 0)),
 sD 110 (.mv (.t 9)),
 sD 111 (.bin .add .num (.t 110) (.c (.int .i64 1))),
 sD 112 (.mv (.t 15)),
 sD 113 (.bin .add .num (.t 111) (.t 112)),
 sD 114 (.ia none 1 (.t 109) (.t 113)),
 sD 115 (.ld none (.t 114)),
 sD 116 (.mksl (some 0) 25 [(.int .u64 0)] 1 [(0, 1, (.t 115))]),
 sD 117 (.app 25 1 8 [(.int .u64 0)] (.t 108) (.t 116)),
 sD 118 (.fa 3 (.t 14)),
 sN (.st 1 (.t 118) (.t 117))]))))
 (.reg 0 [] [] [sD 81 (.mv (.t 15)),
 sD 82 (.bin .add .num (.t 81) (.c (.int .i64 1))),
 sD 15 (.mv (.t 82))]))))))
 (.seq (.seq (.reg 0 [0, 1, 2, 3, 4, 5, 6, 7, 8, 9, 10, 11, 12, 13, 14, 15, 16, 17, 18, 19, 20, 21, 22, 23] [[], [], [1, 0], [0, 1, 2], [2, 1, 0, 3], [3, 0, 1, 2, 4], [4, 2, 1, 0, 3, 5], [5, 3, 0, 1, 2, 4, 6], [6, 4, 2, 1, 0, 3, 5, 7], [7, 5, 3, 0, 1, 2, 4, 6, 8], [8, 7, 9, 5, 3, 0, 1, 2, 4, 6], [6, 4, 2, 1, 0, 3, 5, 9, 7, 8, 10], [10, 8, 7, 9, 5, 3, 0, 1, 2, 4, 6, 11], [10, 8, 7, 9, 5, 3, 0, 1, 2, 4, 6, 11], [10, 8, 7, 9, 5, 3, 0, 1, 2, 4, 6, 11], [14, 11, 6, 4, 2, 1, 0, 3, 5, 9, 7, 8, 10, 13], [13, 10, 8, 7, 9, 5, 3, 0, 1, 2, 4, 6, 11, 14, 15], [15, 14, 13, 16, 11, 6, 4, 2, 1, 0, 3, 5, 9, 7, 8, 10, 12], [12, 10, 8, 7, 9, 5, 3, 0, 1, 2, 4, 6, 11, 16, 13, 14, 15, 17], [10, 8, 7, 9, 5, 3, 0, 1, 2, 4, 6, 11], [10, 8, 7, 9, 5, 3, 0, 1, 2, 4, 6, 11], [20, 11, 6, 4, 2, 1, 0, 3, 5, 9, 7, 8, 10, 19], [19, 20, 21, 17, 15, 14, 13, 16, 11, 6, 4, 2, 1, 0, 3, 5, 9, 7, 8, 10, 12, 18], [18, 12, 16, 13, 14, 15, 17, 21, 20, 19, 22, 10, 8, 7, 9, 5, 3, 0, 1, 2, 4, 6, 11]] [sD 119 (.mv (.t 2)),
 sD 120 (.mv (.t 10)),
 sD 121 (.ia none 2 (.t 119) (.t 120)),
 sD 122 (.fa 0 (.t 121)),
 sD 123 (.ld none (.t 122)),
 sD 124 (.bin .eql .num (.t 123) (.c (.int .i64 3))),
 sD 125 (.mv (.t 124)),
 sG 126 125 true (.mv (.t 11)),
 sG 127 125 true (.bin .rem .num (.t 126) (.c (.int .i64 8))),
 sG 128 125 true (.bin .neq .num (.t 127) (.c (.int .i64 0))),
 sD 129 (.pick (.t 125) (.t 128) (.c (.bool false))),
 sD 130 (.mv (.t 129)),
 sG 131 130 true (.mv (.t 0)),
 sG 132 130 true (.mv (.t 9)),
 sG 133 130 true (.mv (.t 12)),
 sG 134 130 true (.bin .add .num (.t 132) (.t 133)),
 sG 135 130 true (.bin .sub .num (.t 134) (.c (.int .i64 1))),
 sG 136 130 true (.ia none 1 (.t 131) (.t 135)),
 sG 137 130 true (.ld none (.t 136)),
 sG 138 130 true (.mv (.t 8)),
 sG 139 130 true (.ld (some 5) (.t 14)),
 ⟨(some 140), (some (130, true)), (.call 105 [(.t 138), (.t 139)]), [⟨(some (130, true)), (.ld none (.t 136)), 137⟩]⟩,
 sG 141 130 true (.bin .neq .num (.t 137) (.t 140)),
 sD 142 (.pick (.t 130) (.t 141) (.c (.bool false)))])
 (.cond (.t 142) (.seq (.reg 0 [] [] [sD 6 (.mv (.c .nilp)),
 sD 7 (.mv (.c (.bool false)))])
 .ret)
 .skip))
 (.seq (.reg 1 [0, 1, 2, 3, 4, 5, 6, 7, 8, 9, 10] [[], [], [1], [1, 2], [2, 1, 3], [], [5], [5, 6, 3, 1, 2, 4], [7, 6, 5, 4, 3, 2, 1, 0], [0, 1, 2, 3, 4, 5, 6, 7, 8], [8, 7, 6, 5, 4, 3, 2, 1, 0, 9]] [sD 143 (.mv (.t 8)),
 sD 144 (.mv (.t 8)),
 sD 145 (.nilc (.t 144)),
 sD 146 (.fa 2 (.t 145)),
 sD 147 (.ld none (.t 146)),
 sD 148 (.ld (some 5) (.t 14)),
 sD 149 (.mksl (some 0) 89 [(.int .i64 0), (.int .i64 0), (.int .i64 0), .nilsl, .nilsl] 1 [(0, 5, (.t 148))]),
 sD 150 (.app 89 5 72 [(.int .i64 0), (.int .i64 0), (.int .i64 0), .nilsl, .nilsl] (.t 147) (.t 149)),
 sD 151 (.nilc (.t 143)),
 sD 152 (.fa 2 (.t 151)),
 sN (.st 1 (.t 152) (.t 150))])
 (.reg 0 [] [] [sD 153 (.mv (.t 9)),
 sD 154 (.mv (.t 12)),
 sD 155 (.bin .add .num (.t 153) (.t 154)),
 sD 9 (.mv (.t 155))])))))))))))))
 (.seq (.seq (.reg 0 [] [] [sD 156 (.mv (.t 8)),
 sD 157 (.nilc (.t 156)),
 sD 158 (.fa 2 (.t 157)),
 sD 159 (.ld none (.t 158)),
 sD 160 (.len false (.t 159)),
 sD 161 (.mv (.c (.int .i64 0)))])
 (.block 4 (.loop [161] 5115255730658160213712896914506990568795763900672 (.seq (.reg 0 [] [] [sD 162 (.bin .lss .num (.t 161) (.t 160))])
 (.seq (.cond (.t 162) .skip
 (.exit 4))
 (.seq (.block 5 (.seq (.reg 0 [] [] [sD 163 (.ia none 5 (.t 159) (.t 161)),
 sD 164 (.ld (some 5) (.t 163)),
 sD 17 (.al none 89 [(.int .i64 0), (.int .i64 0), (.int .i64 0), .nilsl, .nilsl]),
 sN (.st 5 (.t 17) (.t 164))])
 (.seq (.reg 0 [] [] [sD 165 (.fa 3 (.t 17)),
 sD 166 (.ld none (.t 165)),
 sD 167 (.len false (.t 166)),
 sD 168 (.mv (.c (.int .i64 0)))])
 (.block 6 (.loop [168] 659867989254902667568963701971401783374653543153920 (.seq (.reg 0 [] [] [sD 169 (.bin .lss .num (.t 168) (.t 167))])
 (.seq (.cond (.t 169) .skip
 (.exit 6))
 (.seq (.block 7 (.seq (.reg 0 [] [] [sD 170 (.ia none 1 (.t 166) (.t 168)),
 sD 171 (.ld none (.t 170)),
 sD 19 (.mv (.t 171))])
 (.seq (.reg 0 [] [] [sD 172 (.mv (.t 8)),
 sD 173 (.mv (.t 19)),
 sD 174 (.call 69 [(.t 172), (.t 173)]),
 sD 175 (.un .not (.t 174))])
 (.cond (.t 175) (.seq (.reg 0 [] [] [sD 6 (.mv (.c .nilp)),
 sD 7 (.mv (.c (.bool false)))])
 .ret)
 .skip))))
 (.reg 0 [] [] [sD 176 (.bin .add .num (.t 168) (.c (.int .i64 1))),
 sD 168 (.mv (.t 176))])))))))))
 (.reg 0 [] [] [sD 177 (.bin .add .num (.t 161) (.c (.int .i64 1))),
 sD 161 (.mv (.t 177))])))))))
 (.seq (.reg 0 [] [] [sD 178 (.mv (.t 8)),
 sD 6 (.mv (.t 178)),
 sD 7 (.mv (.c (.bool true)))])
 .ret))))))
def fn79 : IFun := ⟨179, [(.tmp 6), (.tmp 7)], an79.erase⟩
theorem ok79 : okFun Try.prog 79 fn79 = true := by kernel_rfl
theorem oka79 : okA fn79.ntmps fn79.results an79 = true := by kernel_rfl
def sh79 (C : CallA) (row0 top1 layouts2 : AV) (h : H) (R : AV → H → Prop) : Prop :=
 valA (lenA false row0) h fun t21 h =>
 valA (buildA (fillV [(.int .i64 0), .nilsl, .nilsl] [(0, 1, t21), (1, 1, layouts2)])) h fun t23 h =>
 newA h (AV.cells t23) 56 (fun b => .ptr b 0) fun t24 h =>
 valA (binOp .lss .num top1 (.int .i64 0)) h fun t26 h =>
 whenA t26 false (fun K => K top1 h) h fun t28 h =>
 whenA t26 false (fun K => K row0 h) h fun t29 h =>
 whenA t26 false (fun K => valA (lenA false t29) h K) h fun t30 h =>
 whenA t26 false (fun K => valA (binOp .gtr .num t28 t30) h K) h fun t31 h =>
 valA (pickA t26 (.bool true) t31) h fun t32 h =>
 condA t32
  (R (.tup [.nilp, (.bool false)]) h)
  (joinA (fun (h : H) =>
  joinA (fun (h : H) =>
   R (.tup [t24, (.bool true)]) h) fun J =>
  valA (nilcA t24) h fun t157 h =>
  valA (faA 2 t157) h fun t158 h =>
  valA (ldA h none t158) h fun t159 h =>
  valA (lenA false t159) h fun t160 h =>
  loopA (fun N l h => argA l 0 fun t161 => 
   valA (binOp .lss .num t161 t160) h fun t162 h =>
   condA t162
    (joinA (fun (h : H) =>
    valA (binOp .add .num t161 (.int .i64 1)) h fun t177 h =>
    N [t177] h) fun J_20 =>
   valA (iaA 5 t159 t161) h fun t163 h =>
   valA (ldA h (some 5) t163) h fun t164 h =>
   newA h [(.int .i64 0), (.int .i64 0), (.int .i64 0), .nilsl, .nilsl] 89 (fun b => .ptr b 0) fun o17 h =>
   memA (stA h 5 o17 t164) .undef fun _ h =>
   valA (faA 3 o17) h fun t165 h =>
   valA (ldA h none t165) h fun t166 h =>
   valA (lenA false t166) h fun t167 h =>
   loopA (fun N_21 l h => argA l 0 fun t168 => 
    valA (binOp .lss .num t168 t167) h fun t169 h =>
    condA t169
     (valA (iaA 1 t166 t168) h fun t170 h =>
    valA (ldA h none t170) h fun t171 h =>
    C 69 [t24, t171] h fun t174 h =>
    valA (unOp .not t174) h fun t175 h =>
    condA t175
     (R (.tup [.nilp, (.bool false)]) h)
     (valA (binOp .add .num t168 (.int .i64 1)) h fun t176 h =>
    N_21 [t176] h))
     (J_20 h)) [(.int .i64 0)] h)
    (J h)) [(.int .i64 0)] h) fun J_22 =>
 loopA (fun N_23 l h => argA l 0 fun at9 => 
  valA (binOp .lss .num at9 top1) h fun t35 h =>
  condA t35
   (valA (iaA 1 row0 at9) h fun t38 h =>
  valA (ldA h none t38) h fun t39 h =>
  valA (iaA 1 row0 at9) h fun t44 h =>
  valA (ldA h none t44) h fun t45 h =>
  C 34 [t39, (.int .i64 1), (.int .i64 20)] h fun t40 h =>
  againK (valA (ldA h none t44) h (fun v _ => v = t45)) <|
  valA (cvA .i64 t40) h fun t41 h =>
  C 34 [t45, (.int .i64 21), (.int .i64 20)] h fun t46 h =>
  valA (cvA .i64 t46) h fun t47 h =>
  C 53 [t24, t41, t47] h fun t52 h =>
  valA (extA t52 0) h fun t53 h =>
  valA (extA t52 1) h fun t54 h =>
  valA (binOp .neq .num t54 (.int .i64 0)) h fun t56 h =>
  whenA t56 false (fun K => K t41 h) h fun t58 h =>
  whenA t56 false (fun K => K t47 h) h fun t59 h =>
  whenA t56 false (fun K => K row0 h) h fun t61 h =>
  whenA t56 false (fun K => K at9 h) h fun t62 h =>
  whenA t56 false (fun K => valA (iaA 1 t61 t62) h K) h fun t63 h =>
  whenA t56 false (fun K => valA (ldA h none t63) h K) h fun t64 h =>
  whenA t56 false (fun K => C 32 [t58, t59] h K) h fun t60 h =>
  againK (whenP t56 false (valA (ldA h none t63) h (fun v _ => v = t64))) <|
  whenA t56 false (fun K => valA (binOp .neq .num t60 t64) h K) h fun t65 h =>
  valA (pickA t56 (.bool true) t65) h fun t66 h =>
  whenA t66 false (fun K => K t53 h) h fun t68 h =>
  whenA t66 false (fun K => K top1 h) h fun t69 h =>
  whenA t66 false (fun K => K at9 h) h fun t70 h =>
  whenA t66 false (fun K => valA (binOp .sub .num t69 t70) h K) h fun t71 h =>
  whenA t66 false (fun K => valA (binOp .gtr .num t68 t71) h K) h fun t72 h =>
  valA (pickA t66 (.bool true) t72) h fun t73 h =>
  condA t73
   (R (.tup [.nilp, (.bool false)]) h)
   (valA (buildA (fillV [(.int .i64 0), (.int .i64 0), (.int .i64 0), .nilsl, .nilsl] [(0, 1, at9), (1, 1, t41), (2, 1, t47)])) h fun t77 h =>
  newA h [(.int .i64 0), (.int .i64 0), (.int .i64 0), .nilsl, .nilsl] 89 (fun b => .ptr b 0) fun o14 h =>
  memA (stA h 5 o14 t77) .undef fun _ h =>
  joinA (fun (h : H) =>
   valA (iaA 2 layouts2 t41) h fun t121 h =>
   valA (faA 0 t121) h fun t122 h =>
   valA (ldA h none t122) h fun t123 h =>
   valA (binOp .eql .num t123 (.int .i64 3)) h fun t124 h =>
   whenA t124 true (fun K => K t47 h) h fun t126 h =>
   whenA t124 true (fun K => valA (binOp .rem .num t126 (.int .i64 8)) h K) h fun t127 h =>
   whenA t124 true (fun K => valA (binOp .neq .num t127 (.int .i64 0)) h K) h fun t128 h =>
   valA (pickA t124 t128 (.bool false)) h fun t129 h =>
   whenA t129 true (fun K => K row0 h) h fun t131 h =>
   whenA t129 true (fun K => K at9 h) h fun t132 h =>
   whenA t129 true (fun K => K t53 h) h fun t133 h =>
   whenA t129 true (fun K => valA (binOp .add .num t132 t133) h K) h fun t134 h =>
   whenA t129 true (fun K => valA (binOp .sub .num t134 (.int .i64 1)) h K) h fun t135 h =>
   whenA t129 true (fun K => valA (iaA 1 t131 t135) h K) h fun t136 h =>
   whenA t129 true (fun K => valA (ldA h none t136) h K) h fun t137 h =>
   whenA t129 true (fun K => K t24 h) h fun t138 h =>
   whenA t129 true (fun K => valA (ldA h (some 5) o14) h K) h fun t139 h =>
   whenA t129 true (fun K => C 105 [t138, t139] h K) h fun t140 h =>
   againK (whenP t129 true (valA (ldA h none t136) h (fun v _ => v = t137))) <|
   whenA t129 true (fun K => valA (binOp .neq .num t137 t140) h K) h fun t141 h =>
   valA (pickA t129 t141 (.bool false)) h fun t142 h =>
   condA t142
    (R (.tup [.nilp, (.bool false)]) h)
    (valA (nilcA t24) h fun t145 h =>
   valA (faA 2 t145) h fun t146 h =>
   valA (ldA h none t146) h fun t147 h =>
   valA (ldA h (some 5) o14) h fun t148 h =>
   mkslA h 89 1 (fillV [(.int .i64 0), (.int .i64 0), (.int .i64 0), .nilsl, .nilsl] [(0, 5, t148)]) fun t149 h =>
   appendA h 89 5 72 t147 t149 fun t150 h =>
   valA (nilcA t24) h fun t151 h =>
   valA (faA 2 t151) h fun t152 h =>
   memA (stA h 1 t152 t150) .undef fun _ h =>
   valA (binOp .add .num at9 t53) h fun t155 h =>
   N_23 [t155] h)) fun J_66 =>
  loopA (fun N_67 l h => argA l 0 fun i15 => 
   valA (binOp .lss .num i15 t47) h fun t80 h =>
   condA t80
    (joinA (fun (h : H) =>
    valA (binOp .add .num i15 (.int .i64 1)) h fun t82 h =>
    N_67 [t82] h) fun J_104 =>
   valA (iaA 2 layouts2 t41) h fun t85 h =>
   valA (faA 0 t85) h fun t86 h =>
   valA (ldA h none t86) h fun t87 h =>
   valA (binOp .eql .num t87 (.int .i64 3)) h fun t88 h =>
   condA t88
    (valA (faA 4 o14) h fun t89 h =>
    valA (ldA h none t89) h fun t90 h =>
    valA (binOp .add .num at9 (.int .i64 1)) h fun t93 h =>
    valA (binOp .quo .num i15 (.int .i64 8)) h fun t95 h =>
    valA (binOp .add .num t93 t95) h fun t96 h =>
    valA (iaA 1 row0 t96) h fun t97 h =>
    valA (ldA h none t97) h fun t98 h =>
    valA (binOp .rem .num i15 (.int .i64 8)) h fun t100 h =>
    valA (binOp .mul .num t100 (.int .i64 8)) h fun t101 h =>
    C 34 [t98, t101, (.int .i64 8)] h fun t102 h =>
    againK (valA (ldA h none t89) h (fun v _ => v = t90)) <|
    valA (cvA .u8 t102) h fun t103 h =>
    mkslA h 5 1 (fillV [(.int .u8 0)] [(0, 1, t103)]) fun t104 h =>
    appendA h 5 1 1 t90 t104 fun t105 h =>
    valA (faA 4 o14) h fun t106 h =>
    memA (stA h 1 t106 t105) .undef fun _ h =>
    J_104 h)
    (valA (faA 3 o14) h fun t107 h =>
    valA (ldA h none t107) h fun t108 h =>
    valA (binOp .add .num at9 (.int .i64 1)) h fun t111 h =>
    valA (binOp .add .num t111 i15) h fun t113 h =>
    valA (iaA 1 row0 t113) h fun t114 h =>
    valA (ldA h none t114) h fun t115 h =>
    mkslA h 25 1 (fillV [(.int .u64 0)] [(0, 1, t115)]) fun t116 h =>
    appendA h 25 1 8 t108 t116 fun t117 h =>
    valA (faA 3 o14) h fun t118 h =>
    memA (stA h 1 t118 t117) .undef fun _ h =>
    J_104 h))
    (J_66 h)) [(.int .i64 0)] h))
   (J_22 h)) [(.int .i64 0)] h)
theorem she79 (C : CallA) (row0 top1 layouts2 : AV) (h : H) (R : AV → H → Prop) : wpA C an79 (argE [row0, top1, layouts2]) h (outA [(.tmp 6), (.tmp 7)] R) = sh79 C row0 top1 layouts2 h R := by kernel_rfl
end Go.Proofs.Ytljkkfcokpimkaa.X
