/- The plain programs of functions, printed; that they are the model's; what must hold ahead of each. -/
import Derived.Test.YtljkkfcokpimkaaProg
import Derived.Test.YtljkkfcokpimkaaXo
set_option maxRecDepth 100000
set_option linter.unusedVariables false
namespace Go.Proofs.Ytljkkfcokpimkaa.X
open Go
/-! (*bellows/heap.Heap).Is -/
def an56 : ACode :=
 (.seq (.reg 0 [] [] [sD 4 (.mv (.c (.bool false)))])
 (.seq (.reg 0 [] [] [sD 5 (.mv (.t 0)),
 sD 6 (.bin .neq .ptr (.t 5) (.c .nilp)),
 sD 7 (.mv (.t 6)),
 sG 8 7 true (.mv (.t 1)),
 sG 9 7 true (.bin .geq .num (.t 8) (.c (.int .i64 0))),
 sD 10 (.pick (.t 7) (.t 9) (.c (.bool false))),
 sD 11 (.mv (.t 10)),
 sG 12 11 true (.mv (.t 1)),
 sG 13 11 true (.mv (.t 0)),
 sG 14 11 true (.nilc (.t 13)),
 sG 15 11 true (.fa 3 (.t 14)),
 sG 16 11 true (.ld none (.t 15)),
 sG 17 11 true (.bin .lss .num (.t 12) (.t 16)),
 sD 18 (.pick (.t 11) (.t 17) (.c (.bool false))),
 sD 19 (.mv (.t 18)),
 sG 20 19 true (.mv (.t 0)),
 sG 21 19 true (.nilc (.t 20)),
 sG 22 19 true (.fa 1 (.t 21)),
 sG 23 19 true (.ld none (.t 22)),
 sG 24 19 true (.mv (.t 1)),
 sG 25 19 true (.bin .quo .num (.t 24) (.c (.int .i64 64))),
 sG 26 19 true (.ia none 1 (.t 23) (.t 25)),
 sG 27 19 true (.ld none (.t 26)),
 sG 28 19 true (.mv (.t 1)),
 sG 29 19 true (.bin .rem .num (.t 28) (.c (.int .i64 64))),
 sG 30 19 true (.bin .shr .num (.t 27) (.t 29)),
 sG 31 19 true (.bin .and .num (.t 30) (.c (.int .u64 1))),
 sG 32 19 true (.bin .eql .num (.t 31) (.c (.int .u64 1))),
 sD 33 (.pick (.t 19) (.t 32) (.c (.bool false))),
 sD 4 (.mv (.t 33))])
 .ret))
def fn56 : IFun := ⟨34, [(.tmp 4)], an56.erase⟩
theorem ok56 : okFun Try.prog 56 fn56 = true := by kernel_rfl
theorem oka56 : okA fn56.ntmps fn56.results an56 = true := by kernel_rfl
def sh56 (C : CallA) (h0 at1 : AV) (h : H) (R : AV → H → Prop) : Prop :=
 valA (binOp .neq .ptr h0 .nilp) h fun t6 h =>
 whenA t6 true (fun K => K at1 h) h fun t8 h =>
 whenA t6 true (fun K => valA (binOp .geq .num t8 (.int .i64 0)) h K) h fun t9 h =>
 valA (pickA t6 t9 (.bool false)) h fun t10 h =>
 whenA t10 true (fun K => K at1 h) h fun t12 h =>
 whenA t10 true (fun K => K h0 h) h fun t13 h =>
 whenA t10 true (fun K => valA (nilcA t13) h K) h fun t14 h =>
 whenA t10 true (fun K => valA (faA 3 t14) h K) h fun t15 h =>
 whenA t10 true (fun K => valA (ldA h none t15) h K) h fun t16 h =>
 whenA t10 true (fun K => valA (binOp .lss .num t12 t16) h K) h fun t17 h =>
 valA (pickA t10 t17 (.bool false)) h fun t18 h =>
 whenA t18 true (fun K => K h0 h) h fun t20 h =>
 whenA t18 true (fun K => valA (nilcA t20) h K) h fun t21 h =>
 whenA t18 true (fun K => valA (faA 1 t21) h K) h fun t22 h =>
 whenA t18 true (fun K => valA (ldA h none t22) h K) h fun t23 h =>
 whenA t18 true (fun K => K at1 h) h fun t24 h =>
 whenA t18 true (fun K => valA (binOp .quo .num t24 (.int .i64 64)) h K) h fun t25 h =>
 whenA t18 true (fun K => valA (iaA 1 t23 t25) h K) h fun t26 h =>
 whenA t18 true (fun K => valA (ldA h none t26) h K) h fun t27 h =>
 whenA t18 true (fun K => K at1 h) h fun t28 h =>
 whenA t18 true (fun K => valA (binOp .rem .num t28 (.int .i64 64)) h K) h fun t29 h =>
 whenA t18 true (fun K => valA (binOp .shr .num t27 t29) h K) h fun t30 h =>
 whenA t18 true (fun K => valA (binOp .and .num t30 (.int .u64 1)) h K) h fun t31 h =>
 whenA t18 true (fun K => valA (binOp .eql .num t31 (.int .u64 1)) h K) h fun t32 h =>
 valA (pickA t18 t32 (.bool false)) h fun t33 h =>
 R t33 h
theorem she56 (C : CallA) (h0 at1 : AV) (h : H) (R : AV → H → Prop) : wpA C an56 (argE [h0, at1]) h (outA [(.tmp 4)] R) = sh56 C h0 at1 h R := by kernel_rfl
/-! (*bellows/heap.Heap).Top -/
def an57 : ACode :=
 (.seq (.reg 0 [] [] [sD 2 (.mv (.c (.int .i64 0)))])
 (.seq (.seq (.reg 0 [] [] [sD 3 (.mv (.t 0)),
 sD 4 (.bin .eql .ptr (.t 3) (.c .nilp))])
 (.cond (.t 4) (.seq (.reg 0 [] [] [sD 2 (.mv (.c (.int .i64 0)))])
 .ret)
 .skip))
 (.seq (.reg 0 [] [] [sD 5 (.mv (.t 0)),
 sD 6 (.nilc (.t 5)),
 sD 7 (.fa 3 (.t 6)),
 sD 8 (.ld none (.t 7)),
 sD 2 (.mv (.t 8))])
 .ret)))
def fn57 : IFun := ⟨9, [(.tmp 2)], an57.erase⟩
theorem ok57 : okFun Try.prog 57 fn57 = true := by kernel_rfl
theorem oka57 : okA fn57.ntmps fn57.results an57 = true := by kernel_rfl
def sh57 (C : CallA) (h0 : AV) (h : H) (R : AV → H → Prop) : Prop :=
 valA (binOp .eql .ptr h0 .nilp) h fun t4 h =>
 condA t4
  (R (.int .i64 0) h)
  (valA (nilcA h0) h fun t6 h =>
 valA (faA 3 t6) h fun t7 h =>
 valA (ldA h none t7) h fun t8 h =>
 R t8 h)
theorem she57 (C : CallA) (h0 : AV) (h : H) (R : AV → H → Prop) : wpA C an57 (argE [h0]) h (outA [(.tmp 2)] R) = sh57 C h0 h R := by kernel_rfl
/-! (*bellows/heap.Heap).Size -/
def an58 : ACode :=
 (.seq (.reg 0 [] [] [sD 2 (.mv (.c (.int .i64 0)))])
 (.seq (.seq (.reg 0 [] [] [sD 3 (.mv (.t 0)),
 sD 4 (.bin .eql .ptr (.t 3) (.c .nilp))])
 (.cond (.t 4) (.seq (.reg 0 [] [] [sD 2 (.mv (.c (.int .i64 0)))])
 .ret)
 .skip))
 (.seq (.reg 0 [] [] [sD 5 (.mv (.t 0)),
 sD 6 (.nilc (.t 5)),
 sD 7 (.fa 0 (.t 6)),
 sD 8 (.ld none (.t 7)),
 sD 9 (.len false (.t 8)),
 sD 2 (.mv (.t 9))])
 .ret)))
def fn58 : IFun := ⟨10, [(.tmp 2)], an58.erase⟩
theorem ok58 : okFun Try.prog 58 fn58 = true := by kernel_rfl
theorem oka58 : okA fn58.ntmps fn58.results an58 = true := by kernel_rfl
def sh58 (C : CallA) (h0 : AV) (h : H) (R : AV → H → Prop) : Prop :=
 valA (binOp .eql .ptr h0 .nilp) h fun t4 h =>
 condA t4
  (R (.int .i64 0) h)
  (valA (nilcA h0) h fun t6 h =>
 valA (faA 0 t6) h fun t7 h =>
 valA (ldA h none t7) h fun t8 h =>
 valA (lenA false t8) h fun t9 h =>
 R t9 h)
theorem she58 (C : CallA) (h0 : AV) (h : H) (R : AV → H → Prop) : wpA C an58 (argE [h0]) h (outA [(.tmp 2)] R) = sh58 C h0 h R := by kernel_rfl
/-! (*bellows/heap.Heap).Objects -/
def an59 : ACode :=
 (.seq (.reg 0 [] [] [sD 2 (.mv (.c .nilsl))])
 (.seq (.reg 0 [] [] [sD 3 (.mv (.c .nilsl))])
 (.seq (.seq (.reg 0 [] [] [sD 5 (.mv (.t 0)),
 sD 6 (.call 57 [(.t 5)]),
 sD 7 (.mv (.c (.int .i64 0)))])
 (.block 0 (.loop [3, 7] 201 (.seq (.reg 0 [] [] [sD 8 (.bin .lss .num (.t 7) (.t 6))])
 (.seq (.cond (.t 8) .skip
 (.exit 0))
 (.seq (.block 1 (.seq (.reg 0 [] [] [sD 9 (.mv (.t 7)),
 sD 4 (.mv (.t 9))])
 (.seq (.reg 0 [] [] [sD 10 (.mv (.t 0)),
 sD 11 (.mv (.t 4)),
 sD 12 (.call 56 [(.t 10), (.t 11)])])
 (.cond (.t 12) (.reg 0 [] [] [sD 13 (.mv (.t 3)),
 sD 14 (.mv (.t 4)),
 sD 15 (.mksl none 3 [(.int .i64 0)] 1 [(0, 1, (.t 14))]),
 sD 16 (.app 3 1 8 [(.int .i64 0)] (.t 13) (.t 15)),
 sD 3 (.mv (.t 16))])
 .skip))))
 (.reg 0 [] [] [sD 17 (.bin .add .num (.t 7) (.c (.int .i64 1))),
 sD 7 (.mv (.t 17))])))))))
 (.seq (.reg 0 [] [] [sD 18 (.mv (.t 3)),
 sD 2 (.mv (.t 18))])
 .ret))))
def fn59 : IFun := ⟨19, [(.tmp 2)], an59.erase⟩
theorem ok59 : okFun Try.prog 59 fn59 = true := by kernel_rfl
theorem oka59 : okA fn59.ntmps fn59.results an59 = true := by kernel_rfl
def sh59 (C : CallA) (h0 : AV) (h : H) (R : AV → H → Prop) : Prop :=
 joinA (fun (l3' : AV) (h : H) =>
  R l3' h) fun J =>
 C 57 [h0] h fun t6 h =>
 loopA (fun N l h => argA l 0 fun l3 => argA l 1 fun t7 => 
  valA (binOp .lss .num t7 t6) h fun t8 h =>
  condA t8
   (joinA (fun (l3'_0 : AV) (h : H) =>
   valA (binOp .add .num t7 (.int .i64 1)) h fun t17 h =>
   N [l3'_0, t17] h) fun J_10 =>
  C 56 [h0, t7] h fun t12 h =>
  condA t12
   (mkslA h 3 1 (fillV [(.int .i64 0)] [(0, 1, t7)]) fun t15 h =>
   appendA h 3 1 8 l3 t15 fun t16 h =>
   J_10 t16 h)
   (J_10 l3 h))
   (J l3 h)) [.nilsl, (.int .i64 0)] h
theorem she59 (C : CallA) (h0 : AV) (h : H) (R : AV → H → Prop) : wpA C an59 (argE [h0]) h (outA [(.tmp 2)] R) = sh59 C h0 h R := by kernel_rfl
/-! bellows/bellowslaw02.Made -/
def an60 : ACode :=
 (.seq (.reg 0 [] [] [sD 6 (.mv (.c .nilp)),
 sD 7 (.mv (.c .nilp))])
 (.seq (.seq (.reg 0 [] [] [sD 13 (.mv (.t 1)),
 sD 14 (.len false (.t 13)),
 sD 15 (.bin .gtr .num (.t 14) (.c (.int .i64 600)))])
 (.cond (.t 15) (.reg 0 [] [] [sD 16 (.mv (.t 1)),
 sD 17 (.sli (.row 2) (.t 16) none (some (.c (.int .i64 600))) none),
 sD 1 (.mv (.t 17))])
 .skip))
 (.seq (.reg 0 [] [] [sD 18 (.mv (.t 0)),
 sD 19 (.mn [(.t 18), (.c (.int .i64 4000))]),
 sD 0 (.mv (.t 19))])
 (.seq (.reg 0 [] [] [sD 21 (.mv (.t 0)),
 sD 22 (.mv (.t 1)),
 sD 23 (.call 49 [(.t 21), (.t 22)]),
 sD 20 (.mv (.t 23)),
 sD 24 (.ext (.t 20) 0),
 sD 25 (.ext (.t 20) 1),
 sD 8 (.mv (.t 24)),
 sD 9 (.mv (.t 25))])
 (.seq (.seq (.reg 0 [] [] [sD 26 (.mv (.t 9)),
 sD 27 (.bin .neq .num (.t 26) (.c (.int .i64 0))),
 sD 28 (.mv (.t 27)),
 sG 29 28 false (.mv (.t 8)),
 sG 30 28 false (.bin .eql .ptr (.t 29) (.c .nilp)),
 sD 31 (.pick (.t 28) (.c (.bool true)) (.t 30)),
 sD 32 (.mv (.t 31)),
 sG 33 32 false (.mv (.t 0)),
 sG 34 32 false (.mv (.t 1)),
 sG 35 32 false (.call 50 [(.t 33), (.t 34)]),
 sG 36 32 false (.bin .neq .num (.t 35) (.c (.int .i64 0))),
 sD 37 (.pick (.t 32) (.c (.bool true)) (.t 36))])
 (.cond (.t 37) (.seq (.reg 0 [] [] [sD 6 (.mv (.c .nilp)),
 sD 7 (.mv (.c .nilp))])
 .ret)
 .skip))
 (.seq (.reg 0 [] [] [sD 38 (.mv (.t 0)),
 sD 39 (.mv (.t 1)),
 sD 40 (.build [(.int .i64 0), .nilsl, .nilsl] [(0, 1, (.t 38)), (1, 1, (.t 39))]),
 sD 41 (.bx none 56 (.t 40)),
 sD 10 (.mv (.t 41))])
 (.seq (.seq (.reg 0 [] [] [sD 42 (.mv (.t 2)),
 sD 43 (.call 73 [(.t 42)]),
 sD 44 (.len false (.t 43)),
 sD 45 (.mv (.c (.int .i64 0)))])
 (.block 0 (.loop [45] 61572651156736 (.seq (.reg 0 [] [] [sD 46 (.bin .lss .num (.t 45) (.t 44))])
 (.seq (.cond (.t 46) .skip
 (.exit 0))
 (.seq (.block 1 (.seq (.reg 0 [] [] [sD 47 (.ia none 5 (.t 43) (.t 45)),
 sD 48 (.ld (some 5) (.t 47)),
 sD 12 (.al none 72 [(.int .i64 0), (.int .i64 0), (.int .i64 0), (.int .u64 0), (.bool false)]),
 sN (.st 5 (.t 12) (.t 48))])
 (.seq (.reg 0 [] [] [sD 49 (.fa 0 (.t 12)),
 sD 50 (.ld none (.t 49)),
 sD 51 (.bin .neq .num (.t 50) (.c (.int .i64 1))),
 sD 52 (.mv (.t 51)),
 sG 53 52 false (.mv (.t 10)),
 sG 54 52 false (.nilc (.t 53)),
 sG 55 52 false (.fa 2 (.t 54)),
 sG 56 52 false (.ld none (.t 55)),
 sG 57 52 false (.len false (.t 56)),
 sG 58 52 false (.bin .lss .num (.t 57) (.c (.int .i64 150))),
 sD 59 (.pick (.t 52) (.c (.bool true)) (.t 58))])
 (.cond (.t 59) (.reg 0 [] [] [sD 60 (.mv (.t 8)),
 sD 61 (.mv (.t 10)),
 sD 62 (.ld (some 5) (.t 12)),
 sD 63 (.call 74 [(.t 60), (.t 61), (.t 62)])])
 .skip))))
 (.reg 0 [] [] [sD 64 (.bin .add .num (.t 45) (.c (.int .i64 1))),
 sD 45 (.mv (.t 64))])))))))
 (.seq (.reg 0 [] [] [sD 65 (.mv (.t 8)),
 sD 66 (.mv (.t 10)),
 sD 6 (.mv (.t 65)),
 sD 7 (.mv (.t 66))])
 .ret))))))))
def fn60 : IFun := ⟨67, [(.tmp 6), (.tmp 7)], an60.erase⟩
theorem ok60 : okFun Try.prog 60 fn60 = true := by kernel_rfl
theorem oka60 : okA fn60.ntmps fn60.results an60 = true := by kernel_rfl
def sh60 (C : CallA) (words0 layouts1 l2 : AV) (h : H) (R : AV → H → Prop) : Prop :=
 joinA (fun (layouts1' : AV) (h : H) =>
  valA (mnA [words0, (.int .i64 4000)]) h fun t19 h =>
  C 49 [t19, layouts1'] h fun t23 h =>
  valA (extA t23 0) h fun t24 h =>
  valA (extA t23 1) h fun t25 h =>
  valA (binOp .neq .num t25 (.int .i64 0)) h fun t27 h =>
  whenA t27 false (fun K => K t24 h) h fun t29 h =>
  whenA t27 false (fun K => valA (binOp .eql .ptr t29 .nilp) h K) h fun t30 h =>
  valA (pickA t27 (.bool true) t30) h fun t31 h =>
  whenA t31 false (fun K => K t19 h) h fun t33 h =>
  whenA t31 false (fun K => K layouts1' h) h fun t34 h =>
  whenA t31 false (fun K => C 50 [t33, t34] h K) h fun t35 h =>
  whenA t31 false (fun K => valA (binOp .neq .num t35 (.int .i64 0)) h K) h fun t36 h =>
  valA (pickA t31 (.bool true) t36) h fun t37 h =>
  condA t37
   (R (.tup [.nilp, .nilp]) h)
   (valA (buildA (fillV [(.int .i64 0), .nilsl, .nilsl] [(0, 1, t19), (1, 1, layouts1')])) h fun t40 h =>
  newA h (AV.cells t40) 56 (fun b => .ptr b 0) fun t41 h =>
  joinA (fun (h : H) =>
   R (.tup [t24, t41]) h) fun J =>
  C 73 [l2] h fun t43 h =>
  valA (lenA false t43) h fun t44 h =>
  loopA (fun N l h => argA l 0 fun t45 => 
   valA (binOp .lss .num t45 t44) h fun t46 h =>
   condA t46
    (joinA (fun (h : H) =>
    valA (binOp .add .num t45 (.int .i64 1)) h fun t64 h =>
    N [t64] h) fun J_18 =>
   valA (iaA 5 t43 t45) h fun t47 h =>
   valA (ldA h (some 5) t47) h fun t48 h =>
   newA h [(.int .i64 0), (.int .i64 0), (.int .i64 0), (.int .u64 0), (.bool false)] 72 (fun b => .ptr b 0) fun o12 h =>
   memA (stA h 5 o12 t48) .undef fun _ h =>
   valA (faA 0 o12) h fun t49 h =>
   valA (ldA h none t49) h fun t50 h =>
   valA (binOp .neq .num t50 (.int .i64 1)) h fun t51 h =>
   whenA t51 false (fun K => K t41 h) h fun t53 h =>
   whenA t51 false (fun K => valA (nilcA t53) h K) h fun t54 h =>
   whenA t51 false (fun K => valA (faA 2 t54) h K) h fun t55 h =>
   whenA t51 false (fun K => valA (ldA h none t55) h K) h fun t56 h =>
   whenA t51 false (fun K => valA (lenA false t56) h K) h fun t57 h =>
   whenA t51 false (fun K => valA (binOp .lss .num t57 (.int .i64 150)) h K) h fun t58 h =>
   valA (pickA t51 (.bool true) t58) h fun t59 h =>
   condA t59
    (valA (ldA h (some 5) o12) h fun t62 h =>
    C 74 [t24, t41, t62] h fun t63 h =>
    J_18 h)
    (J_18 h))
    (J h)) [(.int .i64 0)] h)) fun J_19 =>
 valA (lenA false layouts1) h fun t14 h =>
 valA (binOp .gtr .num t14 (.int .i64 600)) h fun t15 h =>
 condA t15
  (valA (sliceOp (.row 2) layouts1 none (some (.int .i64 600)) none) h fun t17 h =>
  J_19 t17 h)
  (J_19 layouts1 h)
theorem she60 (C : CallA) (words0 layouts1 l2 : AV) (h : H) (R : AV → H → Prop) : wpA C an60 (argE [words0, layouts1, l2]) h (outA [(.tmp 6), (.tmp 7)] R) = sh60 C words0 layouts1 l2 h R := by kernel_rfl
/-! bellows/bellowslaw02.place -/
def an61 : ACode :=
 (.seq (.reg 0 [] [] [sD 4 (.mv (.c (.int .i64 0)))])
 (.seq (.seq (.reg 0 [] [] [sD 5 (.mv (.t 1)),
 sD 6 (.bin .geq .num (.t 5) (.c (.int .i64 0))),
 sD 7 (.mv (.t 6)),
 sG 8 7 false (.mv (.t 0)),
 sG 9 7 false (.len false (.t 8)),
 sG 10 7 false (.bin .eql .num (.t 9) (.c (.int .i64 0))),
 sD 11 (.pick (.t 7) (.c (.bool true)) (.t 10))])
 (.cond (.t 11) (.seq (.reg 0 [] [] [sD 12 (.mv (.t 1)),
 sD 4 (.mv (.t 12))])
 .ret)
 .skip))
 (.seq (.reg 0 [] [] [sD 13 (.mv (.t 0)),
 sD 14 (.mv (.t 1)),
 sD 15 (.bin .add .num (.t 14) (.c (.int .i64 1))),
 sD 16 (.un .neg (.t 15)),
 sD 17 (.cv none (.toInt .u64) (.t 16)),
 sD 18 (.mv (.t 0)),
 sD 19 (.len false (.t 18)),
 sD 20 (.cv none (.toInt .u64) (.t 19)),
 sD 21 (.bin .rem .num (.t 17) (.t 20)),
 sD 22 (.cv none (.toInt .i64) (.t 21)),
 sD 23 (.ia none 5 (.t 13) (.t 22)),
 sD 24 (.fa 0 (.t 23)),
 sD 25 (.ld none (.t 24)),
 sD 4 (.mv (.t 25))])
 .ret)))
def fn61 : IFun := ⟨26, [(.tmp 4)], an61.erase⟩
theorem ok61 : okFun Try.prog 61 fn61 = true := by kernel_rfl
theorem oka61 : okA fn61.ntmps fn61.results an61 = true := by kernel_rfl
def sh61 (C : CallA) (l0 a1 : AV) (h : H) (R : AV → H → Prop) : Prop :=
 valA (binOp .geq .num a1 (.int .i64 0)) h fun t6 h =>
 whenA t6 false (fun K => K l0 h) h fun t8 h =>
 whenA t6 false (fun K => valA (lenA false t8) h K) h fun t9 h =>
 whenA t6 false (fun K => valA (binOp .eql .num t9 (.int .i64 0)) h K) h fun t10 h =>
 valA (pickA t6 (.bool true) t10) h fun t11 h =>
 condA t11
  (R a1 h)
  (valA (binOp .add .num a1 (.int .i64 1)) h fun t15 h =>
 valA (unOp .neg t15) h fun t16 h =>
 valA (cvA .u64 t16) h fun t17 h =>
 valA (lenA false l0) h fun t19 h =>
 valA (cvA .u64 t19) h fun t20 h =>
 valA (binOp .rem .num t17 t20) h fun t21 h =>
 valA (cvA .i64 t21) h fun t22 h =>
 valA (iaA 5 l0 t22) h fun t23 h =>
 valA (faA 0 t23) h fun t24 h =>
 valA (ldA h none t24) h fun t25 h =>
 R t25 h)
theorem she61 (C : CallA) (l0 a1 : AV) (h : H) (R : AV → H → Prop) : wpA C an61 (argE [l0, a1]) h (outA [(.tmp 4)] R) = sh61 C l0 a1 h R := by kernel_rfl
/-! (*bellows/heap.Heap).Load -/
def an62 : ACode :=
 (.seq (.reg 0 [] [] [sD 4 (.mv (.c (.int .u64 0)))])
 (.seq (.seq (.reg 0 [] [] [sD 5 (.mv (.t 1)),
 sD 6 (.bin .lss .num (.t 5) (.c (.int .i64 0))),
 sD 7 (.mv (.t 6)),
 sG 8 7 false (.mv (.t 1)),
 sG 9 7 false (.mv (.t 0)),
 sG 10 7 false (.call 58 [(.t 9)]),
 sG 11 7 false (.bin .geq .num (.t 8) (.t 10)),
 sD 12 (.pick (.t 7) (.c (.bool true)) (.t 11))])
 (.cond (.t 12) (.seq (.reg 0 [] [] [sD 4 (.mv (.c (.int .u64 0)))])
 .ret)
 .skip))
 (.seq (.reg 0 [] [] [sD 13 (.mv (.t 0)),
 sD 14 (.nilc (.t 13)),
 sD 15 (.fa 0 (.t 14)),
 sD 16 (.ld none (.t 15)),
 sD 17 (.mv (.t 1)),
 sD 18 (.ia none 1 (.t 16) (.t 17)),
 sD 19 (.ld none (.t 18)),
 sD 4 (.mv (.t 19))])
 .ret)))
def fn62 : IFun := ⟨20, [(.tmp 4)], an62.erase⟩
theorem ok62 : okFun Try.prog 62 fn62 = true := by kernel_rfl
theorem oka62 : okA fn62.ntmps fn62.results an62 = true := by kernel_rfl
def sh62 (C : CallA) (h0 i1 : AV) (h : H) (R : AV → H → Prop) : Prop :=
 valA (binOp .lss .num i1 (.int .i64 0)) h fun t6 h =>
 whenA t6 false (fun K => K i1 h) h fun t8 h =>
 whenA t6 false (fun K => K h0 h) h fun t9 h =>
 whenA t6 false (fun K => C 58 [t9] h K) h fun t10 h =>
 whenA t6 false (fun K => valA (binOp .geq .num t8 t10) h K) h fun t11 h =>
 valA (pickA t6 (.bool true) t11) h fun t12 h =>
 condA t12
  (R (.int .u64 0) h)
  (valA (nilcA h0) h fun t14 h =>
 valA (faA 0 t14) h fun t15 h =>
 valA (ldA h none t15) h fun t16 h =>
 valA (iaA 1 t16 i1) h fun t18 h =>
 valA (ldA h none t18) h fun t19 h =>
 R t19 h)
theorem she62 (C : CallA) (h0 i1 : AV) (h : H) (R : AV → H → Prop) : wpA C an62 (argE [h0, i1]) h (outA [(.tmp 4)] R) = sh62 C h0 i1 h R := by kernel_rfl
/-! (*bellows/heap.Heap).Set -/
def an63 : ACode :=
 (.seq (.reg 0 [] [] [sD 8 (.mv (.c (.int .i64 0)))])
 (.seq (.seq (.reg 0 [] [] [sD 9 (.mv (.t 0)),
 sD 10 (.mv (.t 1)),
 sD 11 (.mv (.t 2)),
 sD 12 (.call 101 [(.t 9), (.t 10), (.t 11), (.c (.bool false))]),
 sD 13 (.un .not (.t 12)),
 sD 14 (.mv (.t 13)),
 sG 15 14 false (.mv (.t 0)),
 sG 16 14 false (.mv (.t 3)),
 sG 17 14 false (.call 68 [(.t 15), (.t 16)]),
 sG 18 14 false (.un .not (.t 17)),
 sD 19 (.pick (.t 14) (.c (.bool true)) (.t 18))])
 (.cond (.t 19) (.seq (.reg 0 [] [] [sD 8 (.mv (.c (.int .i64 1)))])
 .ret)
 .skip))
 (.seq (.reg 0 [] [] [sD 20 (.mv (.t 0)),
 sD 21 (.nilc (.t 20)),
 sD 22 (.fa 0 (.t 21)),
 sD 23 (.ld none (.t 22)),
 sD 24 (.mv (.t 1)),
 sD 25 (.bin .add .num (.t 24) (.c (.int .i64 1))),
 sD 26 (.mv (.t 2)),
 sD 27 (.bin .add .num (.t 25) (.t 26)),
 sD 28 (.mv (.t 3)),
 sD 29 (.ia none 1 (.t 23) (.t 27)),
 sN (.st 1 (.t 29) (.t 28))])
 (.seq (.reg 0 [] [] [sD 8 (.mv (.c (.int .i64 0)))])
 .ret))))
def fn63 : IFun := ⟨30, [(.tmp 8)], an63.erase⟩
theorem ok63 : okFun Try.prog 63 fn63 = true := by kernel_rfl
theorem oka63 : okA fn63.ntmps fn63.results an63 = true := by kernel_rfl
def sh63 (C : CallA) (h0 at1 i2 w3 : AV) (h : H) (R : AV → H → Prop) : Prop :=
 C 101 [h0, at1, i2, (.bool false)] h fun t12 h =>
 valA (unOp .not t12) h fun t13 h =>
 whenA t13 false (fun K => K h0 h) h fun t15 h =>
 whenA t13 false (fun K => K w3 h) h fun t16 h =>
 whenA t13 false (fun K => C 68 [t15, t16] h K) h fun t17 h =>
 whenA t13 false (fun K => valA (unOp .not t17) h K) h fun t18 h =>
 valA (pickA t13 (.bool true) t18) h fun t19 h =>
 condA t19
  (R (.int .i64 1) h)
  (valA (nilcA h0) h fun t21 h =>
 valA (faA 0 t21) h fun t22 h =>
 valA (ldA h none t22) h fun t23 h =>
 valA (binOp .add .num at1 (.int .i64 1)) h fun t25 h =>
 valA (binOp .add .num t25 i2) h fun t27 h =>
 valA (iaA 1 t23 t27) h fun t29 h =>
 memA (stA h 1 t29 w3) .undef fun _ h =>
 R (.int .i64 0) h)
theorem she63 (C : CallA) (h0 at1 i2 w3 : AV) (h : H) (R : AV → H → Prop) : wpA C an63 (argE [h0, at1, i2, w3]) h (outA [(.tmp 8)] R) = sh63 C h0 at1 i2 w3 h R := by kernel_rfl
/-! (*bellows/heap.Heap).SetByte -/
def an65 : ACode :=
 (.seq (.reg 0 [] [] [sD 8 (.mv (.c (.int .i64 0)))])
 (.seq (.seq (.reg 0 [] [] [sD 11 (.mv (.t 0)),
 sD 12 (.mv (.t 1)),
 sD 13 (.mv (.t 2)),
 sD 14 (.call 101 [(.t 11), (.t 12), (.t 13), (.c (.bool true))]),
 sD 15 (.un .not (.t 14))])
 (.cond (.t 15) (.seq (.reg 0 [] [] [sD 8 (.mv (.c (.int .i64 1)))])
 .ret)
 .skip))
 (.seq (.reg 0 [] [] [sD 16 (.mv (.t 0)),
 sD 17 (.nilc (.t 16)),
 sD 18 (.fa 0 (.t 17)),
 sD 19 (.ld none (.t 18)),
 sD 20 (.mv (.t 1)),
 sD 21 (.bin .add .num (.t 20) (.c (.int .i64 1))),
 sD 22 (.mv (.t 2)),
 sD 23 (.bin .quo .num (.t 22) (.c (.int .i64 8))),
 sD 24 (.bin .add .num (.t 21) (.t 23)),
 sD 25 (.ia none 1 (.t 19) (.t 24)),
 sD 26 (.mv (.t 2)),
 sD 27 (.bin .rem .num (.t 26) (.c (.int .i64 8))),
 sD 28 (.bin .mul .num (.t 27) (.c (.int .i64 8))),
 sD 9 (.mv (.t 25)),
 sD 10 (.mv (.t 28))])
 (.seq (.reg 0 [0, 1, 2, 3, 4, 5, 6, 7, 8, 9, 10, 11, 12, 13] [[], [], [1], [1, 2], [], [4], [4, 5, 2, 1, 3], [], [7], [], [9, 7, 8], [8, 7, 9, 10, 3, 1, 2, 5, 4, 6], [11, 10, 9, 8, 7, 6, 5, 4, 3, 2, 1, 0], [0, 1, 2, 3, 4, 5, 6, 7, 8, 9, 10, 11, 12]] [sD 29 (.mv (.t 9)),
 sD 30 (.mv (.t 9)),
 sD 31 (.nilc (.t 30)),
 sD 32 (.ld none (.t 31)),
 sD 33 (.mv (.t 10)),
 sD 34 (.bin .shl .num (.c (.int .u64 255)) (.t 33)),
 sD 35 (.bin .andNot .num (.t 32) (.t 34)),
 sD 36 (.mv (.t 3)),
 sD 37 (.cv none (.toInt .u64) (.t 36)),
 sD 38 (.mv (.t 10)),
 sD 39 (.bin .shl .num (.t 37) (.t 38)),
 sD 40 (.bin .or .num (.t 35) (.t 39)),
 sD 41 (.nilc (.t 29)),
 sN (.st 1 (.t 41) (.t 40))])
 (.seq (.reg 0 [] [] [sD 8 (.mv (.c (.int .i64 0)))])
 .ret)))))
def fn65 : IFun := ⟨42, [(.tmp 8)], an65.erase⟩
theorem ok65 : okFun Try.prog 65 fn65 = true := by kernel_rfl
theorem oka65 : okA fn65.ntmps fn65.results an65 = true := by kernel_rfl
def sh65 (C : CallA) (h0 at1 i2 c3 : AV) (h : H) (R : AV → H → Prop) : Prop :=
 C 101 [h0, at1, i2, (.bool true)] h fun t14 h =>
 valA (unOp .not t14) h fun t15 h =>
 condA t15
  (R (.int .i64 1) h)
  (valA (nilcA h0) h fun t17 h =>
 valA (faA 0 t17) h fun t18 h =>
 valA (ldA h none t18) h fun t19 h =>
 valA (binOp .add .num at1 (.int .i64 1)) h fun t21 h =>
 valA (binOp .quo .num i2 (.int .i64 8)) h fun t23 h =>
 valA (binOp .add .num t21 t23) h fun t24 h =>
 valA (iaA 1 t19 t24) h fun t25 h =>
 valA (binOp .rem .num i2 (.int .i64 8)) h fun t27 h =>
 valA (binOp .mul .num t27 (.int .i64 8)) h fun t28 h =>
 valA (nilcA t25) h fun t31 h =>
 valA (ldA h none t31) h fun t32 h =>
 valA (binOp .shl .num (.int .u64 255) t28) h fun t34 h =>
 valA (binOp .andNot .num t32 t34) h fun t35 h =>
 valA (cvA .u64 c3) h fun t37 h =>
 valA (binOp .shl .num t37 t28) h fun t39 h =>
 valA (binOp .or .num t35 t39) h fun t40 h =>
 valA (nilcA t25) h fun t41 h =>
 memA (stA h 1 t41 t40) .undef fun _ h =>
 R (.int .i64 0) h)
theorem she65 (C : CallA) (h0 at1 i2 c3 : AV) (h : H) (R : AV → H → Prop) : wpA C an65 (argE [h0, at1, i2, c3]) h (outA [(.tmp 8)] R) = sh65 C h0 at1 i2 c3 h R := by kernel_rfl
/-! (*bellows/bellowsref02.Heap).Find -/
def an67 : ACode :=
 (.seq (.reg 0 [] [] [sD 4 (.mv (.c (.int .i64 0)))])
 (.seq (.seq (.reg 0 [] [] [sD 7 (.mv (.t 0)),
 sD 8 (.nilc (.t 7)),
 sD 9 (.fa 2 (.t 8)),
 sD 10 (.ld none (.t 9)),
 sD 11 (.len false (.t 10)),
 sD 12 (.mv (.c (.int .i64 0)))])
 (.block 0 (.loop [12] 7170 (.seq (.reg 0 [] [] [sD 13 (.bin .lss .num (.t 12) (.t 11))])
 (.seq (.cond (.t 13) .skip
 (.exit 0))
 (.seq (.block 1 (.seq (.reg 0 [] [] [sD 14 (.mv (.t 12)),
 sD 15 (.ia none 5 (.t 10) (.t 12)),
 sD 16 (.ld (some 5) (.t 15)),
 sD 6 (.al none 89 [(.int .i64 0), (.int .i64 0), (.int .i64 0), .nilsl, .nilsl]),
 sD 5 (.mv (.t 14)),
 sN (.st 5 (.t 6) (.t 16))])
 (.seq (.reg 0 [] [] [sD 17 (.fa 0 (.t 6)),
 sD 18 (.ld none (.t 17)),
 sD 19 (.mv (.t 1)),
 sD 20 (.bin .eql .num (.t 18) (.t 19))])
 (.cond (.t 20) (.seq (.reg 0 [] [] [sD 21 (.mv (.t 5)),
 sD 4 (.mv (.t 21))])
 .ret)
 .skip))))
 (.reg 0 [] [] [sD 22 (.bin .add .num (.t 12) (.c (.int .i64 1))),
 sD 12 (.mv (.t 22))])))))))
 (.seq (.reg 0 [] [] [sD 4 (.mv (.c (.int .i64 (-1))))])
 .ret)))
def fn67 : IFun := ⟨23, [(.tmp 4)], an67.erase⟩
theorem ok67 : okFun Try.prog 67 fn67 = true := by kernel_rfl
theorem oka67 : okA fn67.ntmps fn67.results an67 = true := by kernel_rfl
def sh67 (C : CallA) (h0 at1 : AV) (h : H) (R : AV → H → Prop) : Prop :=
 joinA (fun (h : H) =>
  R (.int .i64 (-1)) h) fun J =>
 valA (nilcA h0) h fun t8 h =>
 valA (faA 2 t8) h fun t9 h =>
 valA (ldA h none t9) h fun t10 h =>
 valA (lenA false t10) h fun t11 h =>
 loopA (fun N l h => argA l 0 fun t12 => 
  valA (binOp .lss .num t12 t11) h fun t13 h =>
  condA t13
   (valA (iaA 5 t10 t12) h fun t15 h =>
  valA (ldA h (some 5) t15) h fun t16 h =>
  newA h [(.int .i64 0), (.int .i64 0), (.int .i64 0), .nilsl, .nilsl] 89 (fun b => .ptr b 0) fun o6 h =>
  memA (stA h 5 o6 t16) .undef fun _ h =>
  valA (faA 0 o6) h fun t17 h =>
  valA (ldA h none t17) h fun t18 h =>
  valA (binOp .eql .num t18 at1) h fun t20 h =>
  condA t20
   (R t12 h)
   (valA (binOp .add .num t12 (.int .i64 1)) h fun t22 h =>
  N [t22] h))
   (J h)) [(.int .i64 0)] h
theorem she67 (C : CallA) (h0 at1 : AV) (h : H) (R : AV → H → Prop) : wpA C an67 (argE [h0, at1]) h (outA [(.tmp 4)] R) = sh67 C h0 at1 h R := by kernel_rfl
/-! (*bellows/heap.Heap).Fits -/
def an68 : ACode :=
 (.seq (.reg 0 [] [] [sD 4 (.mv (.c (.bool false)))])
 (.seq (.reg 0 [] [] [sD 5 (.mv (.t 0)),
 sD 6 (.bin .neq .ptr (.t 5) (.c .nilp)),
 sD 7 (.mv (.t 6)),
 sG 8 7 true (.mv (.t 1)),
 sG 9 7 true (.call 48 [(.t 8)]),
 sG 10 7 true (.mv (.t 9)),
 sG 11 10 false (.mv (.t 0)),
 sG 12 10 false (.mv (.t 1)),
 sG 13 10 false (.call 85 [(.t 12)]),
 sG 14 10 false (.call 56 [(.t 11), (.t 13)]),
 sG 15 7 true (.pick (.t 10) (.c (.bool true)) (.t 14)),
 sD 16 (.pick (.t 7) (.t 15) (.c (.bool false))),
 sD 4 (.mv (.t 16))])
 .ret))
def fn68 : IFun := ⟨17, [(.tmp 4)], an68.erase⟩
theorem ok68 : okFun Try.prog 68 fn68 = true := by kernel_rfl
theorem oka68 : okA fn68.ntmps fn68.results an68 = true := by kernel_rfl
def sh68 (C : CallA) (h0 w1 : AV) (h : H) (R : AV → H → Prop) : Prop :=
 valA (binOp .neq .ptr h0 .nilp) h fun t6 h =>
 whenA t6 true (fun K => K w1 h) h fun t8 h =>
 whenA t6 true (fun K => C 48 [t8] h K) h fun t9 h =>
 whenA t6 true (fun K => K t9 h) h fun t10 h =>
 whenA t10 false (fun K => K h0 h) h fun t11 h =>
 whenA t10 false (fun K => K w1 h) h fun t12 h =>
 whenA t10 false (fun K => C 85 [t12] h K) h fun t13 h =>
 whenA t10 false (fun K => C 56 [t11, t13] h K) h fun t14 h =>
 whenA t6 true (fun K => valA (pickA t10 (.bool true) t14) h K) h fun t15 h =>
 valA (pickA t6 t15 (.bool false)) h fun t16 h =>
 R t16 h
theorem she68 (C : CallA) (h0 w1 : AV) (h : H) (R : AV → H → Prop) : wpA C an68 (argE [h0, w1]) h (outA [(.tmp 4)] R) = sh68 C h0 w1 h R := by kernel_rfl
/-! (*bellows/bellowsref02.Heap).Fits -/
def an69 : ACode :=
 (.seq (.reg 0 [] [] [sD 4 (.mv (.c (.bool false)))])
 (.seq (.reg 0 [] [] [sD 5 (.mv (.t 1)),
 sD 6 (.bin .rem .num (.t 5) (.c (.int .u64 2))),
 sD 7 (.bin .eql .num (.t 6) (.c (.int .u64 1))),
 sD 8 (.mv (.t 7)),
 sG 9 8 false (.mv (.t 0)),
 sG 10 8 false (.mv (.t 1)),
 sG 11 8 false (.bin .quo .num (.t 10) (.c (.int .u64 2))),
 sG 12 8 false (.cv none (.toInt .i64) (.t 11)),
 sG 13 8 false (.call 67 [(.t 9), (.t 12)]),
 sG 14 8 false (.bin .geq .num (.t 13) (.c (.int .i64 0))),
 sD 15 (.pick (.t 8) (.c (.bool true)) (.t 14)),
 sD 4 (.mv (.t 15))])
 .ret))
def fn69 : IFun := ⟨16, [(.tmp 4)], an69.erase⟩
theorem ok69 : okFun Try.prog 69 fn69 = true := by kernel_rfl
theorem oka69 : okA fn69.ntmps fn69.results an69 = true := by kernel_rfl
def sh69 (C : CallA) (h0 w1 : AV) (h : H) (R : AV → H → Prop) : Prop :=
 valA (binOp .rem .num w1 (.int .u64 2)) h fun t6 h =>
 valA (binOp .eql .num t6 (.int .u64 1)) h fun t7 h =>
 whenA t7 false (fun K => K h0 h) h fun t9 h =>
 whenA t7 false (fun K => K w1 h) h fun t10 h =>
 whenA t7 false (fun K => valA (binOp .quo .num t10 (.int .u64 2)) h K) h fun t11 h =>
 whenA t7 false (fun K => valA (cvA .i64 t11) h K) h fun t12 h =>
 whenA t7 false (fun K => C 67 [t9, t12] h K) h fun t13 h =>
 whenA t7 false (fun K => valA (binOp .geq .num t13 (.int .i64 0)) h K) h fun t14 h =>
 valA (pickA t7 (.bool true) t14) h fun t15 h =>
 R t15 h
theorem she69 (C : CallA) (h0 w1 : AV) (h : H) (R : AV → H → Prop) : wpA C an69 (argE [h0, w1]) h (outA [(.tmp 4)] R) = sh69 C h0 w1 h R := by kernel_rfl
/-! (*bellows/heap.Heap).Len -/
def an72 : ACode :=
 (.seq (.reg 0 [] [] [sD 4 (.mv (.c (.int .i64 0))),
 sD 5 (.mv (.c (.int .i64 0)))])
 (.seq (.seq (.reg 0 [] [] [sD 6 (.mv (.t 0)),
 sD 7 (.mv (.t 1)),
 sD 8 (.call 56 [(.t 6), (.t 7)]),
 sD 9 (.un .not (.t 8))])
 (.cond (.t 9) (.seq (.reg 0 [] [] [sD 4 (.mv (.c (.int .i64 0))),
 sD 5 (.mv (.c (.int .i64 1)))])
 .ret)
 .skip))
 (.seq (.reg 0 [] [] [sD 10 (.mv (.t 0)),
 sD 11 (.nilc (.t 10)),
 sD 12 (.fa 0 (.t 11)),
 sD 13 (.ld none (.t 12)),
 sD 14 (.mv (.t 1)),
 sD 15 (.ia none 1 (.t 13) (.t 14)),
 sD 16 (.ld none (.t 15)),
 sD 17 (.call 35 [(.t 16)]),
 sD 4 (.mv (.t 17)),
 sD 5 (.mv (.c (.int .i64 0)))])
 .ret)))
def fn72 : IFun := ⟨18, [(.tmp 4), (.tmp 5)], an72.erase⟩
theorem ok72 : okFun Try.prog 72 fn72 = true := by kernel_rfl
theorem oka72 : okA fn72.ntmps fn72.results an72 = true := by kernel_rfl
def sh72 (C : CallA) (h0 at1 : AV) (h : H) (R : AV → H → Prop) : Prop :=
 C 56 [h0, at1] h fun t8 h =>
 valA (unOp .not t8) h fun t9 h =>
 condA t9
  (R (.tup [(.int .i64 0), (.int .i64 1)]) h)
  (valA (nilcA h0) h fun t11 h =>
 valA (faA 0 t11) h fun t12 h =>
 valA (ldA h none t12) h fun t13 h =>
 valA (iaA 1 t13 at1) h fun t15 h =>
 valA (ldA h none t15) h fun t16 h =>
 C 35 [t16] h fun t17 h =>
 R (.tup [t17, (.int .i64 0)]) h)
theorem she72 (C : CallA) (h0 at1 : AV) (h : H) (R : AV → H → Prop) : wpA C an72 (argE [h0, at1]) h (outA [(.tmp 4), (.tmp 5)] R) = sh72 C h0 at1 h R := by kernel_rfl
/-! bellows/bellowslaw02.Few -/
def an73 : ACode :=
 (.seq (.reg 0 [] [] [sD 2 (.mv (.c .nilsl))])
 (.seq (.seq (.reg 0 [] [] [sD 3 (.mv (.t 0)),
 sD 4 (.len false (.t 3)),
 sD 5 (.bin .gtr .num (.t 4) (.c (.int .i64 200)))])
 (.cond (.t 5) (.seq (.reg 0 [] [] [sD 6 (.mv (.t 0)),
 sD 7 (.sli (.row 5) (.t 6) none (some (.c (.int .i64 200))) none),
 sD 2 (.mv (.t 7))])
 .ret)
 .skip))
 (.seq (.reg 0 [] [] [sD 8 (.mv (.t 0)),
 sD 2 (.mv (.t 8))])
 .ret)))
def fn73 : IFun := ⟨9, [(.tmp 2)], an73.erase⟩
theorem ok73 : okFun Try.prog 73 fn73 = true := by kernel_rfl
theorem oka73 : okA fn73.ntmps fn73.results an73 = true := by kernel_rfl
def sh73 (C : CallA) (l0 : AV) (h : H) (R : AV → H → Prop) : Prop :=
 valA (lenA false l0) h fun t4 h =>
 valA (binOp .gtr .num t4 (.int .i64 200)) h fun t5 h =>
 condA t5
  (valA (sliceOp (.row 5) l0 none (some (.int .i64 200)) none) h fun t7 h =>
  R t7 h)
  (R l0 h)
theorem she73 (C : CallA) (l0 : AV) (h : H) (R : AV → H → Prop) : wpA C an73 (argE [l0]) h (outA [(.tmp 2)] R) = sh73 C l0 h R := by kernel_rfl
/-! bellows/bellowslaw02.Does -/
def an74 : ACode :=
 (.seq (.reg 0 [] [] [sD 5 (.bx none 72 (.t 2)),
 sD 6 (.mv (.c (.bool false)))])
 (.seq (.reg 0 [] [] [sD 13 (.fa 3 (.t 5)),
 sD 14 (.ld none (.t 13)),
 sD 7 (.mv (.t 14))])
 (.seq (.seq (.reg 0 [] [] [sD 15 (.fa 4 (.t 5)),
 sD 16 (.ld none (.t 15)),
 sD 17 (.mv (.t 16)),
 sG 18 17 true (.mv (.t 1)),
 sG 19 17 true (.nilc (.t 18)),
 sG 20 17 true (.fa 2 (.t 19)),
 sG 21 17 true (.ld none (.t 20)),
 sG 22 17 true (.len false (.t 21)),
 sG 23 17 true (.bin .gtr .num (.t 22) (.c (.int .i64 0))),
 sD 24 (.pick (.t 17) (.t 23) (.c (.bool false)))])
 (.cond (.t 24) (.reg 0 [0, 1, 2, 3, 4, 5, 6, 7, 8, 9, 10, 11, 12, 13, 14, 15, 16, 17, 18, 19] [[], [0], [0, 1], [1, 0, 2], [], [4], [], [6], [6, 7], [7, 6, 8], [8, 6, 7, 9], [9, 7, 6, 8, 10], [10, 8, 6, 7, 9, 11, 4, 5], [5, 4, 11, 9, 7, 6, 8, 10, 12], [12, 10, 8, 6, 7, 9, 11, 4, 5, 13, 2, 0, 1, 3], [3, 1, 0, 2, 13, 5, 4, 11, 9, 7, 6, 8, 10, 12, 14], [14, 12, 10, 8, 6, 7, 9, 11, 4, 5, 13, 2, 0, 1, 3, 15], [15, 3, 1, 0, 2, 13, 5, 4, 11, 9, 7, 6, 8, 10, 12, 14, 16], [16, 14, 12, 10, 8, 6, 7, 9, 11, 4, 5, 13, 2, 0, 1, 3, 15, 17], [17, 15, 3, 1, 0, 2, 13, 5, 4, 11, 9, 7, 6, 8, 10, 12, 14, 16, 18]] [sD 25 (.mv (.t 1)),
 sD 26 (.nilc (.t 25)),
 sD 27 (.fa 2 (.t 26)),
 sD 28 (.ld none (.t 27)),
 sD 29 (.fa 3 (.t 5)),
 sD 30 (.ld none (.t 29)),
 sD 31 (.mv (.t 1)),
 sD 32 (.nilc (.t 31)),
 sD 33 (.fa 2 (.t 32)),
 sD 34 (.ld none (.t 33)),
 sD 35 (.len false (.t 34)),
 sD 36 (.cv none (.toInt .u64) (.t 35)),
 sD 37 (.bin .rem .num (.t 30) (.t 36)),
 sD 38 (.cv none (.toInt .i64) (.t 37)),
 sD 39 (.ia none 5 (.t 28) (.t 38)),
 sD 40 (.fa 0 (.t 39)),
 sD 41 (.ld none (.t 40)),
 sD 42 (.cv none (.toInt .u64) (.t 41)),
 sD 43 (.bin .mul .num (.t 42) (.c (.int .u64 2))),
 sD 7 (.mv (.t 43))])
 .skip))
 (.seq (.reg 0 [0, 1, 2, 3, 4, 5, 6, 7] [[], [0], [0, 1], [1, 0, 2], [], [4], [4, 5, 2, 0, 1, 3], [3, 1, 0, 2, 5, 4, 6]] [sD 44 (.mv (.t 1)),
 sD 45 (.nilc (.t 44)),
 sD 46 (.fa 2 (.t 45)),
 sD 47 (.ld none (.t 46)),
 sD 48 (.fa 1 (.t 5)),
 sD 49 (.ld none (.t 48)),
 sD 50 (.call 61 [(.t 47), (.t 49)]),
 sD 8 (.mv (.t 50))])
 (.seq (.seq (.reg 0 [] [] [sD 51 (.fa 0 (.t 5)),
 sD 52 (.ld none (.t 51))])
 (.block 0 (.seq (.reg 0 [] [] [sD 54 (.bin .eql .num (.t 52) (.c (.int .i64 1))),
 sD 53 (.mv (.t 54))])
 (.cond (.t 53) (.seq (.reg 0 [] [] [sD 56 (.mv (.t 0)),
 sD 57 (.fa 1 (.t 5)),
 sD 58 (.ld none (.t 57)),
 sD 59 (.fa 2 (.t 5)),
 sD 60 (.ld none (.t 59)),
 sD 61 (.call 55 [(.t 56), (.t 58), (.t 60)]),
 sD 55 (.mv (.t 61)),
 sD 62 (.ext (.t 55) 0),
 sD 63 (.ext (.t 55) 1),
 sD 9 (.mv (.t 62)),
 sD 10 (.mv (.t 63))])
 (.seq (.reg 0 [] [] [sD 65 (.mv (.t 1)),
 sD 66 (.fa 1 (.t 5)),
 sD 67 (.ld none (.t 66)),
 sD 68 (.fa 2 (.t 5)),
 sD 69 (.ld none (.t 68)),
 sD 70 (.call 102 [(.t 65), (.t 67), (.t 69)]),
 sD 64 (.mv (.t 70)),
 sD 71 (.ext (.t 64) 0),
 sD 72 (.ext (.t 64) 1),
 sD 11 (.mv (.t 71)),
 sD 12 (.mv (.t 72))])
 (.seq (.reg 0 [] [] [sD 73 (.mv (.t 9)),
 sD 74 (.mv (.t 11)),
 sD 75 (.bin .eql .num (.t 73) (.t 74)),
 sD 76 (.mv (.t 75)),
 sG 77 76 true (.mv (.t 10)),
 sG 78 76 true (.mv (.t 12)),
 sG 79 76 true (.bin .eql .num (.t 77) (.t 78)),
 sD 80 (.pick (.t 76) (.t 79) (.c (.bool false))),
 sD 6 (.mv (.t 80))])
 .ret)))
 (.seq (.reg 0 [] [] [sD 82 (.bin .eql .num (.t 52) (.c (.int .i64 2))),
 sD 81 (.mv (.t 82))])
 (.cond (.t 81) (.seq (.reg 0 [0, 1, 2, 3, 4, 6, 7, 8, 9, 5, 10, 11, 12, 13] [[], [], [], [2], [], [4, 2, 3, 1, 0], [], [], [], [8], [], [0, 1, 3, 2, 4, 5, 10, 8, 9, 7, 6], [6, 7, 9, 8, 10, 11, 0, 1, 3, 2, 4, 5], [5, 4, 2, 3, 1, 0, 11, 10, 8, 9, 7, 6, 12]] [sD 83 (.mv (.t 0)),
 sD 84 (.mv (.t 8)),
 sD 85 (.fa 2 (.t 5)),
 sD 86 (.ld none (.t 85)),
 sD 87 (.mv (.t 7)),
 sD 89 (.mv (.t 1)),
 sD 90 (.mv (.t 8)),
 sD 91 (.fa 2 (.t 5)),
 sD 92 (.ld none (.t 91)),
 ⟨(some 88), none, (.call 63 [(.t 83), (.t 84), (.t 86), (.t 87)]), [⟨none, (.ld none (.t 91)), 92⟩]⟩,
 sD 93 (.mv (.t 7)),
 sD 94 (.call 103 [(.t 89), (.t 90), (.t 92), (.t 93)]),
 sD 95 (.bin .eql .num (.t 88) (.t 94)),
 sD 6 (.mv (.t 95))])
 .ret)
 (.seq (.reg 0 [] [] [sD 97 (.bin .eql .num (.t 52) (.c (.int .i64 3))),
 sD 96 (.mv (.t 97))])
 (.cond (.t 96) (.seq (.reg 0 [0, 1, 2, 3, 4, 5, 7, 8, 9, 10, 6, 11, 12, 13, 14, 15] [[], [], [], [2], [], [4], [4, 5, 2, 3, 1, 0], [], [], [], [9], [], [11], [0, 1, 3, 2, 5, 4, 6, 11, 12, 9, 10, 8, 7], [7, 8, 10, 9, 12, 11, 13, 0, 1, 3, 2, 5, 4, 6], [6, 4, 5, 2, 3, 1, 0, 13, 11, 12, 9, 10, 8, 7, 14]] [sD 98 (.mv (.t 0)),
 sD 99 (.mv (.t 8)),
 sD 100 (.fa 2 (.t 5)),
 sD 101 (.ld none (.t 100)),
 sD 102 (.mv (.t 7)),
 sD 103 (.cv none (.toInt .u8) (.t 102)),
 sD 105 (.mv (.t 1)),
 sD 106 (.mv (.t 8)),
 sD 107 (.fa 2 (.t 5)),
 sD 108 (.ld none (.t 107)),
 ⟨(some 104), none, (.call 65 [(.t 98), (.t 99), (.t 101), (.t 103)]), [⟨none, (.ld none (.t 107)), 108⟩]⟩,
 sD 109 (.mv (.t 7)),
 sD 110 (.cv none (.toInt .u8) (.t 109)),
 sD 111 (.call 104 [(.t 105), (.t 106), (.t 108), (.t 110)]),
 sD 112 (.bin .eql .num (.t 104) (.t 111)),
 sD 6 (.mv (.t 112))])
 .ret)
 .skip))))))))
 (.seq (.reg 0 [] [] [sD 6 (.mv (.c (.bool true)))])
 .ret))))))
def fn74 : IFun := ⟨113, [(.tmp 6)], an74.erase⟩
theorem ok74 : okFun Try.prog 74 fn74 = true := by kernel_rfl
theorem oka74 : okA fn74.ntmps fn74.results an74 = true := by kernel_rfl
def sh74 (C : CallA) (h0 x1 o2 : AV) (h : H) (R : AV → H → Prop) : Prop :=
 newA h (AV.cells o2) 72 (fun b => .ptr b 0) fun o5 h =>
 valA (faA 3 o5) h fun t13 h =>
 valA (ldA h none t13) h fun t14 h =>
 joinA (fun (w7' : AV) (h : H) =>
  valA (nilcA x1) h fun t45 h =>
  valA (faA 2 t45) h fun t46 h =>
  valA (ldA h none t46) h fun t47 h =>
  valA (faA 1 o5) h fun t48 h =>
  valA (ldA h none t48) h fun t49 h =>
  C 61 [t47, t49] h fun t50 h =>
  valA (faA 0 o5) h fun t51 h =>
  valA (ldA h none t51) h fun t52 h =>
  valA (binOp .eql .num t52 (.int .i64 1)) h fun t54 h =>
  condA t54
   (valA (faA 1 o5) h fun t57 h =>
   valA (ldA h none t57) h fun t58 h =>
   valA (faA 2 o5) h fun t59 h =>
   valA (ldA h none t59) h fun t60 h =>
   C 55 [h0, t58, t60] h fun t61 h =>
   valA (extA t61 0) h fun t62 h =>
   valA (extA t61 1) h fun t63 h =>
   valA (faA 1 o5) h fun t66 h =>
   valA (ldA h none t66) h fun t67 h =>
   valA (faA 2 o5) h fun t68 h =>
   valA (ldA h none t68) h fun t69 h =>
   C 102 [x1, t67, t69] h fun t70 h =>
   valA (extA t70 0) h fun t71 h =>
   valA (extA t70 1) h fun t72 h =>
   valA (binOp .eql .num t62 t71) h fun t75 h =>
   whenA t75 true (fun K => K t63 h) h fun t77 h =>
   whenA t75 true (fun K => K t72 h) h fun t78 h =>
   whenA t75 true (fun K => valA (binOp .eql .num t77 t78) h K) h fun t79 h =>
   valA (pickA t75 t79 (.bool false)) h fun t80 h =>
   R t80 h)
   (valA (binOp .eql .num t52 (.int .i64 2)) h fun t82 h =>
   condA t82
    (valA (faA 2 o5) h fun t85 h =>
    valA (ldA h none t85) h fun t86 h =>
    valA (faA 2 o5) h fun t91 h =>
    valA (ldA h none t91) h fun t92 h =>
    C 63 [h0, t50, t86, w7'] h fun t88 h =>
    againK (valA (ldA h none t91) h (fun v _ => v = t92)) <|
    C 103 [x1, t50, t92, w7'] h fun t94 h =>
    valA (binOp .eql .num t88 t94) h fun t95 h =>
    R t95 h)
    (valA (binOp .eql .num t52 (.int .i64 3)) h fun t97 h =>
    condA t97
     (valA (faA 2 o5) h fun t100 h =>
     valA (ldA h none t100) h fun t101 h =>
     valA (cvA .u8 w7') h fun t103 h =>
     valA (faA 2 o5) h fun t107 h =>
     valA (ldA h none t107) h fun t108 h =>
     C 65 [h0, t50, t101, t103] h fun t104 h =>
     againK (valA (ldA h none t107) h (fun v _ => v = t108)) <|
     valA (cvA .u8 w7') h fun t110 h =>
     C 104 [x1, t50, t108, t110] h fun t111 h =>
     valA (binOp .eql .num t104 t111) h fun t112 h =>
     R t112 h)
     (R (.bool true) h)))) fun J =>
 valA (faA 4 o5) h fun t15 h =>
 valA (ldA h none t15) h fun t16 h =>
 whenA t16 true (fun K => K x1 h) h fun t18 h =>
 whenA t16 true (fun K => valA (nilcA t18) h K) h fun t19 h =>
 whenA t16 true (fun K => valA (faA 2 t19) h K) h fun t20 h =>
 whenA t16 true (fun K => valA (ldA h none t20) h K) h fun t21 h =>
 whenA t16 true (fun K => valA (lenA false t21) h K) h fun t22 h =>
 whenA t16 true (fun K => valA (binOp .gtr .num t22 (.int .i64 0)) h K) h fun t23 h =>
 valA (pickA t16 t23 (.bool false)) h fun t24 h =>
 condA t24
  (valA (nilcA x1) h fun t26 h =>
  valA (faA 2 t26) h fun t27 h =>
  valA (ldA h none t27) h fun t28 h =>
  valA (faA 3 o5) h fun t29 h =>
  valA (ldA h none t29) h fun t30 h =>
  valA (nilcA x1) h fun t32 h =>
  valA (faA 2 t32) h fun t33 h =>
  valA (ldA h none t33) h fun t34 h =>
  valA (lenA false t34) h fun t35 h =>
  valA (cvA .u64 t35) h fun t36 h =>
  valA (binOp .rem .num t30 t36) h fun t37 h =>
  valA (cvA .i64 t37) h fun t38 h =>
  valA (iaA 5 t28 t38) h fun t39 h =>
  valA (faA 0 t39) h fun t40 h =>
  valA (ldA h none t40) h fun t41 h =>
  valA (cvA .u64 t41) h fun t42 h =>
  valA (binOp .mul .num t42 (.int .u64 2)) h fun t43 h =>
  J t43 h)
  (J t14 h)
theorem she74 (C : CallA) (h0 x1 o2 : AV) (h : H) (R : AV → H → Prop) : wpA C an74 (argE [h0, x1, o2]) h (outA [(.tmp 6)] R) = sh74 C h0 x1 o2 h R := by kernel_rfl
/-! (*bellows/bellowsref02.Heap).Top -/
def an75 : ACode :=
 (.seq (.reg 0 [] [] [sD 2 (.mv (.c (.int .i64 0)))])
 (.seq (.reg 0 [] [] [sD 3 (.mv (.c (.int .i64 0)))])
 (.seq (.seq (.reg 0 [] [] [sD 8 (.mv (.t 0)),
 sD 9 (.nilc (.t 8)),
 sD 10 (.fa 2 (.t 9)),
 sD 11 (.ld none (.t 10)),
 sD 12 (.len false (.t 11)),
 sD 13 (.mv (.c (.int .i64 0)))])
 (.block 0 (.loop [3, 13] 14345 (.seq (.reg 0 [] [] [sD 14 (.bin .lss .num (.t 13) (.t 12))])
 (.seq (.cond (.t 14) .skip
 (.exit 0))
 (.seq (.block 1 (.seq (.reg 0 [] [] [sD 15 (.ia none 5 (.t 11) (.t 13)),
 sD 16 (.ld (some 5) (.t 15)),
 sD 5 (.al none 89 [(.int .i64 0), (.int .i64 0), (.int .i64 0), .nilsl, .nilsl]),
 sN (.st 5 (.t 5) (.t 16))])
 (.seq (.reg 0 [] [] [sD 18 (.mv (.t 0)),
 sD 19 (.fa 1 (.t 5)),
 sD 20 (.ld none (.t 19)),
 sD 21 (.fa 2 (.t 5)),
 sD 22 (.ld none (.t 21)),
 sD 23 (.call 53 [(.t 18), (.t 20), (.t 22)]),
 sD 17 (.mv (.t 23)),
 sD 24 (.ext (.t 17) 0),
 sD 25 (.ext (.t 17) 1),
 sD 6 (.mv (.t 24)),
 sD 7 (.mv (.t 25))])
 (.reg 0 [] [] [sD 26 (.mv (.t 3)),
 sD 27 (.mv (.t 6)),
 sD 28 (.bin .add .num (.t 26) (.t 27)),
 sD 3 (.mv (.t 28))]))))
 (.reg 0 [] [] [sD 29 (.bin .add .num (.t 13) (.c (.int .i64 1))),
 sD 13 (.mv (.t 29))])))))))
 (.seq (.reg 0 [] [] [sD 30 (.mv (.t 3)),
 sD 2 (.mv (.t 30))])
 .ret))))
def fn75 : IFun := ⟨31, [(.tmp 2)], an75.erase⟩
theorem ok75 : okFun Try.prog 75 fn75 = true := by kernel_rfl
theorem oka75 : okA fn75.ntmps fn75.results an75 = true := by kernel_rfl
def sh75 (C : CallA) (h0 : AV) (h : H) (R : AV → H → Prop) : Prop :=
 joinA (fun (n3' : AV) (h : H) =>
  R n3' h) fun J =>
 valA (nilcA h0) h fun t9 h =>
 valA (faA 2 t9) h fun t10 h =>
 valA (ldA h none t10) h fun t11 h =>
 valA (lenA false t11) h fun t12 h =>
 loopA (fun N l h => argA l 0 fun n3 => argA l 1 fun t13 => 
  valA (binOp .lss .num t13 t12) h fun t14 h =>
  condA t14
   (valA (iaA 5 t11 t13) h fun t15 h =>
  valA (ldA h (some 5) t15) h fun t16 h =>
  newA h [(.int .i64 0), (.int .i64 0), (.int .i64 0), .nilsl, .nilsl] 89 (fun b => .ptr b 0) fun o5 h =>
  memA (stA h 5 o5 t16) .undef fun _ h =>
  valA (faA 1 o5) h fun t19 h =>
  valA (ldA h none t19) h fun t20 h =>
  valA (faA 2 o5) h fun t21 h =>
  valA (ldA h none t21) h fun t22 h =>
  C 53 [h0, t20, t22] h fun t23 h =>
  valA (extA t23 0) h fun t24 h =>
  valA (extA t23 1) h fun t25 h =>
  valA (binOp .add .num n3 t24) h fun t28 h =>
  valA (binOp .add .num t13 (.int .i64 1)) h fun t29 h =>
  N [t28, t29] h)
   (J n3 h)) [(.int .i64 0), (.int .i64 0)] h
theorem she75 (C : CallA) (h0 : AV) (h : H) (R : AV → H → Prop) : wpA C an75 (argE [h0]) h (outA [(.tmp 2)] R) = sh75 C h0 h R := by kernel_rfl
/-! bellows/bellowslaw02.Same -/
def an76 : ACode :=
 (.seq (.reg 0 [] [] [sD 4 (.mv (.c (.bool false)))])
 (.seq (.seq (.reg 0 [0, 1, 2, 3, 4, 5, 6, 8, 9, 10, 11, 7, 12, 13] [[], [0], [], [0, 1, 2], [2, 3, 0, 1], [1, 0, 3, 2, 4], [4, 2, 3, 0, 1, 5], [5, 1, 0, 3, 2, 4, 6], [4, 2, 3, 0, 1, 5], [5, 1, 0, 3, 2, 4, 8], [8, 4, 2, 3, 0, 1, 5, 9], [9, 5, 1, 0, 3, 2, 4, 8, 10], [10, 8, 9, 11, 6, 4, 2, 3, 0, 1, 5, 7], [7, 6, 11, 9, 8, 10, 12, 4, 2, 3, 0, 1, 5]] [sD 14 (.mv (.t 0)),
 sD 15 (.call 57 [(.t 14)]),
 sD 16 (.mv (.t 1)),
 sD 17 (.call 75 [(.t 16)]),
 sD 18 (.bin .neq .num (.t 15) (.t 17)),
 sD 19 (.mv (.t 18)),
 sG 20 19 false (.mv (.t 0)),
 sG 22 19 false (.mv (.t 1)),
 sG 23 19 false (.nilc (.t 22)),
 sG 24 19 false (.fa 0 (.t 23)),
 sG 25 19 false (.ld none (.t 24)),
 ⟨(some 21), (some (19, false)), (.call 58 [(.t 20)]), [⟨(some (19, false)), (.ld none (.t 24)), 25⟩]⟩,
 sG 26 19 false (.bin .neq .num (.t 21) (.t 25)),
 sD 27 (.pick (.t 19) (.c (.bool true)) (.t 26))])
 (.cond (.t 27) (.seq (.reg 0 [] [] [sD 4 (.mv (.c (.bool false)))])
 .ret)
 .skip))
 (.seq (.seq (.reg 0 [] [] [sD 28 (.mv (.t 1)),
 sD 29 (.call 77 [(.t 28)]),
 sD 30 (.len false (.t 29)),
 sD 31 (.mv (.c (.int .i64 0)))])
 (.block 0 (.loop [31] 3758096387 (.seq (.reg 0 [] [] [sD 32 (.bin .lss .num (.t 31) (.t 30))])
 (.seq (.cond (.t 32) .skip
 (.exit 0))
 (.seq (.block 1 (.seq (.reg 0 [] [] [sD 33 (.mv (.t 31)),
 sD 34 (.ia none 1 (.t 29) (.t 31)),
 sD 35 (.ld none (.t 34)),
 sD 5 (.mv (.t 33)),
 sD 6 (.mv (.t 35))])
 (.seq (.reg 0 [] [] [sD 36 (.mv (.t 0)),
 sD 37 (.mv (.t 5)),
 sD 38 (.call 62 [(.t 36), (.t 37)]),
 sD 39 (.mv (.t 6)),
 sD 40 (.bin .neq .num (.t 38) (.t 39))])
 (.cond (.t 40) (.seq (.reg 0 [] [] [sD 4 (.mv (.c (.bool false)))])
 .ret)
 .skip))))
 (.reg 0 [] [] [sD 41 (.bin .add .num (.t 31) (.c (.int .i64 1))),
 sD 31 (.mv (.t 41))])))))))
 (.seq (.reg 0 [] [] [sD 42 (.mv (.t 0)),
 sD 43 (.call 59 [(.t 42)]),
 sD 7 (.mv (.t 43))])
 (.seq (.seq (.reg 0 [] [] [sD 44 (.mv (.t 7)),
 sD 45 (.len false (.t 44)),
 sD 46 (.mv (.t 1)),
 sD 47 (.nilc (.t 46)),
 sD 48 (.fa 2 (.t 47)),
 sD 49 (.ld none (.t 48)),
 sD 50 (.len false (.t 49)),
 sD 51 (.bin .neq .num (.t 45) (.t 50))])
 (.cond (.t 51) (.seq (.reg 0 [] [] [sD 4 (.mv (.c (.bool false)))])
 .ret)
 .skip))
 (.seq (.seq (.reg 0 [] [] [sD 52 (.mv (.t 1)),
 sD 53 (.nilc (.t 52)),
 sD 54 (.fa 2 (.t 53)),
 sD 55 (.ld none (.t 54)),
 sD 56 (.len false (.t 55)),
 sD 57 (.mv (.c (.int .i64 0)))])
 (.block 2 (.loop [57] 252201579132747905 (.seq (.reg 0 [] [] [sD 58 (.bin .lss .num (.t 57) (.t 56))])
 (.seq (.cond (.t 58) .skip
 (.exit 2))
 (.seq (.block 3 (.seq (.reg 0 [] [] [sD 59 (.mv (.t 57)),
 sD 60 (.ia none 5 (.t 55) (.t 57)),
 sD 61 (.ld (some 5) (.t 60)),
 sD 9 (.al none 89 [(.int .i64 0), (.int .i64 0), (.int .i64 0), .nilsl, .nilsl]),
 sD 8 (.mv (.t 59)),
 sN (.st 5 (.t 9) (.t 61))])
 (.seq (.reg 0 [] [] [sD 63 (.mv (.t 0)),
 sD 64 (.fa 0 (.t 9)),
 sD 65 (.ld none (.t 64)),
 sD 66 (.call 72 [(.t 63), (.t 65)]),
 sD 62 (.mv (.t 66)),
 sD 67 (.ext (.t 62) 0),
 sD 68 (.ext (.t 62) 1),
 sD 10 (.mv (.t 67)),
 sD 11 (.mv (.t 68))])
 (.seq (.reg 0 [] [] [sD 70 (.mv (.t 0)),
 sD 71 (.fa 0 (.t 9)),
 sD 72 (.ld none (.t 71)),
 sD 73 (.call 81 [(.t 70), (.t 72)]),
 sD 69 (.mv (.t 73)),
 sD 74 (.ext (.t 69) 0),
 sD 75 (.ext (.t 69) 1),
 sD 12 (.mv (.t 74)),
 sD 13 (.mv (.t 75))])
 (.seq (.reg 0 [0, 1, 2, 3, 4, 5, 6, 7, 8, 9, 10, 11, 12, 13, 14, 15, 16, 17, 18, 19, 20, 21, 22, 23, 24, 25, 26] [[], [], [1, 0], [0, 1, 2], [], [4], [4, 5, 2, 1, 0, 3], [3, 0, 1, 2, 5, 4, 6], [6, 4, 5, 2, 1, 0, 3, 7], [6, 4, 5, 2, 1, 0, 3, 7], [7, 3, 0, 1, 2, 5, 4, 6, 9], [9, 10, 7, 3, 0, 1, 2, 5, 4, 6, 8], [8, 10, 9, 11, 6, 4, 5, 2, 1, 0, 3, 7], [7, 3, 0, 1, 2, 5, 4, 6, 11, 9, 10, 8, 12], [12, 8, 10, 9, 11, 6, 4, 5, 2, 1, 0, 3, 7, 13], [12, 8, 10, 9, 11, 6, 4, 5, 2, 1, 0, 3, 7, 13], [13, 7, 3, 0, 1, 2, 5, 4, 6, 11, 9, 10, 8, 12, 15], [15, 16, 13, 7, 3, 0, 1, 2, 5, 4, 6, 11, 9, 10, 8, 12, 14], [14, 16, 15, 17, 12, 8, 10, 9, 11, 6, 4, 5, 2, 1, 0, 3, 7, 13], [13, 7, 3, 0, 1, 2, 5, 4, 6, 11, 9, 10, 8, 12, 17, 15, 16, 14, 18], [18, 14, 16, 15, 17, 12, 8, 10, 9, 11, 6, 4, 5, 2, 1, 0, 3, 7, 13, 19], [19, 13, 7, 3, 0, 1, 2, 5, 4, 6, 11, 9, 10, 8, 12, 17, 15, 16, 14, 18, 20], [20, 21, 18, 14, 16, 15, 17, 12, 8, 10, 9, 11, 6, 4, 5, 2, 1, 0, 3, 7, 13, 19], [19, 13, 7, 3, 0, 1, 2, 5, 4, 6, 11, 9, 10, 8, 12, 17, 15, 16, 14, 18, 21, 20, 22], [22, 20, 21, 18, 14, 16, 15, 17, 12, 8, 10, 9, 11, 6, 4, 5, 2, 1, 0, 3, 7, 13, 19, 23], [23, 19, 13, 7, 3, 0, 1, 2, 5, 4, 6, 11, 9, 10, 8, 12, 17, 15, 16, 14, 18, 21, 20, 22, 24], [24, 25, 22, 20, 21, 18, 14, 16, 15, 17, 12, 8, 10, 9, 11, 6, 4, 5, 2, 1, 0, 3, 7, 13, 19, 23]] [sD 76 (.mv (.t 7)),
 sD 77 (.mv (.t 8)),
 sD 78 (.ia none 1 (.t 76) (.t 77)),
 sD 79 (.ld none (.t 78)),
 sD 80 (.fa 0 (.t 9)),
 sD 81 (.ld none (.t 80)),
 sD 82 (.bin .neq .num (.t 79) (.t 81)),
 sD 83 (.mv (.t 82)),
 sG 84 83 false (.mv (.t 10)),
 sG 85 83 false (.fa 2 (.t 9)),
 sG 86 83 false (.ld none (.t 85)),
 sG 87 83 false (.bin .neq .num (.t 84) (.t 86)),
 sD 88 (.pick (.t 83) (.c (.bool true)) (.t 87)),
 sD 89 (.mv (.t 88)),
 sG 90 89 false (.mv (.t 12)),
 sG 91 89 false (.fa 1 (.t 9)),
 sG 92 89 false (.ld none (.t 91)),
 sG 93 89 false (.bin .neq .num (.t 90) (.t 92)),
 sD 94 (.pick (.t 89) (.c (.bool true)) (.t 93)),
 sD 95 (.mv (.t 94)),
 sG 96 95 false (.mv (.t 11)),
 sG 97 95 false (.bin .neq .num (.t 96) (.c (.int .i64 0))),
 sD 98 (.pick (.t 95) (.c (.bool true)) (.t 97)),
 sD 99 (.mv (.t 98)),
 sG 100 99 false (.mv (.t 13)),
 sG 101 99 false (.bin .neq .num (.t 100) (.c (.int .i64 0))),
 sD 102 (.pick (.t 99) (.c (.bool true)) (.t 101))])
 (.cond (.t 102) (.seq (.reg 0 [] [] [sD 4 (.mv (.c (.bool false)))])
 .ret)
 .skip))))))
 (.reg 0 [] [] [sD 103 (.bin .add .num (.t 57) (.c (.int .i64 1))),
 sD 57 (.mv (.t 103))])))))))
 (.seq (.reg 0 [] [] [sD 4 (.mv (.c (.bool true)))])
 .ret)))))))
def fn76 : IFun := ⟨104, [(.tmp 4)], an76.erase⟩
theorem ok76 : okFun Try.prog 76 fn76 = true := by kernel_rfl
theorem oka76 : okA fn76.ntmps fn76.results an76 = true := by kernel_rfl
def sh76 (C : CallA) (h0 x1 : AV) (h : H) (R : AV → H → Prop) : Prop :=
 C 57 [h0] h fun t15 h =>
 C 75 [x1] h fun t17 h =>
 valA (binOp .neq .num t15 t17) h fun t18 h =>
 whenA t18 false (fun K => K h0 h) h fun t20 h =>
 whenA t18 false (fun K => K x1 h) h fun t22 h =>
 whenA t18 false (fun K => valA (nilcA t22) h K) h fun t23 h =>
 whenA t18 false (fun K => valA (faA 0 t23) h K) h fun t24 h =>
 whenA t18 false (fun K => valA (ldA h none t24) h K) h fun t25 h =>
 whenA t18 false (fun K => C 58 [t20] h K) h fun t21 h =>
 againK (whenP t18 false (valA (ldA h none t24) h (fun v _ => v = t25))) <|
 whenA t18 false (fun K => valA (binOp .neq .num t21 t25) h K) h fun t26 h =>
 valA (pickA t18 (.bool true) t26) h fun t27 h =>
 condA t27
  (R (.bool false) h)
  (joinA (fun (h : H) =>
  C 59 [h0] h fun t43 h =>
  valA (lenA false t43) h fun t45 h =>
  valA (nilcA x1) h fun t47 h =>
  valA (faA 2 t47) h fun t48 h =>
  valA (ldA h none t48) h fun t49 h =>
  valA (lenA false t49) h fun t50 h =>
  valA (binOp .neq .num t45 t50) h fun t51 h =>
  condA t51
   (R (.bool false) h)
   (joinA (fun (h : H) =>
   R (.bool true) h) fun J =>
  valA (nilcA x1) h fun t53 h =>
  valA (faA 2 t53) h fun t54 h =>
  valA (ldA h none t54) h fun t55 h =>
  valA (lenA false t55) h fun t56 h =>
  loopA (fun N l h => argA l 0 fun t57 => 
   valA (binOp .lss .num t57 t56) h fun t58 h =>
   condA t58
    (valA (iaA 5 t55 t57) h fun t60 h =>
   valA (ldA h (some 5) t60) h fun t61 h =>
   newA h [(.int .i64 0), (.int .i64 0), (.int .i64 0), .nilsl, .nilsl] 89 (fun b => .ptr b 0) fun o9 h =>
   memA (stA h 5 o9 t61) .undef fun _ h =>
   valA (faA 0 o9) h fun t64 h =>
   valA (ldA h none t64) h fun t65 h =>
   C 72 [h0, t65] h fun t66 h =>
   valA (extA t66 0) h fun t67 h =>
   valA (extA t66 1) h fun t68 h =>
   valA (faA 0 o9) h fun t71 h =>
   valA (ldA h none t71) h fun t72 h =>
   C 81 [h0, t72] h fun t73 h =>
   valA (extA t73 0) h fun t74 h =>
   valA (extA t73 1) h fun t75 h =>
   valA (iaA 1 t43 t57) h fun t78 h =>
   valA (ldA h none t78) h fun t79 h =>
   valA (faA 0 o9) h fun t80 h =>
   valA (ldA h none t80) h fun t81 h =>
   valA (binOp .neq .num t79 t81) h fun t82 h =>
   whenA t82 false (fun K => K t67 h) h fun t84 h =>
   whenA t82 false (fun K => valA (faA 2 o9) h K) h fun t85 h =>
   whenA t82 false (fun K => valA (ldA h none t85) h K) h fun t86 h =>
   whenA t82 false (fun K => valA (binOp .neq .num t84 t86) h K) h fun t87 h =>
   valA (pickA t82 (.bool true) t87) h fun t88 h =>
   whenA t88 false (fun K => K t74 h) h fun t90 h =>
   whenA t88 false (fun K => valA (faA 1 o9) h K) h fun t91 h =>
   whenA t88 false (fun K => valA (ldA h none t91) h K) h fun t92 h =>
   whenA t88 false (fun K => valA (binOp .neq .num t90 t92) h K) h fun t93 h =>
   valA (pickA t88 (.bool true) t93) h fun t94 h =>
   whenA t94 false (fun K => K t68 h) h fun t96 h =>
   whenA t94 false (fun K => valA (binOp .neq .num t96 (.int .i64 0)) h K) h fun t97 h =>
   valA (pickA t94 (.bool true) t97) h fun t98 h =>
   whenA t98 false (fun K => K t75 h) h fun t100 h =>
   whenA t98 false (fun K => valA (binOp .neq .num t100 (.int .i64 0)) h K) h fun t101 h =>
   valA (pickA t98 (.bool true) t101) h fun t102 h =>
   condA t102
    (R (.bool false) h)
    (valA (binOp .add .num t57 (.int .i64 1)) h fun t103 h =>
   N [t103] h))
    (J h)) [(.int .i64 0)] h)) fun J_1 =>
 C 77 [x1] h fun t29 h =>
 valA (lenA false t29) h fun t30 h =>
 loopA (fun N_2 l h => argA l 0 fun t31 => 
  valA (binOp .lss .num t31 t30) h fun t32 h =>
  condA t32
   (valA (iaA 1 t29 t31) h fun t34 h =>
  valA (ldA h none t34) h fun t35 h =>
  C 62 [h0, t31] h fun t38 h =>
  valA (binOp .neq .num t38 t35) h fun t40 h =>
  condA t40
   (R (.bool false) h)
   (valA (binOp .add .num t31 (.int .i64 1)) h fun t41 h =>
  N_2 [t41] h))
   (J_1 h)) [(.int .i64 0)] h)
theorem she76 (C : CallA) (h0 x1 : AV) (h : H) (R : AV → H → Prop) : wpA C an76 (argE [h0, x1]) h (outA [(.tmp 4)] R) = sh76 C h0 x1 h R := by kernel_rfl
end Go.Proofs.Ytljkkfcokpimkaa.X
