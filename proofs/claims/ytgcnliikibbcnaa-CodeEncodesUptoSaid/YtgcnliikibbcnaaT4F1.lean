/- The plain programs of functions, printed; that they are the model's; what must hold ahead of each. -/
import Derived.Test.YtgcnliikibbcnaaProg
import Derived.Test.YtgcnliikibbcnaaXo
set_option maxRecDepth 100000
set_option linter.unusedVariables false
namespace Go.Proofs.Ytgcnliikibbcnaa.X
open Go
/-! bellows/code.Decode -/
def an20 : ACode :=
 (.seq (.reg 0 [] [] [sD 2 (.al none 34 [.nilsl, .nilsl, .nilsl, .nilsl, .nilsl, (.int .i64 0), (.int .i64 0)]),
 sD 3 (.mv (.c (.int .i64 0)))])
 (.seq (.seq (.reg 0 [] [] [sD 6 (.mv (.t 0)),
 sD 7 (.len false (.t 6)),
 sD 8 (.bin .lss .num (.t 7) (.c (.int .i64 4))),
 sD 9 (.mv (.t 8)),
 sG 10 9 false (.mv (.t 0)),
 sG 11 9 false (.sli (.row 1) (.t 10) none (some (.c (.int .i64 4))) none),
 sG 12 9 false (.cv none .b2s (.t 11)),
 sG 13 9 false (.bin .neq .num (.t 12) (.c (.str [66, 69, 76, 49]))),
 sD 14 (.pick (.t 9) (.c (.bool true)) (.t 13))])
 (.cond (.t 14) (.seq (.reg 0 [] [] [sD 15 (.build [.nilsl, .nilsl, .nilsl, .nilsl, .nilsl, (.int .i64 0), (.int .i64 0)] []),
 sN (.st 7 (.t 2) (.t 15)),
 sD 3 (.mv (.c (.int .i64 20)))])
 .ret)
 .skip))
 (.seq (.reg 0 [] [] [sD 16 (.mv (.t 0)),
 sD 17 (.build [.nilsl, (.int .i64 0), (.bool false)] [(0, 1, (.t 16)), (1, 1, (.c (.int .i64 4)))]),
 sD 18 (.bx none 85 (.t 17)),
 sD 4 (.mv (.t 18))])
 (.seq (.reg 0 [] [] [sD 5 (.al none 34 [.nilsl, .nilsl, .nilsl, .nilsl, .nilsl, (.int .i64 0), (.int .i64 0)])])
 (.seq (.reg 0 [] [] [sD 19 (.mv (.t 4)),
 sD 20 (.mv (.t 4)),
 sD 21 (.mkf 44 [(.t 20)] []),
 sD 22 (.call 43 [(.t 19), (.t 21)]),
 sD 23 (.fa 0 (.t 5)),
 sN (.st 1 (.t 23) (.t 22))])
 (.seq (.reg 0 [] [] [sD 24 (.mv (.t 4)),
 sD 25 (.mv (.t 4)),
 sD 26 (.mkf 46 [(.t 25)] []),
 sD 27 (.call 45 [(.t 24), (.t 26)]),
 sD 28 (.fa 1 (.t 5)),
 sN (.st 1 (.t 28) (.t 27))])
 (.seq (.reg 0 [] [] [sD 29 (.mv (.t 4)),
 sD 30 (.mv (.t 4)),
 sD 31 (.mkf 48 [(.t 30)] []),
 sD 32 (.call 47 [(.t 29), (.t 31)]),
 sD 33 (.fa 2 (.t 5)),
 sN (.st 1 (.t 33) (.t 32))])
 (.seq (.reg 0 [] [] [sD 34 (.mv (.t 4)),
 sD 35 (.mv (.t 4)),
 sD 36 (.mkf 48 [(.t 35)] []),
 sD 37 (.call 47 [(.t 34), (.t 36)]),
 sD 38 (.fa 3 (.t 5)),
 sN (.st 1 (.t 38) (.t 37))])
 (.seq (.reg 0 [] [] [sD 39 (.mv (.t 4)),
 sD 40 (.mv (.t 4)),
 sD 41 (.mkf 50 [(.t 40)] []),
 sD 42 (.call 49 [(.t 39), (.t 41)]),
 sD 43 (.fa 4 (.t 5)),
 sN (.st 1 (.t 43) (.t 42))])
 (.seq (.reg 0 [] [] [sD 44 (.mv (.t 4)),
 sD 45 (.call 51 [(.t 44)]),
 sD 46 (.fa 5 (.t 5)),
 sN (.st 1 (.t 46) (.t 45))])
 (.seq (.reg 0 [] [] [sD 47 (.mv (.t 4)),
 sD 48 (.call 51 [(.t 47)]),
 sD 49 (.fa 6 (.t 5)),
 sN (.st 1 (.t 49) (.t 48))])
 (.seq (.seq (.reg 0 [] [] [sD 50 (.mv (.t 4)),
 sD 51 (.nilc (.t 50)),
 sD 52 (.fa 2 (.t 51)),
 sD 53 (.ld none (.t 52)),
 sD 54 (.mv (.t 53)),
 sG 55 54 false (.mv (.t 4)),
 sG 56 54 false (.nilc (.t 55)),
 sG 57 54 false (.fa 1 (.t 56)),
 sG 58 54 false (.ld none (.t 57)),
 sG 59 54 false (.mv (.t 0)),
 sG 60 54 false (.len false (.t 59)),
 sG 61 54 false (.bin .neq .num (.t 58) (.t 60)),
 sD 62 (.pick (.t 54) (.c (.bool true)) (.t 61)),
 sD 63 (.mv (.t 62)),
 sG 64 63 false (.ld (some 7) (.t 5)),
 sG 65 63 false (.call 18 [(.t 64)]),
 sG 66 63 false (.bin .neq .num (.t 65) (.c (.int .i64 0))),
 sD 67 (.pick (.t 63) (.c (.bool true)) (.t 66))])
 (.cond (.t 67) (.seq (.reg 0 [] [] [sD 68 (.build [.nilsl, .nilsl, .nilsl, .nilsl, .nilsl, (.int .i64 0), (.int .i64 0)] []),
 sN (.st 7 (.t 2) (.t 68)),
 sD 3 (.mv (.c (.int .i64 20)))])
 .ret)
 .skip))
 (.seq (.reg 0 [] [] [sD 69 (.ld (some 7) (.t 5)),
 sN (.st 7 (.t 2) (.t 69)),
 sD 3 (.mv (.c (.int .i64 0)))])
 .ret)))))))))))))
def fn20 : IFun := ⟨70, [(.cell 2 (some 7)), (.tmp 3)], an20.erase⟩
theorem ok20 : okFun Try.prog 20 fn20 = true := by kernel_rfl
theorem oka20 : okA fn20.ntmps fn20.results an20 = true := by kernel_rfl
def sh20 (C : CallA) (b0 : AV) (h : H) (R : AV → H → Prop) : Prop :=
 boxA h [.nilsl, .nilsl, .nilsl, .nilsl, .nilsl, (.int .i64 0), (.int .i64 0)] 34 fun t2 h =>
 valA (lenA false b0) h fun t7 h =>
 valA (binOp .lss .num t7 (.int .i64 4)) h fun t8 h =>
 whenA t8 false (fun K => K b0 h) h fun t10 h =>
 whenA t8 false (fun K => valA (sliceOp (.row 1) t10 none (some (.int .i64 4)) none) h K) h fun t11 h =>
 whenA t8 false (fun K => valA (b2sA h t11) h K) h fun t12 h =>
 whenA t8 false (fun K => valA (binOp .neq .num t12 (.str [66, 69, 76, 49])) h K) h fun t13 h =>
 valA (pickA t8 (.bool true) t13) h fun t14 h =>
 condA t14
  (valA (buildA (fillV [.nilsl, .nilsl, .nilsl, .nilsl, .nilsl, (.int .i64 0), (.int .i64 0)] [])) h fun t15 h =>
  memA (stA h 7 t2 t15) .undef fun _ h =>
  valA (ldA h (some 7) t2) h fun res _ => R (.tup [res, (.int .i64 20)]) h)
  (valA (buildA (fillV [.nilsl, (.int .i64 0), (.bool false)] [(0, 1, b0), (1, 1, (.int .i64 4))])) h fun t17 h =>
 boxA h (AV.cells t17) 85 fun t18 h =>
 boxA h [.nilsl, .nilsl, .nilsl, .nilsl, .nilsl, (.int .i64 0), (.int .i64 0)] 34 fun m5 h =>
 C 43 [t18, (.fn 44 [t18] [])] h fun t22 h =>
 valA (faA 0 m5) h fun t23 h =>
 memA (stA h 1 t23 t22) .undef fun _ h =>
 C 45 [t18, (.fn 46 [t18] [])] h fun t27 h =>
 valA (faA 1 m5) h fun t28 h =>
 memA (stA h 1 t28 t27) .undef fun _ h =>
 C 47 [t18, (.fn 48 [t18] [])] h fun t32 h =>
 valA (faA 2 m5) h fun t33 h =>
 memA (stA h 1 t33 t32) .undef fun _ h =>
 C 47 [t18, (.fn 48 [t18] [])] h fun t37 h =>
 valA (faA 3 m5) h fun t38 h =>
 memA (stA h 1 t38 t37) .undef fun _ h =>
 C 49 [t18, (.fn 50 [t18] [])] h fun t42 h =>
 valA (faA 4 m5) h fun t43 h =>
 memA (stA h 1 t43 t42) .undef fun _ h =>
 C 51 [t18] h fun t45 h =>
 valA (faA 5 m5) h fun t46 h =>
 memA (stA h 1 t46 t45) .undef fun _ h =>
 C 51 [t18] h fun t48 h =>
 valA (faA 6 m5) h fun t49 h =>
 memA (stA h 1 t49 t48) .undef fun _ h =>
 valA (nilcA t18) h fun t51 h =>
 valA (faA 2 t51) h fun t52 h =>
 valA (ldA h none t52) h fun t53 h =>
 whenA t53 false (fun K => K t18 h) h fun t55 h =>
 whenA t53 false (fun K => valA (nilcA t55) h K) h fun t56 h =>
 whenA t53 false (fun K => valA (faA 1 t56) h K) h fun t57 h =>
 whenA t53 false (fun K => valA (ldA h none t57) h K) h fun t58 h =>
 whenA t53 false (fun K => K b0 h) h fun t59 h =>
 whenA t53 false (fun K => valA (lenA false t59) h K) h fun t60 h =>
 whenA t53 false (fun K => valA (binOp .neq .num t58 t60) h K) h fun t61 h =>
 valA (pickA t53 (.bool true) t61) h fun t62 h =>
 whenA t62 false (fun K => valA (ldA h (some 7) m5) h K) h fun t64 h =>
 whenA t62 false (fun K => C 18 [t64] h K) h fun t65 h =>
 whenA t62 false (fun K => valA (binOp .neq .num t65 (.int .i64 0)) h K) h fun t66 h =>
 valA (pickA t62 (.bool true) t66) h fun t67 h =>
 condA t67
  (valA (buildA (fillV [.nilsl, .nilsl, .nilsl, .nilsl, .nilsl, (.int .i64 0), (.int .i64 0)] [])) h fun t68 h =>
  memA (stA h 7 t2 t68) .undef fun _ h =>
  valA (ldA h (some 7) t2) h fun res_0 _ => R (.tup [res_0, (.int .i64 20)]) h)
  (valA (ldA h (some 7) m5) h fun t69 h =>
 memA (stA h 7 t2 t69) .undef fun _ h =>
 valA (ldA h (some 7) t2) h fun res_1 _ => R (.tup [res_1, (.int .i64 0)]) h))
theorem she20 (C : CallA) (b0 : AV) (h : H) (R : AV → H → Prop) : wpA C an20 (argE [b0]) h (outA [(.cell 2 (some 7)), (.tmp 3)] R) = sh20 C b0 h R := by kernel_rfl
/-! bellows/code.number -/
def an23 : ACode :=
 (.seq (.reg 0 [] [] [sD 4 (.mv (.c .nilp))])
 (.seq (.seq (.reg 0 [] [] [sD 5 (.mv (.t 1))])
 (.block 0 (.seq (.reg 0 [] [] [sD 7 (.bin .eql .num (.t 5) (.c (.int .u8 68))),
 sD 6 (.mv (.t 7))])
 (.cond (.t 6) (.seq (.reg 0 [] [] [sD 8 (.mv (.t 0)),
 sD 9 (.nilc (.t 8)),
 sD 10 (.fa 1 (.t 9)),
 sD 4 (.mv (.t 10))])
 .ret)
 (.seq (.reg 0 [] [] [sD 12 (.bin .eql .num (.t 5) (.c (.int .u8 65))),
 sD 11 (.mv (.t 12))])
 (.cond (.t 11) (.seq (.reg 0 [] [] [sD 13 (.mv (.t 0)),
 sD 14 (.nilc (.t 13)),
 sD 15 (.fa 2 (.t 14)),
 sD 4 (.mv (.t 15))])
 .ret)
 (.seq (.reg 0 [] [] [sD 17 (.bin .eql .num (.t 5) (.c (.int .u8 66))),
 sD 16 (.mv (.t 17))])
 (.cond (.t 16) (.seq (.reg 0 [] [] [sD 18 (.mv (.t 0)),
 sD 19 (.nilc (.t 18)),
 sD 20 (.fa 3 (.t 19)),
 sD 4 (.mv (.t 20))])
 .ret)
 (.seq (.reg 0 [] [] [sD 22 (.bin .eql .num (.t 5) (.c (.int .u8 67))),
 sD 21 (.mv (.t 22))])
 (.cond (.t 21) (.seq (.reg 0 [] [] [sD 23 (.mv (.t 0)),
 sD 24 (.nilc (.t 23)),
 sD 25 (.fa 4 (.t 24)),
 sD 4 (.mv (.t 25))])
 .ret)
 .skip))))))))))
 (.seq (.reg 0 [] [] [sD 4 (.mv (.c .nilp))])
 .ret)))
def fn23 : IFun := ⟨26, [(.tmp 4)], an23.erase⟩
theorem ok23 : okFun Try.prog 23 fn23 = true := by kernel_rfl
theorem oka23 : okA fn23.ntmps fn23.results an23 = true := by kernel_rfl
def sh23 (C : CallA) (x0 c1 : AV) (h : H) (R : AV → H → Prop) : Prop :=
 valA (binOp .eql .num c1 (.int .u8 68)) h fun t7 h =>
 condA t7
  (valA (nilcA x0) h fun t9 h =>
  valA (faA 1 t9) h fun t10 h =>
  R t10 h)
  (valA (binOp .eql .num c1 (.int .u8 65)) h fun t12 h =>
  condA t12
   (valA (nilcA x0) h fun t14 h =>
   valA (faA 2 t14) h fun t15 h =>
   R t15 h)
   (valA (binOp .eql .num c1 (.int .u8 66)) h fun t17 h =>
   condA t17
    (valA (nilcA x0) h fun t19 h =>
    valA (faA 3 t19) h fun t20 h =>
    R t20 h)
    (valA (binOp .eql .num c1 (.int .u8 67)) h fun t22 h =>
    condA t22
     (valA (nilcA x0) h fun t24 h =>
     valA (faA 4 t24) h fun t25 h =>
     R t25 h)
     (R .nilp h))))
theorem she23 (C : CallA) (x0 c1 : AV) (h : H) (R : AV → H → Prop) : wpA C an23 (argE [x0, c1]) h (outA [(.tmp 4)] R) = sh23 C x0 c1 h R := by kernel_rfl
/-! bellows/code.list -/
def an24 : ACode :=
 (.seq (.reg 0 [] [] [sD 4 (.mv (.c .nilp))])
 (.seq (.seq (.reg 0 [] [] [sD 5 (.mv (.t 1))])
 (.block 0 (.seq (.reg 0 [] [] [sD 7 (.bin .eql .num (.t 5) (.c (.int .u8 76))),
 sD 6 (.mv (.t 7))])
 (.cond (.t 6) (.seq (.reg 0 [] [] [sD 8 (.mv (.t 0)),
 sD 9 (.nilc (.t 8)),
 sD 10 (.fa 6 (.t 9)),
 sD 4 (.mv (.t 10))])
 .ret)
 (.seq (.reg 0 [] [] [sD 12 (.bin .eql .num (.t 5) (.c (.int .u8 77))),
 sD 11 (.mv (.t 12))])
 (.cond (.t 11) (.seq (.reg 0 [] [] [sD 13 (.mv (.t 0)),
 sD 14 (.nilc (.t 13)),
 sD 15 (.fa 7 (.t 14)),
 sD 4 (.mv (.t 15))])
 .ret)
 .skip))))))
 (.seq (.reg 0 [] [] [sD 16 (.mv (.t 0)),
 sD 17 (.nilc (.t 16)),
 sD 18 (.fa 8 (.t 17)),
 sD 4 (.mv (.t 18))])
 .ret)))
def fn24 : IFun := ⟨19, [(.tmp 4)], an24.erase⟩
theorem ok24 : okFun Try.prog 24 fn24 = true := by kernel_rfl
theorem oka24 : okA fn24.ntmps fn24.results an24 = true := by kernel_rfl
def sh24 (C : CallA) (x0 c1 : AV) (h : H) (R : AV → H → Prop) : Prop :=
 valA (binOp .eql .num c1 (.int .u8 76)) h fun t7 h =>
 condA t7
  (valA (nilcA x0) h fun t9 h =>
  valA (faA 6 t9) h fun t10 h =>
  R t10 h)
  (valA (binOp .eql .num c1 (.int .u8 77)) h fun t12 h =>
  condA t12
   (valA (nilcA x0) h fun t14 h =>
   valA (faA 7 t14) h fun t15 h =>
   R t15 h)
   (valA (nilcA x0) h fun t17 h =>
 valA (faA 8 t17) h fun t18 h =>
 R t18 h))
theorem she24 (C : CallA) (x0 c1 : AV) (h : H) (R : AV → H → Prop) : wpA C an24 (argE [x0, c1]) h (outA [(.tmp 4)] R) = sh24 C x0 c1 h R := by kernel_rfl
/-! bellows/bellowsref04.has -/
def an25 : ACode :=
 (.seq (.reg 0 [] [] [sD 4 (.mv (.c (.bool false)))])
 (.seq (.seq (.reg 0 [] [] [sD 5 (.mv (.c (.int .i64 0)))])
 (.block 0 (.loop [5] 35 (.seq (.seq (.reg 0 [] [] [sD 6 (.mv (.t 5)),
 sD 7 (.mv (.t 0)),
 sD 8 (.len true (.t 7)),
 sD 9 (.bin .lss .num (.t 6) (.t 8))])
 (.cond (.t 9) .skip
 (.exit 0)))
 (.seq (.block 1 (.seq (.reg 0 [] [] [sD 12 (.mv (.t 0)),
 sD 13 (.mv (.t 5)),
 sD 14 (.ix none (.t 12) (.t 13)),
 sD 15 (.mv (.t 1)),
 sD 16 (.bin .eql .num (.t 14) (.t 15))])
 (.cond (.t 16) (.seq (.reg 0 [] [] [sD 4 (.mv (.c (.bool true)))])
 .ret)
 .skip)))
 (.reg 0 [] [] [sD 10 (.mv (.t 5)),
 sD 11 (.bin .add .num (.t 10) (.c (.int .i64 1))),
 sD 5 (.mv (.t 11))]))))))
 (.seq (.reg 0 [] [] [sD 4 (.mv (.c (.bool false)))])
 .ret)))
def fn25 : IFun := ⟨17, [(.tmp 4)], an25.erase⟩
theorem ok25 : okFun Try.prog 25 fn25 = true := by kernel_rfl
theorem oka25 : okA fn25.ntmps fn25.results an25 = true := by kernel_rfl
def sh25 (C : CallA) (s0 c1 : AV) (h : H) (R : AV → H → Prop) : Prop :=
 joinA (fun (h : H) =>
  R (.bool false) h) fun J =>
 loopA (fun N l h => argA l 0 fun i5 => 
  valA (lenA true s0) h fun t8 h =>
  valA (binOp .lss .num i5 t8) h fun t9 h =>
  condA t9
   (valA (ixStrA s0 i5) h fun t14 h =>
  valA (binOp .eql .num t14 c1) h fun t16 h =>
  condA t16
   (R (.bool true) h)
   (valA (binOp .add .num i5 (.int .i64 1)) h fun t11 h =>
  N [t11] h))
   (J h)) [(.int .i64 0)] h
theorem she25 (C : CallA) (s0 c1 : AV) (h : H) (R : AV → H → Prop) : wpA C an25 (argE [s0, c1]) h (outA [(.tmp 4)] R) = sh25 C s0 c1 h R := by kernel_rfl
/-! bellows/code.many[bellows/api.Type] -/
def an26 : ACode :=
 (.seq (.reg 0 [] [] [sD 8 (.mv (.t 0)),
 sD 9 (.mv (.t 1)),
 sD 10 (.len false (.t 9)),
 sD 11 (.call 34 [(.t 8), (.t 10)])])
 (.seq (.reg 0 [] [] [sD 12 (.mv (.t 1)),
 sD 13 (.len false (.t 12)),
 sD 14 (.mv (.c (.int .i64 0)))])
 (.block 0 (.loop [14] 28676 (.seq (.reg 0 [] [] [sD 15 (.bin .lss .num (.t 14) (.t 13))])
 (.seq (.cond (.t 15) .skip
 (.exit 0))
 (.seq (.block 1 (.seq (.reg 0 [] [] [sD 16 (.ia none 2 (.t 12) (.t 14)),
 sD 17 (.ld (some 2) (.t 16)),
 sD 7 (.al none 53 [(.bool false), .nilsl]),
 sN (.st 2 (.t 7) (.t 17))])
 (.reg 0 [] [] [sD 18 (.mv (.t 2)),
 sD 19 (.ld (some 2) (.t 7)),
 sD 20 (.callv (.t 18) [(.t 19)])])))
 (.reg 0 [] [] [sD 21 (.bin .add .num (.t 14) (.c (.int .i64 1))),
 sD 14 (.mv (.t 21))]))))))))
def fn26 : IFun := ⟨22, [], an26.erase⟩
theorem ok26 : okFun Try.prog 26 fn26 = true := by kernel_rfl
theorem oka26 : okA fn26.ntmps fn26.results an26 = true := by kernel_rfl
def sh26 (C : CallA) (w0 l1 each2 : AV) (h : H) (R : AV → H → Prop) : Prop :=
 valA (lenA false l1) h fun t10 h =>
 C 34 [w0, t10] h fun t11 h =>
 valA (lenA false l1) h fun t13 h =>
 loopA (fun N l h => argA l 0 fun t14 => 
  valA (binOp .lss .num t14 t13) h fun t15 h =>
  condA t15
   (valA (iaA 2 l1 t14) h fun t16 h =>
  valA (ldA h (some 2) t16) h fun t17 h =>
  boxA h [(.bool false), .nilsl] 53 fun x7 h =>
  memA (stA h 2 x7 t17) .undef fun _ h =>
  valA (ldA h (some 2) x7) h fun t19 h =>
  callvA C each2 [t19] h fun t20 h =>
  valA (binOp .add .num t14 (.int .i64 1)) h fun t21 h =>
  N [t21] h)
   (R (.tup []) h)) [(.int .i64 0)] h
theorem she26 (C : CallA) (w0 l1 each2 : AV) (h : H) (R : AV → H → Prop) : wpA C an26 (argE [w0, l1, each2]) h (outA [] R) = sh26 C w0 l1 each2 h R := by kernel_rfl
/-! (*bellows/code.writer).kind -/
def an27 : ACode :=
 (.seq (.reg 0 [] [] [sD 3 (.bx none 53 (.t 1))])
 (.seq (.reg 0 [] [] [sD 4 (.mv (.c (.int .i64 0)))])
 (.seq (.seq (.reg 0 [] [] [sD 5 (.fa 0 (.t 3)),
 sD 6 (.ld none (.t 5))])
 (.cond (.t 6) (.reg 0 [] [] [sD 4 (.mv (.c (.int .i64 1)))])
 .skip))
 (.seq (.reg 0 [] [] [sD 7 (.mv (.t 0)),
 sD 8 (.mv (.t 4)),
 sD 9 (.call 34 [(.t 7), (.t 8)])])
 (.reg 0 [] [] [sD 10 (.mv (.t 0)),
 sD 11 (.fa 1 (.t 3)),
 sD 12 (.ld none (.t 11)),
 sD 13 (.call 60 [(.t 10), (.t 12)])])))))
def fn27 : IFun := ⟨14, [], an27.erase⟩
theorem ok27 : okFun Try.prog 27 fn27 = true := by kernel_rfl
theorem oka27 : okA fn27.ntmps fn27.results an27 = true := by kernel_rfl
def sh27 (C : CallA) (w0 t1 : AV) (h : H) (R : AV → H → Prop) : Prop :=
 boxA h (AV.cells t1) 53 fun t3 h =>
 joinA (fun (n4' : AV) (h : H) =>
  C 34 [w0, n4'] h fun t9 h =>
  valA (faA 1 t3) h fun t11 h =>
  valA (ldA h none t11) h fun t12 h =>
  C 60 [w0, t12] h fun t13 h =>
  R (.tup []) h) fun J =>
 valA (faA 0 t3) h fun t5 h =>
 valA (ldA h none t5) h fun t6 h =>
 condA t6
  (J (.int .i64 1) h)
  (J (.int .i64 0) h)
theorem she27 (C : CallA) (w0 t1 : AV) (h : H) (R : AV → H → Prop) : wpA C an27 (argE [w0, t1]) h (outA [] R) = sh27 C w0 t1 h R := by kernel_rfl
/-! bellows/code.many[bellows/api.Shape] -/
def an28 : ACode :=
 (.seq (.reg 0 [] [] [sD 8 (.mv (.t 0)),
 sD 9 (.mv (.t 1)),
 sD 10 (.len false (.t 9)),
 sD 11 (.call 34 [(.t 8), (.t 10)])])
 (.seq (.reg 0 [] [] [sD 12 (.mv (.t 1)),
 sD 13 (.len false (.t 12)),
 sD 14 (.mv (.c (.int .i64 0)))])
 (.block 0 (.loop [14] 28676 (.seq (.reg 0 [] [] [sD 15 (.bin .lss .num (.t 14) (.t 13))])
 (.seq (.cond (.t 15) .skip
 (.exit 0))
 (.seq (.block 1 (.seq (.reg 0 [] [] [sD 16 (.ia none 3 (.t 12) (.t 14)),
 sD 17 (.ld (some 3) (.t 16)),
 sD 7 (.al none 55 [(.int .i64 0), .nilsl, (.str [])]),
 sN (.st 3 (.t 7) (.t 17))])
 (.reg 0 [] [] [sD 18 (.mv (.t 2)),
 sD 19 (.ld (some 3) (.t 7)),
 sD 20 (.callv (.t 18) [(.t 19)])])))
 (.reg 0 [] [] [sD 21 (.bin .add .num (.t 14) (.c (.int .i64 1))),
 sD 14 (.mv (.t 21))]))))))))
def fn28 : IFun := ⟨22, [], an28.erase⟩
theorem ok28 : okFun Try.prog 28 fn28 = true := by kernel_rfl
theorem oka28 : okA fn28.ntmps fn28.results an28 = true := by kernel_rfl
def sh28 (C : CallA) (w0 l1 each2 : AV) (h : H) (R : AV → H → Prop) : Prop :=
 valA (lenA false l1) h fun t10 h =>
 C 34 [w0, t10] h fun t11 h =>
 valA (lenA false l1) h fun t13 h =>
 loopA (fun N l h => argA l 0 fun t14 => 
  valA (binOp .lss .num t14 t13) h fun t15 h =>
  condA t15
   (valA (iaA 3 l1 t14) h fun t16 h =>
  valA (ldA h (some 3) t16) h fun t17 h =>
  boxA h [(.int .i64 0), .nilsl, (.str [])] 55 fun x7 h =>
  memA (stA h 3 x7 t17) .undef fun _ h =>
  valA (ldA h (some 3) x7) h fun t19 h =>
  callvA C each2 [t19] h fun t20 h =>
  valA (binOp .add .num t14 (.int .i64 1)) h fun t21 h =>
  N [t21] h)
   (R (.tup []) h)) [(.int .i64 0)] h
theorem she28 (C : CallA) (w0 l1 each2 : AV) (h : H) (R : AV → H → Prop) : wpA C an28 (argE [w0, l1, each2]) h (outA [] R) = sh28 C w0 l1 each2 h R := by kernel_rfl
/-! (*bellows/code.writer).shape -/
def an29 : ACode :=
 (.seq (.reg 0 [] [] [sD 3 (.bx none 55 (.t 1))])
 (.seq (.reg 0 [] [] [sD 4 (.mv (.t 0)),
 sD 5 (.fa 0 (.t 3)),
 sD 6 (.ld none (.t 5)),
 sD 7 (.call 34 [(.t 4), (.t 6)])])
 (.seq (.reg 0 [] [] [sD 8 (.mv (.t 0)),
 sD 9 (.fa 1 (.t 3)),
 sD 10 (.ld none (.t 9)),
 sD 11 (.call 60 [(.t 8), (.t 10)])])
 (.reg 0 [] [] [sD 12 (.mv (.t 0)),
 sD 13 (.fa 2 (.t 3)),
 sD 14 (.ld none (.t 13)),
 sD 15 (.call 31 [(.t 12), (.t 14)])]))))
def fn29 : IFun := ⟨16, [], an29.erase⟩
theorem ok29 : okFun Try.prog 29 fn29 = true := by kernel_rfl
theorem oka29 : okA fn29.ntmps fn29.results an29 = true := by kernel_rfl
def sh29 (C : CallA) (w0 s1 : AV) (h : H) (R : AV → H → Prop) : Prop :=
 boxA h (AV.cells s1) 55 fun s3 h =>
 valA (faA 0 s3) h fun t5 h =>
 valA (ldA h none t5) h fun t6 h =>
 C 34 [w0, t6] h fun t7 h =>
 valA (faA 1 s3) h fun t9 h =>
 valA (ldA h none t9) h fun t10 h =>
 C 60 [w0, t10] h fun t11 h =>
 valA (faA 2 s3) h fun t13 h =>
 valA (ldA h none t13) h fun t14 h =>
 C 31 [w0, t14] h fun t15 h =>
 R (.tup []) h
theorem she29 (C : CallA) (w0 s1 : AV) (h : H) (R : AV → H → Prop) : wpA C an29 (argE [w0, s1]) h (outA [] R) = sh29 C w0 s1 h R := by kernel_rfl
/-! bellows/code.many[string] -/
def an30 : ACode :=
 (.seq (.reg 0 [] [] [sD 8 (.mv (.t 0)),
 sD 9 (.mv (.t 1)),
 sD 10 (.len false (.t 9)),
 sD 11 (.call 34 [(.t 8), (.t 10)])])
 (.seq (.reg 0 [] [] [sD 12 (.mv (.t 1)),
 sD 13 (.len false (.t 12)),
 sD 14 (.mv (.c (.int .i64 0)))])
 (.block 0 (.loop [14] 28676 (.seq (.reg 0 [] [] [sD 15 (.bin .lss .num (.t 14) (.t 13))])
 (.seq (.cond (.t 15) .skip
 (.exit 0))
 (.seq (.block 1 (.seq (.reg 0 [] [] [sD 16 (.ia none 1 (.t 12) (.t 14)),
 sD 17 (.ld none (.t 16)),
 sD 7 (.mv (.t 17))])
 (.reg 0 [] [] [sD 18 (.mv (.t 2)),
 sD 19 (.mv (.t 7)),
 sD 20 (.callv (.t 18) [(.t 19)])])))
 (.reg 0 [] [] [sD 21 (.bin .add .num (.t 14) (.c (.int .i64 1))),
 sD 14 (.mv (.t 21))]))))))))
def fn30 : IFun := ⟨22, [], an30.erase⟩
theorem ok30 : okFun Try.prog 30 fn30 = true := by kernel_rfl
theorem oka30 : okA fn30.ntmps fn30.results an30 = true := by kernel_rfl
def sh30 (C : CallA) (w0 l1 each2 : AV) (h : H) (R : AV → H → Prop) : Prop :=
 valA (lenA false l1) h fun t10 h =>
 C 34 [w0, t10] h fun t11 h =>
 valA (lenA false l1) h fun t13 h =>
 loopA (fun N l h => argA l 0 fun t14 => 
  valA (binOp .lss .num t14 t13) h fun t15 h =>
  condA t15
   (valA (iaA 1 l1 t14) h fun t16 h =>
  valA (ldA h none t16) h fun t17 h =>
  callvA C each2 [t17] h fun t20 h =>
  valA (binOp .add .num t14 (.int .i64 1)) h fun t21 h =>
  N [t21] h)
   (R (.tup []) h)) [(.int .i64 0)] h
theorem she30 (C : CallA) (w0 l1 each2 : AV) (h : H) (R : AV → H → Prop) : wpA C an30 (argE [w0, l1, each2]) h (outA [] R) = sh30 C w0 l1 each2 h R := by kernel_rfl
/-! (*bellows/code.writer).text -/
def an31 : ACode :=
 (.seq (.reg 0 [] [] [sD 4 (.mv (.t 0)),
 sD 5 (.mv (.t 1)),
 sD 6 (.len true (.t 5)),
 sD 7 (.call 34 [(.t 4), (.t 6)])])
 (.reg 0 [] [] [sD 8 (.mv (.t 0)),
 sD 9 (.mv (.t 0)),
 sD 10 (.nilc (.t 9)),
 sD 11 (.fa 0 (.t 10)),
 sD 12 (.ld none (.t 11)),
 sD 13 (.mv (.t 1)),
 sD 14 (.app 5 1 1 [(.int .u8 0)] (.t 12) (.t 13)),
 sD 15 (.nilc (.t 8)),
 sD 16 (.fa 0 (.t 15)),
 sN (.st 1 (.t 16) (.t 14))]))
def fn31 : IFun := ⟨17, [], an31.erase⟩
theorem ok31 : okFun Try.prog 31 fn31 = true := by kernel_rfl
theorem oka31 : okA fn31.ntmps fn31.results an31 = true := by kernel_rfl
def sh31 (C : CallA) (w0 s1 : AV) (h : H) (R : AV → H → Prop) : Prop :=
 valA (lenA true s1) h fun t6 h =>
 C 34 [w0, t6] h fun t7 h =>
 valA (nilcA w0) h fun t10 h =>
 valA (faA 0 t10) h fun t11 h =>
 valA (ldA h none t11) h fun t12 h =>
 appendA h 5 1 1 t12 s1 fun t14 h =>
 valA (nilcA w0) h fun t15 h =>
 valA (faA 0 t15) h fun t16 h =>
 memA (stA h 1 t16 t14) .undef fun _ h =>
 R (.tup []) h
theorem she31 (C : CallA) (w0 s1 : AV) (h : H) (R : AV → H → Prop) : wpA C an31 (argE [w0, s1]) h (outA [] R) = sh31 C w0 s1 h R := by kernel_rfl
/-! bellows/code.many[bellows/api.Func] -/
def an32 : ACode :=
 (.seq (.reg 0 [] [] [sD 8 (.mv (.t 0)),
 sD 9 (.mv (.t 1)),
 sD 10 (.len false (.t 9)),
 sD 11 (.call 34 [(.t 8), (.t 10)])])
 (.seq (.reg 0 [] [] [sD 12 (.mv (.t 1)),
 sD 13 (.len false (.t 12)),
 sD 14 (.mv (.c (.int .i64 0)))])
 (.block 0 (.loop [14] 28676 (.seq (.reg 0 [] [] [sD 15 (.bin .lss .num (.t 14) (.t 13))])
 (.seq (.cond (.t 15) .skip
 (.exit 0))
 (.seq (.block 1 (.seq (.reg 0 [] [] [sD 16 (.ia none 4 (.t 12) (.t 14)),
 sD 17 (.ld (some 4) (.t 16)),
 sD 7 (.al none 51 [.nilsl, (.int .i64 0), (.int .i64 0), .nilsl]),
 sN (.st 4 (.t 7) (.t 17))])
 (.reg 0 [] [] [sD 18 (.mv (.t 2)),
 sD 19 (.ld (some 4) (.t 7)),
 sD 20 (.callv (.t 18) [(.t 19)])])))
 (.reg 0 [] [] [sD 21 (.bin .add .num (.t 14) (.c (.int .i64 1))),
 sD 14 (.mv (.t 21))]))))))))
def fn32 : IFun := ⟨22, [], an32.erase⟩
theorem ok32 : okFun Try.prog 32 fn32 = true := by kernel_rfl
theorem oka32 : okA fn32.ntmps fn32.results an32 = true := by kernel_rfl
def sh32 (C : CallA) (w0 l1 each2 : AV) (h : H) (R : AV → H → Prop) : Prop :=
 valA (lenA false l1) h fun t10 h =>
 C 34 [w0, t10] h fun t11 h =>
 valA (lenA false l1) h fun t13 h =>
 loopA (fun N l h => argA l 0 fun t14 => 
  valA (binOp .lss .num t14 t13) h fun t15 h =>
  condA t15
   (valA (iaA 4 l1 t14) h fun t16 h =>
  valA (ldA h (some 4) t16) h fun t17 h =>
  boxA h [.nilsl, (.int .i64 0), (.int .i64 0), .nilsl] 51 fun x7 h =>
  memA (stA h 4 x7 t17) .undef fun _ h =>
  valA (ldA h (some 4) x7) h fun t19 h =>
  callvA C each2 [t19] h fun t20 h =>
  valA (binOp .add .num t14 (.int .i64 1)) h fun t21 h =>
  N [t21] h)
   (R (.tup []) h)) [(.int .i64 0)] h
theorem she32 (C : CallA) (w0 l1 each2 : AV) (h : H) (R : AV → H → Prop) : wpA C an32 (argE [w0, l1, each2]) h (outA [] R) = sh32 C w0 l1 each2 h R := by kernel_rfl
/-! (*bellows/code.writer).function -/
def an33 : ACode :=
 (.seq (.reg 0 [] [] [sD 3 (.bx none 51 (.t 1))])
 (.seq (.reg 0 [] [] [sD 4 (.mv (.t 0)),
 sD 5 (.fa 0 (.t 3)),
 sD 6 (.ld none (.t 5)),
 sD 7 (.call 60 [(.t 4), (.t 6)])])
 (.seq (.reg 0 [] [] [sD 8 (.mv (.t 0)),
 sD 9 (.fa 1 (.t 3)),
 sD 10 (.ld none (.t 9)),
 sD 11 (.call 34 [(.t 8), (.t 10)])])
 (.seq (.reg 0 [] [] [sD 12 (.mv (.t 0)),
 sD 13 (.fa 2 (.t 3)),
 sD 14 (.ld none (.t 13)),
 sD 15 (.call 34 [(.t 12), (.t 14)])])
 (.reg 0 [] [] [sD 16 (.mv (.t 0)),
 sD 17 (.fa 3 (.t 3)),
 sD 18 (.ld none (.t 17)),
 sD 19 (.mv (.t 0)),
 sD 20 (.mkf 62 [(.t 19)] []),
 sD 21 (.call 61 [(.t 16), (.t 18), (.t 20)])])))))
def fn33 : IFun := ⟨22, [], an33.erase⟩
theorem ok33 : okFun Try.prog 33 fn33 = true := by kernel_rfl
theorem oka33 : okA fn33.ntmps fn33.results an33 = true := by kernel_rfl
def sh33 (C : CallA) (w0 f1 : AV) (h : H) (R : AV → H → Prop) : Prop :=
 boxA h (AV.cells f1) 51 fun f3 h =>
 valA (faA 0 f3) h fun t5 h =>
 valA (ldA h none t5) h fun t6 h =>
 C 60 [w0, t6] h fun t7 h =>
 valA (faA 1 f3) h fun t9 h =>
 valA (ldA h none t9) h fun t10 h =>
 C 34 [w0, t10] h fun t11 h =>
 valA (faA 2 f3) h fun t13 h =>
 valA (ldA h none t13) h fun t14 h =>
 C 34 [w0, t14] h fun t15 h =>
 valA (faA 3 f3) h fun t17 h =>
 valA (ldA h none t17) h fun t18 h =>
 C 61 [w0, t18, (.fn 62 [w0] [])] h fun t21 h =>
 R (.tup []) h
theorem she33 (C : CallA) (w0 f1 : AV) (h : H) (R : AV → H → Prop) : wpA C an33 (argE [w0, f1]) h (outA [] R) = sh33 C w0 f1 h R := by kernel_rfl
/-! (*bellows/code.writer).num -/
def an34 : ACode :=
 (.reg 0 [0, 1, 2, 3, 4, 5, 6, 7, 8, 9, 10] [[], [], [1], [1, 2], [2, 1, 3], [], [5], [5, 6, 3, 1, 2, 4], [7, 6, 5, 4, 3, 2, 1, 0], [0, 1, 2, 3, 4, 5, 6, 7, 8], [8, 7, 6, 5, 4, 3, 2, 1, 0, 9]] [sD 4 (.mv (.t 0)),
 sD 5 (.mv (.t 0)),
 sD 6 (.nilc (.t 5)),
 sD 7 (.fa 0 (.t 6)),
 sD 8 (.ld none (.t 7)),
 sD 9 (.mv (.t 1)),
 ⟨(some 10), none, (.call 63 [(.t 9)]), [⟨none, (.ld none (.t 7)), 8⟩]⟩,
 sD 11 (.app 5 1 1 [(.int .u8 0)] (.t 8) (.t 10)),
 sD 12 (.nilc (.t 4)),
 sD 13 (.fa 0 (.t 12)),
 sN (.st 1 (.t 13) (.t 11))])
def fn34 : IFun := ⟨14, [], an34.erase⟩
theorem ok34 : okFun Try.prog 34 fn34 = true := by kernel_rfl
theorem oka34 : okA fn34.ntmps fn34.results an34 = true := by kernel_rfl
def sh34 (C : CallA) (w0 n1 : AV) (h : H) (R : AV → H → Prop) : Prop :=
 valA (nilcA w0) h fun t6 h =>
 valA (faA 0 t6) h fun t7 h =>
 valA (ldA h none t7) h fun t8 h =>
 C 63 [n1] h fun t10 h =>
 againK (valA (ldA h none t7) h (fun v _ => v = t8)) <|
 appendA h 5 1 1 t8 t10 fun t11 h =>
 valA (nilcA w0) h fun t12 h =>
 valA (faA 0 t12) h fun t13 h =>
 memA (stA h 1 t13 t11) .undef fun _ h =>
 R (.tup []) h
theorem she34 (C : CallA) (w0 n1 : AV) (h : H) (R : AV → H → Prop) : wpA C an34 (argE [w0, n1]) h (outA [] R) = sh34 C w0 n1 h R := by kernel_rfl
/-! bellows/bellowsref04.big -/
def an35 : ACode :=
 (.seq (.reg 0 [] [] [sD 1 (.bx none 34 (.t 0)),
 sD 2 (.mv (.c (.bool false)))])
 (.seq (.seq (.reg 0 [] [] [sD 18 (.fa 0 (.t 1)),
 sD 19 (.ld none (.t 18)),
 sD 20 (.len false (.t 19)),
 sD 21 (.bin .gtr .num (.t 20) (.c (.int .i64 1024))),
 sD 22 (.mv (.t 21)),
 sG 23 22 false (.fa 1 (.t 1)),
 sG 24 22 false (.ld none (.t 23)),
 sG 25 22 false (.len false (.t 24)),
 sG 26 22 false (.bin .gtr .num (.t 25) (.c (.int .i64 512))),
 sD 27 (.pick (.t 22) (.c (.bool true)) (.t 26)),
 sD 28 (.mv (.t 27)),
 sG 29 28 false (.fa 2 (.t 1)),
 sG 30 28 false (.ld none (.t 29)),
 sG 31 28 false (.len false (.t 30)),
 sG 32 28 false (.bin .gtr .num (.t 31) (.c (.int .i64 256))),
 sD 33 (.pick (.t 28) (.c (.bool true)) (.t 32)),
 sD 34 (.mv (.t 33)),
 sG 35 34 false (.fa 3 (.t 1)),
 sG 36 34 false (.ld none (.t 35)),
 sG 37 34 false (.len false (.t 36)),
 sG 38 34 false (.bin .gtr .num (.t 37) (.c (.int .i64 256))),
 sD 39 (.pick (.t 34) (.c (.bool true)) (.t 38)),
 sD 40 (.mv (.t 39)),
 sG 41 40 false (.fa 4 (.t 1)),
 sG 42 40 false (.ld none (.t 41)),
 sG 43 40 false (.len false (.t 42)),
 sG 44 40 false (.bin .gtr .num (.t 43) (.c (.int .i64 1024))),
 sD 45 (.pick (.t 40) (.c (.bool true)) (.t 44))])
 (.cond (.t 45) (.seq (.reg 0 [] [] [sD 2 (.mv (.c (.bool true)))])
 .ret)
 .skip))
 (.seq (.seq (.reg 0 [] [] [sD 46 (.fa 0 (.t 1)),
 sD 47 (.ld none (.t 46)),
 sD 48 (.len false (.t 47)),
 sD 49 (.mv (.c (.int .i64 0)))])
 (.block 0 (.loop [49] 985162418487298 (.seq (.reg 0 [] [] [sD 50 (.bin .lss .num (.t 49) (.t 48))])
 (.seq (.cond (.t 50) .skip
 (.exit 0))
 (.seq (.block 1 (.seq (.reg 0 [] [] [sD 51 (.ia none 2 (.t 47) (.t 49)),
 sD 52 (.ld (some 2) (.t 51)),
 sD 4 (.al none 53 [(.bool false), .nilsl]),
 sN (.st 2 (.t 4) (.t 52))])
 (.seq (.reg 0 [] [] [sD 53 (.fa 1 (.t 4)),
 sD 54 (.ld none (.t 53)),
 sD 55 (.len false (.t 54)),
 sD 56 (.bin .gtr .num (.t 55) (.c (.int .i64 512)))])
 (.cond (.t 56) (.seq (.reg 0 [] [] [sD 2 (.mv (.c (.bool true)))])
 .ret)
 .skip))))
 (.reg 0 [] [] [sD 57 (.bin .add .num (.t 49) (.c (.int .i64 1))),
 sD 49 (.mv (.t 57))])))))))
 (.seq (.seq (.reg 0 [] [] [sD 58 (.fa 1 (.t 1)),
 sD 59 (.ld none (.t 58)),
 sD 60 (.len false (.t 59)),
 sD 61 (.mv (.c (.int .i64 0)))])
 (.block 2 (.loop [61] 4035225266123964418 (.seq (.reg 0 [] [] [sD 62 (.bin .lss .num (.t 61) (.t 60))])
 (.seq (.cond (.t 62) .skip
 (.exit 2))
 (.seq (.block 3 (.seq (.reg 0 [] [] [sD 63 (.ia none 3 (.t 59) (.t 61)),
 sD 64 (.ld (some 3) (.t 63)),
 sD 6 (.al none 55 [(.int .i64 0), .nilsl, (.str [])]),
 sN (.st 3 (.t 6) (.t 64))])
 (.seq (.reg 0 [] [] [sD 65 (.fa 1 (.t 6)),
 sD 66 (.ld none (.t 65)),
 sD 67 (.len false (.t 66)),
 sD 68 (.bin .gtr .num (.t 67) (.c (.int .i64 200))),
 sD 69 (.mv (.t 68)),
 sG 70 69 false (.fa 2 (.t 6)),
 sG 71 69 false (.ld none (.t 70)),
 sG 72 69 false (.len true (.t 71)),
 sG 73 69 false (.bin .gtr .num (.t 72) (.c (.int .i64 16384))),
 sD 74 (.pick (.t 69) (.c (.bool true)) (.t 73))])
 (.cond (.t 74) (.seq (.reg 0 [] [] [sD 2 (.mv (.c (.bool true)))])
 .ret)
 .skip))))
 (.reg 0 [] [] [sD 75 (.bin .add .num (.t 61) (.c (.int .i64 1))),
 sD 61 (.mv (.t 75))])))))))
 (.seq (.seq (.reg 0 [] [] [sD 76 (.fa 2 (.t 1)),
 sD 77 (.ld none (.t 76)),
 sD 78 (.len false (.t 77)),
 sD 79 (.mv (.c (.int .i64 0)))])
 (.block 4 (.loop [79] 1057810092162800527867906 (.seq (.reg 0 [] [] [sD 80 (.bin .lss .num (.t 79) (.t 78))])
 (.seq (.cond (.t 80) .skip
 (.exit 4))
 (.seq (.block 5 (.seq (.reg 0 [] [] [sD 81 (.ia none 1 (.t 77) (.t 79)),
 sD 82 (.ld none (.t 81)),
 sD 8 (.mv (.t 82))])
 (.seq (.reg 0 [] [] [sD 83 (.mv (.t 8)),
 sD 84 (.len true (.t 83)),
 sD 85 (.bin .gtr .num (.t 84) (.c (.int .i64 16384)))])
 (.cond (.t 85) (.seq (.reg 0 [] [] [sD 2 (.mv (.c (.bool true)))])
 .ret)
 .skip))))
 (.reg 0 [] [] [sD 86 (.bin .add .num (.t 79) (.c (.int .i64 1))),
 sD 79 (.mv (.t 86))])))))))
 (.seq (.seq (.reg 0 [] [] [sD 87 (.fa 3 (.t 1)),
 sD 88 (.ld none (.t 87)),
 sD 89 (.len false (.t 88)),
 sD 90 (.mv (.c (.int .i64 0)))])
 (.block 6 (.loop [90] 2166395068749415481073467394 (.seq (.reg 0 [] [] [sD 91 (.bin .lss .num (.t 90) (.t 89))])
 (.seq (.cond (.t 91) .skip
 (.exit 6))
 (.seq (.block 7 (.seq (.reg 0 [] [] [sD 92 (.ia none 1 (.t 88) (.t 90)),
 sD 93 (.ld none (.t 92)),
 sD 10 (.mv (.t 93))])
 (.seq (.reg 0 [] [] [sD 94 (.mv (.t 10)),
 sD 95 (.len true (.t 94)),
 sD 96 (.bin .gtr .num (.t 95) (.c (.int .i64 16384)))])
 (.cond (.t 96) (.seq (.reg 0 [] [] [sD 2 (.mv (.c (.bool true)))])
 .ret)
 .skip))))
 (.reg 0 [] [] [sD 97 (.bin .add .num (.t 90) (.c (.int .i64 1))),
 sD 90 (.mv (.t 97))])))))))
 (.seq (.reg 0 [] [] [sD 11 (.mv (.c (.int .i64 0)))])
 (.seq (.seq (.reg 0 [] [] [sD 98 (.fa 4 (.t 1)),
 sD 99 (.ld none (.t 98)),
 sD 100 (.len false (.t 99)),
 sD 101 (.mv (.c (.int .i64 0)))])
 (.block 8 (.loop [11, 101] 4436777100798802905238461220864 (.seq (.reg 0 [] [] [sD 102 (.bin .lss .num (.t 101) (.t 100))])
 (.seq (.cond (.t 102) .skip
 (.exit 8))
 (.seq (.block 9 (.seq (.reg 0 [] [] [sD 103 (.ia none 4 (.t 99) (.t 101)),
 sD 104 (.ld (some 4) (.t 103)),
 sD 13 (.al none 51 [.nilsl, (.int .i64 0), (.int .i64 0), .nilsl]),
 sN (.st 4 (.t 13) (.t 104))])
 (.seq (.seq (.reg 0 [] [] [sD 105 (.fa 2 (.t 13)),
 sD 106 (.ld none (.t 105)),
 sD 107 (.bin .gtr .num (.t 106) (.c (.int .i64 200))),
 sD 108 (.mv (.t 107)),
 sG 109 108 false (.fa 0 (.t 13)),
 sG 110 108 false (.ld none (.t 109)),
 sG 111 108 false (.len false (.t 110)),
 sG 112 108 false (.bin .gtr .num (.t 111) (.c (.int .i64 200))),
 sD 113 (.pick (.t 108) (.c (.bool true)) (.t 112)),
 sD 114 (.mv (.t 113)),
 sG 115 114 false (.fa 3 (.t 13)),
 sG 116 114 false (.ld none (.t 115)),
 sG 117 114 false (.len false (.t 116)),
 sG 118 114 false (.bin .gtr .num (.t 117) (.c (.int .i64 2000))),
 sD 119 (.pick (.t 114) (.c (.bool true)) (.t 118))])
 (.cond (.t 119) (.seq (.reg 0 [] [] [sD 2 (.mv (.c (.bool true)))])
 .ret)
 .skip))
 (.seq (.reg 0 [] [] [sD 120 (.fa 3 (.t 13)),
 sD 121 (.ld none (.t 120)),
 sD 122 (.len false (.t 121)),
 sD 123 (.mv (.c (.int .i64 0)))])
 (.block 10 (.loop [11, 123] 18609196377765923019456204082386044928 (.seq (.reg 0 [] [] [sD 124 (.bin .lss .num (.t 123) (.t 122))])
 (.seq (.cond (.t 124) .skip
 (.exit 10))
 (.seq (.block 11 (.seq (.reg 0 [] [] [sD 125 (.ia none 2 (.t 121) (.t 123)),
 sD 126 (.ld (some 2) (.t 125)),
 sD 15 (.al none 58 [.nilsl, .nilsl]),
 sN (.st 2 (.t 15) (.t 126))])
 (.seq (.reg 0 [] [] [sD 127 (.mv (.t 11)),
 sD 128 (.fa 1 (.t 15)),
 sD 129 (.ld none (.t 128)),
 sD 130 (.len false (.t 129)),
 sD 131 (.bin .add .num (.t 127) (.t 130)),
 sD 11 (.mv (.t 131))])
 (.seq (.seq (.reg 0 [] [] [sD 132 (.mv (.t 11)),
 sD 133 (.bin .gtr .num (.t 132) (.c (.int .i64 20000))),
 sD 134 (.mv (.t 133)),
 sG 135 134 false (.fa 0 (.t 15)),
 sG 136 134 false (.ld none (.t 135)),
 sG 137 134 false (.len false (.t 136)),
 sG 138 134 false (.bin .gtr .num (.t 137) (.c (.int .i64 200))),
 sD 139 (.pick (.t 134) (.c (.bool true)) (.t 138))])
 (.cond (.t 139) (.seq (.reg 0 [] [] [sD 2 (.mv (.c (.bool true)))])
 .ret)
 .skip))
 (.seq (.reg 0 [] [] [sD 140 (.fa 1 (.t 15)),
 sD 141 (.ld none (.t 140)),
 sD 142 (.len false (.t 141)),
 sD 143 (.mv (.c (.int .i64 0)))])
 (.block 12 (.loop [143] 19513170657910673014766772944771398703777792 (.seq (.reg 0 [] [] [sD 144 (.bin .lss .num (.t 143) (.t 142))])
 (.seq (.cond (.t 144) .skip
 (.exit 12))
 (.seq (.block 13 (.seq (.reg 0 [] [] [sD 145 (.ia none 9 (.t 141) (.t 143)),
 sD 146 (.ld (some 9) (.t 145)),
 sD 17 (.al none 24 [(.int .i64 0), (.int .i64 0), (.int .i64 0), (.int .i64 0), (.int .i64 0), (.int .i64 0), .nilsl, .nilsl, .nilsl]),
 sN (.st 9 (.t 17) (.t 146))])
 (.seq (.reg 0 [] [] [sD 147 (.fa 6 (.t 17)),
 sD 148 (.ld none (.t 147)),
 sD 149 (.len false (.t 148)),
 sD 150 (.bin .gtr .num (.t 149) (.c (.int .i64 1024))),
 sD 151 (.mv (.t 150)),
 sG 152 151 false (.fa 7 (.t 17)),
 sG 153 151 false (.ld none (.t 152)),
 sG 154 151 false (.len false (.t 153)),
 sG 155 151 false (.bin .gtr .num (.t 154) (.c (.int .i64 1024))),
 sD 156 (.pick (.t 151) (.c (.bool true)) (.t 155)),
 sD 157 (.mv (.t 156)),
 sG 158 157 false (.fa 8 (.t 17)),
 sG 159 157 false (.ld none (.t 158)),
 sG 160 157 false (.len false (.t 159)),
 sG 161 157 false (.bin .gtr .num (.t 160) (.c (.int .i64 200))),
 sD 162 (.pick (.t 157) (.c (.bool true)) (.t 161))])
 (.cond (.t 162) (.seq (.reg 0 [] [] [sD 2 (.mv (.c (.bool true)))])
 .ret)
 .skip))))
 (.reg 0 [] [] [sD 163 (.bin .add .num (.t 143) (.c (.int .i64 1))),
 sD 143 (.mv (.t 163))])))))))))))
 (.reg 0 [] [] [sD 164 (.bin .add .num (.t 123) (.c (.int .i64 1))),
 sD 123 (.mv (.t 164))]))))))))))
 (.reg 0 [] [] [sD 165 (.bin .add .num (.t 101) (.c (.int .i64 1))),
 sD 101 (.mv (.t 165))])))))))
 (.seq (.reg 0 [] [] [sD 2 (.mv (.c (.bool false)))])
 .ret)))))))))
def fn35 : IFun := ⟨166, [(.tmp 2)], an35.erase⟩
theorem ok35 : okFun Try.prog 35 fn35 = true := by kernel_rfl
theorem oka35 : okA fn35.ntmps fn35.results an35 = true := by kernel_rfl
def sh35 (C : CallA) (m0 : AV) (h : H) (R : AV → H → Prop) : Prop :=
 boxA h (AV.cells m0) 34 fun m1 h =>
 valA (faA 0 m1) h fun t18 h =>
 valA (ldA h none t18) h fun t19 h =>
 valA (lenA false t19) h fun t20 h =>
 valA (binOp .gtr .num t20 (.int .i64 1024)) h fun t21 h =>
 whenA t21 false (fun K => valA (faA 1 m1) h K) h fun t23 h =>
 whenA t21 false (fun K => valA (ldA h none t23) h K) h fun t24 h =>
 whenA t21 false (fun K => valA (lenA false t24) h K) h fun t25 h =>
 whenA t21 false (fun K => valA (binOp .gtr .num t25 (.int .i64 512)) h K) h fun t26 h =>
 valA (pickA t21 (.bool true) t26) h fun t27 h =>
 whenA t27 false (fun K => valA (faA 2 m1) h K) h fun t29 h =>
 whenA t27 false (fun K => valA (ldA h none t29) h K) h fun t30 h =>
 whenA t27 false (fun K => valA (lenA false t30) h K) h fun t31 h =>
 whenA t27 false (fun K => valA (binOp .gtr .num t31 (.int .i64 256)) h K) h fun t32 h =>
 valA (pickA t27 (.bool true) t32) h fun t33 h =>
 whenA t33 false (fun K => valA (faA 3 m1) h K) h fun t35 h =>
 whenA t33 false (fun K => valA (ldA h none t35) h K) h fun t36 h =>
 whenA t33 false (fun K => valA (lenA false t36) h K) h fun t37 h =>
 whenA t33 false (fun K => valA (binOp .gtr .num t37 (.int .i64 256)) h K) h fun t38 h =>
 valA (pickA t33 (.bool true) t38) h fun t39 h =>
 whenA t39 false (fun K => valA (faA 4 m1) h K) h fun t41 h =>
 whenA t39 false (fun K => valA (ldA h none t41) h K) h fun t42 h =>
 whenA t39 false (fun K => valA (lenA false t42) h K) h fun t43 h =>
 whenA t39 false (fun K => valA (binOp .gtr .num t43 (.int .i64 1024)) h K) h fun t44 h =>
 valA (pickA t39 (.bool true) t44) h fun t45 h =>
 condA t45
  (R (.bool true) h)
  (joinA (fun (h : H) =>
  joinA (fun (h : H) =>
   joinA (fun (h : H) =>
    joinA (fun (h : H) =>
     joinA (fun (h : H) =>
      R (.bool false) h) fun J =>
     valA (faA 4 m1) h fun t98 h =>
     valA (ldA h none t98) h fun t99 h =>
     valA (lenA false t99) h fun t100 h =>
     loopA (fun N l h => argA l 0 fun n11 => argA l 1 fun t101 => 
      valA (binOp .lss .num t101 t100) h fun t102 h =>
      condA t102
       (joinA (fun (n11'_5 : AV) (h : H) =>
       valA (binOp .add .num t101 (.int .i64 1)) h fun t165 h =>
       N [n11'_5, t165] h) fun J_71 =>
      valA (iaA 4 t99 t101) h fun t103 h =>
      valA (ldA h (some 4) t103) h fun t104 h =>
      boxA h [.nilsl, (.int .i64 0), (.int .i64 0), .nilsl] 51 fun f13 h =>
      memA (stA h 4 f13 t104) .undef fun _ h =>
      valA (faA 2 f13) h fun t105 h =>
      valA (ldA h none t105) h fun t106 h =>
      valA (binOp .gtr .num t106 (.int .i64 200)) h fun t107 h =>
      whenA t107 false (fun K => valA (faA 0 f13) h K) h fun t109 h =>
      whenA t107 false (fun K => valA (ldA h none t109) h K) h fun t110 h =>
      whenA t107 false (fun K => valA (lenA false t110) h K) h fun t111 h =>
      whenA t107 false (fun K => valA (binOp .gtr .num t111 (.int .i64 200)) h K) h fun t112 h =>
      valA (pickA t107 (.bool true) t112) h fun t113 h =>
      whenA t113 false (fun K => valA (faA 3 f13) h K) h fun t115 h =>
      whenA t113 false (fun K => valA (ldA h none t115) h K) h fun t116 h =>
      whenA t113 false (fun K => valA (lenA false t116) h K) h fun t117 h =>
      whenA t113 false (fun K => valA (binOp .gtr .num t117 (.int .i64 2000)) h K) h fun t118 h =>
      valA (pickA t113 (.bool true) t118) h fun t119 h =>
      condA t119
       (R (.bool true) h)
       (valA (faA 3 f13) h fun t120 h =>
      valA (ldA h none t120) h fun t121 h =>
      valA (lenA false t121) h fun t122 h =>
      loopA (fun N_72 l h => argA l 0 fun n11_73 => argA l 1 fun t123 => 
       valA (binOp .lss .num t123 t122) h fun t124 h =>
       condA t124
        (joinA (fun (n11'_75 : AV) (h : H) =>
        valA (binOp .add .num t123 (.int .i64 1)) h fun t164 h =>
        N_72 [n11'_75, t164] h) fun J_117 =>
       valA (iaA 2 t121 t123) h fun t125 h =>
       valA (ldA h (some 2) t125) h fun t126 h =>
       boxA h [.nilsl, .nilsl] 58 fun b15 h =>
       memA (stA h 2 b15 t126) .undef fun _ h =>
       valA (faA 1 b15) h fun t128 h =>
       valA (ldA h none t128) h fun t129 h =>
       valA (lenA false t129) h fun t130 h =>
       valA (binOp .add .num n11_73 t130) h fun t131 h =>
       valA (binOp .gtr .num t131 (.int .i64 20000)) h fun t133 h =>
       whenA t133 false (fun K => valA (faA 0 b15) h K) h fun t135 h =>
       whenA t133 false (fun K => valA (ldA h none t135) h K) h fun t136 h =>
       whenA t133 false (fun K => valA (lenA false t136) h K) h fun t137 h =>
       whenA t133 false (fun K => valA (binOp .gtr .num t137 (.int .i64 200)) h K) h fun t138 h =>
       valA (pickA t133 (.bool true) t138) h fun t139 h =>
       condA t139
        (R (.bool true) h)
        (valA (faA 1 b15) h fun t140 h =>
       valA (ldA h none t140) h fun t141 h =>
       valA (lenA false t141) h fun t142 h =>
       loopA (fun N_118 l h => argA l 0 fun t143 => 
        valA (binOp .lss .num t143 t142) h fun t144 h =>
        condA t144
         (valA (iaA 9 t141 t143) h fun t145 h =>
        valA (ldA h (some 9) t145) h fun t146 h =>
        boxA h [(.int .i64 0), (.int .i64 0), (.int .i64 0), (.int .i64 0), (.int .i64 0), (.int .i64 0), .nilsl, .nilsl, .nilsl] 24 fun x17 h =>
        memA (stA h 9 x17 t146) .undef fun _ h =>
        valA (faA 6 x17) h fun t147 h =>
        valA (ldA h none t147) h fun t148 h =>
        valA (lenA false t148) h fun t149 h =>
        valA (binOp .gtr .num t149 (.int .i64 1024)) h fun t150 h =>
        whenA t150 false (fun K => valA (faA 7 x17) h K) h fun t152 h =>
        whenA t150 false (fun K => valA (ldA h none t152) h K) h fun t153 h =>
        whenA t150 false (fun K => valA (lenA false t153) h K) h fun t154 h =>
        whenA t150 false (fun K => valA (binOp .gtr .num t154 (.int .i64 1024)) h K) h fun t155 h =>
        valA (pickA t150 (.bool true) t155) h fun t156 h =>
        whenA t156 false (fun K => valA (faA 8 x17) h K) h fun t158 h =>
        whenA t156 false (fun K => valA (ldA h none t158) h K) h fun t159 h =>
        whenA t156 false (fun K => valA (lenA false t159) h K) h fun t160 h =>
        whenA t156 false (fun K => valA (binOp .gtr .num t160 (.int .i64 200)) h K) h fun t161 h =>
        valA (pickA t156 (.bool true) t161) h fun t162 h =>
        condA t162
         (R (.bool true) h)
         (valA (binOp .add .num t143 (.int .i64 1)) h fun t163 h =>
        N_118 [t163] h))
         (J_117 t131 h)) [(.int .i64 0)] h))
        (J_71 n11_73 h)) [n11, (.int .i64 0)] h))
       (J h)) [(.int .i64 0), (.int .i64 0)] h) fun J_119 =>
    valA (faA 3 m1) h fun t87 h =>
    valA (ldA h none t87) h fun t88 h =>
    valA (lenA false t88) h fun t89 h =>
    loopA (fun N_120 l h => argA l 0 fun t90 => 
     valA (binOp .lss .num t90 t89) h fun t91 h =>
     condA t91
      (valA (iaA 1 t88 t90) h fun t92 h =>
     valA (ldA h none t92) h fun t93 h =>
     valA (lenA true t93) h fun t95 h =>
     valA (binOp .gtr .num t95 (.int .i64 16384)) h fun t96 h =>
     condA t96
      (R (.bool true) h)
      (valA (binOp .add .num t90 (.int .i64 1)) h fun t97 h =>
     N_120 [t97] h))
      (J_119 h)) [(.int .i64 0)] h) fun J_121 =>
   valA (faA 2 m1) h fun t76 h =>
   valA (ldA h none t76) h fun t77 h =>
   valA (lenA false t77) h fun t78 h =>
   loopA (fun N_122 l h => argA l 0 fun t79 => 
    valA (binOp .lss .num t79 t78) h fun t80 h =>
    condA t80
     (valA (iaA 1 t77 t79) h fun t81 h =>
    valA (ldA h none t81) h fun t82 h =>
    valA (lenA true t82) h fun t84 h =>
    valA (binOp .gtr .num t84 (.int .i64 16384)) h fun t85 h =>
    condA t85
     (R (.bool true) h)
     (valA (binOp .add .num t79 (.int .i64 1)) h fun t86 h =>
    N_122 [t86] h))
     (J_121 h)) [(.int .i64 0)] h) fun J_123 =>
  valA (faA 1 m1) h fun t58 h =>
  valA (ldA h none t58) h fun t59 h =>
  valA (lenA false t59) h fun t60 h =>
  loopA (fun N_124 l h => argA l 0 fun t61 => 
   valA (binOp .lss .num t61 t60) h fun t62 h =>
   condA t62
    (valA (iaA 3 t59 t61) h fun t63 h =>
   valA (ldA h (some 3) t63) h fun t64 h =>
   boxA h [(.int .i64 0), .nilsl, (.str [])] 55 fun s6 h =>
   memA (stA h 3 s6 t64) .undef fun _ h =>
   valA (faA 1 s6) h fun t65 h =>
   valA (ldA h none t65) h fun t66 h =>
   valA (lenA false t66) h fun t67 h =>
   valA (binOp .gtr .num t67 (.int .i64 200)) h fun t68 h =>
   whenA t68 false (fun K => valA (faA 2 s6) h K) h fun t70 h =>
   whenA t68 false (fun K => valA (ldA h none t70) h K) h fun t71 h =>
   whenA t68 false (fun K => valA (lenA true t71) h K) h fun t72 h =>
   whenA t68 false (fun K => valA (binOp .gtr .num t72 (.int .i64 16384)) h K) h fun t73 h =>
   valA (pickA t68 (.bool true) t73) h fun t74 h =>
   condA t74
    (R (.bool true) h)
    (valA (binOp .add .num t61 (.int .i64 1)) h fun t75 h =>
   N_124 [t75] h))
    (J_123 h)) [(.int .i64 0)] h) fun J_125 =>
 valA (faA 0 m1) h fun t46 h =>
 valA (ldA h none t46) h fun t47 h =>
 valA (lenA false t47) h fun t48 h =>
 loopA (fun N_126 l h => argA l 0 fun t49 => 
  valA (binOp .lss .num t49 t48) h fun t50 h =>
  condA t50
   (valA (iaA 2 t47 t49) h fun t51 h =>
  valA (ldA h (some 2) t51) h fun t52 h =>
  boxA h [(.bool false), .nilsl] 53 fun t4 h =>
  memA (stA h 2 t4 t52) .undef fun _ h =>
  valA (faA 1 t4) h fun t53 h =>
  valA (ldA h none t53) h fun t54 h =>
  valA (lenA false t54) h fun t55 h =>
  valA (binOp .gtr .num t55 (.int .i64 512)) h fun t56 h =>
  condA t56
   (R (.bool true) h)
   (valA (binOp .add .num t49 (.int .i64 1)) h fun t57 h =>
  N_126 [t57] h))
   (J_125 h)) [(.int .i64 0)] h)
theorem she35 (C : CallA) (m0 : AV) (h : H) (R : AV → H → Prop) : wpA C an35 (argE [m0]) h (outA [(.tmp 2)] R) = sh35 C m0 h R := by kernel_rfl
/-! bellows/code.big -/
def an36 : ACode :=
 (.seq (.reg 0 [] [] [sD 1 (.bx none 34 (.t 0)),
 sD 2 (.mv (.c (.bool false)))])
 (.seq (.seq (.reg 0 [] [] [sD 14 (.fa 0 (.t 1)),
 sD 15 (.ld none (.t 14)),
 sD 16 (.mksl none 29 [.nilsl] 1 [(0, 1, (.t 15))]),
 sD 17 (.call 64 [(.c (.int .i64 1024)), (.t 16)]),
 sD 18 (.mv (.t 17)),
 sG 19 18 false (.fa 1 (.t 1)),
 sG 20 18 false (.ld none (.t 19)),
 sG 21 18 false (.mksl none 30 [.nilsl] 1 [(0, 1, (.t 20))]),
 sG 22 18 false (.call 65 [(.c (.int .i64 512)), (.t 21)]),
 sD 23 (.pick (.t 18) (.c (.bool true)) (.t 22)),
 sD 24 (.mv (.t 23)),
 sG 25 24 false (.fa 2 (.t 1)),
 sG 26 24 false (.ld none (.t 25)),
 sG 27 24 false (.fa 3 (.t 1)),
 sG 28 24 false (.ld none (.t 27)),
 sG 29 24 false (.mksl none 31 [.nilsl, .nilsl] 2 [(0, 1, (.t 26)), (1, 1, (.t 28))]),
 sG 30 24 false (.call 66 [(.c (.int .i64 256)), (.t 29)]),
 sD 31 (.pick (.t 24) (.c (.bool true)) (.t 30)),
 sD 32 (.mv (.t 31)),
 sG 33 32 false (.fa 4 (.t 1)),
 sG 34 32 false (.ld none (.t 33)),
 sG 35 32 false (.mksl none 32 [.nilsl] 1 [(0, 1, (.t 34))]),
 sG 36 32 false (.call 67 [(.c (.int .i64 1024)), (.t 35)]),
 sD 37 (.pick (.t 32) (.c (.bool true)) (.t 36)),
 sD 38 (.mv (.t 37)),
 sG 39 38 false (.fa 2 (.t 1)),
 sG 40 38 false (.ld none (.t 39)),
 sG 41 38 false (.call 68 [(.t 40)]),
 sD 42 (.pick (.t 38) (.c (.bool true)) (.t 41)),
 sD 43 (.mv (.t 42)),
 sG 44 43 false (.fa 3 (.t 1)),
 sG 45 43 false (.ld none (.t 44)),
 sG 46 43 false (.call 68 [(.t 45)]),
 sD 47 (.pick (.t 43) (.c (.bool true)) (.t 46))])
 (.cond (.t 47) (.seq (.reg 0 [] [] [sD 2 (.mv (.c (.bool true)))])
 .ret)
 .skip))
 (.seq (.seq (.reg 0 [] [] [sD 48 (.fa 0 (.t 1)),
 sD 49 (.ld none (.t 48)),
 sD 50 (.len false (.t 49)),
 sD 51 (.mv (.c (.int .i64 0)))])
 (.block 0 (.loop [51] 3940649673949186 (.seq (.reg 0 [] [] [sD 52 (.bin .lss .num (.t 51) (.t 50))])
 (.seq (.cond (.t 52) .skip
 (.exit 0))
 (.seq (.block 1 (.seq (.reg 0 [] [] [sD 53 (.ia none 2 (.t 49) (.t 51)),
 sD 54 (.ld (some 2) (.t 53)),
 sD 4 (.al none 53 [(.bool false), .nilsl]),
 sN (.st 2 (.t 4) (.t 54))])
 (.seq (.reg 0 [] [] [sD 55 (.fa 1 (.t 4)),
 sD 56 (.ld none (.t 55)),
 sD 57 (.mksl none 22 [.nilsl] 1 [(0, 1, (.t 56))]),
 sD 58 (.call 69 [(.c (.int .i64 512)), (.t 57)])])
 (.cond (.t 58) (.seq (.reg 0 [] [] [sD 2 (.mv (.c (.bool true)))])
 .ret)
 .skip))))
 (.reg 0 [] [] [sD 59 (.bin .add .num (.t 51) (.c (.int .i64 1))),
 sD 51 (.mv (.t 59))])))))))
 (.seq (.seq (.reg 0 [] [] [sD 60 (.fa 1 (.t 1)),
 sD 61 (.ld none (.t 60)),
 sD 62 (.len false (.t 61)),
 sD 63 (.mv (.c (.int .i64 0)))])
 (.block 2 (.loop [63] 16140901064495857666 (.seq (.reg 0 [] [] [sD 64 (.bin .lss .num (.t 63) (.t 62))])
 (.seq (.cond (.t 64) .skip
 (.exit 2))
 (.seq (.block 3 (.seq (.reg 0 [] [] [sD 65 (.ia none 3 (.t 61) (.t 63)),
 sD 66 (.ld (some 3) (.t 65)),
 sD 6 (.al none 55 [(.int .i64 0), .nilsl, (.str [])]),
 sN (.st 3 (.t 6) (.t 66))])
 (.seq (.reg 0 [] [] [sD 67 (.fa 1 (.t 6)),
 sD 68 (.ld none (.t 67)),
 sD 69 (.mksl none 22 [.nilsl] 1 [(0, 1, (.t 68))]),
 sD 70 (.call 69 [(.c (.int .i64 200)), (.t 69)]),
 sD 71 (.mv (.t 70)),
 sG 72 71 false (.fa 2 (.t 6)),
 sG 73 71 false (.ld none (.t 72)),
 sG 74 71 false (.mksl none 9 [(.str [])] 1 [(0, 1, (.t 73))]),
 sG 75 71 false (.call 68 [(.t 74)]),
 sD 76 (.pick (.t 71) (.c (.bool true)) (.t 75))])
 (.cond (.t 76) (.seq (.reg 0 [] [] [sD 2 (.mv (.c (.bool true)))])
 .ret)
 .skip))))
 (.reg 0 [] [] [sD 77 (.bin .add .num (.t 63) (.c (.int .i64 1))),
 sD 63 (.mv (.t 77))])))))))
 (.seq (.reg 0 [] [] [sD 7 (.mv (.c (.int .i64 20000)))])
 (.seq (.seq (.reg 0 [] [] [sD 78 (.fa 4 (.t 1)),
 sD 79 (.ld none (.t 78)),
 sD 80 (.len false (.t 79)),
 sD 81 (.mv (.c (.int .i64 0)))])
 (.block 4 (.loop [7, 81] 4231240368651202111471744 (.seq (.reg 0 [] [] [sD 82 (.bin .lss .num (.t 81) (.t 80))])
 (.seq (.cond (.t 82) .skip
 (.exit 4))
 (.seq (.block 5 (.seq (.reg 0 [] [] [sD 83 (.ia none 4 (.t 79) (.t 81)),
 sD 84 (.ld (some 4) (.t 83)),
 sD 9 (.al none 51 [.nilsl, (.int .i64 0), (.int .i64 0), .nilsl]),
 sN (.st 4 (.t 9) (.t 84))])
 (.seq (.seq (.reg 0 [] [] [sD 85 (.fa 2 (.t 9)),
 sD 86 (.ld none (.t 85)),
 sD 87 (.bin .gtr .num (.t 86) (.c (.int .i64 200))),
 sD 88 (.mv (.t 87)),
 sG 89 88 false (.fa 0 (.t 9)),
 sG 90 88 false (.ld none (.t 89)),
 sG 91 88 false (.mksl none 22 [.nilsl] 1 [(0, 1, (.t 90))]),
 sG 92 88 false (.call 69 [(.c (.int .i64 200)), (.t 91)]),
 sD 93 (.pick (.t 88) (.c (.bool true)) (.t 92)),
 sD 94 (.mv (.t 93)),
 sG 95 94 false (.fa 3 (.t 9)),
 sG 96 94 false (.ld none (.t 95)),
 sG 97 94 false (.mksl none 49 [.nilsl] 1 [(0, 1, (.t 96))]),
 sG 98 94 false (.call 70 [(.c (.int .i64 2000)), (.t 97)]),
 sD 99 (.pick (.t 94) (.c (.bool true)) (.t 98))])
 (.cond (.t 99) (.seq (.reg 0 [] [] [sD 2 (.mv (.c (.bool true)))])
 .ret)
 .skip))
 (.seq (.reg 0 [] [] [sD 100 (.fa 3 (.t 9)),
 sD 101 (.ld none (.t 100)),
 sD 102 (.len false (.t 101)),
 sD 103 (.mv (.c (.int .i64 0)))])
 (.block 6 (.loop [7, 103] 17747112634435580272155956347008 (.seq (.reg 0 [] [] [sD 104 (.bin .lss .num (.t 103) (.t 102))])
 (.seq (.cond (.t 104) .skip
 (.exit 6))
 (.seq (.block 7 (.seq (.reg 0 [] [] [sD 105 (.ia none 2 (.t 101) (.t 103)),
 sD 106 (.ld (some 2) (.t 105)),
 sD 11 (.al none 58 [.nilsl, .nilsl]),
 sN (.st 2 (.t 11) (.t 106))])
 (.seq (.seq (.reg 0 [] [] [sD 107 (.mv (.t 7)),
 sD 108 (.fa 1 (.t 11)),
 sD 109 (.ld none (.t 108)),
 sD 110 (.len false (.t 109)),
 sD 111 (.bin .sub .num (.t 107) (.t 110)),
 sD 7 (.mv (.t 111))])
 (.seq (.reg 0 [] [] [sD 112 (.mv (.t 7)),
 sD 113 (.bin .lss .num (.t 112) (.c (.int .i64 0))),
 sD 114 (.mv (.t 113)),
 sG 115 114 false (.fa 0 (.t 11)),
 sG 116 114 false (.ld none (.t 115)),
 sG 117 114 false (.mksl none 22 [.nilsl] 1 [(0, 1, (.t 116))]),
 sG 118 114 false (.call 69 [(.c (.int .i64 200)), (.t 117)]),
 sD 119 (.pick (.t 114) (.c (.bool true)) (.t 118))])
 (.cond (.t 119) (.seq (.reg 0 [] [] [sD 2 (.mv (.c (.bool true)))])
 .ret)
 .skip)))
 (.seq (.reg 0 [] [] [sD 120 (.fa 1 (.t 11)),
 sD 121 (.ld none (.t 120)),
 sD 122 (.len false (.t 121)),
 sD 123 (.mv (.c (.int .i64 0)))])
 (.block 8 (.loop [123] 18609209688101456656233570999881171072 (.seq (.reg 0 [] [] [sD 124 (.bin .lss .num (.t 123) (.t 122))])
 (.seq (.cond (.t 124) .skip
 (.exit 8))
 (.seq (.block 9 (.seq (.reg 0 [] [] [sD 125 (.ia none 9 (.t 121) (.t 123)),
 sD 126 (.ld (some 9) (.t 125)),
 sD 13 (.al none 24 [(.int .i64 0), (.int .i64 0), (.int .i64 0), (.int .i64 0), (.int .i64 0), (.int .i64 0), .nilsl, .nilsl, .nilsl]),
 sN (.st 9 (.t 13) (.t 126))])
 (.seq (.reg 0 [] [] [sD 127 (.fa 6 (.t 13)),
 sD 128 (.ld none (.t 127)),
 sD 129 (.fa 7 (.t 13)),
 sD 130 (.ld none (.t 129)),
 sD 131 (.mksl none 22 [.nilsl, .nilsl] 2 [(0, 1, (.t 128)), (1, 1, (.t 130))]),
 sD 132 (.call 69 [(.c (.int .i64 1024)), (.t 131)]),
 sD 133 (.mv (.t 132)),
 sG 134 133 false (.fa 8 (.t 13)),
 sG 135 133 false (.ld none (.t 134)),
 sG 136 133 false (.mksl none 22 [.nilsl] 1 [(0, 1, (.t 135))]),
 sG 137 133 false (.call 69 [(.c (.int .i64 200)), (.t 136)]),
 sD 138 (.pick (.t 133) (.c (.bool true)) (.t 137))])
 (.cond (.t 138) (.seq (.reg 0 [] [] [sD 2 (.mv (.c (.bool true)))])
 .ret)
 .skip))))
 (.reg 0 [] [] [sD 139 (.bin .add .num (.t 123) (.c (.int .i64 1))),
 sD 123 (.mv (.t 139))]))))))))))
 (.reg 0 [] [] [sD 140 (.bin .add .num (.t 103) (.c (.int .i64 1))),
 sD 103 (.mv (.t 140))]))))))))))
 (.reg 0 [] [] [sD 141 (.bin .add .num (.t 81) (.c (.int .i64 1))),
 sD 81 (.mv (.t 141))])))))))
 (.seq (.reg 0 [] [] [sD 2 (.mv (.c (.bool false)))])
 .ret)))))))
def fn36 : IFun := ⟨142, [(.tmp 2)], an36.erase⟩
theorem ok36 : okFun Try.prog 36 fn36 = true := by kernel_rfl
theorem oka36 : okA fn36.ntmps fn36.results an36 = true := by kernel_rfl
def sh36 (C : CallA) (m0 : AV) (h : H) (R : AV → H → Prop) : Prop :=
 boxA h (AV.cells m0) 34 fun m1 h =>
 valA (faA 0 m1) h fun t14 h =>
 valA (ldA h none t14) h fun t15 h =>
 mkslA h 29 1 (fillV [.nilsl] [(0, 1, t15)]) fun t16 h =>
 C 64 [(.int .i64 1024), t16] h fun t17 h =>
 whenA t17 false (fun K => valA (faA 1 m1) h K) h fun t19 h =>
 whenA t17 false (fun K => valA (ldA h none t19) h K) h fun t20 h =>
 whenA t17 false (fun K => mkslA h 30 1 (fillV [.nilsl] [(0, 1, t20)]) K) h fun t21 h =>
 whenA t17 false (fun K => C 65 [(.int .i64 512), t21] h K) h fun t22 h =>
 valA (pickA t17 (.bool true) t22) h fun t23 h =>
 whenA t23 false (fun K => valA (faA 2 m1) h K) h fun t25 h =>
 whenA t23 false (fun K => valA (ldA h none t25) h K) h fun t26 h =>
 whenA t23 false (fun K => valA (faA 3 m1) h K) h fun t27 h =>
 whenA t23 false (fun K => valA (ldA h none t27) h K) h fun t28 h =>
 whenA t23 false (fun K => mkslA h 31 2 (fillV [.nilsl, .nilsl] [(0, 1, t26), (1, 1, t28)]) K) h fun t29 h =>
 whenA t23 false (fun K => C 66 [(.int .i64 256), t29] h K) h fun t30 h =>
 valA (pickA t23 (.bool true) t30) h fun t31 h =>
 whenA t31 false (fun K => valA (faA 4 m1) h K) h fun t33 h =>
 whenA t31 false (fun K => valA (ldA h none t33) h K) h fun t34 h =>
 whenA t31 false (fun K => mkslA h 32 1 (fillV [.nilsl] [(0, 1, t34)]) K) h fun t35 h =>
 whenA t31 false (fun K => C 67 [(.int .i64 1024), t35] h K) h fun t36 h =>
 valA (pickA t31 (.bool true) t36) h fun t37 h =>
 whenA t37 false (fun K => valA (faA 2 m1) h K) h fun t39 h =>
 whenA t37 false (fun K => valA (ldA h none t39) h K) h fun t40 h =>
 whenA t37 false (fun K => C 68 [t40] h K) h fun t41 h =>
 valA (pickA t37 (.bool true) t41) h fun t42 h =>
 whenA t42 false (fun K => valA (faA 3 m1) h K) h fun t44 h =>
 whenA t42 false (fun K => valA (ldA h none t44) h K) h fun t45 h =>
 whenA t42 false (fun K => C 68 [t45] h K) h fun t46 h =>
 valA (pickA t42 (.bool true) t46) h fun t47 h =>
 condA t47
  (R (.bool true) h)
  (joinA (fun (h : H) =>
  joinA (fun (h : H) =>
   joinA (fun (h : H) =>
    R (.bool false) h) fun J =>
   valA (faA 4 m1) h fun t78 h =>
   valA (ldA h none t78) h fun t79 h =>
   valA (lenA false t79) h fun t80 h =>
   loopA (fun N l h => argA l 0 fun left7 => argA l 1 fun t81 => 
    valA (binOp .lss .num t81 t80) h fun t82 h =>
    condA t82
     (joinA (fun (left7'_3 : AV) (h : H) =>
     valA (binOp .add .num t81 (.int .i64 1)) h fun t141 h =>
     N [left7'_3, t141] h) fun J_65 =>
    valA (iaA 4 t79 t81) h fun t83 h =>
    valA (ldA h (some 4) t83) h fun t84 h =>
    boxA h [.nilsl, (.int .i64 0), (.int .i64 0), .nilsl] 51 fun f9 h =>
    memA (stA h 4 f9 t84) .undef fun _ h =>
    valA (faA 2 f9) h fun t85 h =>
    valA (ldA h none t85) h fun t86 h =>
    valA (binOp .gtr .num t86 (.int .i64 200)) h fun t87 h =>
    whenA t87 false (fun K => valA (faA 0 f9) h K) h fun t89 h =>
    whenA t87 false (fun K => valA (ldA h none t89) h K) h fun t90 h =>
    whenA t87 false (fun K => mkslA h 22 1 (fillV [.nilsl] [(0, 1, t90)]) K) h fun t91 h =>
    whenA t87 false (fun K => C 69 [(.int .i64 200), t91] h K) h fun t92 h =>
    valA (pickA t87 (.bool true) t92) h fun t93 h =>
    whenA t93 false (fun K => valA (faA 3 f9) h K) h fun t95 h =>
    whenA t93 false (fun K => valA (ldA h none t95) h K) h fun t96 h =>
    whenA t93 false (fun K => mkslA h 49 1 (fillV [.nilsl] [(0, 1, t96)]) K) h fun t97 h =>
    whenA t93 false (fun K => C 70 [(.int .i64 2000), t97] h K) h fun t98 h =>
    valA (pickA t93 (.bool true) t98) h fun t99 h =>
    condA t99
     (R (.bool true) h)
     (valA (faA 3 f9) h fun t100 h =>
    valA (ldA h none t100) h fun t101 h =>
    valA (lenA false t101) h fun t102 h =>
    loopA (fun N_66 l h => argA l 0 fun left7_67 => argA l 1 fun t103 => 
     valA (binOp .lss .num t103 t102) h fun t104 h =>
     condA t104
      (joinA (fun (left7'_69 : AV) (h : H) =>
      valA (binOp .add .num t103 (.int .i64 1)) h fun t140 h =>
      N_66 [left7'_69, t140] h) fun J_107 =>
     valA (iaA 2 t101 t103) h fun t105 h =>
     valA (ldA h (some 2) t105) h fun t106 h =>
     boxA h [.nilsl, .nilsl] 58 fun b11 h =>
     memA (stA h 2 b11 t106) .undef fun _ h =>
     valA (faA 1 b11) h fun t108 h =>
     valA (ldA h none t108) h fun t109 h =>
     valA (lenA false t109) h fun t110 h =>
     valA (binOp .sub .num left7_67 t110) h fun t111 h =>
     valA (binOp .lss .num t111 (.int .i64 0)) h fun t113 h =>
     whenA t113 false (fun K => valA (faA 0 b11) h K) h fun t115 h =>
     whenA t113 false (fun K => valA (ldA h none t115) h K) h fun t116 h =>
     whenA t113 false (fun K => mkslA h 22 1 (fillV [.nilsl] [(0, 1, t116)]) K) h fun t117 h =>
     whenA t113 false (fun K => C 69 [(.int .i64 200), t117] h K) h fun t118 h =>
     valA (pickA t113 (.bool true) t118) h fun t119 h =>
     condA t119
      (R (.bool true) h)
      (valA (faA 1 b11) h fun t120 h =>
     valA (ldA h none t120) h fun t121 h =>
     valA (lenA false t121) h fun t122 h =>
     loopA (fun N_108 l h => argA l 0 fun t123 => 
      valA (binOp .lss .num t123 t122) h fun t124 h =>
      condA t124
       (valA (iaA 9 t121 t123) h fun t125 h =>
      valA (ldA h (some 9) t125) h fun t126 h =>
      boxA h [(.int .i64 0), (.int .i64 0), (.int .i64 0), (.int .i64 0), (.int .i64 0), (.int .i64 0), .nilsl, .nilsl, .nilsl] 24 fun x13 h =>
      memA (stA h 9 x13 t126) .undef fun _ h =>
      valA (faA 6 x13) h fun t127 h =>
      valA (ldA h none t127) h fun t128 h =>
      valA (faA 7 x13) h fun t129 h =>
      valA (ldA h none t129) h fun t130 h =>
      mkslA h 22 2 (fillV [.nilsl, .nilsl] [(0, 1, t128), (1, 1, t130)]) fun t131 h =>
      C 69 [(.int .i64 1024), t131] h fun t132 h =>
      whenA t132 false (fun K => valA (faA 8 x13) h K) h fun t134 h =>
      whenA t132 false (fun K => valA (ldA h none t134) h K) h fun t135 h =>
      whenA t132 false (fun K => mkslA h 22 1 (fillV [.nilsl] [(0, 1, t135)]) K) h fun t136 h =>
      whenA t132 false (fun K => C 69 [(.int .i64 200), t136] h K) h fun t137 h =>
      valA (pickA t132 (.bool true) t137) h fun t138 h =>
      condA t138
       (R (.bool true) h)
       (valA (binOp .add .num t123 (.int .i64 1)) h fun t139 h =>
      N_108 [t139] h))
       (J_107 t111 h)) [(.int .i64 0)] h))
      (J_65 left7_67 h)) [left7, (.int .i64 0)] h))
     (J h)) [(.int .i64 20000), (.int .i64 0)] h) fun J_109 =>
  valA (faA 1 m1) h fun t60 h =>
  valA (ldA h none t60) h fun t61 h =>
  valA (lenA false t61) h fun t62 h =>
  loopA (fun N_110 l h => argA l 0 fun t63 => 
   valA (binOp .lss .num t63 t62) h fun t64 h =>
   condA t64
    (valA (iaA 3 t61 t63) h fun t65 h =>
   valA (ldA h (some 3) t65) h fun t66 h =>
   boxA h [(.int .i64 0), .nilsl, (.str [])] 55 fun s6 h =>
   memA (stA h 3 s6 t66) .undef fun _ h =>
   valA (faA 1 s6) h fun t67 h =>
   valA (ldA h none t67) h fun t68 h =>
   mkslA h 22 1 (fillV [.nilsl] [(0, 1, t68)]) fun t69 h =>
   C 69 [(.int .i64 200), t69] h fun t70 h =>
   whenA t70 false (fun K => valA (faA 2 s6) h K) h fun t72 h =>
   whenA t70 false (fun K => valA (ldA h none t72) h K) h fun t73 h =>
   whenA t70 false (fun K => mkslA h 9 1 (fillV [(.str [])] [(0, 1, t73)]) K) h fun t74 h =>
   whenA t70 false (fun K => C 68 [t74] h K) h fun t75 h =>
   valA (pickA t70 (.bool true) t75) h fun t76 h =>
   condA t76
    (R (.bool true) h)
    (valA (binOp .add .num t63 (.int .i64 1)) h fun t77 h =>
   N_110 [t77] h))
    (J_109 h)) [(.int .i64 0)] h) fun J_111 =>
 valA (faA 0 m1) h fun t48 h =>
 valA (ldA h none t48) h fun t49 h =>
 valA (lenA false t49) h fun t50 h =>
 loopA (fun N_112 l h => argA l 0 fun t51 => 
  valA (binOp .lss .num t51 t50) h fun t52 h =>
  condA t52
   (valA (iaA 2 t49 t51) h fun t53 h =>
  valA (ldA h (some 2) t53) h fun t54 h =>
  boxA h [(.bool false), .nilsl] 53 fun t4 h =>
  memA (stA h 2 t4 t54) .undef fun _ h =>
  valA (faA 1 t4) h fun t55 h =>
  valA (ldA h none t55) h fun t56 h =>
  mkslA h 22 1 (fillV [.nilsl] [(0, 1, t56)]) fun t57 h =>
  C 69 [(.int .i64 512), t57] h fun t58 h =>
  condA t58
   (R (.bool true) h)
   (valA (binOp .add .num t51 (.int .i64 1)) h fun t59 h =>
  N_112 [t59] h))
   (J_111 h)) [(.int .i64 0)] h)
theorem she36 (C : CallA) (m0 : AV) (h : H) (R : AV → H → Prop) : wpA C an36 (argE [m0]) h (outA [(.tmp 2)] R) = sh36 C m0 h R := by kernel_rfl
/-! slices.ContainsFunc[[]bellows/api.Instr,bellows/api.Instr] -/
def an37 : ACode :=
 (.seq (.reg 0 [] [] [sD 4 (.mv (.c (.bool false)))])
 (.seq (.reg 0 [] [] [sD 5 (.mv (.t 0)),
 sD 6 (.mv (.t 1)),
 sD 7 (.call 71 [(.t 5), (.t 6)]),
 sD 8 (.bin .geq .num (.t 7) (.c (.int .i64 0))),
 sD 4 (.mv (.t 8))])
 .ret))
def fn37 : IFun := ⟨9, [(.tmp 4)], an37.erase⟩
theorem ok37 : okFun Try.prog 37 fn37 = true := by kernel_rfl
theorem oka37 : okA fn37.ntmps fn37.results an37 = true := by kernel_rfl
def sh37 (C : CallA) (s0 f1 : AV) (h : H) (R : AV → H → Prop) : Prop :=
 C 71 [s0, f1] h fun t7 h =>
 valA (binOp .geq .num t7 (.int .i64 0)) h fun t8 h =>
 R t8 h
theorem she37 (C : CallA) (s0 f1 : AV) (h : H) (R : AV → H → Prop) : wpA C an37 (argE [s0, f1]) h (outA [(.tmp 4)] R) = sh37 C s0 f1 h R := by kernel_rfl
/-! bellows/code.Check$1 -/
def an38 : ACode :=
 (.seq (.reg 0 [] [] [sD 1 (.bx none 24 (.t 0)),
 sD 2 (.mv (.c (.bool false)))])
 (.seq (.reg 0 [] [] [sD 3 (.ld (some 9) (.t 1)),
 sD 4 (.call 12 [(.t 3)]),
 sD 5 (.un .not (.t 4)),
 sD 2 (.mv (.t 5))])
 .ret))
def fn38 : IFun := ⟨6, [(.tmp 2)], an38.erase⟩
theorem ok38 : okFun Try.prog 38 fn38 = true := by kernel_rfl
theorem oka38 : okA fn38.ntmps fn38.results an38 = true := by kernel_rfl
def sh38 (C : CallA) (x0 : AV) (h : H) (R : AV → H → Prop) : Prop :=
 boxA h (AV.cells x0) 24 fun x1 h =>
 valA (ldA h (some 9) x1) h fun t3 h =>
 C 12 [t3] h fun t4 h =>
 valA (unOp .not t4) h fun t5 h =>
 R t5 h
theorem she38 (C : CallA) (x0 : AV) (h : H) (R : AV → H → Prop) : wpA C an38 (argE [x0]) h (outA [(.tmp 2)] R) = sh38 C x0 h R := by kernel_rfl
/-! bellows/bellowsref04.num -/
def an39 : ACode :=
 (.seq (.reg 0 [] [] [sD 4 (.mv (.c .nilsl))])
 (.seq (.reg 0 [] [] [sD 5 (.mv (.t 0)),
 sD 6 (.mv (.t 1)),
 sD 7 (.call 72 [(.t 6)]),
 sD 8 (.app 5 1 1 [(.int .u8 0)] (.t 5) (.t 7)),
 sD 4 (.mv (.t 8))])
 .ret))
def fn39 : IFun := ⟨9, [(.tmp 4)], an39.erase⟩
theorem ok39 : okFun Try.prog 39 fn39 = true := by kernel_rfl
theorem oka39 : okA fn39.ntmps fn39.results an39 = true := by kernel_rfl
def sh39 (C : CallA) (b0 n1 : AV) (h : H) (R : AV → H → Prop) : Prop :=
 C 72 [n1] h fun t7 h =>
 appendA h 5 1 1 b0 t7 fun t8 h =>
 R t8 h
theorem she39 (C : CallA) (b0 n1 : AV) (h : H) (R : AV → H → Prop) : wpA C an39 (argE [b0, n1]) h (outA [(.tmp 4)] R) = sh39 C b0 n1 h R := by kernel_rfl
/-! bellows/bellowsref04.nums -/
def an40 : ACode :=
 (.seq (.reg 0 [] [] [sD 4 (.mv (.c .nilsl))])
 (.seq (.reg 0 [] [] [sD 7 (.mv (.t 0)),
 sD 8 (.mv (.t 1)),
 sD 9 (.len false (.t 8)),
 sD 10 (.call 39 [(.t 7), (.t 9)]),
 sD 0 (.mv (.t 10))])
 (.seq (.seq (.reg 0 [] [] [sD 11 (.mv (.t 1)),
 sD 12 (.len false (.t 11)),
 sD 13 (.mv (.c (.int .i64 0)))])
 (.block 0 (.loop [0, 13] 14337 (.seq (.reg 0 [] [] [sD 14 (.bin .lss .num (.t 13) (.t 12))])
 (.seq (.cond (.t 14) .skip
 (.exit 0))
 (.seq (.block 1 (.seq (.reg 0 [] [] [sD 15 (.ia none 1 (.t 11) (.t 13)),
 sD 16 (.ld none (.t 15)),
 sD 6 (.mv (.t 16))])
 (.reg 0 [] [] [sD 17 (.mv (.t 0)),
 sD 18 (.mv (.t 6)),
 sD 19 (.call 39 [(.t 17), (.t 18)]),
 sD 0 (.mv (.t 19))])))
 (.reg 0 [] [] [sD 20 (.bin .add .num (.t 13) (.c (.int .i64 1))),
 sD 13 (.mv (.t 20))])))))))
 (.seq (.reg 0 [] [] [sD 21 (.mv (.t 0)),
 sD 4 (.mv (.t 21))])
 .ret))))
def fn40 : IFun := ⟨22, [(.tmp 4)], an40.erase⟩
theorem ok40 : okFun Try.prog 40 fn40 = true := by kernel_rfl
theorem oka40 : okA fn40.ntmps fn40.results an40 = true := by kernel_rfl
def sh40 (C : CallA) (b0 l1 : AV) (h : H) (R : AV → H → Prop) : Prop :=
 valA (lenA false l1) h fun t9 h =>
 C 39 [b0, t9] h fun t10 h =>
 joinA (fun (b0' : AV) (h : H) =>
  R b0' h) fun J =>
 valA (lenA false l1) h fun t12 h =>
 loopA (fun N l h => argA l 0 fun b0_0 => argA l 1 fun t13 => 
  valA (binOp .lss .num t13 t12) h fun t14 h =>
  condA t14
   (valA (iaA 1 l1 t13) h fun t15 h =>
  valA (ldA h none t15) h fun t16 h =>
  C 39 [b0_0, t16] h fun t19 h =>
  valA (binOp .add .num t13 (.int .i64 1)) h fun t20 h =>
  N [t19, t20] h)
   (J b0_0 h)) [t10, (.int .i64 0)] h
theorem she40 (C : CallA) (b0 l1 : AV) (h : H) (R : AV → H → Prop) : wpA C an40 (argE [b0, l1]) h (outA [(.tmp 4)] R) = sh40 C b0 l1 h R := by kernel_rfl
/-! bellows/bellowsref04.text -/
def an41 : ACode :=
 (.seq (.reg 0 [] [] [sD 4 (.mv (.c .nilsl))])
 (.seq (.reg 0 [] [] [sD 5 (.mv (.t 0)),
 sD 6 (.mv (.t 1)),
 sD 7 (.len true (.t 6)),
 sD 8 (.call 39 [(.t 5), (.t 7)]),
 sD 9 (.mv (.t 1)),
 sD 10 (.cv none (.s2b 5) (.t 9)),
 sD 11 (.app 5 1 1 [(.int .u8 0)] (.t 8) (.t 10)),
 sD 4 (.mv (.t 11))])
 .ret))
def fn41 : IFun := ⟨12, [(.tmp 4)], an41.erase⟩
theorem ok41 : okFun Try.prog 41 fn41 = true := by kernel_rfl
theorem oka41 : okA fn41.ntmps fn41.results an41 = true := by kernel_rfl
def sh41 (C : CallA) (b0 s1 : AV) (h : H) (R : AV → H → Prop) : Prop :=
 valA (lenA true s1) h fun t7 h =>
 C 39 [b0, t7] h fun t8 h =>
 s2bA h 5 s1 fun t10 h =>
 appendA h 5 1 1 t8 t10 fun t11 h =>
 R t11 h
theorem she41 (C : CallA) (b0 s1 : AV) (h : H) (R : AV → H → Prop) : wpA C an41 (argE [b0, s1]) h (outA [(.tmp 4)] R) = sh41 C b0 s1 h R := by kernel_rfl
/-! bellows/bellowsref04.Instr -/
def an42 : ACode :=
 (.seq (.reg 0 [] [] [sD 3 (.bx none 24 (.t 1)),
 sD 4 (.mv (.c .nilsl))])
 (.seq (.reg 0 [] [] [sD 7 (.mv (.t 0)),
 sD 8 (.fa 0 (.t 3)),
 sD 9 (.ld none (.t 8)),
 sD 10 (.call 39 [(.t 7), (.t 9)]),
 sD 0 (.mv (.t 10))])
 (.seq (.reg 0 [] [] [sD 11 (.fa 0 (.t 3)),
 sD 12 (.ld none (.t 11)),
 sD 13 (.call 11 [(.t 12)]),
 sD 5 (.mv (.t 13))])
 (.seq (.seq (.reg 0 [] [] [sD 6 (.mv (.c (.int .i64 0)))])
 (.block 0 (.loop [0, 6] 105 (.seq (.seq (.reg 0 [] [] [sD 14 (.mv (.t 6)),
 sD 15 (.mv (.t 5)),
 sD 16 (.len true (.t 15)),
 sD 17 (.bin .lss .num (.t 14) (.t 16))])
 (.cond (.t 17) .skip
 (.exit 0)))
 (.seq (.block 1 (.seq (.reg 0 [] [] [sD 20 (.mv (.t 5)),
 sD 21 (.mv (.t 6)),
 sD 22 (.ix none (.t 20) (.t 21))])
 (.block 2 (.seq (.reg 0 [] [] [sD 28 (.bin .eql .num (.t 22) (.c (.int .u8 68))),
 sD 27 (.mv (.t 28))])
 (.cond (.t 27) (.reg 0 [] [] [sD 29 (.mv (.t 0)),
 sD 30 (.fa 1 (.t 3)),
 sD 31 (.ld none (.t 30)),
 sD 32 (.call 39 [(.t 29), (.t 31)]),
 sD 0 (.mv (.t 32))])
 (.seq (.reg 0 [] [] [sD 34 (.bin .eql .num (.t 22) (.c (.int .u8 65))),
 sD 33 (.mv (.t 34))])
 (.cond (.t 33) (.reg 0 [] [] [sD 35 (.mv (.t 0)),
 sD 36 (.fa 2 (.t 3)),
 sD 37 (.ld none (.t 36)),
 sD 38 (.call 39 [(.t 35), (.t 37)]),
 sD 0 (.mv (.t 38))])
 (.seq (.reg 0 [] [] [sD 40 (.bin .eql .num (.t 22) (.c (.int .u8 66))),
 sD 39 (.mv (.t 40))])
 (.cond (.t 39) (.reg 0 [] [] [sD 41 (.mv (.t 0)),
 sD 42 (.fa 3 (.t 3)),
 sD 43 (.ld none (.t 42)),
 sD 44 (.call 39 [(.t 41), (.t 43)]),
 sD 0 (.mv (.t 44))])
 (.seq (.reg 0 [] [] [sD 46 (.bin .eql .num (.t 22) (.c (.int .u8 67))),
 sD 45 (.mv (.t 46))])
 (.cond (.t 45) (.reg 0 [] [] [sD 47 (.mv (.t 0)),
 sD 48 (.fa 4 (.t 3)),
 sD 49 (.ld none (.t 48)),
 sD 50 (.call 39 [(.t 47), (.t 49)]),
 sD 0 (.mv (.t 50))])
 (.seq (.reg 0 [] [] [sD 52 (.bin .eql .num (.t 22) (.c (.int .u8 78))),
 sD 51 (.mv (.t 52))])
 (.cond (.t 51) (.reg 0 [] [] [sD 53 (.mv (.t 0)),
 sD 54 (.fa 5 (.t 3)),
 sD 55 (.ld none (.t 54)),
 sD 56 (.call 72 [(.t 55)]),
 sD 57 (.app 5 1 1 [(.int .u8 0)] (.t 53) (.t 56)),
 sD 0 (.mv (.t 57))])
 (.seq (.reg 0 [] [] [sD 59 (.bin .eql .num (.t 22) (.c (.int .u8 76))),
 sD 58 (.mv (.t 59))])
 (.cond (.t 58) (.reg 0 [] [] [sD 60 (.mv (.t 0)),
 sD 61 (.fa 6 (.t 3)),
 sD 62 (.ld none (.t 61)),
 sD 63 (.call 40 [(.t 60), (.t 62)]),
 sD 0 (.mv (.t 63))])
 (.seq (.reg 0 [] [] [sD 65 (.bin .eql .num (.t 22) (.c (.int .u8 77))),
 sD 64 (.mv (.t 65))])
 (.cond (.t 64) (.reg 0 [] [] [sD 66 (.mv (.t 0)),
 sD 67 (.fa 7 (.t 3)),
 sD 68 (.ld none (.t 67)),
 sD 69 (.call 40 [(.t 66), (.t 68)]),
 sD 0 (.mv (.t 69))])
 (.reg 0 [] [] [sD 23 (.mv (.t 0)),
 sD 24 (.fa 8 (.t 3)),
 sD 25 (.ld none (.t 24)),
 sD 26 (.call 40 [(.t 23), (.t 25)]),
 sD 0 (.mv (.t 26))]))))))))))))))))))
 (.reg 0 [] [] [sD 18 (.mv (.t 6)),
 sD 19 (.bin .add .num (.t 18) (.c (.int .i64 1))),
 sD 6 (.mv (.t 19))]))))))
 (.seq (.reg 0 [] [] [sD 70 (.mv (.t 0)),
 sD 4 (.mv (.t 70))])
 .ret)))))
def fn42 : IFun := ⟨71, [(.tmp 4)], an42.erase⟩
theorem ok42 : okFun Try.prog 42 fn42 = true := by kernel_rfl
theorem oka42 : okA fn42.ntmps fn42.results an42 = true := by kernel_rfl
def sh42 (C : CallA) (b0 x1 : AV) (h : H) (R : AV → H → Prop) : Prop :=
 boxA h (AV.cells x1) 24 fun x3 h =>
 valA (faA 0 x3) h fun t8 h =>
 valA (ldA h none t8) h fun t9 h =>
 C 39 [b0, t9] h fun t10 h =>
 valA (faA 0 x3) h fun t11 h =>
 valA (ldA h none t11) h fun t12 h =>
 C 11 [t12] h fun t13 h =>
 joinA (fun (b0' : AV) (h : H) =>
  R b0' h) fun J =>
 loopA (fun N l h => argA l 0 fun b0_0 => argA l 1 fun i6 => 
  valA (lenA true t13) h fun t16 h =>
  valA (binOp .lss .num i6 t16) h fun t17 h =>
  condA t17
   (joinA (fun (b0'_1 : AV) (h : H) =>
   valA (binOp .add .num i6 (.int .i64 1)) h fun t19 h =>
   N [b0'_1, t19] h) fun J_52 =>
  valA (ixStrA t13 i6) h fun t22 h =>
  valA (binOp .eql .num t22 (.int .u8 68)) h fun t28 h =>
  condA t28
   (valA (faA 1 x3) h fun t30 h =>
   valA (ldA h none t30) h fun t31 h =>
   C 39 [b0_0, t31] h fun t32 h =>
   J_52 t32 h)
   (valA (binOp .eql .num t22 (.int .u8 65)) h fun t34 h =>
   condA t34
    (valA (faA 2 x3) h fun t36 h =>
    valA (ldA h none t36) h fun t37 h =>
    C 39 [b0_0, t37] h fun t38 h =>
    J_52 t38 h)
    (valA (binOp .eql .num t22 (.int .u8 66)) h fun t40 h =>
    condA t40
     (valA (faA 3 x3) h fun t42 h =>
     valA (ldA h none t42) h fun t43 h =>
     C 39 [b0_0, t43] h fun t44 h =>
     J_52 t44 h)
     (valA (binOp .eql .num t22 (.int .u8 67)) h fun t46 h =>
     condA t46
      (valA (faA 4 x3) h fun t48 h =>
      valA (ldA h none t48) h fun t49 h =>
      C 39 [b0_0, t49] h fun t50 h =>
      J_52 t50 h)
      (valA (binOp .eql .num t22 (.int .u8 78)) h fun t52 h =>
      condA t52
       (valA (faA 5 x3) h fun t54 h =>
       valA (ldA h none t54) h fun t55 h =>
       C 72 [t55] h fun t56 h =>
       appendA h 5 1 1 b0_0 t56 fun t57 h =>
       J_52 t57 h)
       (valA (binOp .eql .num t22 (.int .u8 76)) h fun t59 h =>
       condA t59
        (valA (faA 6 x3) h fun t61 h =>
        valA (ldA h none t61) h fun t62 h =>
        C 40 [b0_0, t62] h fun t63 h =>
        J_52 t63 h)
        (valA (binOp .eql .num t22 (.int .u8 77)) h fun t65 h =>
        condA t65
         (valA (faA 7 x3) h fun t67 h =>
         valA (ldA h none t67) h fun t68 h =>
         C 40 [b0_0, t68] h fun t69 h =>
         J_52 t69 h)
         (valA (faA 8 x3) h fun t24 h =>
         valA (ldA h none t24) h fun t25 h =>
         C 40 [b0_0, t25] h fun t26 h =>
         J_52 t26 h))))))))
   (J b0_0 h)) [t10, (.int .i64 0)] h
theorem she42 (C : CallA) (b0 x1 : AV) (h : H) (R : AV → H → Prop) : wpA C an42 (argE [b0, x1]) h (outA [(.tmp 4)] R) = sh42 C b0 x1 h R := by kernel_rfl
/-! bellows/code.some[bellows/api.Type] -/
def an43 : ACode :=
 (.seq (.reg 0 [] [] [sD 4 (.mv (.c .nilsl))])
 (.seq (.reg 0 [] [] [sD 5 (.mv (.c .nilsl))])
 (.seq (.seq (.reg 0 [] [] [sD 6 (.mv (.t 0)),
 sD 7 (.call 73 [(.t 6)]),
 sD 8 (.mv (.c (.int .i64 0)))])
 (.block 0 (.loop [5, 8] 419 (.seq (.reg 0 [] [] [sD 9 (.bin .lss .num (.t 8) (.t 7))])
 (.seq (.cond (.t 9) .skip
 (.exit 0))
 (.seq (.block 1 (.seq (.seq (.reg 0 [] [] [sD 10 (.mv (.t 0)),
 sD 11 (.nilc (.t 10)),
 sD 12 (.fa 2 (.t 11)),
 sD 13 (.ld none (.t 12))])
 (.cond (.t 13) (.seq (.reg 0 [] [] [sD 4 (.mv (.c .nilsl))])
 .ret)
 .skip))
 (.reg 0 [] [] [sD 14 (.mv (.t 5)),
 sD 15 (.mv (.t 1)),
 sD 16 (.callv (.t 15) []),
 sD 17 (.mksl none 53 [(.bool false), .nilsl] 1 [(0, 2, (.t 16))]),
 sD 18 (.app 53 2 32 [(.bool false), .nilsl] (.t 14) (.t 17)),
 sD 5 (.mv (.t 18))])))
 (.reg 0 [] [] [sD 19 (.bin .add .num (.t 8) (.c (.int .i64 1))),
 sD 8 (.mv (.t 19))])))))))
 (.seq (.reg 0 [] [] [sD 20 (.mv (.t 5)),
 sD 4 (.mv (.t 20))])
 .ret))))
def fn43 : IFun := ⟨21, [(.tmp 4)], an43.erase⟩
theorem ok43 : okFun Try.prog 43 fn43 = true := by kernel_rfl
theorem oka43 : okA fn43.ntmps fn43.results an43 = true := by kernel_rfl
def sh43 (C : CallA) (r0 each1 : AV) (h : H) (R : AV → H → Prop) : Prop :=
 joinA (fun (l5' : AV) (h : H) =>
  R l5' h) fun J =>
 C 73 [r0] h fun t7 h =>
 loopA (fun N l h => argA l 0 fun l5 => argA l 1 fun t8 => 
  valA (binOp .lss .num t8 t7) h fun t9 h =>
  condA t9
   (valA (nilcA r0) h fun t11 h =>
  valA (faA 2 t11) h fun t12 h =>
  valA (ldA h none t12) h fun t13 h =>
  condA t13
   (R .nilsl h)
   (callvA C each1 [] h fun t16 h =>
  mkslA h 53 1 (fillV [(.bool false), .nilsl] [(0, 2, t16)]) fun t17 h =>
  appendA h 53 2 32 l5 t17 fun t18 h =>
  valA (binOp .add .num t8 (.int .i64 1)) h fun t19 h =>
  N [t18, t19] h))
   (J l5 h)) [.nilsl, (.int .i64 0)] h
theorem she43 (C : CallA) (r0 each1 : AV) (h : H) (R : AV → H → Prop) : wpA C an43 (argE [r0, each1]) h (outA [(.tmp 4)] R) = sh43 C r0 each1 h R := by kernel_rfl
/-! (*bellows/code.reader).kind -/
def an44 : ACode :=
 (.seq (.reg 0 [] [] [sD 2 (.al none 53 [(.bool false), .nilsl])])
 (.seq (.reg 0 [] [] [sD 4 (.mv (.t 0)),
 sD 5 (.call 51 [(.t 4)]),
 sD 3 (.mv (.t 5))])
 (.seq (.reg 0 [] [] [sD 6 (.mv (.t 0)),
 sD 7 (.mv (.t 0)),
 sD 8 (.nilc (.t 7)),
 sD 9 (.fa 2 (.t 8)),
 sD 10 (.ld none (.t 9)),
 sD 11 (.mv (.t 10)),
 sG 12 11 false (.mv (.t 3)),
 sG 13 11 false (.bin .lss .num (.t 12) (.c (.int .i64 0))),
 sD 14 (.pick (.t 11) (.c (.bool true)) (.t 13)),
 sD 15 (.mv (.t 14)),
 sG 16 15 false (.mv (.t 3)),
 sG 17 15 false (.bin .gtr .num (.t 16) (.c (.int .i64 1))),
 sD 18 (.pick (.t 15) (.c (.bool true)) (.t 17)),
 sD 19 (.nilc (.t 6)),
 sD 20 (.fa 2 (.t 19)),
 sN (.st 1 (.t 20) (.t 18))])
 (.seq (.reg 0 [] [] [sD 21 (.mv (.t 3)),
 sD 22 (.bin .eql .num (.t 21) (.c (.int .i64 1))),
 sD 23 (.mv (.t 0)),
 sD 24 (.call 74 [(.t 23)]),
 sD 25 (.build [(.bool false), .nilsl] [(0, 1, (.t 22)), (1, 1, (.t 24))]),
 sN (.st 2 (.t 2) (.t 25))])
 .ret))))
def fn44 : IFun := ⟨26, [(.cell 2 (some 2))], an44.erase⟩
theorem ok44 : okFun Try.prog 44 fn44 = true := by kernel_rfl
theorem oka44 : okA fn44.ntmps fn44.results an44 = true := by kernel_rfl
def sh44 (C : CallA) (r0 : AV) (h : H) (R : AV → H → Prop) : Prop :=
 boxA h [(.bool false), .nilsl] 53 fun t2 h =>
 C 51 [r0] h fun t5 h =>
 valA (nilcA r0) h fun t8 h =>
 valA (faA 2 t8) h fun t9 h =>
 valA (ldA h none t9) h fun t10 h =>
 whenA t10 false (fun K => K t5 h) h fun t12 h =>
 whenA t10 false (fun K => valA (binOp .lss .num t12 (.int .i64 0)) h K) h fun t13 h =>
 valA (pickA t10 (.bool true) t13) h fun t14 h =>
 whenA t14 false (fun K => K t5 h) h fun t16 h =>
 whenA t14 false (fun K => valA (binOp .gtr .num t16 (.int .i64 1)) h K) h fun t17 h =>
 valA (pickA t14 (.bool true) t17) h fun t18 h =>
 valA (nilcA r0) h fun t19 h =>
 valA (faA 2 t19) h fun t20 h =>
 memA (stA h 1 t20 t18) .undef fun _ h =>
 valA (binOp .eql .num t5 (.int .i64 1)) h fun t22 h =>
 C 74 [r0] h fun t24 h =>
 valA (buildA (fillV [(.bool false), .nilsl] [(0, 1, t22), (1, 1, t24)])) h fun t25 h =>
 memA (stA h 2 t2 t25) .undef fun _ h =>
 valA (ldA h (some 2) t2) h fun res _ => R res h
theorem she44 (C : CallA) (r0 : AV) (h : H) (R : AV → H → Prop) : wpA C an44 (argE [r0]) h (outA [(.cell 2 (some 2))] R) = sh44 C r0 h R := by kernel_rfl
end Go.Proofs.Ytgcnliikibbcnaa.X
