/- The plain programs of functions, printed; that they are the model's; what must hold ahead of each. -/
import Derived.Test.YtljkkfcokpimkaaProg
import Derived.Test.YtljkkfcokpimkaaXo
set_option maxRecDepth 100000
set_option linter.unusedVariables false
namespace Go.Proofs.Ytljkkfcokpimkaa.X
open Go
/-! bellows/bellowslaw02.HeapCloses -/
def an16 : ACode :=
 (.seq (.reg 0 [] [] [sD 1 (.bx none 95 (.t 0)),
 sD 2 (.mv (.c (.bool false)))])
 (.seq (.reg 0 [0, 1, 2, 3, 4, 5, 6, 7, 8, 9, 10, 11] [[], [0], [], [2], [], [4], [], [6], [0, 1], [1, 0, 8, 2, 3], [3, 2, 8, 0, 1, 9, 4, 5], [5, 4, 9, 1, 0, 8, 2, 3, 10, 6, 7]] [sD 15 (.fa 0 (.t 1)),
 sD 16 (.ld none (.t 15)),
 sD 17 (.fa 1 (.t 1)),
 sD 18 (.ld none (.t 17)),
 sD 19 (.fa 2 (.t 1)),
 sD 20 (.ld none (.t 19)),
 sD 21 (.fa 3 (.t 1)),
 sD 22 (.ld none (.t 21)),
 sD 3 (.mv (.t 16)),
 sD 4 (.mv (.t 18)),
 sD 5 (.mv (.t 20)),
 sD 6 (.mv (.t 22))])
 (.seq (.seq (.reg 0 [] [] [sD 23 (.mv (.t 5)),
 sD 24 (.len false (.t 23)),
 sD 25 (.bin .gtr .num (.t 24) (.c (.int .i64 300)))])
 (.cond (.t 25) (.reg 0 [] [] [sD 26 (.mv (.t 5)),
 sD 27 (.sli (.row 1) (.t 26) none (some (.c (.int .i64 300))) none),
 sD 5 (.mv (.t 27))])
 .skip))
 (.seq (.reg 0 [] [] [sD 29 (.mv (.t 3)),
 sD 30 (.mv (.t 4)),
 sD 31 (.call 60 [(.c (.int .i64 300)), (.t 29), (.t 30)]),
 sD 28 (.mv (.t 31)),
 sD 32 (.ext (.t 28) 0),
 sD 33 (.ext (.t 28) 1),
 sD 7 (.mv (.t 32)),
 sD 8 (.mv (.t 33))])
 (.seq (.seq (.reg 0 [] [] [sD 34 (.mv (.t 7)),
 sD 35 (.bin .eql .ptr (.t 34) (.c .nilp))])
 (.cond (.t 35) (.seq (.reg 0 [] [] [sD 36 (.call 51 []),
 sD 2 (.mv (.t 36))])
 .ret)
 .skip))
 (.seq (.reg 0 [] [] [sD 37 (.mv (.t 8)),
 sD 38 (.call 77 [(.t 37)]),
 sD 9 (.mv (.t 38))])
 (.seq (.seq (.reg 0 [] [] [sD 39 (.mv (.t 5)),
 sD 40 (.len false (.t 39)),
 sD 41 (.mv (.c (.int .i64 0)))])
 (.block 0 (.loop [41] 3848290698176 (.seq (.reg 0 [] [] [sD 42 (.bin .lss .num (.t 41) (.t 40))])
 (.seq (.cond (.t 42) .skip
 (.exit 0))
 (.seq (.block 1 (.seq (.reg 0 [] [] [sD 43 (.mv (.t 41)),
 sD 44 (.ia none 1 (.t 39) (.t 41)),
 sD 45 (.ld none (.t 44)),
 sD 10 (.mv (.t 43)),
 sD 11 (.mv (.t 45))])
 (.seq (.reg 0 [] [] [sD 46 (.mv (.t 7)),
 sD 47 (.mv (.t 10)),
 sD 48 (.mv (.t 11)),
 sD 49 (.call 78 [(.t 46), (.t 47), (.t 48)])])
 (.reg 0 [] [] [sD 50 (.mv (.t 9)),
 sD 51 (.mv (.t 10)),
 sD 52 (.mv (.t 11)),
 sD 53 (.ia none 1 (.t 50) (.t 51)),
 sN (.st 1 (.t 53) (.t 52))]))))
 (.reg 0 [] [] [sD 54 (.bin .add .num (.t 41) (.c (.int .i64 1))),
 sD 41 (.mv (.t 54))])))))))
 (.seq (.reg 0 [] [] [sD 55 (.mv (.t 7)),
 sD 56 (.call 78 [(.t 55), (.c (.int .i64 (-1))), (.c (.int .u64 5))])])
 (.seq (.reg 0 [] [] [sD 57 (.mv (.t 7)),
 sD 58 (.call 78 [(.t 57), (.c (.int .i64 300)), (.c (.int .u64 5))])])
 (.seq (.reg 0 [] [] [sD 60 (.mv (.t 9)),
 sD 61 (.mv (.t 6)),
 sD 62 (.mv (.t 8)),
 sD 63 (.nilc (.t 62)),
 sD 64 (.fa 1 (.t 63)),
 sD 65 (.ld none (.t 64)),
 sD 66 (.call 79 [(.t 60), (.t 61), (.t 65)]),
 sD 59 (.mv (.t 66)),
 sD 67 (.ext (.t 59) 0),
 sD 68 (.ext (.t 59) 1),
 sD 12 (.mv (.t 67)),
 sD 13 (.mv (.t 68))])
 (.seq (.reg 0 [] [] [sD 69 (.mv (.t 7)),
 sD 70 (.mv (.t 6)),
 sD 71 (.call 80 [(.t 69), (.t 70)]),
 sD 14 (.mv (.t 71))])
 (.seq (.seq (.reg 0 [] [] [sD 72 (.mv (.t 13)),
 sD 73 (.un .not (.t 72))])
 (.cond (.t 73) (.seq (.reg 0 [] [] [sD 74 (.mv (.t 14)),
 sD 75 (.bin .eql .num (.t 74) (.c (.int .i64 1))),
 sD 76 (.mv (.t 75)),
 sG 77 76 true (.mv (.t 7)),
 sG 78 76 true (.call 57 [(.t 77)]),
 sG 79 76 true (.mv (.t 8)),
 sG 80 76 true (.call 75 [(.t 79)]),
 sG 81 76 true (.bin .eql .num (.t 78) (.t 80)),
 sD 82 (.pick (.t 76) (.t 81) (.c (.bool false))),
 sD 83 (.mv (.t 82)),
 sG 84 83 true (.mv (.t 7)),
 sG 85 83 true (.call 62 [(.t 84), (.c (.int .i64 (-1)))]),
 sG 86 83 true (.bin .eql .num (.t 85) (.c (.int .u64 0))),
 sD 87 (.pick (.t 83) (.t 86) (.c (.bool false))),
 sD 88 (.mv (.t 87)),
 sG 89 88 true (.mv (.t 7)),
 sG 90 88 true (.call 62 [(.t 89), (.c (.int .i64 300))]),
 sG 91 88 true (.bin .eql .num (.t 90) (.c (.int .u64 0))),
 sD 92 (.pick (.t 88) (.t 91) (.c (.bool false))),
 sD 93 (.mv (.t 92)),
 sG 94 93 true (.call 51 []),
 sD 95 (.pick (.t 93) (.t 94) (.c (.bool false))),
 sD 2 (.mv (.t 95))])
 .ret)
 .skip))
 (.seq (.reg 0 [] [] [sD 96 (.mv (.t 14)),
 sD 97 (.bin .eql .num (.t 96) (.c (.int .i64 0))),
 sD 98 (.mv (.t 97)),
 sG 99 98 true (.mv (.t 7)),
 sG 100 98 true (.mv (.t 12)),
 sG 101 98 true (.call 76 [(.t 99), (.t 100)]),
 sD 102 (.pick (.t 98) (.t 101) (.c (.bool false))),
 sD 103 (.mv (.t 102)),
 sG 104 103 true (.call 51 []),
 sD 105 (.pick (.t 103) (.t 104) (.c (.bool false))),
 sD 2 (.mv (.t 105))])
 .ret)))))))))))))
def fn16 : IFun := ⟨106, [(.tmp 2)], an16.erase⟩
theorem ok16 : okFun Try.prog 16 fn16 = true := by kernel_rfl
theorem oka16 : okA fn16.ntmps fn16.results an16 = true := by kernel_rfl
def sh16 (C : CallA) (c0 : AV) (h : H) (R : AV → H → Prop) : Prop :=
 newA h (AV.cells c0) 95 (fun b => .ptr b 0) fun c1 h =>
 valA (faA 0 c1) h fun t15 h =>
 valA (ldA h none t15) h fun t16 h =>
 valA (faA 1 c1) h fun t17 h =>
 valA (ldA h none t17) h fun t18 h =>
 valA (faA 2 c1) h fun t19 h =>
 valA (ldA h none t19) h fun t20 h =>
 valA (faA 3 c1) h fun t21 h =>
 valA (ldA h none t21) h fun t22 h =>
 joinA (fun (words5' : AV) (h : H) =>
  C 60 [(.int .i64 300), t16, t18] h fun t31 h =>
  valA (extA t31 0) h fun t32 h =>
  valA (extA t31 1) h fun t33 h =>
  valA (binOp .eql .ptr t32 .nilp) h fun t35 h =>
  condA t35
   (C 51 [] h fun t36 h =>
   R t36 h)
   (C 77 [t33] h fun t38 h =>
  joinA (fun (h : H) =>
   C 78 [t32, (.int .i64 (-1)), (.int .u64 5)] h fun t56 h =>
   C 78 [t32, (.int .i64 300), (.int .u64 5)] h fun t58 h =>
   valA (nilcA t33) h fun t63 h =>
   valA (faA 1 t63) h fun t64 h =>
   valA (ldA h none t64) h fun t65 h =>
   C 79 [t38, t22, t65] h fun t66 h =>
   valA (extA t66 0) h fun t67 h =>
   valA (extA t66 1) h fun t68 h =>
   C 80 [t32, t22] h fun t71 h =>
   valA (unOp .not t68) h fun t73 h =>
   condA t73
    (valA (binOp .eql .num t71 (.int .i64 1)) h fun t75 h =>
    whenA t75 true (fun K => K t32 h) h fun t77 h =>
    whenA t75 true (fun K => C 57 [t77] h K) h fun t78 h =>
    whenA t75 true (fun K => K t33 h) h fun t79 h =>
    whenA t75 true (fun K => C 75 [t79] h K) h fun t80 h =>
    whenA t75 true (fun K => valA (binOp .eql .num t78 t80) h K) h fun t81 h =>
    valA (pickA t75 t81 (.bool false)) h fun t82 h =>
    whenA t82 true (fun K => K t32 h) h fun t84 h =>
    whenA t82 true (fun K => C 62 [t84, (.int .i64 (-1))] h K) h fun t85 h =>
    whenA t82 true (fun K => valA (binOp .eql .num t85 (.int .u64 0)) h K) h fun t86 h =>
    valA (pickA t82 t86 (.bool false)) h fun t87 h =>
    whenA t87 true (fun K => K t32 h) h fun t89 h =>
    whenA t87 true (fun K => C 62 [t89, (.int .i64 300)] h K) h fun t90 h =>
    whenA t87 true (fun K => valA (binOp .eql .num t90 (.int .u64 0)) h K) h fun t91 h =>
    valA (pickA t87 t91 (.bool false)) h fun t92 h =>
    whenA t92 true (fun K => C 51 [] h K) h fun t94 h =>
    valA (pickA t92 t94 (.bool false)) h fun t95 h =>
    R t95 h)
    (valA (binOp .eql .num t71 (.int .i64 0)) h fun t97 h =>
   whenA t97 true (fun K => K t32 h) h fun t99 h =>
   whenA t97 true (fun K => K t67 h) h fun t100 h =>
   whenA t97 true (fun K => C 76 [t99, t100] h K) h fun t101 h =>
   valA (pickA t97 t101 (.bool false)) h fun t102 h =>
   whenA t102 true (fun K => C 51 [] h K) h fun t104 h =>
   valA (pickA t102 t104 (.bool false)) h fun t105 h =>
   R t105 h)) fun J =>
  valA (lenA false words5') h fun t40 h =>
  loopA (fun N l h => argA l 0 fun t41 => 
   valA (binOp .lss .num t41 t40) h fun t42 h =>
   condA t42
    (valA (iaA 1 words5' t41) h fun t44 h =>
   valA (ldA h none t44) h fun t45 h =>
   C 78 [t32, t41, t45] h fun t49 h =>
   valA (iaA 1 t38 t41) h fun t53 h =>
   memA (stA h 1 t53 t45) .undef fun _ h =>
   valA (binOp .add .num t41 (.int .i64 1)) h fun t54 h =>
   N [t54] h)
    (J h)) [(.int .i64 0)] h)) fun J_0 =>
 valA (lenA false t20) h fun t24 h =>
 valA (binOp .gtr .num t24 (.int .i64 300)) h fun t25 h =>
 condA t25
  (valA (sliceOp (.row 1) t20 none (some (.int .i64 300)) none) h fun t27 h =>
  J_0 t27 h)
  (J_0 t20 h)
theorem she16 (C : CallA) (c0 : AV) (h : H) (R : AV → H → Prop) : wpA C an16 (argE [c0]) h (outA [(.tmp 2)] R) = sh16 C c0 h R := by kernel_rfl
/-! bellows/word.Head -/
def an31 : ACode :=
 (.seq (.reg 0 [] [] [sD 4 (.mv (.c (.int .u64 0)))])
 (.seq (.reg 0 [] [] [sD 5 (.mv (.t 0)),
 sD 6 (.cv none (.toInt .u64) (.t 5)),
 sD 7 (.bin .and .num (.t 6) (.c (.int .u64 1048575))),
 sD 8 (.bin .shl .num (.t 7) (.c (.int .u64 1))),
 sD 9 (.mv (.t 1)),
 sD 10 (.cv none (.toInt .u64) (.t 9)),
 sD 11 (.bin .and .num (.t 10) (.c (.int .u64 1048575))),
 sD 12 (.bin .shl .num (.t 11) (.c (.int .u64 21))),
 sD 13 (.bin .or .num (.t 8) (.t 12)),
 sD 14 (.bin .or .num (.t 13) (.c (.int .u64 1))),
 sD 4 (.mv (.t 14))])
 .ret))
def fn31 : IFun := ⟨15, [(.tmp 4)], an31.erase⟩
theorem ok31 : okFun Try.prog 31 fn31 = true := by kernel_rfl
theorem oka31 : okA fn31.ntmps fn31.results an31 = true := by kernel_rfl
def sh31 (C : CallA) (shape0 n1 : AV) (h : H) (R : AV → H → Prop) : Prop :=
 valA (cvA .u64 shape0) h fun t6 h =>
 valA (binOp .and .num t6 (.int .u64 1048575)) h fun t7 h =>
 valA (binOp .shl .num t7 (.int .u64 1)) h fun t8 h =>
 valA (cvA .u64 n1) h fun t10 h =>
 valA (binOp .and .num t10 (.int .u64 1048575)) h fun t11 h =>
 valA (binOp .shl .num t11 (.int .u64 21)) h fun t12 h =>
 valA (binOp .or .num t8 t12) h fun t13 h =>
 valA (binOp .or .num t13 (.int .u64 1)) h fun t14 h =>
 R t14 h
theorem she31 (C : CallA) (shape0 n1 : AV) (h : H) (R : AV → H → Prop) : wpA C an31 (argE [shape0, n1]) h (outA [(.tmp 4)] R) = sh31 C shape0 n1 h R := by kernel_rfl
/-! bellows/bellowsref01.Head -/
def an32 : ACode :=
 (.seq (.reg 0 [] [] [sD 4 (.mv (.c (.int .u64 0)))])
 (.seq (.reg 0 [] [] [sD 5 (.mv (.t 0)),
 sD 6 (.cv none (.toInt .u64) (.t 5)),
 sD 7 (.call 42 [(.c (.int .u64 1)), (.c (.int .i64 1)), (.c (.int .i64 20)), (.t 6)]),
 sD 8 (.mv (.t 1)),
 sD 9 (.cv none (.toInt .u64) (.t 8)),
 sD 10 (.call 42 [(.t 7), (.c (.int .i64 21)), (.c (.int .i64 20)), (.t 9)]),
 sD 4 (.mv (.t 10))])
 .ret))
def fn32 : IFun := ⟨11, [(.tmp 4)], an32.erase⟩
theorem ok32 : okFun Try.prog 32 fn32 = true := by kernel_rfl
theorem oka32 : okA fn32.ntmps fn32.results an32 = true := by kernel_rfl
def sh32 (C : CallA) (shape0 n1 : AV) (h : H) (R : AV → H → Prop) : Prop :=
 valA (cvA .u64 shape0) h fun t6 h =>
 C 42 [(.int .u64 1), (.int .i64 1), (.int .i64 20), t6] h fun t7 h =>
 valA (cvA .u64 n1) h fun t9 h =>
 C 42 [t7, (.int .i64 21), (.int .i64 20), t9] h fun t10 h =>
 R t10 h
theorem she32 (C : CallA) (shape0 n1 : AV) (h : H) (R : AV → H → Prop) : wpA C an32 (argE [shape0, n1]) h (outA [(.tmp 4)] R) = sh32 C shape0 n1 h R := by kernel_rfl
/-! bellows/word.Shape -/
def an33 : ACode :=
 (.seq (.reg 0 [] [] [sD 2 (.mv (.c (.int .i64 0)))])
 (.seq (.reg 0 [] [] [sD 3 (.mv (.t 0)),
 sD 4 (.bin .shr .num (.t 3) (.c (.int .u64 1))),
 sD 5 (.bin .and .num (.t 4) (.c (.int .u64 1048575))),
 sD 6 (.cv none (.toInt .i64) (.t 5)),
 sD 2 (.mv (.t 6))])
 .ret))
def fn33 : IFun := ⟨7, [(.tmp 2)], an33.erase⟩
theorem ok33 : okFun Try.prog 33 fn33 = true := by kernel_rfl
theorem oka33 : okA fn33.ntmps fn33.results an33 = true := by kernel_rfl
def sh33 (C : CallA) (h0 : AV) (h : H) (R : AV → H → Prop) : Prop :=
 valA (binOp .shr .num h0 (.int .u64 1)) h fun t4 h =>
 valA (binOp .and .num t4 (.int .u64 1048575)) h fun t5 h =>
 valA (cvA .i64 t5) h fun t6 h =>
 R t6 h
theorem she33 (C : CallA) (h0 : AV) (h : H) (R : AV → H → Prop) : wpA C an33 (argE [h0]) h (outA [(.tmp 2)] R) = sh33 C h0 h R := by kernel_rfl
/-! bellows/bellowsref01.Field -/
def an34 : ACode :=
 (.seq (.reg 0 [] [] [sD 6 (.mv (.c (.int .u64 0)))])
 (.seq (.reg 0 [0, 1, 2, 3, 4, 5, 6, 7] [[], [], [1], [1, 2, 0], [], [1, 2, 4], [4, 5, 0, 2, 1, 3], [3, 1, 2, 0, 5, 4, 6]] [sD 7 (.mv (.t 0)),
 sD 8 (.mv (.t 1)),
 sD 9 (.call 100 [(.t 8)]),
 sD 10 (.bin .quo .num (.t 7) (.t 9)),
 sD 11 (.mv (.t 2)),
 sD 12 (.call 100 [(.t 11)]),
 sD 13 (.bin .rem .num (.t 10) (.t 12)),
 sD 6 (.mv (.t 13))])
 .ret))
def fn34 : IFun := ⟨14, [(.tmp 6)], an34.erase⟩
theorem ok34 : okFun Try.prog 34 fn34 = true := by kernel_rfl
theorem oka34 : okA fn34.ntmps fn34.results an34 = true := by kernel_rfl
def sh34 (C : CallA) (h0 at1 bits2 : AV) (h : H) (R : AV → H → Prop) : Prop :=
 C 100 [at1] h fun t9 h =>
 valA (binOp .quo .num h0 t9) h fun t10 h =>
 C 100 [bits2] h fun t12 h =>
 valA (binOp .rem .num t10 t12) h fun t13 h =>
 R t13 h
theorem she34 (C : CallA) (h0 at1 bits2 : AV) (h : H) (R : AV → H → Prop) : wpA C an34 (argE [h0, at1, bits2]) h (outA [(.tmp 6)] R) = sh34 C h0 at1 bits2 h R := by kernel_rfl
/-! bellows/word.Len -/
def an35 : ACode :=
 (.seq (.reg 0 [] [] [sD 2 (.mv (.c (.int .i64 0)))])
 (.seq (.reg 0 [] [] [sD 3 (.mv (.t 0)),
 sD 4 (.bin .shr .num (.t 3) (.c (.int .u64 21))),
 sD 5 (.bin .and .num (.t 4) (.c (.int .u64 1048575))),
 sD 6 (.cv none (.toInt .i64) (.t 5)),
 sD 2 (.mv (.t 6))])
 .ret))
def fn35 : IFun := ⟨7, [(.tmp 2)], an35.erase⟩
theorem ok35 : okFun Try.prog 35 fn35 = true := by kernel_rfl
theorem oka35 : okA fn35.ntmps fn35.results an35 = true := by kernel_rfl
def sh35 (C : CallA) (h0 : AV) (h : H) (R : AV → H → Prop) : Prop :=
 valA (binOp .shr .num h0 (.int .u64 21)) h fun t4 h =>
 valA (binOp .and .num t4 (.int .u64 1048575)) h fun t5 h =>
 valA (cvA .i64 t5) h fun t6 h =>
 R t6 h
theorem she35 (C : CallA) (h0 : AV) (h : H) (R : AV → H → Prop) : wpA C an35 (argE [h0]) h (outA [(.tmp 2)] R) = sh35 C h0 h R := by kernel_rfl
/-! bellows/bellowsref01.With -/
def an42 : ACode :=
 (.seq (.reg 0 [] [] [sD 8 (.mv (.c (.int .u64 0)))])
 (.seq (.reg 0 [0, 1, 2, 3, 4, 5, 6, 7, 8, 9, 10, 11, 12, 13, 14, 15, 16, 17] [[], [], [], [], [3, 2, 1], [], [1, 2, 3, 4, 5], [5, 6, 1, 2, 3, 4], [4, 3, 2, 1, 6, 5, 7, 0], [], [], [5, 4, 3, 2, 1, 6, 10], [10, 6, 1, 2, 3, 4, 5, 11, 9], [], [10, 6, 1, 2, 3, 4, 5, 11, 13], [13, 14, 9, 11, 5, 4, 3, 2, 1, 6, 10, 12], [12, 10, 11, 9, 14, 13, 15, 0, 7, 5, 6, 1, 2, 3, 4, 8], [8, 4, 3, 2, 1, 6, 5, 7, 0, 15, 13, 14, 9, 11, 10, 12, 16]] [sD 9 (.mv (.t 0)),
 sD 10 (.mv (.t 0)),
 sD 11 (.mv (.t 1)),
 sD 12 (.mv (.t 2)),
 sD 13 (.call 34 [(.t 10), (.t 11), (.t 12)]),
 sD 14 (.mv (.t 1)),
 sD 15 (.call 100 [(.t 14)]),
 sD 16 (.bin .mul .num (.t 13) (.t 15)),
 sD 17 (.bin .sub .num (.t 9) (.t 16)),
 sD 18 (.mv (.t 3)),
 sD 19 (.mv (.t 2)),
 sD 20 (.call 100 [(.t 19)]),
 sD 21 (.bin .rem .num (.t 18) (.t 20)),
 sD 22 (.mv (.t 1)),
 sD 23 (.call 100 [(.t 22)]),
 sD 24 (.bin .mul .num (.t 21) (.t 23)),
 sD 25 (.bin .add .num (.t 17) (.t 24)),
 sD 8 (.mv (.t 25))])
 .ret))
def fn42 : IFun := ⟨26, [(.tmp 8)], an42.erase⟩
theorem ok42 : okFun Try.prog 42 fn42 = true := by kernel_rfl
theorem oka42 : okA fn42.ntmps fn42.results an42 = true := by kernel_rfl
def sh42 (C : CallA) (h0 at1 bits2 x3 : AV) (h : H) (R : AV → H → Prop) : Prop :=
 C 34 [h0, at1, bits2] h fun t13 h =>
 C 100 [at1] h fun t15 h =>
 valA (binOp .mul .num t13 t15) h fun t16 h =>
 valA (binOp .sub .num h0 t16) h fun t17 h =>
 C 100 [bits2] h fun t20 h =>
 valA (binOp .rem .num x3 t20) h fun t21 h =>
 C 100 [at1] h fun t23 h =>
 valA (binOp .mul .num t21 t23) h fun t24 h =>
 valA (binOp .add .num t17 t24) h fun t25 h =>
 R t25 h
theorem she42 (C : CallA) (h0 at1 bits2 x3 : AV) (h : H) (R : AV → H → Prop) : wpA C an42 (argE [h0, at1, bits2, x3]) h (outA [(.tmp 8)] R) = sh42 C h0 at1 bits2 x3 h R := by kernel_rfl
/-! bellows/word.IsImm -/
def an48 : ACode :=
 (.seq (.reg 0 [] [] [sD 2 (.mv (.c (.bool false)))])
 (.seq (.reg 0 [] [] [sD 3 (.mv (.t 0)),
 sD 4 (.bin .and .num (.t 3) (.c (.int .u64 1))),
 sD 5 (.bin .eql .num (.t 4) (.c (.int .u64 1))),
 sD 2 (.mv (.t 5))])
 .ret))
def fn48 : IFun := ⟨6, [(.tmp 2)], an48.erase⟩
theorem ok48 : okFun Try.prog 48 fn48 = true := by kernel_rfl
theorem oka48 : okA fn48.ntmps fn48.results an48 = true := by kernel_rfl
def sh48 (C : CallA) (w0 : AV) (h : H) (R : AV → H → Prop) : Prop :=
 valA (binOp .and .num w0 (.int .u64 1)) h fun t4 h =>
 valA (binOp .eql .num t4 (.int .u64 1)) h fun t5 h =>
 R t5 h
theorem she48 (C : CallA) (w0 : AV) (h : H) (R : AV → H → Prop) : wpA C an48 (argE [w0]) h (outA [(.tmp 2)] R) = sh48 C w0 h R := by kernel_rfl
/-! bellows/heap.New -/
def an49 : ACode :=
 (.seq (.reg 0 [] [] [sD 4 (.mv (.c .nilp)),
 sD 5 (.mv (.c (.int .i64 0)))])
 (.seq (.seq (.reg 0 [] [] [sD 8 (.mv (.t 0)),
 sD 9 (.bin .lss .num (.t 8) (.c (.int .i64 0))),
 sD 10 (.mv (.t 9)),
 sG 11 10 false (.mv (.t 0)),
 sG 12 10 false (.bin .gtr .num (.t 11) (.c (.int .i64 65536))),
 sD 13 (.pick (.t 10) (.c (.bool true)) (.t 12))])
 (.cond (.t 13) (.seq (.reg 0 [] [] [sD 4 (.mv (.c .nilp)),
 sD 5 (.mv (.c (.int .i64 1)))])
 .ret)
 .skip))
 (.seq (.seq (.reg 0 [] [] [sD 14 (.mv (.t 1)),
 sD 15 (.len false (.t 14)),
 sD 16 (.bin .gtr .num (.t 15) (.c (.int .i64 512)))])
 (.cond (.t 16) (.seq (.reg 0 [] [] [sD 4 (.mv (.c .nilp)),
 sD 5 (.mv (.c (.int .i64 2)))])
 .ret)
 .skip))
 (.seq (.seq (.reg 0 [] [] [sD 17 (.mv (.t 1)),
 sD 18 (.len false (.t 17)),
 sD 19 (.mv (.c (.int .i64 0)))])
 (.block 0 (.loop [19] 917507 (.seq (.reg 0 [] [] [sD 20 (.bin .lss .num (.t 19) (.t 18))])
 (.seq (.cond (.t 20) .skip
 (.exit 0))
 (.seq (.block 1 (.seq (.reg 0 [] [] [sD 21 (.ia none 2 (.t 17) (.t 19)),
 sD 22 (.ld (some 2) (.t 21)),
 sD 7 (.al none 60 [(.int .i64 0), (.int .i64 0)]),
 sN (.st 2 (.t 7) (.t 22))])
 (.seq (.reg 0 [] [] [sD 23 (.fa 0 (.t 7)),
 sD 24 (.ld none (.t 23)),
 sD 25 (.bin .lss .num (.t 24) (.c (.int .i64 1))),
 sD 26 (.mv (.t 25)),
 sG 27 26 false (.fa 0 (.t 7)),
 sG 28 26 false (.ld none (.t 27)),
 sG 29 26 false (.bin .gtr .num (.t 28) (.c (.int .i64 3))),
 sD 30 (.pick (.t 26) (.c (.bool true)) (.t 29)),
 sD 31 (.mv (.t 30)),
 sG 32 31 false (.fa 1 (.t 7)),
 sG 33 31 false (.ld none (.t 32)),
 sG 34 31 false (.bin .lss .num (.t 33) (.c (.int .i64 0))),
 sD 35 (.pick (.t 31) (.c (.bool true)) (.t 34)),
 sD 36 (.mv (.t 35)),
 sG 37 36 false (.fa 1 (.t 7)),
 sG 38 36 false (.ld none (.t 37)),
 sG 39 36 false (.bin .gtr .num (.t 38) (.c (.int .i64 65536))),
 sD 40 (.pick (.t 36) (.c (.bool true)) (.t 39))])
 (.cond (.t 40) (.seq (.reg 0 [] [] [sD 4 (.mv (.c .nilp)),
 sD 5 (.mv (.c (.int .i64 1)))])
 .ret)
 .skip))))
 (.reg 0 [] [] [sD 41 (.bin .add .num (.t 19) (.c (.int .i64 1))),
 sD 19 (.mv (.t 41))])))))))
 (.seq (.reg 3 [0, 2, 3, 4, 6, 7, 1, 5, 8, 9, 10, 11] [[], [0], [], [2], [2, 3], [3, 2, 4], [], [6], [6, 7, 4, 2, 3, 5, 0, 1], [1, 0, 5, 3, 2, 4, 7, 6, 8], [8, 6, 7, 4, 2, 3, 5, 0, 1, 9], [9, 1, 0, 5, 3, 2, 4, 7, 6, 8, 10]] [sD 42 (.mv (.t 0)),
 sD 44 (.mv (.t 0)),
 sD 45 (.bin .quo .num (.t 44) (.c (.int .i64 64))),
 sD 46 (.bin .add .num (.t 45) (.c (.int .i64 1))),
 sD 48 (.mv (.t 1)),
 sD 49 (.app 60 2 16 [(.int .i64 0), (.int .i64 0)] (.c .nilsl) (.t 48)),
 sD 43 (.mks (some 0) 25 [(.int .u64 0)] 8 (.t 42) (.t 42)),
 sD 47 (.mks (some 1) 25 [(.int .u64 0)] 8 (.t 46) (.t 46)),
 sD 50 (.build [.nilsl, .nilsl, .nilsl, (.int .i64 0)] [(0, 1, (.t 43)), (1, 1, (.t 47)), (2, 1, (.t 49))]),
 sD 51 (.bx (some 2) 130 (.t 50)),
 sD 4 (.mv (.t 51)),
 sD 5 (.mv (.c (.int .i64 0)))])
 .ret)))))
def fn49 : IFun := ⟨52, [(.tmp 4), (.tmp 5)], an49.erase⟩
theorem ok49 : okFun Try.prog 49 fn49 = true := by kernel_rfl
theorem oka49 : okA fn49.ntmps fn49.results an49 = true := by kernel_rfl
def sh49 (C : CallA) (words0 layouts1 : AV) (h : H) (R : AV → H → Prop) : Prop :=
 valA (binOp .lss .num words0 (.int .i64 0)) h fun t9 h =>
 whenA t9 false (fun K => K words0 h) h fun t11 h =>
 whenA t9 false (fun K => valA (binOp .gtr .num t11 (.int .i64 65536)) h K) h fun t12 h =>
 valA (pickA t9 (.bool true) t12) h fun t13 h =>
 condA t13
  (R (.tup [.nilp, (.int .i64 1)]) h)
  (valA (lenA false layouts1) h fun t15 h =>
 valA (binOp .gtr .num t15 (.int .i64 512)) h fun t16 h =>
 condA t16
  (R (.tup [.nilp, (.int .i64 2)]) h)
  (joinA (fun (h : H) =>
  valA (binOp .quo .num words0 (.int .i64 64)) h fun t45 h =>
  valA (binOp .add .num t45 (.int .i64 1)) h fun t46 h =>
  appendA h 60 2 16 .nilsl layouts1 fun t49 h =>
  mksA h 25 [(.int .u64 0)] 8 words0 words0 fun t43 h =>
  mksA h 25 [(.int .u64 0)] 8 t46 t46 fun t47 h =>
  valA (buildA (fillV [.nilsl, .nilsl, .nilsl, (.int .i64 0)] [(0, 1, t43), (1, 1, t47), (2, 1, t49)])) h fun t50 h =>
  newA h (AV.cells t50) 130 (fun b => .ptr b 0) fun t51 h =>
  R (.tup [t51, (.int .i64 0)]) h) fun J =>
 valA (lenA false layouts1) h fun t18 h =>
 loopA (fun N l h => argA l 0 fun t19 => 
  valA (binOp .lss .num t19 t18) h fun t20 h =>
  condA t20
   (valA (iaA 2 layouts1 t19) h fun t21 h =>
  valA (ldA h (some 2) t21) h fun t22 h =>
  newA h [(.int .i64 0), (.int .i64 0)] 60 (fun b => .ptr b 0) fun l7 h =>
  memA (stA h 2 l7 t22) .undef fun _ h =>
  valA (faA 0 l7) h fun t23 h =>
  valA (ldA h none t23) h fun t24 h =>
  valA (binOp .lss .num t24 (.int .i64 1)) h fun t25 h =>
  whenA t25 false (fun K => valA (faA 0 l7) h K) h fun t27 h =>
  whenA t25 false (fun K => valA (ldA h none t27) h K) h fun t28 h =>
  whenA t25 false (fun K => valA (binOp .gtr .num t28 (.int .i64 3)) h K) h fun t29 h =>
  valA (pickA t25 (.bool true) t29) h fun t30 h =>
  whenA t30 false (fun K => valA (faA 1 l7) h K) h fun t32 h =>
  whenA t30 false (fun K => valA (ldA h none t32) h K) h fun t33 h =>
  whenA t30 false (fun K => valA (binOp .lss .num t33 (.int .i64 0)) h K) h fun t34 h =>
  valA (pickA t30 (.bool true) t34) h fun t35 h =>
  whenA t35 false (fun K => valA (faA 1 l7) h K) h fun t37 h =>
  whenA t35 false (fun K => valA (ldA h none t37) h K) h fun t38 h =>
  whenA t35 false (fun K => valA (binOp .gtr .num t38 (.int .i64 65536)) h K) h fun t39 h =>
  valA (pickA t35 (.bool true) t39) h fun t40 h =>
  condA t40
   (R (.tup [.nilp, (.int .i64 1)]) h)
   (valA (binOp .add .num t19 (.int .i64 1)) h fun t41 h =>
  N [t41] h))
   (J h)) [(.int .i64 0)] h))
theorem she49 (C : CallA) (words0 layouts1 : AV) (h : H) (R : AV → H → Prop) : wpA C an49 (argE [words0, layouts1]) h (outA [(.tmp 4), (.tmp 5)] R) = sh49 C words0 layouts1 h R := by kernel_rfl
/-! bellows/bellowsref02.Check -/
def an50 : ACode :=
 (.seq (.reg 0 [] [] [sD 4 (.mv (.c (.int .i64 0)))])
 (.seq (.seq (.reg 0 [] [] [sD 7 (.mv (.t 0)),
 sD 8 (.bin .lss .num (.t 7) (.c (.int .i64 0))),
 sD 9 (.mv (.t 8)),
 sG 10 9 false (.mv (.t 0)),
 sG 11 9 false (.bin .gtr .num (.t 10) (.c (.int .i64 65536))),
 sD 12 (.pick (.t 9) (.c (.bool true)) (.t 11))])
 (.cond (.t 12) (.seq (.reg 0 [] [] [sD 4 (.mv (.c (.int .i64 1)))])
 .ret)
 .skip))
 (.seq (.seq (.reg 0 [] [] [sD 13 (.mv (.t 1)),
 sD 14 (.len false (.t 13)),
 sD 15 (.bin .gtr .num (.t 14) (.c (.int .i64 512)))])
 (.cond (.t 15) (.seq (.reg 0 [] [] [sD 4 (.mv (.c (.int .i64 2)))])
 .ret)
 .skip))
 (.seq (.seq (.reg 0 [] [] [sD 16 (.mv (.t 1)),
 sD 17 (.len false (.t 16)),
 sD 18 (.mv (.c (.int .i64 0)))])
 (.block 0 (.loop [18] 458752 (.seq (.reg 0 [] [] [sD 19 (.bin .lss .num (.t 18) (.t 17))])
 (.seq (.cond (.t 19) .skip
 (.exit 0))
 (.seq (.block 1 (.seq (.reg 0 [] [] [sD 20 (.ia none 2 (.t 16) (.t 18)),
 sD 21 (.ld (some 2) (.t 20)),
 sD 6 (.al none 60 [(.int .i64 0), (.int .i64 0)]),
 sN (.st 2 (.t 6) (.t 21))])
 (.seq (.reg 0 [] [] [sD 22 (.fa 0 (.t 6)),
 sD 23 (.ld none (.t 22)),
 sD 24 (.bin .neq .num (.t 23) (.c (.int .i64 1))),
 sD 25 (.mv (.t 24)),
 sG 26 25 true (.fa 0 (.t 6)),
 sG 27 25 true (.ld none (.t 26)),
 sG 28 25 true (.bin .neq .num (.t 27) (.c (.int .i64 2))),
 sD 29 (.pick (.t 25) (.t 28) (.c (.bool false))),
 sD 30 (.mv (.t 29)),
 sG 31 30 true (.fa 0 (.t 6)),
 sG 32 30 true (.ld none (.t 31)),
 sG 33 30 true (.bin .neq .num (.t 32) (.c (.int .i64 3))),
 sD 34 (.pick (.t 30) (.t 33) (.c (.bool false))),
 sD 35 (.mv (.t 34)),
 sG 36 35 false (.fa 1 (.t 6)),
 sG 37 35 false (.ld none (.t 36)),
 sG 38 35 false (.bin .lss .num (.t 37) (.c (.int .i64 0))),
 sD 39 (.pick (.t 35) (.c (.bool true)) (.t 38)),
 sD 40 (.mv (.t 39)),
 sG 41 40 false (.fa 1 (.t 6)),
 sG 42 40 false (.ld none (.t 41)),
 sG 43 40 false (.bin .gtr .num (.t 42) (.c (.int .i64 65536))),
 sD 44 (.pick (.t 40) (.c (.bool true)) (.t 43))])
 (.cond (.t 44) (.seq (.reg 0 [] [] [sD 4 (.mv (.c (.int .i64 1)))])
 .ret)
 .skip))))
 (.reg 0 [] [] [sD 45 (.bin .add .num (.t 18) (.c (.int .i64 1))),
 sD 18 (.mv (.t 45))])))))))
 (.seq (.reg 0 [] [] [sD 4 (.mv (.c (.int .i64 0)))])
 .ret)))))
def fn50 : IFun := ⟨46, [(.tmp 4)], an50.erase⟩
theorem ok50 : okFun Try.prog 50 fn50 = true := by kernel_rfl
theorem oka50 : okA fn50.ntmps fn50.results an50 = true := by kernel_rfl
def sh50 (C : CallA) (words0 layouts1 : AV) (h : H) (R : AV → H → Prop) : Prop :=
 valA (binOp .lss .num words0 (.int .i64 0)) h fun t8 h =>
 whenA t8 false (fun K => K words0 h) h fun t10 h =>
 whenA t8 false (fun K => valA (binOp .gtr .num t10 (.int .i64 65536)) h K) h fun t11 h =>
 valA (pickA t8 (.bool true) t11) h fun t12 h =>
 condA t12
  (R (.int .i64 1) h)
  (valA (lenA false layouts1) h fun t14 h =>
 valA (binOp .gtr .num t14 (.int .i64 512)) h fun t15 h =>
 condA t15
  (R (.int .i64 2) h)
  (joinA (fun (h : H) =>
  R (.int .i64 0) h) fun J =>
 valA (lenA false layouts1) h fun t17 h =>
 loopA (fun N l h => argA l 0 fun t18 => 
  valA (binOp .lss .num t18 t17) h fun t19 h =>
  condA t19
   (valA (iaA 2 layouts1 t18) h fun t20 h =>
  valA (ldA h (some 2) t20) h fun t21 h =>
  newA h [(.int .i64 0), (.int .i64 0)] 60 (fun b => .ptr b 0) fun l6 h =>
  memA (stA h 2 l6 t21) .undef fun _ h =>
  valA (faA 0 l6) h fun t22 h =>
  valA (ldA h none t22) h fun t23 h =>
  valA (binOp .neq .num t23 (.int .i64 1)) h fun t24 h =>
  whenA t24 true (fun K => valA (faA 0 l6) h K) h fun t26 h =>
  whenA t24 true (fun K => valA (ldA h none t26) h K) h fun t27 h =>
  whenA t24 true (fun K => valA (binOp .neq .num t27 (.int .i64 2)) h K) h fun t28 h =>
  valA (pickA t24 t28 (.bool false)) h fun t29 h =>
  whenA t29 true (fun K => valA (faA 0 l6) h K) h fun t31 h =>
  whenA t29 true (fun K => valA (ldA h none t31) h K) h fun t32 h =>
  whenA t29 true (fun K => valA (binOp .neq .num t32 (.int .i64 3)) h K) h fun t33 h =>
  valA (pickA t29 t33 (.bool false)) h fun t34 h =>
  whenA t34 false (fun K => valA (faA 1 l6) h K) h fun t36 h =>
  whenA t34 false (fun K => valA (ldA h none t36) h K) h fun t37 h =>
  whenA t34 false (fun K => valA (binOp .lss .num t37 (.int .i64 0)) h K) h fun t38 h =>
  valA (pickA t34 (.bool true) t38) h fun t39 h =>
  whenA t39 false (fun K => valA (faA 1 l6) h K) h fun t41 h =>
  whenA t39 false (fun K => valA (ldA h none t41) h K) h fun t42 h =>
  whenA t39 false (fun K => valA (binOp .gtr .num t42 (.int .i64 65536)) h K) h fun t43 h =>
  valA (pickA t39 (.bool true) t43) h fun t44 h =>
  condA t44
   (R (.int .i64 1) h)
   (valA (binOp .add .num t18 (.int .i64 1)) h fun t45 h =>
  N [t45] h))
   (J h)) [(.int .i64 0)] h))
theorem she50 (C : CallA) (words0 layouts1 : AV) (h : H) (R : AV → H → Prop) : wpA C an50 (argE [words0, layouts1]) h (outA [(.tmp 4)] R) = sh50 C words0 layouts1 h R := by kernel_rfl
/-! bellows/bellowslaw02.lives -/
def an51 : ACode :=
 (.seq (.reg 0 [] [] [sD 0 (.mv (.c (.bool false)))])
 (.seq (.reg 0 [] [] [sD 14 (.build [(.int .i64 0), (.int .i64 0)] [(0, 1, (.c (.int .i64 1))), (1, 1, (.c (.int .i64 2)))]),
 sD 15 (.build [(.int .i64 0), (.int .i64 0)] [(0, 1, (.c (.int .i64 3)))]),
 sD 16 (.mksl none 60 [(.int .i64 0), (.int .i64 0), (.int .i64 0), (.int .i64 0)] 2 [(0, 2, (.t 14)), (2, 2, (.t 15))]),
 sD 17 (.call 49 [(.c (.int .i64 10)), (.t 16)]),
 sD 13 (.mv (.t 17)),
 sD 18 (.ext (.t 13) 0),
 sD 19 (.ext (.t 13) 1),
 sD 1 (.mv (.t 18)),
 sD 2 (.mv (.t 19))])
 (.seq (.seq (.reg 0 [] [] [sD 20 (.mv (.t 2)),
 sD 21 (.bin .neq .num (.t 20) (.c (.int .i64 0))),
 sD 22 (.mv (.t 21)),
 sG 23 22 false (.mv (.t 1)),
 sG 24 22 false (.bin .eql .ptr (.t 23) (.c .nilp)),
 sD 25 (.pick (.t 22) (.c (.bool true)) (.t 24))])
 (.cond (.t 25) (.seq (.reg 0 [] [] [sD 0 (.mv (.c (.bool false)))])
 .ret)
 .skip))
 (.seq (.reg 0 [] [] [sD 27 (.mv (.t 1)),
 sD 28 (.call 55 [(.t 27), (.c (.int .i64 0)), (.c (.int .i64 2))]),
 sD 26 (.mv (.t 28)),
 sD 29 (.ext (.t 26) 0),
 sD 30 (.ext (.t 26) 1),
 sD 3 (.mv (.t 29)),
 sD 4 (.mv (.t 30))])
 (.seq (.reg 0 [] [] [sD 32 (.mv (.t 1)),
 sD 33 (.call 55 [(.t 32), (.c (.int .i64 1)), (.c (.int .i64 9))]),
 sD 31 (.mv (.t 33)),
 sD 34 (.ext (.t 31) 0),
 sD 35 (.ext (.t 31) 1),
 sD 5 (.mv (.t 34)),
 sD 6 (.mv (.t 35))])
 (.seq (.reg 0 [] [] [sD 37 (.mv (.t 1)),
 sD 38 (.call 55 [(.t 37), (.c (.int .i64 0)), (.c (.int .i64 1))]),
 sD 36 (.mv (.t 38)),
 sD 39 (.ext (.t 36) 0),
 sD 40 (.ext (.t 36) 1),
 sD 7 (.mv (.t 39)),
 sD 8 (.mv (.t 40))])
 (.seq (.reg 0 [] [] [sD 42 (.mv (.t 1)),
 sD 43 (.call 55 [(.t 42), (.c (.int .i64 0)), (.c (.int .i64 2))]),
 sD 41 (.mv (.t 43)),
 sD 44 (.ext (.t 41) 0),
 sD 45 (.ext (.t 41) 1),
 sD 9 (.mv (.t 44)),
 sD 10 (.mv (.t 45))])
 (.seq (.reg 0 [] [] [sD 47 (.mv (.t 1)),
 sD 48 (.call 55 [(.t 47), (.c (.int .i64 0)), (.c (.int .i64 2))]),
 sD 46 (.mv (.t 48)),
 sD 49 (.ext (.t 46) 0),
 sD 50 (.ext (.t 46) 1),
 sD 11 (.mv (.t 49)),
 sD 12 (.mv (.t 50))])
 (.seq (.reg 0 [] [] [sD 51 (.mv (.t 4)),
 sD 52 (.bin .eql .num (.t 51) (.c (.int .i64 0))),
 sD 53 (.mv (.t 52)),
 sG 54 53 true (.mv (.t 6)),
 sG 55 53 true (.bin .eql .num (.t 54) (.c (.int .i64 0))),
 sD 56 (.pick (.t 53) (.t 55) (.c (.bool false))),
 sD 57 (.mv (.t 56)),
 sG 58 57 true (.mv (.t 8)),
 sG 59 57 true (.bin .eql .num (.t 58) (.c (.int .i64 1))),
 sD 60 (.pick (.t 57) (.t 59) (.c (.bool false))),
 sD 61 (.mv (.t 60)),
 sG 62 61 true (.mv (.t 10)),
 sG 63 61 true (.bin .eql .num (.t 62) (.c (.int .i64 0))),
 sD 64 (.pick (.t 61) (.t 63) (.c (.bool false))),
 sD 65 (.mv (.t 64)),
 sG 66 65 true (.mv (.t 12)),
 sG 67 65 true (.bin .eql .num (.t 66) (.c (.int .i64 3))),
 sD 68 (.pick (.t 65) (.t 67) (.c (.bool false))),
 sD 69 (.mv (.t 68)),
 sG 70 69 true (.mv (.t 3)),
 sG 71 69 true (.bin .eql .num (.t 70) (.c (.int .i64 0))),
 sD 72 (.pick (.t 69) (.t 71) (.c (.bool false))),
 sD 73 (.mv (.t 72)),
 sG 74 73 true (.mv (.t 5)),
 sG 75 73 true (.bin .eql .num (.t 74) (.c (.int .i64 3))),
 sD 76 (.pick (.t 73) (.t 75) (.c (.bool false))),
 sD 77 (.mv (.t 76)),
 sG 78 77 true (.mv (.t 9)),
 sG 79 77 true (.bin .eql .num (.t 78) (.c (.int .i64 6))),
 sD 80 (.pick (.t 77) (.t 79) (.c (.bool false))),
 sD 81 (.mv (.t 80)),
 sG 82 81 true (.mv (.t 1)),
 sG 83 81 true (.call 82 [(.c (.int .i64 3))]),
 sG 84 81 true (.call 63 [(.t 82), (.c (.int .i64 0)), (.c (.int .i64 1)), (.t 83)]),
 sG 85 81 true (.bin .eql .num (.t 84) (.c (.int .i64 0))),
 sD 86 (.pick (.t 81) (.t 85) (.c (.bool false))),
 sD 87 (.mv (.t 86)),
 sG 88 87 true (.mv (.t 1)),
 sG 89 87 true (.call 82 [(.c (.int .i64 4))]),
 sG 90 87 true (.call 63 [(.t 88), (.c (.int .i64 0)), (.c (.int .i64 1)), (.t 89)]),
 sG 91 87 true (.bin .eql .num (.t 90) (.c (.int .i64 1))),
 sD 92 (.pick (.t 87) (.t 91) (.c (.bool false))),
 sD 0 (.mv (.t 92))])
 .ret)))))))))
def fn51 : IFun := ⟨93, [(.tmp 0)], an51.erase⟩
theorem ok51 : okFun Try.prog 51 fn51 = true := by kernel_rfl
theorem oka51 : okA fn51.ntmps fn51.results an51 = true := by kernel_rfl
def sh51 (C : CallA) (h : H) (R : AV → H → Prop) : Prop :=
 valA (buildA (fillV [(.int .i64 0), (.int .i64 0)] [(0, 1, (.int .i64 1)), (1, 1, (.int .i64 2))])) h fun t14 h =>
 valA (buildA (fillV [(.int .i64 0), (.int .i64 0)] [(0, 1, (.int .i64 3))])) h fun t15 h =>
 mkslA h 60 2 (fillV [(.int .i64 0), (.int .i64 0), (.int .i64 0), (.int .i64 0)] [(0, 2, t14), (2, 2, t15)]) fun t16 h =>
 C 49 [(.int .i64 10), t16] h fun t17 h =>
 valA (extA t17 0) h fun t18 h =>
 valA (extA t17 1) h fun t19 h =>
 valA (binOp .neq .num t19 (.int .i64 0)) h fun t21 h =>
 whenA t21 false (fun K => K t18 h) h fun t23 h =>
 whenA t21 false (fun K => valA (binOp .eql .ptr t23 .nilp) h K) h fun t24 h =>
 valA (pickA t21 (.bool true) t24) h fun t25 h =>
 condA t25
  (R (.bool false) h)
  (C 55 [t18, (.int .i64 0), (.int .i64 2)] h fun t28 h =>
 valA (extA t28 0) h fun t29 h =>
 valA (extA t28 1) h fun t30 h =>
 C 55 [t18, (.int .i64 1), (.int .i64 9)] h fun t33 h =>
 valA (extA t33 0) h fun t34 h =>
 valA (extA t33 1) h fun t35 h =>
 C 55 [t18, (.int .i64 0), (.int .i64 1)] h fun t38 h =>
 valA (extA t38 0) h fun t39 h =>
 valA (extA t38 1) h fun t40 h =>
 C 55 [t18, (.int .i64 0), (.int .i64 2)] h fun t43 h =>
 valA (extA t43 0) h fun t44 h =>
 valA (extA t43 1) h fun t45 h =>
 C 55 [t18, (.int .i64 0), (.int .i64 2)] h fun t48 h =>
 valA (extA t48 0) h fun t49 h =>
 valA (extA t48 1) h fun t50 h =>
 valA (binOp .eql .num t30 (.int .i64 0)) h fun t52 h =>
 whenA t52 true (fun K => K t35 h) h fun t54 h =>
 whenA t52 true (fun K => valA (binOp .eql .num t54 (.int .i64 0)) h K) h fun t55 h =>
 valA (pickA t52 t55 (.bool false)) h fun t56 h =>
 whenA t56 true (fun K => K t40 h) h fun t58 h =>
 whenA t56 true (fun K => valA (binOp .eql .num t58 (.int .i64 1)) h K) h fun t59 h =>
 valA (pickA t56 t59 (.bool false)) h fun t60 h =>
 whenA t60 true (fun K => K t45 h) h fun t62 h =>
 whenA t60 true (fun K => valA (binOp .eql .num t62 (.int .i64 0)) h K) h fun t63 h =>
 valA (pickA t60 t63 (.bool false)) h fun t64 h =>
 whenA t64 true (fun K => K t50 h) h fun t66 h =>
 whenA t64 true (fun K => valA (binOp .eql .num t66 (.int .i64 3)) h K) h fun t67 h =>
 valA (pickA t64 t67 (.bool false)) h fun t68 h =>
 whenA t68 true (fun K => K t29 h) h fun t70 h =>
 whenA t68 true (fun K => valA (binOp .eql .num t70 (.int .i64 0)) h K) h fun t71 h =>
 valA (pickA t68 t71 (.bool false)) h fun t72 h =>
 whenA t72 true (fun K => K t34 h) h fun t74 h =>
 whenA t72 true (fun K => valA (binOp .eql .num t74 (.int .i64 3)) h K) h fun t75 h =>
 valA (pickA t72 t75 (.bool false)) h fun t76 h =>
 whenA t76 true (fun K => K t44 h) h fun t78 h =>
 whenA t76 true (fun K => valA (binOp .eql .num t78 (.int .i64 6)) h K) h fun t79 h =>
 valA (pickA t76 t79 (.bool false)) h fun t80 h =>
 whenA t80 true (fun K => K t18 h) h fun t82 h =>
 whenA t80 true (fun K => C 82 [(.int .i64 3)] h K) h fun t83 h =>
 whenA t80 true (fun K => C 63 [t82, (.int .i64 0), (.int .i64 1), t83] h K) h fun t84 h =>
 whenA t80 true (fun K => valA (binOp .eql .num t84 (.int .i64 0)) h K) h fun t85 h =>
 valA (pickA t80 t85 (.bool false)) h fun t86 h =>
 whenA t86 true (fun K => K t18 h) h fun t88 h =>
 whenA t86 true (fun K => C 82 [(.int .i64 4)] h K) h fun t89 h =>
 whenA t86 true (fun K => C 63 [t88, (.int .i64 0), (.int .i64 1), t89] h K) h fun t90 h =>
 whenA t86 true (fun K => valA (binOp .eql .num t90 (.int .i64 1)) h K) h fun t91 h =>
 valA (pickA t86 t91 (.bool false)) h fun t92 h =>
 R t92 h)
theorem she51 (C : CallA) (h : H) (R : AV → H → Prop) : wpA C an51 (argE []) h (outA [(.tmp 0)] R) = sh51 C h R := by kernel_rfl
/-! (*bellows/heap.Heap).Need -/
def an52 : ACode :=
 (.seq (.reg 0 [] [] [sD 6 (.mv (.c (.int .i64 0))),
 sD 7 (.mv (.c (.int .i64 0)))])
 (.seq (.seq (.reg 0 [] [] [sD 9 (.mv (.t 0)),
 sD 10 (.bin .eql .ptr (.t 9) (.c .nilp)),
 sD 11 (.mv (.t 10)),
 sG 12 11 false (.mv (.t 1)),
 sG 13 11 false (.bin .lss .num (.t 12) (.c (.int .i64 0))),
 sD 14 (.pick (.t 11) (.c (.bool true)) (.t 13)),
 sD 15 (.mv (.t 14)),
 sG 16 15 false (.mv (.t 1)),
 sG 17 15 false (.mv (.t 0)),
 sG 18 15 false (.nilc (.t 17)),
 sG 19 15 false (.fa 2 (.t 18)),
 sG 20 15 false (.ld none (.t 19)),
 sG 21 15 false (.len false (.t 20)),
 sG 22 15 false (.bin .geq .num (.t 16) (.t 21)),
 sD 23 (.pick (.t 15) (.c (.bool true)) (.t 22)),
 sD 24 (.mv (.t 23)),
 sG 25 24 false (.mv (.t 2)),
 sG 26 24 false (.bin .lss .num (.t 25) (.c (.int .i64 0))),
 sD 27 (.pick (.t 24) (.c (.bool true)) (.t 26))])
 (.cond (.t 27) (.seq (.reg 0 [] [] [sD 6 (.mv (.c (.int .i64 0))),
 sD 7 (.mv (.c (.int .i64 1)))])
 .ret)
 .skip))
 (.seq (.reg 0 [] [] [sD 28 (.mv (.t 0)),
 sD 29 (.nilc (.t 28)),
 sD 30 (.fa 2 (.t 29)),
 sD 31 (.ld none (.t 30)),
 sD 32 (.mv (.t 1)),
 sD 33 (.ia none 2 (.t 31) (.t 32)),
 sD 34 (.ld (some 2) (.t 33)),
 sD 8 (.al none 60 [(.int .i64 0), (.int .i64 0)]),
 sN (.st 2 (.t 8) (.t 34))])
 (.seq (.block 0 (.seq (.reg 0 [] [] [sD 36 (.fa 0 (.t 8)),
 sD 37 (.ld none (.t 36)),
 sD 38 (.bin .eql .num (.t 37) (.c (.int .i64 1))),
 sD 39 (.mv (.t 38)),
 sG 40 39 true (.mv (.t 2)),
 sG 41 39 true (.fa 1 (.t 8)),
 sG 42 39 true (.ld none (.t 41)),
 sG 43 39 true (.bin .neq .num (.t 40) (.t 42)),
 sD 44 (.pick (.t 39) (.t 43) (.c (.bool false))),
 sD 35 (.mv (.t 44))])
 (.cond (.t 35) (.seq (.reg 0 [] [] [sD 6 (.mv (.c (.int .i64 0))),
 sD 7 (.mv (.c (.int .i64 1)))])
 .ret)
 (.seq (.reg 0 [] [] [sD 46 (.mv (.t 2)),
 sD 47 (.bin .gtr .num (.t 46) (.c (.int .i64 65536))),
 sD 45 (.mv (.t 47))])
 (.cond (.t 45) (.seq (.reg 0 [] [] [sD 6 (.mv (.c (.int .i64 0))),
 sD 7 (.mv (.c (.int .i64 2)))])
 .ret)
 (.seq (.reg 0 [] [] [sD 49 (.fa 0 (.t 8)),
 sD 50 (.ld none (.t 49)),
 sD 51 (.bin .eql .num (.t 50) (.c (.int .i64 3))),
 sD 48 (.mv (.t 51))])
 (.cond (.t 48) (.seq (.reg 0 [] [] [sD 52 (.mv (.t 2)),
 sD 53 (.bin .add .num (.t 52) (.c (.int .i64 7))),
 sD 54 (.bin .quo .num (.t 53) (.c (.int .i64 8))),
 sD 55 (.bin .add .num (.c (.int .i64 1)) (.t 54)),
 sD 6 (.mv (.t 55)),
 sD 7 (.mv (.c (.int .i64 0)))])
 .ret)
 .skip)))))))
 (.seq (.reg 0 [] [] [sD 56 (.mv (.t 2)),
 sD 57 (.bin .add .num (.c (.int .i64 1)) (.t 56)),
 sD 6 (.mv (.t 57)),
 sD 7 (.mv (.c (.int .i64 0)))])
 .ret)))))
def fn52 : IFun := ⟨58, [(.tmp 6), (.tmp 7)], an52.erase⟩
theorem ok52 : okFun Try.prog 52 fn52 = true := by kernel_rfl
theorem oka52 : okA fn52.ntmps fn52.results an52 = true := by kernel_rfl
def sh52 (C : CallA) (h0 shape1 n2 : AV) (h : H) (R : AV → H → Prop) : Prop :=
 valA (binOp .eql .ptr h0 .nilp) h fun t10 h =>
 whenA t10 false (fun K => K shape1 h) h fun t12 h =>
 whenA t10 false (fun K => valA (binOp .lss .num t12 (.int .i64 0)) h K) h fun t13 h =>
 valA (pickA t10 (.bool true) t13) h fun t14 h =>
 whenA t14 false (fun K => K shape1 h) h fun t16 h =>
 whenA t14 false (fun K => K h0 h) h fun t17 h =>
 whenA t14 false (fun K => valA (nilcA t17) h K) h fun t18 h =>
 whenA t14 false (fun K => valA (faA 2 t18) h K) h fun t19 h =>
 whenA t14 false (fun K => valA (ldA h none t19) h K) h fun t20 h =>
 whenA t14 false (fun K => valA (lenA false t20) h K) h fun t21 h =>
 whenA t14 false (fun K => valA (binOp .geq .num t16 t21) h K) h fun t22 h =>
 valA (pickA t14 (.bool true) t22) h fun t23 h =>
 whenA t23 false (fun K => K n2 h) h fun t25 h =>
 whenA t23 false (fun K => valA (binOp .lss .num t25 (.int .i64 0)) h K) h fun t26 h =>
 valA (pickA t23 (.bool true) t26) h fun t27 h =>
 condA t27
  (R (.tup [(.int .i64 0), (.int .i64 1)]) h)
  (valA (nilcA h0) h fun t29 h =>
 valA (faA 2 t29) h fun t30 h =>
 valA (ldA h none t30) h fun t31 h =>
 valA (iaA 2 t31 shape1) h fun t33 h =>
 valA (ldA h (some 2) t33) h fun t34 h =>
 newA h [(.int .i64 0), (.int .i64 0)] 60 (fun b => .ptr b 0) fun l8 h =>
 memA (stA h 2 l8 t34) .undef fun _ h =>
 valA (faA 0 l8) h fun t36 h =>
 valA (ldA h none t36) h fun t37 h =>
 valA (binOp .eql .num t37 (.int .i64 1)) h fun t38 h =>
 whenA t38 true (fun K => K n2 h) h fun t40 h =>
 whenA t38 true (fun K => valA (faA 1 l8) h K) h fun t41 h =>
 whenA t38 true (fun K => valA (ldA h none t41) h K) h fun t42 h =>
 whenA t38 true (fun K => valA (binOp .neq .num t40 t42) h K) h fun t43 h =>
 valA (pickA t38 t43 (.bool false)) h fun t44 h =>
 condA t44
  (R (.tup [(.int .i64 0), (.int .i64 1)]) h)
  (valA (binOp .gtr .num n2 (.int .i64 65536)) h fun t47 h =>
  condA t47
   (R (.tup [(.int .i64 0), (.int .i64 2)]) h)
   (valA (faA 0 l8) h fun t49 h =>
   valA (ldA h none t49) h fun t50 h =>
   valA (binOp .eql .num t50 (.int .i64 3)) h fun t51 h =>
   condA t51
    (valA (binOp .add .num n2 (.int .i64 7)) h fun t53 h =>
    valA (binOp .quo .num t53 (.int .i64 8)) h fun t54 h =>
    valA (binOp .add .num (.int .i64 1) t54) h fun t55 h =>
    R (.tup [t55, (.int .i64 0)]) h)
    (valA (binOp .add .num (.int .i64 1) n2) h fun t57 h =>
 R (.tup [t57, (.int .i64 0)]) h))))
theorem she52 (C : CallA) (h0 shape1 n2 : AV) (h : H) (R : AV → H → Prop) : wpA C an52 (argE [h0, shape1, n2]) h (outA [(.tmp 6), (.tmp 7)] R) = sh52 C h0 shape1 n2 h R := by kernel_rfl
/-! (*bellows/bellowsref02.Heap).Need -/
def an53 : ACode :=
 (.seq (.reg 0 [] [] [sD 6 (.mv (.c (.int .i64 0))),
 sD 7 (.mv (.c (.int .i64 0)))])
 (.seq (.seq (.reg 0 [] [] [sD 10 (.mv (.t 1)),
 sD 11 (.bin .lss .num (.t 10) (.c (.int .i64 0))),
 sD 12 (.mv (.t 11)),
 sG 13 12 false (.mv (.t 1)),
 sG 14 12 false (.mv (.t 0)),
 sG 15 12 false (.nilc (.t 14)),
 sG 16 12 false (.fa 1 (.t 15)),
 sG 17 12 false (.ld none (.t 16)),
 sG 18 12 false (.len false (.t 17)),
 sG 19 12 false (.bin .geq .num (.t 13) (.t 18)),
 sD 20 (.pick (.t 12) (.c (.bool true)) (.t 19)),
 sD 21 (.mv (.t 20)),
 sG 22 21 false (.mv (.t 2)),
 sG 23 21 false (.bin .lss .num (.t 22) (.c (.int .i64 0))),
 sD 24 (.pick (.t 21) (.c (.bool true)) (.t 23)),
 sD 25 (.mv (.t 24)),
 sG 26 25 false (.mv (.t 0)),
 sG 27 25 false (.nilc (.t 26)),
 sG 28 25 false (.fa 1 (.t 27)),
 sG 29 25 false (.ld none (.t 28)),
 sG 30 25 false (.mv (.t 1)),
 sG 31 25 false (.ia none 2 (.t 29) (.t 30)),
 sG 32 25 false (.fa 0 (.t 31)),
 sG 33 25 false (.ld none (.t 32)),
 sG 34 25 false (.bin .eql .num (.t 33) (.c (.int .i64 1))),
 sG 35 25 false (.mv (.t 34)),
 sG 36 35 true (.mv (.t 0)),
 sG 37 35 true (.nilc (.t 36)),
 sG 38 35 true (.fa 1 (.t 37)),
 sG 39 35 true (.ld none (.t 38)),
 sG 40 35 true (.mv (.t 1)),
 sG 41 35 true (.ia none 2 (.t 39) (.t 40)),
 sG 42 35 true (.fa 1 (.t 41)),
 sG 43 35 true (.ld none (.t 42)),
 sG 44 35 true (.mv (.t 2)),
 sG 45 35 true (.bin .neq .num (.t 43) (.t 44)),
 sG 46 25 false (.pick (.t 35) (.t 45) (.c (.bool false))),
 sD 47 (.pick (.t 25) (.c (.bool true)) (.t 46))])
 (.cond (.t 47) (.seq (.reg 0 [] [] [sD 6 (.mv (.c (.int .i64 0))),
 sD 7 (.mv (.c (.int .i64 1)))])
 .ret)
 .skip))
 (.seq (.seq (.reg 0 [] [] [sD 48 (.mv (.t 2)),
 sD 49 (.bin .gtr .num (.t 48) (.c (.int .i64 65536)))])
 (.cond (.t 49) (.seq (.reg 0 [] [] [sD 6 (.mv (.c (.int .i64 0))),
 sD 7 (.mv (.c (.int .i64 2)))])
 .ret)
 .skip))
 (.seq (.seq (.reg 0 [] [] [sD 50 (.mv (.t 0)),
 sD 51 (.nilc (.t 50)),
 sD 52 (.fa 1 (.t 51)),
 sD 53 (.ld none (.t 52)),
 sD 54 (.mv (.t 1)),
 sD 55 (.ia none 2 (.t 53) (.t 54)),
 sD 56 (.fa 0 (.t 55)),
 sD 57 (.ld none (.t 56)),
 sD 58 (.bin .eql .num (.t 57) (.c (.int .i64 3)))])
 (.cond (.t 58) (.seq (.reg 0 [] [] [sD 8 (.mv (.c (.int .i64 1)))])
 (.seq (.seq (.reg 0 [] [] [sD 9 (.mv (.c (.int .i64 0)))])
 (.block 0 (.loop [8, 9] 772 (.seq (.seq (.reg 0 [] [] [sD 59 (.mv (.t 9)),
 sD 60 (.mv (.t 2)),
 sD 61 (.bin .lss .num (.t 59) (.t 60))])
 (.cond (.t 61) .skip
 (.exit 0)))
 (.seq (.block 1 (.reg 0 [] [] [sD 64 (.mv (.t 8)),
 sD 65 (.bin .add .num (.t 64) (.c (.int .i64 1))),
 sD 8 (.mv (.t 65))]))
 (.reg 0 [] [] [sD 62 (.mv (.t 9)),
 sD 63 (.bin .add .num (.t 62) (.c (.int .i64 8))),
 sD 9 (.mv (.t 63))]))))))
 (.seq (.reg 0 [] [] [sD 66 (.mv (.t 8)),
 sD 6 (.mv (.t 66)),
 sD 7 (.mv (.c (.int .i64 0)))])
 .ret)))
 .skip))
 (.seq (.reg 0 [] [] [sD 67 (.mv (.t 2)),
 sD 68 (.bin .add .num (.c (.int .i64 1)) (.t 67)),
 sD 6 (.mv (.t 68)),
 sD 7 (.mv (.c (.int .i64 0)))])
 .ret)))))
def fn53 : IFun := ⟨69, [(.tmp 6), (.tmp 7)], an53.erase⟩
theorem ok53 : okFun Try.prog 53 fn53 = true := by kernel_rfl
theorem oka53 : okA fn53.ntmps fn53.results an53 = true := by kernel_rfl
def sh53 (C : CallA) (h0 shape1 n2 : AV) (h : H) (R : AV → H → Prop) : Prop :=
 valA (binOp .lss .num shape1 (.int .i64 0)) h fun t11 h =>
 whenA t11 false (fun K => K shape1 h) h fun t13 h =>
 whenA t11 false (fun K => K h0 h) h fun t14 h =>
 whenA t11 false (fun K => valA (nilcA t14) h K) h fun t15 h =>
 whenA t11 false (fun K => valA (faA 1 t15) h K) h fun t16 h =>
 whenA t11 false (fun K => valA (ldA h none t16) h K) h fun t17 h =>
 whenA t11 false (fun K => valA (lenA false t17) h K) h fun t18 h =>
 whenA t11 false (fun K => valA (binOp .geq .num t13 t18) h K) h fun t19 h =>
 valA (pickA t11 (.bool true) t19) h fun t20 h =>
 whenA t20 false (fun K => K n2 h) h fun t22 h =>
 whenA t20 false (fun K => valA (binOp .lss .num t22 (.int .i64 0)) h K) h fun t23 h =>
 valA (pickA t20 (.bool true) t23) h fun t24 h =>
 whenA t24 false (fun K => K h0 h) h fun t26 h =>
 whenA t24 false (fun K => valA (nilcA t26) h K) h fun t27 h =>
 whenA t24 false (fun K => valA (faA 1 t27) h K) h fun t28 h =>
 whenA t24 false (fun K => valA (ldA h none t28) h K) h fun t29 h =>
 whenA t24 false (fun K => K shape1 h) h fun t30 h =>
 whenA t24 false (fun K => valA (iaA 2 t29 t30) h K) h fun t31 h =>
 whenA t24 false (fun K => valA (faA 0 t31) h K) h fun t32 h =>
 whenA t24 false (fun K => valA (ldA h none t32) h K) h fun t33 h =>
 whenA t24 false (fun K => valA (binOp .eql .num t33 (.int .i64 1)) h K) h fun t34 h =>
 whenA t24 false (fun K => K t34 h) h fun t35 h =>
 whenA t35 true (fun K => K h0 h) h fun t36 h =>
 whenA t35 true (fun K => valA (nilcA t36) h K) h fun t37 h =>
 whenA t35 true (fun K => valA (faA 1 t37) h K) h fun t38 h =>
 whenA t35 true (fun K => valA (ldA h none t38) h K) h fun t39 h =>
 whenA t35 true (fun K => K shape1 h) h fun t40 h =>
 whenA t35 true (fun K => valA (iaA 2 t39 t40) h K) h fun t41 h =>
 whenA t35 true (fun K => valA (faA 1 t41) h K) h fun t42 h =>
 whenA t35 true (fun K => valA (ldA h none t42) h K) h fun t43 h =>
 whenA t35 true (fun K => K n2 h) h fun t44 h =>
 whenA t35 true (fun K => valA (binOp .neq .num t43 t44) h K) h fun t45 h =>
 whenA t24 false (fun K => valA (pickA t35 t45 (.bool false)) h K) h fun t46 h =>
 valA (pickA t24 (.bool true) t46) h fun t47 h =>
 condA t47
  (R (.tup [(.int .i64 0), (.int .i64 1)]) h)
  (valA (binOp .gtr .num n2 (.int .i64 65536)) h fun t49 h =>
 condA t49
  (R (.tup [(.int .i64 0), (.int .i64 2)]) h)
  (joinA (fun (h : H) =>
  valA (binOp .add .num (.int .i64 1) n2) h fun t68 h =>
  R (.tup [t68, (.int .i64 0)]) h) fun J =>
 valA (nilcA h0) h fun t51 h =>
 valA (faA 1 t51) h fun t52 h =>
 valA (ldA h none t52) h fun t53 h =>
 valA (iaA 2 t53 shape1) h fun t55 h =>
 valA (faA 0 t55) h fun t56 h =>
 valA (ldA h none t56) h fun t57 h =>
 valA (binOp .eql .num t57 (.int .i64 3)) h fun t58 h =>
 condA t58
  (joinA (fun (k8'_0 : AV) (h : H) =>
   R (.tup [k8'_0, (.int .i64 0)]) h) fun J_9 =>
  loopA (fun N l h => argA l 0 fun k8 => argA l 1 fun i9 => 
   valA (binOp .lss .num i9 n2) h fun t61 h =>
   condA t61
    (valA (binOp .add .num k8 (.int .i64 1)) h fun t65 h =>
   valA (binOp .add .num i9 (.int .i64 8)) h fun t63 h =>
   N [t65, t63] h)
    (J_9 k8 h)) [(.int .i64 1), (.int .i64 0)] h)
  (J h)))
theorem she53 (C : CallA) (h0 shape1 n2 : AV) (h : H) (R : AV → H → Prop) : wpA C an53 (argE [h0, shape1, n2]) h (outA [(.tmp 6), (.tmp 7)] R) = sh53 C h0 shape1 n2 h R := by kernel_rfl
/-! (*bellows/heap.Heap).Alloc -/
def an55 : ACode :=
 (.seq (.reg 0 [] [] [sD 6 (.mv (.c (.int .i64 0))),
 sD 7 (.mv (.c (.int .i64 0)))])
 (.seq (.reg 0 [] [] [sD 13 (.mv (.t 0)),
 sD 14 (.mv (.t 1)),
 sD 15 (.mv (.t 2)),
 sD 16 (.call 52 [(.t 13), (.t 14), (.t 15)]),
 sD 12 (.mv (.t 16)),
 sD 17 (.ext (.t 12) 0),
 sD 18 (.ext (.t 12) 1),
 sD 8 (.mv (.t 17)),
 sD 9 (.mv (.t 18))])
 (.seq (.seq (.reg 0 [] [] [sD 19 (.mv (.t 9)),
 sD 20 (.bin .neq .num (.t 19) (.c (.int .i64 0)))])
 (.cond (.t 20) (.seq (.reg 0 [] [] [sD 21 (.mv (.t 9)),
 sD 6 (.mv (.c (.int .i64 0))),
 sD 7 (.mv (.t 21))])
 .ret)
 .skip))
 (.seq (.seq (.reg 0 [0, 1, 2, 3, 4, 5, 6, 7, 8, 9, 10, 11] [[], [], [1], [1, 2], [2, 1, 3], [3, 1, 2, 4], [], [6], [6, 7], [7, 6, 8], [8, 6, 7, 9, 4, 2, 1, 3, 5], [5, 3, 1, 2, 4, 9, 7, 6, 8, 10, 0]] [sD 22 (.mv (.t 8)),
 sD 23 (.mv (.t 0)),
 sD 24 (.nilc (.t 23)),
 sD 25 (.fa 0 (.t 24)),
 sD 26 (.ld none (.t 25)),
 sD 27 (.len false (.t 26)),
 sD 28 (.mv (.t 0)),
 sD 29 (.nilc (.t 28)),
 sD 30 (.fa 3 (.t 29)),
 sD 31 (.ld none (.t 30)),
 sD 32 (.bin .sub .num (.t 27) (.t 31)),
 sD 33 (.bin .gtr .num (.t 22) (.t 32))])
 (.cond (.t 33) (.seq (.reg 0 [] [] [sD 6 (.mv (.c (.int .i64 0))),
 sD 7 (.mv (.c (.int .i64 3)))])
 .ret)
 .skip))
 (.seq (.reg 0 [] [] [sD 34 (.mv (.t 0)),
 sD 35 (.nilc (.t 34)),
 sD 36 (.fa 3 (.t 35)),
 sD 37 (.ld none (.t 36)),
 sD 10 (.mv (.t 37))])
 (.seq (.reg 0 [0, 1, 2, 3, 4, 5, 6, 7, 8, 9] [[], [0], [0, 1], [1, 0, 2], [], [], [], [6, 5], [7, 6, 5, 4, 2, 0, 1, 3], [3, 1, 0, 2, 4, 5, 6, 7, 8]] [sD 38 (.mv (.t 0)),
 sD 39 (.nilc (.t 38)),
 sD 40 (.fa 0 (.t 39)),
 sD 41 (.ld none (.t 40)),
 sD 42 (.mv (.t 10)),
 sD 43 (.mv (.t 1)),
 sD 44 (.mv (.t 2)),
 ⟨(some 45), none, (.call 31 [(.t 43), (.t 44)]), [⟨none, (.ld none (.t 40)), 41⟩]⟩,
 sD 46 (.ia none 1 (.t 41) (.t 42)),
 sN (.st 1 (.t 46) (.t 45))])
 (.seq (.seq (.reg 0 [] [] [sD 47 (.mv (.t 0)),
 sD 48 (.nilc (.t 47)),
 sD 49 (.fa 2 (.t 48)),
 sD 50 (.ld none (.t 49)),
 sD 51 (.mv (.t 1)),
 sD 52 (.ia none 2 (.t 50) (.t 51)),
 sD 53 (.fa 0 (.t 52)),
 sD 54 (.ld none (.t 53)),
 sD 55 (.bin .neq .num (.t 54) (.c (.int .i64 3)))])
 (.cond (.t 55) (.seq (.reg 0 [] [] [sD 56 (.mv (.t 2)),
 sD 57 (.mv (.c (.int .i64 0)))])
 (.block 0 (.loop [57] 216172782113785089 (.seq (.reg 0 [] [] [sD 58 (.bin .lss .num (.t 57) (.t 56))])
 (.seq (.cond (.t 58) .skip
 (.exit 0))
 (.seq (.block 1 (.seq (.reg 0 [] [] [sD 59 (.mv (.t 57)),
 sD 11 (.mv (.t 59))])
 (.reg 0 [0, 1, 2, 3, 4, 5, 6, 7, 8, 9, 10] [[], [0], [0, 1], [1, 0, 2], [], [4], [], [6, 4, 5], [], [8, 5, 4, 6, 7, 2, 0, 1, 3], [3, 1, 0, 2, 7, 6, 4, 5, 8, 9]] [sD 60 (.mv (.t 0)),
 sD 61 (.nilc (.t 60)),
 sD 62 (.fa 0 (.t 61)),
 sD 63 (.ld none (.t 62)),
 sD 64 (.mv (.t 10)),
 sD 65 (.bin .add .num (.t 64) (.c (.int .i64 1))),
 sD 66 (.mv (.t 11)),
 sD 67 (.bin .add .num (.t 65) (.t 66)),
 ⟨(some 68), none, (.call 83 [(.c (.int .i64 0))]), [⟨none, (.ld none (.t 62)), 63⟩]⟩,
 sD 69 (.ia none 1 (.t 63) (.t 67)),
 sN (.st 1 (.t 69) (.t 68))])))
 (.reg 0 [] [] [sD 70 (.bin .add .num (.t 57) (.c (.int .i64 1))),
 sD 57 (.mv (.t 70))])))))))
 .skip))
 (.seq (.reg 0 [0, 1, 2, 3, 4, 5, 6, 7, 8, 9, 10, 11, 12, 13] [[], [0], [0, 1], [1, 0, 2], [], [4], [4, 5, 2, 0, 1, 3], [3, 1, 0, 2, 5, 4, 6], [], [8], [8, 9], [9, 8, 10, 6, 4, 5, 2, 0, 1, 3, 7], [11, 10, 9, 8, 7, 6, 4, 5, 2, 0, 1, 3], [3, 1, 0, 2, 5, 4, 6, 7, 8, 9, 10, 11, 12]] [sD 71 (.mv (.t 0)),
 sD 72 (.nilc (.t 71)),
 sD 73 (.fa 1 (.t 72)),
 sD 74 (.ld none (.t 73)),
 sD 75 (.mv (.t 10)),
 sD 76 (.bin .quo .num (.t 75) (.c (.int .i64 64))),
 sD 77 (.ia none 1 (.t 74) (.t 76)),
 sD 78 (.ld none (.t 77)),
 sD 79 (.mv (.t 10)),
 sD 80 (.bin .rem .num (.t 79) (.c (.int .i64 64))),
 sD 81 (.bin .shl .num (.c (.int .u64 1)) (.t 80)),
 sD 82 (.bin .or .num (.t 78) (.t 81)),
 sD 83 (.ia none 1 (.t 74) (.t 76)),
 sN (.st 1 (.t 83) (.t 82))])
 (.seq (.reg 0 [] [] [sD 84 (.mv (.t 0)),
 sD 85 (.nilc (.t 84)),
 sD 86 (.fa 3 (.t 85)),
 sD 87 (.ld none (.t 86)),
 sD 88 (.mv (.t 8)),
 sD 89 (.bin .add .num (.t 87) (.t 88)),
 sD 90 (.nilc (.t 84)),
 sD 91 (.fa 3 (.t 90)),
 sN (.st 1 (.t 91) (.t 89))])
 (.seq (.reg 0 [] [] [sD 92 (.mv (.t 10)),
 sD 6 (.mv (.t 92)),
 sD 7 (.mv (.c (.int .i64 0)))])
 .ret))))))))))
def fn55 : IFun := ⟨93, [(.tmp 6), (.tmp 7)], an55.erase⟩
theorem ok55 : okFun Try.prog 55 fn55 = true := by kernel_rfl
theorem oka55 : okA fn55.ntmps fn55.results an55 = true := by kernel_rfl
def sh55 (C : CallA) (h0 shape1 n2 : AV) (h : H) (R : AV → H → Prop) : Prop :=
 C 52 [h0, shape1, n2] h fun t16 h =>
 valA (extA t16 0) h fun t17 h =>
 valA (extA t16 1) h fun t18 h =>
 valA (binOp .neq .num t18 (.int .i64 0)) h fun t20 h =>
 condA t20
  (R (.tup [(.int .i64 0), t18]) h)
  (valA (nilcA h0) h fun t24 h =>
 valA (faA 0 t24) h fun t25 h =>
 valA (ldA h none t25) h fun t26 h =>
 valA (lenA false t26) h fun t27 h =>
 valA (nilcA h0) h fun t29 h =>
 valA (faA 3 t29) h fun t30 h =>
 valA (ldA h none t30) h fun t31 h =>
 valA (binOp .sub .num t27 t31) h fun t32 h =>
 valA (binOp .gtr .num t17 t32) h fun t33 h =>
 condA t33
  (R (.tup [(.int .i64 0), (.int .i64 3)]) h)
  (valA (nilcA h0) h fun t35 h =>
 valA (faA 3 t35) h fun t36 h =>
 valA (ldA h none t36) h fun t37 h =>
 valA (nilcA h0) h fun t39 h =>
 valA (faA 0 t39) h fun t40 h =>
 valA (ldA h none t40) h fun t41 h =>
 C 31 [shape1, n2] h fun t45 h =>
 againK (valA (ldA h none t40) h (fun v _ => v = t41)) <|
 valA (iaA 1 t41 t37) h fun t46 h =>
 memA (stA h 1 t46 t45) .undef fun _ h =>
 joinA (fun (h : H) =>
  valA (nilcA h0) h fun t72 h =>
  valA (faA 1 t72) h fun t73 h =>
  valA (ldA h none t73) h fun t74 h =>
  valA (binOp .quo .num t37 (.int .i64 64)) h fun t76 h =>
  valA (iaA 1 t74 t76) h fun t77 h =>
  valA (ldA h none t77) h fun t78 h =>
  valA (binOp .rem .num t37 (.int .i64 64)) h fun t80 h =>
  valA (binOp .shl .num (.int .u64 1) t80) h fun t81 h =>
  valA (binOp .or .num t78 t81) h fun t82 h =>
  valA (iaA 1 t74 t76) h fun t83 h =>
  memA (stA h 1 t83 t82) .undef fun _ h =>
  valA (nilcA h0) h fun t85 h =>
  valA (faA 3 t85) h fun t86 h =>
  valA (ldA h none t86) h fun t87 h =>
  valA (binOp .add .num t87 t17) h fun t89 h =>
  valA (nilcA h0) h fun t90 h =>
  valA (faA 3 t90) h fun t91 h =>
  memA (stA h 1 t91 t89) .undef fun _ h =>
  R (.tup [t37, (.int .i64 0)]) h) fun J =>
 valA (nilcA h0) h fun t48 h =>
 valA (faA 2 t48) h fun t49 h =>
 valA (ldA h none t49) h fun t50 h =>
 valA (iaA 2 t50 shape1) h fun t52 h =>
 valA (faA 0 t52) h fun t53 h =>
 valA (ldA h none t53) h fun t54 h =>
 valA (binOp .neq .num t54 (.int .i64 3)) h fun t55 h =>
 condA t55
  (loopA (fun N l h => argA l 0 fun t57 => 
   valA (binOp .lss .num t57 n2) h fun t58 h =>
   condA t58
    (valA (nilcA h0) h fun t61 h =>
   valA (faA 0 t61) h fun t62 h =>
   valA (ldA h none t62) h fun t63 h =>
   valA (binOp .add .num t37 (.int .i64 1)) h fun t65 h =>
   valA (binOp .add .num t65 t57) h fun t67 h =>
   C 83 [(.int .i64 0)] h fun t68 h =>
   againK (valA (ldA h none t62) h (fun v _ => v = t63)) <|
   valA (iaA 1 t63 t67) h fun t69 h =>
   memA (stA h 1 t69 t68) .undef fun _ h =>
   valA (binOp .add .num t57 (.int .i64 1)) h fun t70 h =>
   N [t70] h)
    (J h)) [(.int .i64 0)] h)
  (J h)))
theorem she55 (C : CallA) (h0 shape1 n2 : AV) (h : H) (R : AV → H → Prop) : wpA C an55 (argE [h0, shape1, n2]) h (outA [(.tmp 6), (.tmp 7)] R) = sh55 C h0 shape1 n2 h R := by kernel_rfl
/-! (*bellows/heap.Heap).Is -/
def an56 : ACode :=
 (.seq (.reg 0 [] [] [sD 4 (.mv (.c (.bool false)))])
 (.seq (.reg 0 [] [] [sD 5 (.mv (.t 0)),
 sD 6 (.bin .neq .ptr (.t 5) (.c .nilp)),
 sD 7 (.mv (.t 6)),
 sG 8 7 true (.mv (.t 1)),
 sG 9 7 true (.bin .geq .num (.t 8) (.c (.int .i64 0))),
 sD 10 (.pick (.t 7) (.t 9) (.c (.bool false))),
 sD 11 (.mv (.t 10)),
 sG 12 11 true (.mv (.t 1)),
 sG 13 11 true (.mv (.t 0)),
 sG 14 11 true (.nilc (.t 13)),
 sG 15 11 true (.fa 3 (.t 14)),
 sG 16 11 true (.ld none (.t 15)),
 sG 17 11 true (.bin .lss .num (.t 12) (.t 16)),
 sD 18 (.pick (.t 11) (.t 17) (.c (.bool false))),
 sD 19 (.mv (.t 18)),
 sG 20 19 true (.mv (.t 0)),
 sG 21 19 true (.nilc (.t 20)),
 sG 22 19 true (.fa 1 (.t 21)),
 sG 23 19 true (.ld none (.t 22)),
 sG 24 19 true (.mv (.t 1)),
 sG 25 19 true (.bin .quo .num (.t 24) (.c (.int .i64 64))),
 sG 26 19 true (.ia none 1 (.t 23) (.t 25)),
 sG 27 19 true (.ld none (.t 26)),
 sG 28 19 true (.mv (.t 1)),
 sG 29 19 true (.bin .rem .num (.t 28) (.c (.int .i64 64))),
 sG 30 19 true (.bin .shr .num (.t 27) (.t 29)),
 sG 31 19 true (.bin .and .num (.t 30) (.c (.int .u64 1))),
 sG 32 19 true (.bin .eql .num (.t 31) (.c (.int .u64 1))),
 sD 33 (.pick (.t 19) (.t 32) (.c (.bool false))),
 sD 4 (.mv (.t 33))])
 .ret))
def fn56 : IFun := ⟨34, [(.tmp 4)], an56.erase⟩
theorem ok56 : okFun Try.prog 56 fn56 = true := by kernel_rfl
theorem oka56 : okA fn56.ntmps fn56.results an56 = true := by kernel_rfl
def sh56 (C : CallA) (h0 at1 : AV) (h : H) (R : AV → H → Prop) : Prop :=
 valA (binOp .neq .ptr h0 .nilp) h fun t6 h =>
 whenA t6 true (fun K => K at1 h) h fun t8 h =>
 whenA t6 true (fun K => valA (binOp .geq .num t8 (.int .i64 0)) h K) h fun t9 h =>
 valA (pickA t6 t9 (.bool false)) h fun t10 h =>
 whenA t10 true (fun K => K at1 h) h fun t12 h =>
 whenA t10 true (fun K => K h0 h) h fun t13 h =>
 whenA t10 true (fun K => valA (nilcA t13) h K) h fun t14 h =>
 whenA t10 true (fun K => valA (faA 3 t14) h K) h fun t15 h =>
 whenA t10 true (fun K => valA (ldA h none t15) h K) h fun t16 h =>
 whenA t10 true (fun K => valA (binOp .lss .num t12 t16) h K) h fun t17 h =>
 valA (pickA t10 t17 (.bool false)) h fun t18 h =>
 whenA t18 true (fun K => K h0 h) h fun t20 h =>
 whenA t18 true (fun K => valA (nilcA t20) h K) h fun t21 h =>
 whenA t18 true (fun K => valA (faA 1 t21) h K) h fun t22 h =>
 whenA t18 true (fun K => valA (ldA h none t22) h K) h fun t23 h =>
 whenA t18 true (fun K => K at1 h) h fun t24 h =>
 whenA t18 true (fun K => valA (binOp .quo .num t24 (.int .i64 64)) h K) h fun t25 h =>
 whenA t18 true (fun K => valA (iaA 1 t23 t25) h K) h fun t26 h =>
 whenA t18 true (fun K => valA (ldA h none t26) h K) h fun t27 h =>
 whenA t18 true (fun K => K at1 h) h fun t28 h =>
 whenA t18 true (fun K => valA (binOp .rem .num t28 (.int .i64 64)) h K) h fun t29 h =>
 whenA t18 true (fun K => valA (binOp .shr .num t27 t29) h K) h fun t30 h =>
 whenA t18 true (fun K => valA (binOp .and .num t30 (.int .u64 1)) h K) h fun t31 h =>
 whenA t18 true (fun K => valA (binOp .eql .num t31 (.int .u64 1)) h K) h fun t32 h =>
 valA (pickA t18 t32 (.bool false)) h fun t33 h =>
 R t33 h
theorem she56 (C : CallA) (h0 at1 : AV) (h : H) (R : AV → H → Prop) : wpA C an56 (argE [h0, at1]) h (outA [(.tmp 4)] R) = sh56 C h0 at1 h R := by kernel_rfl
/-! (*bellows/heap.Heap).Top -/
def an57 : ACode :=
 (.seq (.reg 0 [] [] [sD 2 (.mv (.c (.int .i64 0)))])
 (.seq (.seq (.reg 0 [] [] [sD 3 (.mv (.t 0)),
 sD 4 (.bin .eql .ptr (.t 3) (.c .nilp))])
 (.cond (.t 4) (.seq (.reg 0 [] [] [sD 2 (.mv (.c (.int .i64 0)))])
 .ret)
 .skip))
 (.seq (.reg 0 [] [] [sD 5 (.mv (.t 0)),
 sD 6 (.nilc (.t 5)),
 sD 7 (.fa 3 (.t 6)),
 sD 8 (.ld none (.t 7)),
 sD 2 (.mv (.t 8))])
 .ret)))
def fn57 : IFun := ⟨9, [(.tmp 2)], an57.erase⟩
theorem ok57 : okFun Try.prog 57 fn57 = true := by kernel_rfl
theorem oka57 : okA fn57.ntmps fn57.results an57 = true := by kernel_rfl
def sh57 (C : CallA) (h0 : AV) (h : H) (R : AV → H → Prop) : Prop :=
 valA (binOp .eql .ptr h0 .nilp) h fun t4 h =>
 condA t4
  (R (.int .i64 0) h)
  (valA (nilcA h0) h fun t6 h =>
 valA (faA 3 t6) h fun t7 h =>
 valA (ldA h none t7) h fun t8 h =>
 R t8 h)
theorem she57 (C : CallA) (h0 : AV) (h : H) (R : AV → H → Prop) : wpA C an57 (argE [h0]) h (outA [(.tmp 2)] R) = sh57 C h0 h R := by kernel_rfl
/-! (*bellows/heap.Heap).Size -/
def an58 : ACode :=
 (.seq (.reg 0 [] [] [sD 2 (.mv (.c (.int .i64 0)))])
 (.seq (.seq (.reg 0 [] [] [sD 3 (.mv (.t 0)),
 sD 4 (.bin .eql .ptr (.t 3) (.c .nilp))])
 (.cond (.t 4) (.seq (.reg 0 [] [] [sD 2 (.mv (.c (.int .i64 0)))])
 .ret)
 .skip))
 (.seq (.reg 0 [] [] [sD 5 (.mv (.t 0)),
 sD 6 (.nilc (.t 5)),
 sD 7 (.fa 0 (.t 6)),
 sD 8 (.ld none (.t 7)),
 sD 9 (.len false (.t 8)),
 sD 2 (.mv (.t 9))])
 .ret)))
def fn58 : IFun := ⟨10, [(.tmp 2)], an58.erase⟩
theorem ok58 : okFun Try.prog 58 fn58 = true := by kernel_rfl
theorem oka58 : okA fn58.ntmps fn58.results an58 = true := by kernel_rfl
def sh58 (C : CallA) (h0 : AV) (h : H) (R : AV → H → Prop) : Prop :=
 valA (binOp .eql .ptr h0 .nilp) h fun t4 h =>
 condA t4
  (R (.int .i64 0) h)
  (valA (nilcA h0) h fun t6 h =>
 valA (faA 0 t6) h fun t7 h =>
 valA (ldA h none t7) h fun t8 h =>
 valA (lenA false t8) h fun t9 h =>
 R t9 h)
theorem she58 (C : CallA) (h0 : AV) (h : H) (R : AV → H → Prop) : wpA C an58 (argE [h0]) h (outA [(.tmp 2)] R) = sh58 C h0 h R := by kernel_rfl
/-! (*bellows/heap.Heap).Objects -/
def an59 : ACode :=
 (.seq (.reg 0 [] [] [sD 2 (.mv (.c .nilsl))])
 (.seq (.reg 0 [] [] [sD 3 (.mv (.c .nilsl))])
 (.seq (.seq (.reg 0 [] [] [sD 5 (.mv (.t 0)),
 sD 6 (.call 57 [(.t 5)]),
 sD 7 (.mv (.c (.int .i64 0)))])
 (.block 0 (.loop [3, 7] 201 (.seq (.reg 0 [] [] [sD 8 (.bin .lss .num (.t 7) (.t 6))])
 (.seq (.cond (.t 8) .skip
 (.exit 0))
 (.seq (.block 1 (.seq (.reg 0 [] [] [sD 9 (.mv (.t 7)),
 sD 4 (.mv (.t 9))])
 (.seq (.reg 0 [] [] [sD 10 (.mv (.t 0)),
 sD 11 (.mv (.t 4)),
 sD 12 (.call 56 [(.t 10), (.t 11)])])
 (.cond (.t 12) (.reg 0 [] [] [sD 13 (.mv (.t 3)),
 sD 14 (.mv (.t 4)),
 sD 15 (.mksl none 3 [(.int .i64 0)] 1 [(0, 1, (.t 14))]),
 sD 16 (.app 3 1 8 [(.int .i64 0)] (.t 13) (.t 15)),
 sD 3 (.mv (.t 16))])
 .skip))))
 (.reg 0 [] [] [sD 17 (.bin .add .num (.t 7) (.c (.int .i64 1))),
 sD 7 (.mv (.t 17))])))))))
 (.seq (.reg 0 [] [] [sD 18 (.mv (.t 3)),
 sD 2 (.mv (.t 18))])
 .ret))))
def fn59 : IFun := ⟨19, [(.tmp 2)], an59.erase⟩
theorem ok59 : okFun Try.prog 59 fn59 = true := by kernel_rfl
theorem oka59 : okA fn59.ntmps fn59.results an59 = true := by kernel_rfl
def sh59 (C : CallA) (h0 : AV) (h : H) (R : AV → H → Prop) : Prop :=
 joinA (fun (l3' : AV) (h : H) =>
  R l3' h) fun J =>
 C 57 [h0] h fun t6 h =>
 loopA (fun N l h => argA l 0 fun l3 => argA l 1 fun t7 => 
  valA (binOp .lss .num t7 t6) h fun t8 h =>
  condA t8
   (joinA (fun (l3'_0 : AV) (h : H) =>
   valA (binOp .add .num t7 (.int .i64 1)) h fun t17 h =>
   N [l3'_0, t17] h) fun J_10 =>
  C 56 [h0, t7] h fun t12 h =>
  condA t12
   (mkslA h 3 1 (fillV [(.int .i64 0)] [(0, 1, t7)]) fun t15 h =>
   appendA h 3 1 8 l3 t15 fun t16 h =>
   J_10 t16 h)
   (J_10 l3 h))
   (J l3 h)) [.nilsl, (.int .i64 0)] h
theorem she59 (C : CallA) (h0 : AV) (h : H) (R : AV → H → Prop) : wpA C an59 (argE [h0]) h (outA [(.tmp 2)] R) = sh59 C h0 h R := by kernel_rfl
end Go.Proofs.Ytljkkfcokpimkaa.X
