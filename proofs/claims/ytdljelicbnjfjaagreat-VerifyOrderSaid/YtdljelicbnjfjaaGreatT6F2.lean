/- The plain programs of functions, printed; that they are the model's; what must hold ahead of each. -/
import Derived.Test.YtdljelicbnjfjaaGreatProg
import Derived.Test.YtdljelicbnjfjaaGreatXo
set_option maxRecDepth 100000
set_option linter.unusedVariables false
namespace Go.Proofs.YtdljelicbnjfjaaGreat.X
open Go
/-! slices.ContainsFunc[[]int,int] -/
def an67 : ACode :=
 (.seq (.reg 0 [] [] [sD 4 (.mv (.c (.bool false)))])
 (.seq (.reg 0 [] [] [sD 5 (.mv (.t 0)),
 sD 6 (.mv (.t 1)),
 sD 7 (.call 116 [(.t 5), (.t 6)]),
 sD 8 (.bin .geq .num (.t 7) (.c (.int .i64 0))),
 sD 4 (.mv (.t 8))])
 .ret))
def fn67 : IFun := ⟨9, [(.tmp 4)], an67.erase⟩
theorem ok67 : okFun Tryz.prog 67 fn67 = true := by kernel_rfl
theorem oka67 : okA fn67.ntmps fn67.results an67 = true := by kernel_rfl
def sh67 (C : CallA) (s0 f1 : AV) (h : H) (R : AV → H → Prop) : Prop :=
 C 116 [s0, f1] h fun t7 h =>
 valA (binOp .geq .num t7 (.int .i64 0)) h fun t8 h =>
 R t8 h
theorem she67 (C : CallA) (s0 f1 : AV) (h : H) (R : AV → H → Prop) : wpA C an67 (argE [s0, f1]) h (outA [(.tmp 4)] R) = sh67 C s0 f1 h R := by kernel_rfl
/-! bellows/verify.Sub$1 -/
def an68 : ACode :=
 (.seq (.reg 0 [] [] [sD 3 (.mv (.c (.bool false)))])
 (.seq (.reg 0 [] [] [sD 4 (.fa 1 (.t 1)),
 sD 5 (.ld none (.t 4)),
 sD 6 (.mv (.t 0)),
 sD 7 (.call 69 [(.t 5), (.t 6)]),
 sD 8 (.un .not (.t 7)),
 sD 3 (.mv (.t 8))])
 .ret))
def fn68 : IFun := ⟨9, [(.tmp 3)], an68.erase⟩
theorem ok68 : okFun Tryz.prog 68 fn68 = true := by kernel_rfl
theorem oka68 : okA fn68.ntmps fn68.results an68 = true := by kernel_rfl
def sh68 (C : CallA) (s0 t1 : AV) (h : H) (R : AV → H → Prop) : Prop :=
 valA (faA 1 t1) h fun t4 h =>
 valA (ldA h none t4) h fun t5 h =>
 C 69 [t5, s0] h fun t7 h =>
 valA (unOp .not t7) h fun t8 h =>
 R t8 h
theorem she68 (C : CallA) (s0 t1 : AV) (h : H) (R : AV → H → Prop) : wpA C an68 (argE [s0, t1]) h (outA [(.tmp 3)] R) = sh68 C s0 t1 h R := by kernel_rfl
/-! slices.Contains[[]int,int] -/
def an69 : ACode :=
 (.seq (.reg 0 [] [] [sD 4 (.mv (.c (.bool false)))])
 (.seq (.reg 0 [] [] [sD 5 (.mv (.t 0)),
 sD 6 (.mv (.t 1)),
 sD 7 (.call 117 [(.t 5), (.t 6)]),
 sD 8 (.bin .geq .num (.t 7) (.c (.int .i64 0))),
 sD 4 (.mv (.t 8))])
 .ret))
def fn69 : IFun := ⟨9, [(.tmp 4)], an69.erase⟩
theorem ok69 : okFun Tryz.prog 69 fn69 = true := by kernel_rfl
theorem oka69 : okA fn69.ntmps fn69.results an69 = true := by kernel_rfl
def sh69 (C : CallA) (s0 v1 : AV) (h : H) (R : AV → H → Prop) : Prop :=
 C 117 [s0, v1] h fun t7 h =>
 valA (binOp .geq .num t7 (.int .i64 0)) h fun t8 h =>
 R t8 h
theorem she69 (C : CallA) (s0 v1 : AV) (h : H) (R : AV → H → Prop) : wpA C an69 (argE [s0, v1]) h (outA [(.tmp 4)] R) = sh69 C s0 v1 h R := by kernel_rfl
/-! slices.Grow[[]int,int] -/
def an113 : ACode :=
 (.seq (.reg 0 [] [] [sD 4 (.mv (.c .nilsl))])
 (.seq (.seq (.reg 0 [] [] [sD 5 (.mv (.t 1)),
 sD 6 (.bin .lss .num (.t 5) (.c (.int .i64 0)))])
 (.cond (.t 6) (.reg 0 [] [] [sD 7 (.ext (.c .undef) 0),
 sN (.ext (.c .undef) 0)])
 .skip))
 (.seq (.seq (.reg 0 [] [] [sD 8 (.mv (.t 1)),
 sD 9 (.mv (.t 0)),
 sD 10 (.cap (.t 9)),
 sD 11 (.mv (.t 0)),
 sD 12 (.len false (.t 11)),
 sD 13 (.bin .sub .num (.t 10) (.t 12)),
 sD 14 (.bin .sub .num (.t 8) (.t 13)),
 sD 1 (.mv (.t 14))])
 (.seq (.reg 0 [] [] [sD 15 (.mv (.t 1)),
 sD 16 (.bin .gtr .num (.t 15) (.c (.int .i64 0)))])
 (.cond (.t 16) (.reg 0 [] [] [sD 17 (.mv (.t 0)),
 sD 18 (.mv (.t 0)),
 sD 19 (.cap (.t 18)),
 sD 20 (.sli (.row 1) (.t 17) none (some (.t 19)) none),
 sD 21 (.mv (.t 1)),
 sD 22 (.grow 3 1 8 [(.int .i64 0)] (.t 20) (.t 21)),
 sD 23 (.mv (.t 0)),
 sD 24 (.len false (.t 23)),
 sD 25 (.sli (.row 1) (.t 22) none (some (.t 24)) none),
 sD 0 (.mv (.t 25))])
 .skip)))
 (.seq (.reg 0 [] [] [sD 26 (.mv (.t 0)),
 sD 4 (.mv (.t 26))])
 .ret))))
def fn113 : IFun := ⟨27, [(.tmp 4)], an113.erase⟩
theorem ok113 : okFun Tryz.prog 113 fn113 = true := by kernel_rfl
theorem oka113 : okA fn113.ntmps fn113.results an113 = true := by kernel_rfl
def sh113 (C : CallA) (s0 n1 : AV) (h : H) (R : AV → H → Prop) : Prop :=
 joinA (fun (h : H) =>
 joinA (fun (s0' : AV) (h : H) =>
 R s0' h) fun J =>
 valA (capA s0) h fun t10 h =>
 valA (lenA false s0) h fun t12 h =>
 valA (binOp .sub .num t10 t12) h fun t13 h =>
 valA (binOp .sub .num n1 t13) h fun t14 h =>
 valA (binOp .gtr .num t14 (.int .i64 0)) h fun t16 h =>
 condA t16
 (valA (capA s0) h fun t19 h =>
 valA (sliceOp (.row 1) s0 none (some t19) none) h fun t20 h =>
 growA h 3 1 8 [(.int .i64 0)] t20 t14 fun t22 h =>
 valA (lenA false s0) h fun t24 h =>
 valA (sliceOp (.row 1) t22 none (some t24) none) h fun t25 h =>
 J t25 h)
 (J s0 h)) fun J_0 =>
 valA (binOp .lss .num n1 (.int .i64 0)) h fun t6 h =>
 condA t6
 (valA (extA .undef 0) h fun t7 h =>
 valA (extA .undef 0) h fun _ h =>
 J_0 h)
 (J_0 h)
theorem she113 (C : CallA) (s0 n1 : AV) (h : H) (R : AV → H → Prop) : wpA C an113 (argE [s0, n1]) h (outA [(.tmp 4)] R) = sh113 C s0 n1 h R := by kernel_rfl
/-! slices.IndexFunc[[]int,int] -/
def an116 : ACode :=
 (.seq (.reg 0 [] [] [sD 4 (.mv (.c (.int .i64 0)))])
 (.seq (.seq (.reg 0 [] [] [sD 6 (.mv (.t 0)),
 sD 7 (.len false (.t 6)),
 sD 8 (.mv (.c (.int .i64 0)))])
 (.block 0 (.loop [8] 387 (.seq (.reg 0 [] [] [sD 9 (.bin .lss .num (.t 8) (.t 7))])
 (.seq (.cond (.t 9) .skip
 (.exit 0))
 (.seq (.block 1 (.seq (.reg 0 [] [] [sD 10 (.mv (.t 8)),
 sD 5 (.mv (.t 10))])
 (.seq (.reg 0 [] [] [sD 11 (.mv (.t 1)),
 sD 12 (.mv (.t 0)),
 sD 13 (.mv (.t 5)),
 sD 14 (.ia none 1 (.t 12) (.t 13)),
 sD 15 (.ld none (.t 14)),
 sD 16 (.callv (.t 11) [(.t 15)])])
 (.cond (.t 16) (.seq (.reg 0 [] [] [sD 17 (.mv (.t 5)),
 sD 4 (.mv (.t 17))])
 .ret)
 .skip))))
 (.reg 0 [] [] [sD 18 (.bin .add .num (.t 8) (.c (.int .i64 1))),
 sD 8 (.mv (.t 18))])))))))
 (.seq (.reg 0 [] [] [sD 4 (.mv (.c (.int .i64 (-1))))])
 .ret)))
def fn116 : IFun := ⟨19, [(.tmp 4)], an116.erase⟩
theorem ok116 : okFun Tryz.prog 116 fn116 = true := by kernel_rfl
theorem oka116 : okA fn116.ntmps fn116.results an116 = true := by kernel_rfl
def sh116 (C : CallA) (s0 f1 : AV) (h : H) (R : AV → H → Prop) : Prop :=
 joinA (fun (h : H) =>
 R (.int .i64 (-1)) h) fun J =>
 valA (lenA false s0) h fun t7 h =>
 loopA (fun N l h => argA l 0 fun t8 => 
 valA (binOp .lss .num t8 t7) h fun t9 h =>
 condA t9
 (valA (iaA 1 s0 t8) h fun t14 h =>
 valA (ldA h none t14) h fun t15 h =>
 callvA C f1 [t15] h fun t16 h =>
 condA t16
 (R t8 h)
 (valA (binOp .add .num t8 (.int .i64 1)) h fun t18 h =>
 N [t18] h))
 (J h)) [(.int .i64 0)] h
theorem she116 (C : CallA) (s0 f1 : AV) (h : H) (R : AV → H → Prop) : wpA C an116 (argE [s0, f1]) h (outA [(.tmp 4)] R) = sh116 C s0 f1 h R := by kernel_rfl
/-! slices.Index[[]int,int] -/
def an117 : ACode :=
 (.seq (.reg 0 [] [] [sD 4 (.mv (.c (.int .i64 0)))])
 (.seq (.seq (.reg 0 [] [] [sD 6 (.mv (.t 0)),
 sD 7 (.len false (.t 6)),
 sD 8 (.mv (.c (.int .i64 0)))])
 (.block 0 (.loop [8] 387 (.seq (.reg 0 [] [] [sD 9 (.bin .lss .num (.t 8) (.t 7))])
 (.seq (.cond (.t 9) .skip
 (.exit 0))
 (.seq (.block 1 (.seq (.reg 0 [] [] [sD 10 (.mv (.t 8)),
 sD 5 (.mv (.t 10))])
 (.seq (.reg 0 [] [] [sD 11 (.mv (.t 1)),
 sD 12 (.mv (.t 0)),
 sD 13 (.mv (.t 5)),
 sD 14 (.ia none 1 (.t 12) (.t 13)),
 sD 15 (.ld none (.t 14)),
 sD 16 (.bin .eql .num (.t 11) (.t 15))])
 (.cond (.t 16) (.seq (.reg 0 [] [] [sD 17 (.mv (.t 5)),
 sD 4 (.mv (.t 17))])
 .ret)
 .skip))))
 (.reg 0 [] [] [sD 18 (.bin .add .num (.t 8) (.c (.int .i64 1))),
 sD 8 (.mv (.t 18))])))))))
 (.seq (.reg 0 [] [] [sD 4 (.mv (.c (.int .i64 (-1))))])
 .ret)))
def fn117 : IFun := ⟨19, [(.tmp 4)], an117.erase⟩
theorem ok117 : okFun Tryz.prog 117 fn117 = true := by kernel_rfl
theorem oka117 : okA fn117.ntmps fn117.results an117 = true := by kernel_rfl
def sh117 (C : CallA) (s0 v1 : AV) (h : H) (R : AV → H → Prop) : Prop :=
 joinA (fun (h : H) =>
 R (.int .i64 (-1)) h) fun J =>
 valA (lenA false s0) h fun t7 h =>
 loopA (fun N l h => argA l 0 fun t8 => 
 valA (binOp .lss .num t8 t7) h fun t9 h =>
 condA t9
 (valA (iaA 1 s0 t8) h fun t14 h =>
 valA (ldA h none t14) h fun t15 h =>
 valA (binOp .eql .num v1 t15) h fun t16 h =>
 condA t16
 (R t8 h)
 (valA (binOp .add .num t8 (.int .i64 1)) h fun t18 h =>
 N [t18] h))
 (J h)) [(.int .i64 0)] h
theorem she117 (C : CallA) (s0 v1 : AV) (h : H) (R : AV → H → Prop) : wpA C an117 (argE [s0, v1]) h (outA [(.tmp 4)] R) = sh117 C s0 v1 h R := by kernel_rfl
end Go.Proofs.YtdljelicbnjfjaaGreat.X
