/- The plain programs of functions, printed; that they are the model's; what must hold ahead of each. -/
import Derived.Test.YtgcnliikibbcnaaProg
import Derived.Test.YtgcnliikibbcnaaXo
set_option maxRecDepth 100000
set_option linter.unusedVariables false
namespace Go.Proofs.Ytgcnliikibbcnaa.X
open Go
/-! bellows/bellowslaw04.CodeLimits -/
def an8 : ACode :=
 (.seq (.reg 0 [] [] [sD 4 (.mv (.c (.bool false)))])
 (.seq (.reg 0 [] [] [sD 13 (.mv (.t 1)),
 sD 14 (.mn [(.t 13), (.c (.int .i64 2100))]),
 sD 15 (.mx [(.c (.int .i64 0)), (.t 14)]),
 sD 1 (.mv (.t 15))])
 (.seq (.reg 0 [] [] [sD 5 (.mv (.c (.int .i64 0)))])
 (.seq (.reg 0 [] [] [sD 6 (.al none 34 [.nilsl, .nilsl, .nilsl, .nilsl, .nilsl, (.int .i64 0), (.int .i64 0)])])
 (.seq (.reg 0 [] [] [sD 16 (.build [(.int .i64 0), (.int .i64 0), (.int .i64 0), (.int .i64 0), (.int .i64 0), (.int .i64 0), .nilsl, .nilsl, .nilsl] [(0, 1, (.c (.int .i64 5)))]),
 sD 7 (.al none 24 [(.int .i64 0), (.int .i64 0), (.int .i64 0), (.int .i64 0), (.int .i64 0), (.int .i64 0), .nilsl, .nilsl, .nilsl]),
 sN (.st 9 (.t 7) (.t 16))])
 (.seq (.reg 0 [] [] [sD 17 (.build [.nilsl, (.int .i64 0), (.int .i64 0), .nilsl] []),
 sD 8 (.al none 51 [.nilsl, (.int .i64 0), (.int .i64 0), .nilsl]),
 sN (.st 4 (.t 8) (.t 17))])
 (.seq (.seq (.reg 0 [] [] [sD 18 (.mv (.t 0))])
 (.block 0 (.seq (.reg 0 [] [] [sD 21 (.bin .eql .num (.t 18) (.c (.int .i64 0))),
 sD 20 (.mv (.t 21))])
 (.cond (.t 20) (.seq (.reg 0 [] [] [sD 22 (.mv (.t 1)),
 sD 23 (.mks none 53 [(.bool false), .nilsl] 32 (.t 22) (.t 22)),
 sD 24 (.fa 0 (.t 6)),
 sN (.st 1 (.t 24) (.t 23))])
 (.reg 0 [] [] [sD 5 (.mv (.c (.int .i64 1024)))]))
 (.seq (.reg 0 [] [] [sD 26 (.bin .eql .num (.t 18) (.c (.int .i64 1))),
 sD 25 (.mv (.t 26))])
 (.cond (.t 25) (.seq (.reg 0 [] [] [sD 27 (.mv (.t 1)),
 sD 28 (.mks none 55 [(.int .i64 0), .nilsl, (.str [])] 48 (.t 27) (.t 27)),
 sD 29 (.fa 1 (.t 6)),
 sN (.st 1 (.t 29) (.t 28))])
 (.reg 0 [] [] [sD 5 (.mv (.c (.int .i64 512)))]))
 (.seq (.reg 0 [] [] [sD 31 (.bin .eql .num (.t 18) (.c (.int .i64 2))),
 sD 30 (.mv (.t 31))])
 (.cond (.t 30) (.seq (.reg 0 [] [] [sD 32 (.mv (.t 1)),
 sD 33 (.mks none 9 [(.str [])] 16 (.t 32) (.t 32)),
 sD 34 (.fa 2 (.t 6)),
 sN (.st 1 (.t 34) (.t 33))])
 (.reg 0 [] [] [sD 5 (.mv (.c (.int .i64 256)))]))
 (.seq (.reg 0 [] [] [sD 36 (.bin .eql .num (.t 18) (.c (.int .i64 3))),
 sD 35 (.mv (.t 36))])
 (.cond (.t 35) (.seq (.reg 0 [] [] [sD 37 (.mv (.t 1)),
 sD 38 (.mks none 9 [(.str [])] 16 (.t 37) (.t 37)),
 sD 39 (.fa 3 (.t 6)),
 sN (.st 1 (.t 39) (.t 38))])
 (.reg 0 [] [] [sD 5 (.mv (.c (.int .i64 256)))]))
 (.seq (.reg 0 [] [] [sD 41 (.bin .eql .num (.t 18) (.c (.int .i64 4))),
 sD 40 (.mv (.t 41))])
 (.cond (.t 40) (.seq (.reg 0 [] [] [sD 42 (.mv (.t 1)),
 sD 43 (.mks none 51 [.nilsl, (.int .i64 0), (.int .i64 0), .nilsl] 64 (.t 42) (.t 42)),
 sD 44 (.fa 4 (.t 6)),
 sN (.st 1 (.t 44) (.t 43))])
 (.reg 0 [] [] [sD 5 (.mv (.c (.int .i64 1024)))]))
 (.seq (.reg 0 [] [] [sD 46 (.bin .eql .num (.t 18) (.c (.int .i64 5))),
 sD 45 (.mv (.t 46))])
 (.cond (.t 45) (.seq (.reg 0 [] [] [sD 47 (.mv (.t 1)),
 sD 48 (.mks none 3 [(.int .i64 0)] 8 (.t 47) (.t 47)),
 sD 49 (.build [(.bool false), .nilsl] [(1, 1, (.t 48))]),
 sD 50 (.mksl none 53 [(.bool false), .nilsl] 1 [(0, 2, (.t 49))]),
 sD 51 (.fa 0 (.t 6)),
 sN (.st 1 (.t 51) (.t 50))])
 (.reg 0 [] [] [sD 5 (.mv (.c (.int .i64 512)))]))
 (.seq (.reg 0 [] [] [sD 53 (.bin .eql .num (.t 18) (.c (.int .i64 6))),
 sD 52 (.mv (.t 53))])
 (.cond (.t 52) (.seq (.reg 0 [] [] [sD 54 (.mv (.t 1)),
 sD 55 (.mks none 3 [(.int .i64 0)] 8 (.t 54) (.t 54)),
 sD 56 (.build [(.int .i64 0), .nilsl, (.str [])] [(1, 1, (.t 55))]),
 sD 57 (.mksl none 55 [(.int .i64 0), .nilsl, (.str [])] 1 [(0, 3, (.t 56))]),
 sD 58 (.fa 1 (.t 6)),
 sN (.st 1 (.t 58) (.t 57))])
 (.reg 0 [] [] [sD 5 (.mv (.c (.int .i64 200)))]))
 (.seq (.reg 0 [] [] [sD 60 (.bin .eql .num (.t 18) (.c (.int .i64 7))),
 sD 59 (.mv (.t 60))])
 (.cond (.t 59) (.seq (.reg 0 [] [] [sD 61 (.mv (.t 1)),
 sD 62 (.fa 2 (.t 8)),
 sN (.st 1 (.t 62) (.t 61))])
 (.seq (.reg 0 [] [] [sD 5 (.mv (.c (.int .i64 200)))])
 (.reg 0 [] [] [sD 63 (.ld (some 4) (.t 8)),
 sD 64 (.mksl none 51 [.nilsl, (.int .i64 0), (.int .i64 0), .nilsl] 1 [(0, 4, (.t 63))]),
 sD 65 (.fa 4 (.t 6)),
 sN (.st 1 (.t 65) (.t 64))])))
 (.seq (.reg 0 [] [] [sD 67 (.bin .eql .num (.t 18) (.c (.int .i64 8))),
 sD 66 (.mv (.t 67))])
 (.cond (.t 66) (.seq (.reg 0 [] [] [sD 68 (.mv (.t 1)),
 sD 69 (.mks none 3 [(.int .i64 0)] 8 (.t 68) (.t 68)),
 sD 70 (.fa 0 (.t 8)),
 sN (.st 1 (.t 70) (.t 69))])
 (.seq (.reg 0 [] [] [sD 5 (.mv (.c (.int .i64 200)))])
 (.reg 0 [] [] [sD 71 (.ld (some 4) (.t 8)),
 sD 72 (.mksl none 51 [.nilsl, (.int .i64 0), (.int .i64 0), .nilsl] 1 [(0, 4, (.t 71))]),
 sD 73 (.fa 4 (.t 6)),
 sN (.st 1 (.t 73) (.t 72))])))
 (.seq (.reg 0 [] [] [sD 75 (.bin .eql .num (.t 18) (.c (.int .i64 9))),
 sD 74 (.mv (.t 75))])
 (.cond (.t 74) (.seq (.reg 0 [] [] [sD 76 (.mv (.t 1)),
 sD 77 (.mks none 58 [.nilsl, .nilsl] 48 (.t 76) (.t 76)),
 sD 78 (.fa 3 (.t 8)),
 sN (.st 1 (.t 78) (.t 77))])
 (.seq (.reg 0 [] [] [sD 5 (.mv (.c (.int .i64 2000)))])
 (.reg 0 [] [] [sD 79 (.ld (some 4) (.t 8)),
 sD 80 (.mksl none 51 [.nilsl, (.int .i64 0), (.int .i64 0), .nilsl] 1 [(0, 4, (.t 79))]),
 sD 81 (.fa 4 (.t 6)),
 sN (.st 1 (.t 81) (.t 80))])))
 (.seq (.reg 0 [] [] [sD 83 (.bin .eql .num (.t 18) (.c (.int .i64 10))),
 sD 82 (.mv (.t 83))])
 (.cond (.t 82) (.seq (.reg 0 [] [] [sD 84 (.mv (.t 1)),
 sD 85 (.mks none 3 [(.int .i64 0)] 8 (.t 84) (.t 84)),
 sD 86 (.build [.nilsl, .nilsl] [(0, 1, (.t 85))]),
 sD 87 (.mksl none 58 [.nilsl, .nilsl] 1 [(0, 2, (.t 86))]),
 sD 88 (.fa 3 (.t 8)),
 sN (.st 1 (.t 88) (.t 87))])
 (.seq (.reg 0 [] [] [sD 5 (.mv (.c (.int .i64 200)))])
 (.reg 0 [] [] [sD 89 (.ld (some 4) (.t 8)),
 sD 90 (.mksl none 51 [.nilsl, (.int .i64 0), (.int .i64 0), .nilsl] 1 [(0, 4, (.t 89))]),
 sD 91 (.fa 4 (.t 6)),
 sN (.st 1 (.t 91) (.t 90))])))
 (.seq (.reg 0 [] [] [sD 93 (.bin .eql .num (.t 18) (.c (.int .i64 11))),
 sD 92 (.mv (.t 93))])
 (.cond (.t 92) (.seq (.reg 0 [] [] [sD 94 (.mv (.t 1)),
 sD 95 (.mks none 3 [(.int .i64 0)] 8 (.t 94) (.t 94)),
 sD 96 (.fa 6 (.t 7)),
 sN (.st 1 (.t 96) (.t 95))])
 (.seq (.reg 0 [] [] [sD 5 (.mv (.c (.int .i64 1024)))])
 (.reg 0 [] [] [sD 97 (.ld (some 9) (.t 7)),
 sD 98 (.mksl none 24 [(.int .i64 0), (.int .i64 0), (.int .i64 0), (.int .i64 0), (.int .i64 0), (.int .i64 0), .nilsl, .nilsl, .nilsl] 1 [(0, 9, (.t 97))]),
 sD 99 (.build [.nilsl, .nilsl] [(1, 1, (.t 98))]),
 sD 100 (.mksl none 58 [.nilsl, .nilsl] 1 [(0, 2, (.t 99))]),
 sD 101 (.build [.nilsl, (.int .i64 0), (.int .i64 0), .nilsl] [(3, 1, (.t 100))]),
 sD 102 (.mksl none 51 [.nilsl, (.int .i64 0), (.int .i64 0), .nilsl] 1 [(0, 4, (.t 101))]),
 sD 103 (.fa 4 (.t 6)),
 sN (.st 1 (.t 103) (.t 102))])))
 (.seq (.reg 0 [] [] [sD 105 (.bin .eql .num (.t 18) (.c (.int .i64 12))),
 sD 104 (.mv (.t 105))])
 (.cond (.t 104) (.seq (.reg 0 [] [] [sD 106 (.mv (.t 1)),
 sD 107 (.mks none 3 [(.int .i64 0)] 8 (.t 106) (.t 106)),
 sD 108 (.fa 8 (.t 7)),
 sN (.st 1 (.t 108) (.t 107))])
 (.seq (.reg 0 [] [] [sD 5 (.mv (.c (.int .i64 200)))])
 (.reg 0 [] [] [sD 109 (.ld (some 9) (.t 7)),
 sD 110 (.mksl none 24 [(.int .i64 0), (.int .i64 0), (.int .i64 0), (.int .i64 0), (.int .i64 0), (.int .i64 0), .nilsl, .nilsl, .nilsl] 1 [(0, 9, (.t 109))]),
 sD 111 (.build [.nilsl, .nilsl] [(1, 1, (.t 110))]),
 sD 112 (.mksl none 58 [.nilsl, .nilsl] 1 [(0, 2, (.t 111))]),
 sD 113 (.build [.nilsl, (.int .i64 0), (.int .i64 0), .nilsl] [(3, 1, (.t 112))]),
 sD 114 (.mksl none 51 [.nilsl, (.int .i64 0), (.int .i64 0), .nilsl] 1 [(0, 4, (.t 113))]),
 sD 115 (.fa 4 (.t 6)),
 sN (.st 1 (.t 115) (.t 114))])))
 (.seq (.reg 0 [] [] [sD 19 (.call 14 []),
 sD 4 (.mv (.t 19))])
 .ret)))))))))))))))))))))))))))))
 (.seq (.reg 0 [] [] [sD 117 (.ld (some 7) (.t 6)),
 sD 118 (.call 16 [(.t 117)]),
 sD 116 (.mv (.t 118)),
 sD 119 (.ext (.t 116) 0),
 sD 120 (.ext (.t 116) 1),
 sD 9 (.mv (.t 119)),
 sD 10 (.mv (.t 120))])
 (.seq (.seq (.reg 0 [] [] [sD 121 (.mv (.t 1)),
 sD 122 (.mv (.t 5)),
 sD 123 (.bin .gtr .num (.t 121) (.t 122))])
 (.cond (.t 123) (.seq (.reg 0 [] [] [sD 124 (.mv (.t 10)),
 sD 125 (.bin .eql .num (.t 124) (.c (.int .i64 2))),
 sD 126 (.mv (.t 125)),
 sG 127 126 true (.mv (.t 9)),
 sG 128 126 true (.len false (.t 127)),
 sG 129 126 true (.bin .eql .num (.t 128) (.c (.int .i64 0))),
 sD 130 (.pick (.t 126) (.t 129) (.c (.bool false))),
 sD 131 (.mv (.t 130)),
 sG 132 131 true (.call 14 []),
 sD 133 (.pick (.t 131) (.t 132) (.c (.bool false))),
 sD 4 (.mv (.t 133))])
 .ret)
 .skip))
 (.seq (.reg 0 [] [] [sD 135 (.mv (.t 9)),
 sD 136 (.call 20 [(.t 135)]),
 sD 134 (.mv (.t 136)),
 sD 137 (.ext (.t 134) 0),
 sD 138 (.ext (.t 134) 1),
 sD 11 (.al none 34 [.nilsl, .nilsl, .nilsl, .nilsl, .nilsl, (.int .i64 0), (.int .i64 0)]),
 sN (.st 7 (.t 11) (.t 137)),
 sD 12 (.mv (.t 138))])
 (.seq (.reg 0 [] [] [sD 139 (.mv (.t 10)),
 sD 140 (.bin .eql .num (.t 139) (.c (.int .i64 0))),
 sD 141 (.mv (.t 140)),
 sG 142 141 true (.mv (.t 12)),
 sG 143 141 true (.bin .eql .num (.t 142) (.c (.int .i64 0))),
 sD 144 (.pick (.t 141) (.t 143) (.c (.bool false))),
 sD 145 (.mv (.t 144)),
 sG 146 145 true (.ld (some 7) (.t 11)),
 sG 147 145 true (.ld (some 7) (.t 6)),
 sG 148 145 true (.call 21 [(.t 146), (.t 147)]),
 sD 149 (.pick (.t 145) (.t 148) (.c (.bool false))),
 sD 150 (.mv (.t 149)),
 sG 151 150 true (.call 14 []),
 sD 152 (.pick (.t 150) (.t 151) (.c (.bool false))),
 sD 4 (.mv (.t 152))])
 .ret)))))))))))
def fn8 : IFun := ⟨153, [(.tmp 4)], an8.erase⟩
theorem ok8 : okFun Try.prog 8 fn8 = true := by kernel_rfl
theorem oka8 : okA fn8.ntmps fn8.results an8 = true := by kernel_rfl
def sh8 (C : CallA) (what0 n1 : AV) (h : H) (R : AV → H → Prop) : Prop :=
 valA (mnA [n1, (.int .i64 2100)]) h fun t14 h =>
 valA (mxA [(.int .i64 0), t14]) h fun t15 h =>
 boxA h [.nilsl, .nilsl, .nilsl, .nilsl, .nilsl, (.int .i64 0), (.int .i64 0)] 34 fun m6 h =>
 valA (buildA (fillV [(.int .i64 0), (.int .i64 0), (.int .i64 0), (.int .i64 0), (.int .i64 0), (.int .i64 0), .nilsl, .nilsl, .nilsl] [(0, 1, (.int .i64 5))])) h fun t16 h =>
 boxA h [(.int .i64 0), (.int .i64 0), (.int .i64 0), (.int .i64 0), (.int .i64 0), (.int .i64 0), .nilsl, .nilsl, .nilsl] 24 fun x7 h =>
 memA (stA h 9 x7 t16) .undef fun _ h =>
 valA (buildA (fillV [.nilsl, (.int .i64 0), (.int .i64 0), .nilsl] [])) h fun t17 h =>
 boxA h [.nilsl, (.int .i64 0), (.int .i64 0), .nilsl] 51 fun f8 h =>
 memA (stA h 4 f8 t17) .undef fun _ h =>
 joinA (fun (most5' : AV) (h : H) =>
  valA (ldA h (some 7) m6) h fun t117 h =>
  C 16 [t117] h fun t118 h =>
  valA (extA t118 0) h fun t119 h =>
  valA (extA t118 1) h fun t120 h =>
  valA (binOp .gtr .num t15 most5') h fun t123 h =>
  condA t123
   (valA (binOp .eql .num t120 (.int .i64 2)) h fun t125 h =>
   whenA t125 true (fun K => K t119 h) h fun t127 h =>
   whenA t125 true (fun K => valA (lenA false t127) h K) h fun t128 h =>
   whenA t125 true (fun K => valA (binOp .eql .num t128 (.int .i64 0)) h K) h fun t129 h =>
   valA (pickA t125 t129 (.bool false)) h fun t130 h =>
   whenA t130 true (fun K => C 14 [] h K) h fun t132 h =>
   valA (pickA t130 t132 (.bool false)) h fun t133 h =>
   R t133 h)
   (C 20 [t119] h fun t136 h =>
  valA (extA t136 0) h fun t137 h =>
  valA (extA t136 1) h fun t138 h =>
  boxA h [.nilsl, .nilsl, .nilsl, .nilsl, .nilsl, (.int .i64 0), (.int .i64 0)] 34 fun y11 h =>
  memA (stA h 7 y11 t137) .undef fun _ h =>
  valA (binOp .eql .num t120 (.int .i64 0)) h fun t140 h =>
  whenA t140 true (fun K => K t138 h) h fun t142 h =>
  whenA t140 true (fun K => valA (binOp .eql .num t142 (.int .i64 0)) h K) h fun t143 h =>
  valA (pickA t140 t143 (.bool false)) h fun t144 h =>
  whenA t144 true (fun K => valA (ldA h (some 7) y11) h K) h fun t146 h =>
  whenA t144 true (fun K => valA (ldA h (some 7) m6) h K) h fun t147 h =>
  whenA t144 true (fun K => C 21 [t146, t147] h K) h fun t148 h =>
  valA (pickA t144 t148 (.bool false)) h fun t149 h =>
  whenA t149 true (fun K => C 14 [] h K) h fun t151 h =>
  valA (pickA t149 t151 (.bool false)) h fun t152 h =>
  R t152 h)) fun J =>
 valA (binOp .eql .num what0 (.int .i64 0)) h fun t21 h =>
 condA t21
  (mksA h 53 [(.bool false), .nilsl] 32 t15 t15 fun t23 h =>
  valA (faA 0 m6) h fun t24 h =>
  memA (stA h 1 t24 t23) .undef fun _ h =>
  J (.int .i64 1024) h)
  (valA (binOp .eql .num what0 (.int .i64 1)) h fun t26 h =>
  condA t26
   (mksA h 55 [(.int .i64 0), .nilsl, (.str [])] 48 t15 t15 fun t28 h =>
   valA (faA 1 m6) h fun t29 h =>
   memA (stA h 1 t29 t28) .undef fun _ h =>
   J (.int .i64 512) h)
   (valA (binOp .eql .num what0 (.int .i64 2)) h fun t31 h =>
   condA t31
    (mksA h 9 [(.str [])] 16 t15 t15 fun t33 h =>
    valA (faA 2 m6) h fun t34 h =>
    memA (stA h 1 t34 t33) .undef fun _ h =>
    J (.int .i64 256) h)
    (valA (binOp .eql .num what0 (.int .i64 3)) h fun t36 h =>
    condA t36
     (mksA h 9 [(.str [])] 16 t15 t15 fun t38 h =>
     valA (faA 3 m6) h fun t39 h =>
     memA (stA h 1 t39 t38) .undef fun _ h =>
     J (.int .i64 256) h)
     (valA (binOp .eql .num what0 (.int .i64 4)) h fun t41 h =>
     condA t41
      (mksA h 51 [.nilsl, (.int .i64 0), (.int .i64 0), .nilsl] 64 t15 t15 fun t43 h =>
      valA (faA 4 m6) h fun t44 h =>
      memA (stA h 1 t44 t43) .undef fun _ h =>
      J (.int .i64 1024) h)
      (valA (binOp .eql .num what0 (.int .i64 5)) h fun t46 h =>
      condA t46
       (mksA h 3 [(.int .i64 0)] 8 t15 t15 fun t48 h =>
       valA (buildA (fillV [(.bool false), .nilsl] [(1, 1, t48)])) h fun t49 h =>
       mkslA h 53 1 (fillV [(.bool false), .nilsl] [(0, 2, t49)]) fun t50 h =>
       valA (faA 0 m6) h fun t51 h =>
       memA (stA h 1 t51 t50) .undef fun _ h =>
       J (.int .i64 512) h)
       (valA (binOp .eql .num what0 (.int .i64 6)) h fun t53 h =>
       condA t53
        (mksA h 3 [(.int .i64 0)] 8 t15 t15 fun t55 h =>
        valA (buildA (fillV [(.int .i64 0), .nilsl, (.str [])] [(1, 1, t55)])) h fun t56 h =>
        mkslA h 55 1 (fillV [(.int .i64 0), .nilsl, (.str [])] [(0, 3, t56)]) fun t57 h =>
        valA (faA 1 m6) h fun t58 h =>
        memA (stA h 1 t58 t57) .undef fun _ h =>
        J (.int .i64 200) h)
        (valA (binOp .eql .num what0 (.int .i64 7)) h fun t60 h =>
        condA t60
         (valA (faA 2 f8) h fun t62 h =>
         memA (stA h 1 t62 t15) .undef fun _ h =>
         valA (ldA h (some 4) f8) h fun t63 h =>
         mkslA h 51 1 (fillV [.nilsl, (.int .i64 0), (.int .i64 0), .nilsl] [(0, 4, t63)]) fun t64 h =>
         valA (faA 4 m6) h fun t65 h =>
         memA (stA h 1 t65 t64) .undef fun _ h =>
         J (.int .i64 200) h)
         (valA (binOp .eql .num what0 (.int .i64 8)) h fun t67 h =>
         condA t67
          (mksA h 3 [(.int .i64 0)] 8 t15 t15 fun t69 h =>
          valA (faA 0 f8) h fun t70 h =>
          memA (stA h 1 t70 t69) .undef fun _ h =>
          valA (ldA h (some 4) f8) h fun t71 h =>
          mkslA h 51 1 (fillV [.nilsl, (.int .i64 0), (.int .i64 0), .nilsl] [(0, 4, t71)]) fun t72 h =>
          valA (faA 4 m6) h fun t73 h =>
          memA (stA h 1 t73 t72) .undef fun _ h =>
          J (.int .i64 200) h)
          (valA (binOp .eql .num what0 (.int .i64 9)) h fun t75 h =>
          condA t75
           (mksA h 58 [.nilsl, .nilsl] 48 t15 t15 fun t77 h =>
           valA (faA 3 f8) h fun t78 h =>
           memA (stA h 1 t78 t77) .undef fun _ h =>
           valA (ldA h (some 4) f8) h fun t79 h =>
           mkslA h 51 1 (fillV [.nilsl, (.int .i64 0), (.int .i64 0), .nilsl] [(0, 4, t79)]) fun t80 h =>
           valA (faA 4 m6) h fun t81 h =>
           memA (stA h 1 t81 t80) .undef fun _ h =>
           J (.int .i64 2000) h)
           (valA (binOp .eql .num what0 (.int .i64 10)) h fun t83 h =>
           condA t83
            (mksA h 3 [(.int .i64 0)] 8 t15 t15 fun t85 h =>
            valA (buildA (fillV [.nilsl, .nilsl] [(0, 1, t85)])) h fun t86 h =>
            mkslA h 58 1 (fillV [.nilsl, .nilsl] [(0, 2, t86)]) fun t87 h =>
            valA (faA 3 f8) h fun t88 h =>
            memA (stA h 1 t88 t87) .undef fun _ h =>
            valA (ldA h (some 4) f8) h fun t89 h =>
            mkslA h 51 1 (fillV [.nilsl, (.int .i64 0), (.int .i64 0), .nilsl] [(0, 4, t89)]) fun t90 h =>
            valA (faA 4 m6) h fun t91 h =>
            memA (stA h 1 t91 t90) .undef fun _ h =>
            J (.int .i64 200) h)
            (valA (binOp .eql .num what0 (.int .i64 11)) h fun t93 h =>
            condA t93
             (mksA h 3 [(.int .i64 0)] 8 t15 t15 fun t95 h =>
             valA (faA 6 x7) h fun t96 h =>
             memA (stA h 1 t96 t95) .undef fun _ h =>
             valA (ldA h (some 9) x7) h fun t97 h =>
             mkslA h 24 1 (fillV [(.int .i64 0), (.int .i64 0), (.int .i64 0), (.int .i64 0), (.int .i64 0), (.int .i64 0), .nilsl, .nilsl, .nilsl] [(0, 9, t97)]) fun t98 h =>
             valA (buildA (fillV [.nilsl, .nilsl] [(1, 1, t98)])) h fun t99 h =>
             mkslA h 58 1 (fillV [.nilsl, .nilsl] [(0, 2, t99)]) fun t100 h =>
             valA (buildA (fillV [.nilsl, (.int .i64 0), (.int .i64 0), .nilsl] [(3, 1, t100)])) h fun t101 h =>
             mkslA h 51 1 (fillV [.nilsl, (.int .i64 0), (.int .i64 0), .nilsl] [(0, 4, t101)]) fun t102 h =>
             valA (faA 4 m6) h fun t103 h =>
             memA (stA h 1 t103 t102) .undef fun _ h =>
             J (.int .i64 1024) h)
             (valA (binOp .eql .num what0 (.int .i64 12)) h fun t105 h =>
             condA t105
              (mksA h 3 [(.int .i64 0)] 8 t15 t15 fun t107 h =>
              valA (faA 8 x7) h fun t108 h =>
              memA (stA h 1 t108 t107) .undef fun _ h =>
              valA (ldA h (some 9) x7) h fun t109 h =>
              mkslA h 24 1 (fillV [(.int .i64 0), (.int .i64 0), (.int .i64 0), (.int .i64 0), (.int .i64 0), (.int .i64 0), .nilsl, .nilsl, .nilsl] [(0, 9, t109)]) fun t110 h =>
              valA (buildA (fillV [.nilsl, .nilsl] [(1, 1, t110)])) h fun t111 h =>
              mkslA h 58 1 (fillV [.nilsl, .nilsl] [(0, 2, t111)]) fun t112 h =>
              valA (buildA (fillV [.nilsl, (.int .i64 0), (.int .i64 0), .nilsl] [(3, 1, t112)])) h fun t113 h =>
              mkslA h 51 1 (fillV [.nilsl, (.int .i64 0), (.int .i64 0), .nilsl] [(0, 4, t113)]) fun t114 h =>
              valA (faA 4 m6) h fun t115 h =>
              memA (stA h 1 t115 t114) .undef fun _ h =>
              J (.int .i64 200) h)
              (C 14 [] h fun t19 h =>
              R t19 h)))))))))))))
theorem she8 (C : CallA) (what0 n1 : AV) (h : H) (R : AV → H → Prop) : wpA C an8 (argE [what0, n1]) h (outA [(.tmp 4)] R) = sh8 C what0 n1 h R := by kernel_rfl
/-! bellows/code.Uses -/
def an10 : ACode :=
 (.seq (.reg 0 [] [] [sD 2 (.mv (.c (.str [])))])
 (.seq (.seq (.reg 0 [] [] [sD 3 (.mv (.t 0))])
 (.block 0 (.seq (.reg 0 [] [] [sD 5 (.bin .eql .num (.t 3) (.c (.int .i64 1))),
 sD 4 (.mv (.t 5))])
 (.cond (.t 4) (.seq (.reg 0 [] [] [sD 2 (.mv (.c (.str [68, 78])))])
 .ret)
 (.seq (.reg 0 [] [] [sD 7 (.bin .eql .num (.t 3) (.c (.int .i64 2))),
 sD 6 (.mv (.t 7))])
 (.cond (.t 6) (.seq (.reg 0 [] [] [sD 2 (.mv (.c (.str [68, 65, 108])))])
 .ret)
 (.seq (.seq (.reg 0 [] [] [sD 9 (.bin .eql .num (.t 3) (.c (.int .i64 3))),
 sD 8 (.mv (.t 9))])
 (.cond (.t 8) .skip
 (.reg 0 [] [] [sD 10 (.bin .eql .num (.t 3) (.c (.int .i64 11))),
 sD 8 (.mv (.t 10))])))
 (.cond (.t 8) (.seq (.reg 0 [] [] [sD 2 (.mv (.c (.str [68, 65])))])
 .ret)
 (.seq (.reg 0 [] [] [sD 12 (.bin .eql .num (.t 3) (.c (.int .i64 4))),
 sD 11 (.mv (.t 12))])
 (.cond (.t 11) (.seq (.reg 0 [] [] [sD 2 (.mv (.c (.str [68, 65, 66, 78])))])
 .ret)
 (.seq (.reg 0 [] [] [sD 14 (.bin .eql .num (.t 3) (.c (.int .i64 5))),
 sD 13 (.mv (.t 14))])
 (.cond (.t 13) (.seq (.reg 0 [] [] [sD 2 (.mv (.c (.str [68, 65, 76, 108])))])
 .ret)
 (.seq (.seq (.reg 0 [] [] [sD 16 (.bin .eql .num (.t 3) (.c (.int .i64 6))),
 sD 15 (.mv (.t 16))])
 (.cond (.t 15) .skip
 (.seq (.reg 0 [] [] [sD 17 (.bin .eql .num (.t 3) (.c (.int .i64 9))),
 sD 15 (.mv (.t 17))])
 (.cond (.t 15) .skip
 (.seq (.reg 0 [] [] [sD 18 (.bin .eql .num (.t 3) (.c (.int .i64 12))),
 sD 15 (.mv (.t 18))])
 (.cond (.t 15) .skip
 (.reg 0 [] [] [sD 19 (.bin .eql .num (.t 3) (.c (.int .i64 14))),
 sD 15 (.mv (.t 19))])))))))
 (.cond (.t 15) (.seq (.reg 0 [] [] [sD 2 (.mv (.c (.str [68, 65, 66])))])
 .ret)
 (.seq (.seq (.reg 0 [] [] [sD 21 (.bin .eql .num (.t 3) (.c (.int .i64 7))),
 sD 20 (.mv (.t 21))])
 (.cond (.t 20) .skip
 (.seq (.reg 0 [] [] [sD 22 (.bin .eql .num (.t 3) (.c (.int .i64 10))),
 sD 20 (.mv (.t 22))])
 (.cond (.t 20) .skip
 (.reg 0 [] [] [sD 23 (.bin .eql .num (.t 3) (.c (.int .i64 19))),
 sD 20 (.mv (.t 23))])))))
 (.cond (.t 20) (.seq (.reg 0 [] [] [sD 2 (.mv (.c (.str [65, 66, 67])))])
 .ret)
 (.seq (.reg 0 [] [] [sD 25 (.bin .eql .num (.t 3) (.c (.int .i64 8))),
 sD 24 (.mv (.t 25))])
 (.cond (.t 24) (.seq (.reg 0 [] [] [sD 2 (.mv (.c (.str [68, 65, 66, 67, 108])))])
 .ret)
 (.seq (.reg 0 [] [] [sD 27 (.bin .eql .num (.t 3) (.c (.int .i64 13))),
 sD 26 (.mv (.t 27))])
 (.cond (.t 26) (.seq (.reg 0 [] [] [sD 2 (.mv (.c (.str [68, 65, 66, 108])))])
 .ret)
 (.seq (.reg 0 [] [] [sD 29 (.bin .eql .num (.t 3) (.c (.int .i64 15))),
 sD 28 (.mv (.t 29))])
 (.cond (.t 28) (.seq (.reg 0 [] [] [sD 2 (.mv (.c (.str [68])))])
 .ret)
 (.seq (.seq (.reg 0 [] [] [sD 31 (.bin .eql .num (.t 3) (.c (.int .i64 16))),
 sD 30 (.mv (.t 31))])
 (.cond (.t 30) .skip
 (.seq (.reg 0 [] [] [sD 32 (.bin .eql .num (.t 3) (.c (.int .i64 18))),
 sD 30 (.mv (.t 32))])
 (.cond (.t 30) .skip
 (.seq (.reg 0 [] [] [sD 33 (.bin .eql .num (.t 3) (.c (.int .i64 22))),
 sD 30 (.mv (.t 33))])
 (.cond (.t 30) .skip
 (.reg 0 [] [] [sD 34 (.bin .eql .num (.t 3) (.c (.int .i64 23))),
 sD 30 (.mv (.t 34))])))))))
 (.cond (.t 30) (.seq (.reg 0 [] [] [sD 2 (.mv (.c (.str [65])))])
 .ret)
 (.seq (.reg 0 [] [] [sD 36 (.bin .eql .num (.t 3) (.c (.int .i64 17))),
 sD 35 (.mv (.t 36))])
 (.cond (.t 35) (.seq (.reg 0 [] [] [sD 2 (.mv (.c (.str [68, 65, 66, 67, 76, 108])))])
 .ret)
 (.seq (.reg 0 [] [] [sD 38 (.bin .eql .num (.t 3) (.c (.int .i64 20))),
 sD 37 (.mv (.t 38))])
 (.cond (.t 37) (.seq (.reg 0 [] [] [sD 2 (.mv (.c (.str [65, 76, 77, 66])))])
 .ret)
 (.seq (.reg 0 [] [] [sD 40 (.bin .eql .num (.t 3) (.c (.int .i64 21))),
 sD 39 (.mv (.t 40))])
 (.cond (.t 39) (.seq (.reg 0 [] [] [sD 2 (.mv (.c (.str [65, 76])))])
 .ret)
 .skip))))))))))))))))))))))))))))))
 (.seq (.reg 0 [] [] [sD 2 (.mv (.c (.str [])))])
 .ret)))
def fn10 : IFun := ⟨41, [(.tmp 2)], an10.erase⟩
theorem ok10 : okFun Try.prog 10 fn10 = true := by kernel_rfl
theorem oka10 : okA fn10.ntmps fn10.results an10 = true := by kernel_rfl
def sh10 (C : CallA) (op0 : AV) (h : H) (R : AV → H → Prop) : Prop :=
 valA (binOp .eql .num op0 (.int .i64 1)) h fun t5 h =>
 condA t5
  (R (.str [68, 78]) h)
  (valA (binOp .eql .num op0 (.int .i64 2)) h fun t7 h =>
  condA t7
   (R (.str [68, 65, 108]) h)
   (joinA (fun (t8' : AV) (h : H) =>
    condA t8'
     (R (.str [68, 65]) h)
     (valA (binOp .eql .num op0 (.int .i64 4)) h fun t12 h =>
     condA t12
      (R (.str [68, 65, 66, 78]) h)
      (valA (binOp .eql .num op0 (.int .i64 5)) h fun t14 h =>
      condA t14
       (R (.str [68, 65, 76, 108]) h)
       (joinA (fun (t15' : AV) (h : H) =>
        condA t15'
         (R (.str [68, 65, 66]) h)
         (joinA (fun (t20' : AV) (h : H) =>
          condA t20'
           (R (.str [65, 66, 67]) h)
           (valA (binOp .eql .num op0 (.int .i64 8)) h fun t25 h =>
           condA t25
            (R (.str [68, 65, 66, 67, 108]) h)
            (valA (binOp .eql .num op0 (.int .i64 13)) h fun t27 h =>
            condA t27
             (R (.str [68, 65, 66, 108]) h)
             (valA (binOp .eql .num op0 (.int .i64 15)) h fun t29 h =>
             condA t29
              (R (.str [68]) h)
              (joinA (fun (t30' : AV) (h : H) =>
               condA t30'
                (R (.str [65]) h)
                (valA (binOp .eql .num op0 (.int .i64 17)) h fun t36 h =>
                condA t36
                 (R (.str [68, 65, 66, 67, 76, 108]) h)
                 (valA (binOp .eql .num op0 (.int .i64 20)) h fun t38 h =>
                 condA t38
                  (R (.str [65, 76, 77, 66]) h)
                  (valA (binOp .eql .num op0 (.int .i64 21)) h fun t40 h =>
                  condA t40
                   (R (.str [65, 76]) h)
                   (R (.str []) h))))) fun J =>
              valA (binOp .eql .num op0 (.int .i64 16)) h fun t31 h =>
              condA t31
               (J t31 h)
               (valA (binOp .eql .num op0 (.int .i64 18)) h fun t32 h =>
               condA t32
                (J t32 h)
                (valA (binOp .eql .num op0 (.int .i64 22)) h fun t33 h =>
                condA t33
                 (J t33 h)
                 (valA (binOp .eql .num op0 (.int .i64 23)) h fun t34 h =>
                 J t34 h)))))))) fun J_0 =>
         valA (binOp .eql .num op0 (.int .i64 7)) h fun t21 h =>
         condA t21
          (J_0 t21 h)
          (valA (binOp .eql .num op0 (.int .i64 10)) h fun t22 h =>
          condA t22
           (J_0 t22 h)
           (valA (binOp .eql .num op0 (.int .i64 19)) h fun t23 h =>
           J_0 t23 h)))) fun J_1 =>
       valA (binOp .eql .num op0 (.int .i64 6)) h fun t16 h =>
       condA t16
        (J_1 t16 h)
        (valA (binOp .eql .num op0 (.int .i64 9)) h fun t17 h =>
        condA t17
         (J_1 t17 h)
         (valA (binOp .eql .num op0 (.int .i64 12)) h fun t18 h =>
         condA t18
          (J_1 t18 h)
          (valA (binOp .eql .num op0 (.int .i64 14)) h fun t19 h =>
          J_1 t19 h))))))) fun J_2 =>
   valA (binOp .eql .num op0 (.int .i64 3)) h fun t9 h =>
   condA t9
    (J_2 t9 h)
    (valA (binOp .eql .num op0 (.int .i64 11)) h fun t10 h =>
    J_2 t10 h)))
theorem she10 (C : CallA) (op0 : AV) (h : H) (R : AV → H → Prop) : wpA C an10 (argE [op0]) h (outA [(.tmp 2)] R) = sh10 C op0 h R := by kernel_rfl
/-! bellows/code.Plain -/
def an12 : ACode :=
 (.seq (.reg 0 [] [] [sD 1 (.bx none 24 (.t 0)),
 sD 2 (.mv (.c (.bool false)))])
 (.seq (.reg 0 [] [] [sD 8 (.ld (some 9) (.t 1)),
 sD 3 (.al none 24 [(.int .i64 0), (.int .i64 0), (.int .i64 0), (.int .i64 0), (.int .i64 0), (.int .i64 0), .nilsl, .nilsl, .nilsl]),
 sN (.st 9 (.t 3) (.t 8))])
 (.seq (.reg 0 [] [] [sD 9 (.fa 0 (.t 1)),
 sD 10 (.ld none (.t 9)),
 sD 11 (.call 10 [(.t 10)]),
 sD 4 (.mv (.t 11))])
 (.seq (.seq (.reg 0 [] [] [sD 12 (.mv (.t 4)),
 sD 13 (.cv none (.s2b 5) (.t 12)),
 sD 14 (.len false (.t 13)),
 sD 15 (.mv (.c (.int .i64 0)))])
 (.block 0 (.loop [15] 57368 (.seq (.reg 0 [] [] [sD 16 (.bin .lss .num (.t 15) (.t 14))])
 (.seq (.cond (.t 16) .skip
 (.exit 0))
 (.seq (.block 1 (.seq (.reg 0 [] [] [sD 17 (.ia none 1 (.t 13) (.t 15)),
 sD 18 (.ld none (.t 17)),
 sD 6 (.mv (.t 18))])
 (.seq (.reg 0 [] [] [sD 19 (.mv (.t 6)),
 sD 20 (.bin .eql .num (.t 19) (.c (.int .u8 78)))])
 (.cond (.t 20) (.reg 0 [] [] [sD 21 (.fa 5 (.t 3)),
 sN (.st 1 (.t 21) (.c (.int .i64 0)))])
 (.seq (.reg 0 [] [] [sD 22 (.mv (.t 6)),
 sD 23 (.call 23 [(.t 3), (.t 22)]),
 sD 7 (.mv (.t 23))])
 (.seq (.reg 0 [] [] [sD 24 (.mv (.t 7)),
 sD 25 (.bin .neq .ptr (.t 24) (.c .nilp))])
 (.cond (.t 25) (.reg 0 [] [] [sD 26 (.mv (.t 7)),
 sD 27 (.nilc (.t 26)),
 sN (.st 1 (.t 27) (.c (.int .i64 0)))])
 (.reg 0 [] [] [sD 28 (.mv (.t 6)),
 sD 29 (.call 24 [(.t 3), (.t 28)]),
 sD 30 (.nilc (.t 29)),
 sN (.st 1 (.t 30) (.c .nilsl))]))))))))
 (.reg 0 [] [] [sD 31 (.bin .add .num (.t 15) (.c (.int .i64 1))),
 sD 15 (.mv (.t 31))])))))))
 (.seq (.reg 0 [] [] [sD 32 (.mv (.t 4)),
 sD 33 (.bin .neq .num (.t 32) (.c (.str []))),
 sD 34 (.mv (.t 33)),
 sG 35 34 true (.fa 1 (.t 3)),
 sG 36 34 true (.ld none (.t 35)),
 sG 37 34 true (.bin .eql .num (.t 36) (.c (.int .i64 0))),
 sD 38 (.pick (.t 34) (.t 37) (.c (.bool false))),
 sD 39 (.mv (.t 38)),
 sG 40 39 true (.fa 2 (.t 3)),
 sG 41 39 true (.ld none (.t 40)),
 sG 42 39 true (.bin .eql .num (.t 41) (.c (.int .i64 0))),
 sD 43 (.pick (.t 39) (.t 42) (.c (.bool false))),
 sD 44 (.mv (.t 43)),
 sG 45 44 true (.fa 3 (.t 3)),
 sG 46 44 true (.ld none (.t 45)),
 sG 47 44 true (.bin .eql .num (.t 46) (.c (.int .i64 0))),
 sD 48 (.pick (.t 44) (.t 47) (.c (.bool false))),
 sD 49 (.mv (.t 48)),
 sG 50 49 true (.fa 4 (.t 3)),
 sG 51 49 true (.ld none (.t 50)),
 sG 52 49 true (.bin .eql .num (.t 51) (.c (.int .i64 0))),
 sD 53 (.pick (.t 49) (.t 52) (.c (.bool false))),
 sD 54 (.mv (.t 53)),
 sG 55 54 true (.fa 5 (.t 3)),
 sG 56 54 true (.ld none (.t 55)),
 sG 57 54 true (.bin .eql .num (.t 56) (.c (.int .i64 0))),
 sD 58 (.pick (.t 54) (.t 57) (.c (.bool false))),
 sD 59 (.mv (.t 58)),
 sG 60 59 true (.fa 6 (.t 3)),
 sG 61 59 true (.ld none (.t 60)),
 sG 62 59 true (.len false (.t 61)),
 sG 63 59 true (.bin .eql .num (.t 62) (.c (.int .i64 0))),
 sD 64 (.pick (.t 59) (.t 63) (.c (.bool false))),
 sD 65 (.mv (.t 64)),
 sG 66 65 true (.fa 7 (.t 3)),
 sG 67 65 true (.ld none (.t 66)),
 sG 68 65 true (.len false (.t 67)),
 sG 69 65 true (.bin .eql .num (.t 68) (.c (.int .i64 0))),
 sD 70 (.pick (.t 65) (.t 69) (.c (.bool false))),
 sD 71 (.mv (.t 70)),
 sG 72 71 true (.fa 8 (.t 3)),
 sG 73 71 true (.ld none (.t 72)),
 sG 74 71 true (.len false (.t 73)),
 sG 75 71 true (.bin .eql .num (.t 74) (.c (.int .i64 0))),
 sD 76 (.pick (.t 71) (.t 75) (.c (.bool false))),
 sD 2 (.mv (.t 76))])
 .ret)))))
def fn12 : IFun := ⟨77, [(.tmp 2)], an12.erase⟩
theorem ok12 : okFun Try.prog 12 fn12 = true := by kernel_rfl
theorem oka12 : okA fn12.ntmps fn12.results an12 = true := by kernel_rfl
def sh12 (C : CallA) (x0 : AV) (h : H) (R : AV → H → Prop) : Prop :=
 boxA h (AV.cells x0) 24 fun x1 h =>
 valA (ldA h (some 9) x1) h fun t8 h =>
 boxA h [(.int .i64 0), (.int .i64 0), (.int .i64 0), (.int .i64 0), (.int .i64 0), (.int .i64 0), .nilsl, .nilsl, .nilsl] 24 fun y3 h =>
 memA (stA h 9 y3 t8) .undef fun _ h =>
 valA (faA 0 x1) h fun t9 h =>
 valA (ldA h none t9) h fun t10 h =>
 C 10 [t10] h fun t11 h =>
 joinA (fun (h : H) =>
  valA (binOp .neq .num t11 (.str [])) h fun t33 h =>
  whenA t33 true (fun K => valA (faA 1 y3) h K) h fun t35 h =>
  whenA t33 true (fun K => valA (ldA h none t35) h K) h fun t36 h =>
  whenA t33 true (fun K => valA (binOp .eql .num t36 (.int .i64 0)) h K) h fun t37 h =>
  valA (pickA t33 t37 (.bool false)) h fun t38 h =>
  whenA t38 true (fun K => valA (faA 2 y3) h K) h fun t40 h =>
  whenA t38 true (fun K => valA (ldA h none t40) h K) h fun t41 h =>
  whenA t38 true (fun K => valA (binOp .eql .num t41 (.int .i64 0)) h K) h fun t42 h =>
  valA (pickA t38 t42 (.bool false)) h fun t43 h =>
  whenA t43 true (fun K => valA (faA 3 y3) h K) h fun t45 h =>
  whenA t43 true (fun K => valA (ldA h none t45) h K) h fun t46 h =>
  whenA t43 true (fun K => valA (binOp .eql .num t46 (.int .i64 0)) h K) h fun t47 h =>
  valA (pickA t43 t47 (.bool false)) h fun t48 h =>
  whenA t48 true (fun K => valA (faA 4 y3) h K) h fun t50 h =>
  whenA t48 true (fun K => valA (ldA h none t50) h K) h fun t51 h =>
  whenA t48 true (fun K => valA (binOp .eql .num t51 (.int .i64 0)) h K) h fun t52 h =>
  valA (pickA t48 t52 (.bool false)) h fun t53 h =>
  whenA t53 true (fun K => valA (faA 5 y3) h K) h fun t55 h =>
  whenA t53 true (fun K => valA (ldA h none t55) h K) h fun t56 h =>
  whenA t53 true (fun K => valA (binOp .eql .num t56 (.int .i64 0)) h K) h fun t57 h =>
  valA (pickA t53 t57 (.bool false)) h fun t58 h =>
  whenA t58 true (fun K => valA (faA 6 y3) h K) h fun t60 h =>
  whenA t58 true (fun K => valA (ldA h none t60) h K) h fun t61 h =>
  whenA t58 true (fun K => valA (lenA false t61) h K) h fun t62 h =>
  whenA t58 true (fun K => valA (binOp .eql .num t62 (.int .i64 0)) h K) h fun t63 h =>
  valA (pickA t58 t63 (.bool false)) h fun t64 h =>
  whenA t64 true (fun K => valA (faA 7 y3) h K) h fun t66 h =>
  whenA t64 true (fun K => valA (ldA h none t66) h K) h fun t67 h =>
  whenA t64 true (fun K => valA (lenA false t67) h K) h fun t68 h =>
  whenA t64 true (fun K => valA (binOp .eql .num t68 (.int .i64 0)) h K) h fun t69 h =>
  valA (pickA t64 t69 (.bool false)) h fun t70 h =>
  whenA t70 true (fun K => valA (faA 8 y3) h K) h fun t72 h =>
  whenA t70 true (fun K => valA (ldA h none t72) h K) h fun t73 h =>
  whenA t70 true (fun K => valA (lenA false t73) h K) h fun t74 h =>
  whenA t70 true (fun K => valA (binOp .eql .num t74 (.int .i64 0)) h K) h fun t75 h =>
  valA (pickA t70 t75 (.bool false)) h fun t76 h =>
  R t76 h) fun J =>
 s2bA h 5 t11 fun t13 h =>
 valA (lenA false t13) h fun t14 h =>
 loopA (fun N l h => argA l 0 fun t15 => 
  valA (binOp .lss .num t15 t14) h fun t16 h =>
  condA t16
   (joinA (fun (h : H) =>
   valA (binOp .add .num t15 (.int .i64 1)) h fun t31 h =>
   N [t31] h) fun J_16 =>
  valA (iaA 1 t13 t15) h fun t17 h =>
  valA (ldA h none t17) h fun t18 h =>
  valA (binOp .eql .num t18 (.int .u8 78)) h fun t20 h =>
  condA t20
   (valA (faA 5 y3) h fun t21 h =>
   memA (stA h 1 t21 (.int .i64 0)) .undef fun _ h =>
   J_16 h)
   (C 23 [y3, t18] h fun t23 h =>
   valA (binOp .neq .ptr t23 .nilp) h fun t25 h =>
   condA t25
    (valA (nilcA t23) h fun t27 h =>
    memA (stA h 1 t27 (.int .i64 0)) .undef fun _ h =>
    J_16 h)
    (C 24 [y3, t18] h fun t29 h =>
    valA (nilcA t29) h fun t30 h =>
    memA (stA h 1 t30 .nilsl) .undef fun _ h =>
    J_16 h)))
   (J h)) [(.int .i64 0)] h
theorem she12 (C : CallA) (x0 : AV) (h : H) (R : AV → H → Prop) : wpA C an12 (argE [x0]) h (outA [(.tmp 2)] R) = sh12 C x0 h R := by kernel_rfl
/-! bellows/bellowslaw04.lives -/
def an14 : ACode :=
 (.seq (.reg 0 [] [] [sD 0 (.mv (.c (.bool false)))])
 (.seq (.reg 0 [] [] [sD 8 (.build [.nilsl, .nilsl, .nilsl, .nilsl, .nilsl, (.int .i64 0), (.int .i64 0)] []),
 sD 9 (.call 16 [(.t 8)]),
 sD 7 (.mv (.t 9)),
 sD 10 (.ext (.t 7) 0),
 sD 11 (.ext (.t 7) 1),
 sD 1 (.mv (.t 10)),
 sD 2 (.mv (.t 11))])
 (.seq (.reg 0 [] [] [sD 13 (.mksl none 5 [(.int .u8 0), (.int .u8 0), (.int .u8 0)] 3 [(0, 1, (.c (.int .u8 66))), (1, 1, (.c (.int .u8 69))), (2, 1, (.c (.int .u8 76)))]),
 sD 14 (.cv none .keep (.t 13)),
 sD 15 (.call 20 [(.t 14)]),
 sD 12 (.mv (.t 15)),
 sD 16 (.ext (.t 12) 0),
 sD 17 (.ext (.t 12) 1),
 sD 3 (.al none 34 [.nilsl, .nilsl, .nilsl, .nilsl, .nilsl, (.int .i64 0), (.int .i64 0)]),
 sN (.st 7 (.t 3) (.t 16)),
 sD 4 (.mv (.t 17))])
 (.seq (.reg 0 [] [] [sD 19 (.mv (.t 1)),
 sD 20 (.call 20 [(.t 19)]),
 sD 18 (.mv (.t 20)),
 sD 21 (.ext (.t 18) 0),
 sD 22 (.ext (.t 18) 1),
 sD 5 (.al none 34 [.nilsl, .nilsl, .nilsl, .nilsl, .nilsl, (.int .i64 0), (.int .i64 0)]),
 sN (.st 7 (.t 5) (.t 21)),
 sD 6 (.mv (.t 22))])
 (.seq (.reg 0 [] [] [sD 23 (.mv (.t 2)),
 sD 24 (.bin .eql .num (.t 23) (.c (.int .i64 0))),
 sD 25 (.mv (.t 24)),
 sG 26 25 true (.mv (.t 4)),
 sG 27 25 true (.bin .eql .num (.t 26) (.c (.int .i64 20))),
 sD 28 (.pick (.t 25) (.t 27) (.c (.bool false))),
 sD 29 (.mv (.t 28)),
 sG 30 29 true (.mv (.t 6)),
 sG 31 29 true (.bin .eql .num (.t 30) (.c (.int .i64 0))),
 sD 32 (.pick (.t 29) (.t 31) (.c (.bool false))),
 sD 33 (.mv (.t 32)),
 sG 34 33 true (.mv (.t 1)),
 sG 35 33 true (.cv none .b2s (.t 34)),
 sG 36 33 true (.bin .eql .num (.t 35) (.c (.str [66, 69, 76, 49, 0, 0, 0, 0, 0, 0, 0]))),
 sD 37 (.pick (.t 33) (.t 36) (.c (.bool false))),
 sD 38 (.mv (.t 37)),
 sG 39 38 true (.fa 5 (.t 5)),
 sG 40 38 true (.ld none (.t 39)),
 sG 41 38 true (.bin .eql .num (.t 40) (.c (.int .i64 0))),
 sD 42 (.pick (.t 38) (.t 41) (.c (.bool false))),
 sD 43 (.mv (.t 42)),
 sG 44 43 true (.call 10 [(.c (.int .i64 19))]),
 sG 45 43 true (.bin .eql .num (.t 44) (.c (.str [65, 66, 67]))),
 sD 46 (.pick (.t 43) (.t 45) (.c (.bool false))),
 sD 47 (.mv (.t 46)),
 sG 48 47 true (.build [(.int .i64 0), (.int .i64 0), (.int .i64 0), (.int .i64 0), (.int .i64 0), (.int .i64 0), .nilsl, .nilsl, .nilsl] [(0, 1, (.c (.int .i64 18))), (2, 1, (.c (.int .i64 3)))]),
 sG 49 47 true (.call 12 [(.t 48)]),
 sD 50 (.pick (.t 47) (.t 49) (.c (.bool false))),
 sD 51 (.mv (.t 50)),
 sG 52 51 true (.build [(.int .i64 0), (.int .i64 0), (.int .i64 0), (.int .i64 0), (.int .i64 0), (.int .i64 0), .nilsl, .nilsl, .nilsl] [(0, 1, (.c (.int .i64 18))), (2, 1, (.c (.int .i64 3))), (1, 1, (.c (.int .i64 1)))]),
 sG 53 51 true (.call 12 [(.t 52)]),
 sG 54 51 true (.un .not (.t 53)),
 sD 55 (.pick (.t 51) (.t 54) (.c (.bool false))),
 sD 0 (.mv (.t 55))])
 .ret)))))
def fn14 : IFun := ⟨56, [(.tmp 0)], an14.erase⟩
theorem ok14 : okFun Try.prog 14 fn14 = true := by kernel_rfl
theorem oka14 : okA fn14.ntmps fn14.results an14 = true := by kernel_rfl
def sh14 (C : CallA) (h : H) (R : AV → H → Prop) : Prop :=
 valA (buildA (fillV [.nilsl, .nilsl, .nilsl, .nilsl, .nilsl, (.int .i64 0), (.int .i64 0)] [])) h fun t8 h =>
 C 16 [t8] h fun t9 h =>
 valA (extA t9 0) h fun t10 h =>
 valA (extA t9 1) h fun t11 h =>
 mkslA h 5 3 (fillV [(.int .u8 0), (.int .u8 0), (.int .u8 0)] [(0, 1, (.int .u8 66)), (1, 1, (.int .u8 69)), (2, 1, (.int .u8 76))]) fun t13 h =>
 valA (keepA h t13) h fun t14 h =>
 C 20 [t14] h fun t15 h =>
 valA (extA t15 0) h fun t16 h =>
 valA (extA t15 1) h fun t17 h =>
 boxA h [.nilsl, .nilsl, .nilsl, .nilsl, .nilsl, (.int .i64 0), (.int .i64 0)] 34 fun t3 h =>
 memA (stA h 7 t3 t16) .undef fun _ h =>
 C 20 [t10] h fun t20 h =>
 valA (extA t20 0) h fun t21 h =>
 valA (extA t20 1) h fun t22 h =>
 boxA h [.nilsl, .nilsl, .nilsl, .nilsl, .nilsl, (.int .i64 0), (.int .i64 0)] 34 fun m5 h =>
 memA (stA h 7 m5 t21) .undef fun _ h =>
 valA (binOp .eql .num t11 (.int .i64 0)) h fun t24 h =>
 whenA t24 true (fun K => K t17 h) h fun t26 h =>
 whenA t24 true (fun K => valA (binOp .eql .num t26 (.int .i64 20)) h K) h fun t27 h =>
 valA (pickA t24 t27 (.bool false)) h fun t28 h =>
 whenA t28 true (fun K => K t22 h) h fun t30 h =>
 whenA t28 true (fun K => valA (binOp .eql .num t30 (.int .i64 0)) h K) h fun t31 h =>
 valA (pickA t28 t31 (.bool false)) h fun t32 h =>
 whenA t32 true (fun K => K t10 h) h fun t34 h =>
 whenA t32 true (fun K => valA (b2sA h t34) h K) h fun t35 h =>
 whenA t32 true (fun K => valA (binOp .eql .num t35 (.str [66, 69, 76, 49, 0, 0, 0, 0, 0, 0, 0])) h K) h fun t36 h =>
 valA (pickA t32 t36 (.bool false)) h fun t37 h =>
 whenA t37 true (fun K => valA (faA 5 m5) h K) h fun t39 h =>
 whenA t37 true (fun K => valA (ldA h none t39) h K) h fun t40 h =>
 whenA t37 true (fun K => valA (binOp .eql .num t40 (.int .i64 0)) h K) h fun t41 h =>
 valA (pickA t37 t41 (.bool false)) h fun t42 h =>
 whenA t42 true (fun K => C 10 [(.int .i64 19)] h K) h fun t44 h =>
 whenA t42 true (fun K => valA (binOp .eql .num t44 (.str [65, 66, 67])) h K) h fun t45 h =>
 valA (pickA t42 t45 (.bool false)) h fun t46 h =>
 whenA t46 true (fun K => valA (buildA (fillV [(.int .i64 0), (.int .i64 0), (.int .i64 0), (.int .i64 0), (.int .i64 0), (.int .i64 0), .nilsl, .nilsl, .nilsl] [(0, 1, (.int .i64 18)), (2, 1, (.int .i64 3))])) h K) h fun t48 h =>
 whenA t46 true (fun K => C 12 [t48] h K) h fun t49 h =>
 valA (pickA t46 t49 (.bool false)) h fun t50 h =>
 whenA t50 true (fun K => valA (buildA (fillV [(.int .i64 0), (.int .i64 0), (.int .i64 0), (.int .i64 0), (.int .i64 0), (.int .i64 0), .nilsl, .nilsl, .nilsl] [(0, 1, (.int .i64 18)), (2, 1, (.int .i64 3)), (1, 1, (.int .i64 1))])) h K) h fun t52 h =>
 whenA t50 true (fun K => C 12 [t52] h K) h fun t53 h =>
 whenA t50 true (fun K => valA (unOp .not t53) h K) h fun t54 h =>
 valA (pickA t50 t54 (.bool false)) h fun t55 h =>
 R t55 h
theorem she14 (C : CallA) (h : H) (R : AV → H → Prop) : wpA C an14 (argE []) h (outA [(.tmp 0)] R) = sh14 C h R := by kernel_rfl
/-! bellows/code.Encode -/
def an16 : ACode :=
 (.seq (.reg 0 [] [] [sD 1 (.bx none 34 (.t 0)),
 sD 2 (.mv (.c .nilsl)),
 sD 3 (.mv (.c (.int .i64 0)))])
 (.seq (.seq (.reg 0 [] [] [sD 6 (.ld (some 7) (.t 1)),
 sD 7 (.call 18 [(.t 6)]),
 sD 4 (.mv (.t 7))])
 (.seq (.reg 0 [] [] [sD 8 (.mv (.t 4)),
 sD 9 (.bin .neq .num (.t 8) (.c (.int .i64 0)))])
 (.cond (.t 9) (.seq (.reg 0 [] [] [sD 10 (.mv (.t 4)),
 sD 2 (.mv (.c .nilsl)),
 sD 3 (.mv (.t 10))])
 .ret)
 .skip)))
 (.seq (.reg 0 [] [] [sD 11 (.mksl none 5 [(.int .u8 0), (.int .u8 0), (.int .u8 0), (.int .u8 0)] 4 [(0, 1, (.c (.int .u8 66))), (1, 1, (.c (.int .u8 69))), (2, 1, (.c (.int .u8 76))), (3, 1, (.c (.int .u8 49)))]),
 sD 12 (.cv none .keep (.t 11)),
 sD 13 (.build [.nilsl] [(0, 1, (.t 12))]),
 sD 14 (.bx none 68 (.t 13)),
 sD 5 (.mv (.t 14))])
 (.seq (.reg 0 [] [] [sD 15 (.mv (.t 5)),
 sD 16 (.fa 0 (.t 1)),
 sD 17 (.ld none (.t 16)),
 sD 18 (.mv (.t 5)),
 sD 19 (.mkf 27 [(.t 18)] []),
 sD 20 (.call 26 [(.t 15), (.t 17), (.t 19)])])
 (.seq (.reg 0 [] [] [sD 21 (.mv (.t 5)),
 sD 22 (.fa 1 (.t 1)),
 sD 23 (.ld none (.t 22)),
 sD 24 (.mv (.t 5)),
 sD 25 (.mkf 29 [(.t 24)] []),
 sD 26 (.call 28 [(.t 21), (.t 23), (.t 25)])])
 (.seq (.reg 0 [] [] [sD 27 (.mv (.t 5)),
 sD 28 (.fa 2 (.t 1)),
 sD 29 (.ld none (.t 28)),
 sD 30 (.mv (.t 5)),
 sD 31 (.mkf 31 [(.t 30)] []),
 sD 32 (.call 30 [(.t 27), (.t 29), (.t 31)])])
 (.seq (.reg 0 [] [] [sD 33 (.mv (.t 5)),
 sD 34 (.fa 3 (.t 1)),
 sD 35 (.ld none (.t 34)),
 sD 36 (.mv (.t 5)),
 sD 37 (.mkf 31 [(.t 36)] []),
 sD 38 (.call 30 [(.t 33), (.t 35), (.t 37)])])
 (.seq (.reg 0 [] [] [sD 39 (.mv (.t 5)),
 sD 40 (.fa 4 (.t 1)),
 sD 41 (.ld none (.t 40)),
 sD 42 (.mv (.t 5)),
 sD 43 (.mkf 33 [(.t 42)] []),
 sD 44 (.call 32 [(.t 39), (.t 41), (.t 43)])])
 (.seq (.reg 0 [] [] [sD 45 (.mv (.t 5)),
 sD 46 (.fa 5 (.t 1)),
 sD 47 (.ld none (.t 46)),
 sD 48 (.call 34 [(.t 45), (.t 47)])])
 (.seq (.reg 0 [] [] [sD 49 (.mv (.t 5)),
 sD 50 (.fa 6 (.t 1)),
 sD 51 (.ld none (.t 50)),
 sD 52 (.call 34 [(.t 49), (.t 51)])])
 (.seq (.reg 0 [] [] [sD 53 (.mv (.t 5)),
 sD 54 (.nilc (.t 53)),
 sD 55 (.fa 0 (.t 54)),
 sD 56 (.ld none (.t 55)),
 sD 2 (.mv (.t 56)),
 sD 3 (.mv (.c (.int .i64 0)))])
 .ret)))))))))))
def fn16 : IFun := ⟨57, [(.tmp 2), (.tmp 3)], an16.erase⟩
theorem ok16 : okFun Try.prog 16 fn16 = true := by kernel_rfl
theorem oka16 : okA fn16.ntmps fn16.results an16 = true := by kernel_rfl
def sh16 (C : CallA) (m0 : AV) (h : H) (R : AV → H → Prop) : Prop :=
 boxA h (AV.cells m0) 34 fun m1 h =>
 valA (ldA h (some 7) m1) h fun t6 h =>
 C 18 [t6] h fun t7 h =>
 valA (binOp .neq .num t7 (.int .i64 0)) h fun t9 h =>
 condA t9
  (R (.tup [.nilsl, t7]) h)
  (mkslA h 5 4 (fillV [(.int .u8 0), (.int .u8 0), (.int .u8 0), (.int .u8 0)] [(0, 1, (.int .u8 66)), (1, 1, (.int .u8 69)), (2, 1, (.int .u8 76)), (3, 1, (.int .u8 49))]) fun t11 h =>
 valA (keepA h t11) h fun t12 h =>
 valA (buildA (fillV [.nilsl] [(0, 1, t12)])) h fun t13 h =>
 boxA h (AV.cells t13) 68 fun t14 h =>
 valA (faA 0 m1) h fun t16 h =>
 valA (ldA h none t16) h fun t17 h =>
 C 26 [t14, t17, (.fn 27 [t14] [])] h fun t20 h =>
 valA (faA 1 m1) h fun t22 h =>
 valA (ldA h none t22) h fun t23 h =>
 C 28 [t14, t23, (.fn 29 [t14] [])] h fun t26 h =>
 valA (faA 2 m1) h fun t28 h =>
 valA (ldA h none t28) h fun t29 h =>
 C 30 [t14, t29, (.fn 31 [t14] [])] h fun t32 h =>
 valA (faA 3 m1) h fun t34 h =>
 valA (ldA h none t34) h fun t35 h =>
 C 30 [t14, t35, (.fn 31 [t14] [])] h fun t38 h =>
 valA (faA 4 m1) h fun t40 h =>
 valA (ldA h none t40) h fun t41 h =>
 C 32 [t14, t41, (.fn 33 [t14] [])] h fun t44 h =>
 valA (faA 5 m1) h fun t46 h =>
 valA (ldA h none t46) h fun t47 h =>
 C 34 [t14, t47] h fun t48 h =>
 valA (faA 6 m1) h fun t50 h =>
 valA (ldA h none t50) h fun t51 h =>
 C 34 [t14, t51] h fun t52 h =>
 valA (nilcA t14) h fun t54 h =>
 valA (faA 0 t54) h fun t55 h =>
 valA (ldA h none t55) h fun t56 h =>
 R (.tup [t56, (.int .i64 0)]) h)
theorem she16 (C : CallA) (m0 : AV) (h : H) (R : AV → H → Prop) : wpA C an16 (argE [m0]) h (outA [(.tmp 2), (.tmp 3)] R) = sh16 C m0 h R := by kernel_rfl
/-! bellows/code.Check -/
def an18 : ACode :=
 (.seq (.reg 0 [] [] [sD 1 (.bx none 34 (.t 0)),
 sD 2 (.mv (.c (.int .i64 0)))])
 (.seq (.seq (.reg 0 [] [] [sD 7 (.ld (some 7) (.t 1)),
 sD 8 (.call 36 [(.t 7)])])
 (.cond (.t 8) (.seq (.reg 0 [] [] [sD 2 (.mv (.c (.int .i64 2)))])
 .ret)
 .skip))
 (.seq (.seq (.reg 0 [] [] [sD 9 (.fa 4 (.t 1)),
 sD 10 (.ld none (.t 9)),
 sD 11 (.len false (.t 10)),
 sD 12 (.mv (.c (.int .i64 0)))])
 (.block 0 (.loop [12] 7168 (.seq (.reg 0 [] [] [sD 13 (.bin .lss .num (.t 12) (.t 11))])
 (.seq (.cond (.t 13) .skip
 (.exit 0))
 (.seq (.block 1 (.seq (.reg 0 [] [] [sD 14 (.ia none 4 (.t 10) (.t 12)),
 sD 15 (.ld (some 4) (.t 14)),
 sD 4 (.al none 51 [.nilsl, (.int .i64 0), (.int .i64 0), .nilsl]),
 sN (.st 4 (.t 4) (.t 15))])
 (.seq (.reg 0 [] [] [sD 16 (.fa 3 (.t 4)),
 sD 17 (.ld none (.t 16)),
 sD 18 (.len false (.t 17)),
 sD 19 (.mv (.c (.int .i64 0)))])
 (.block 2 (.loop [19] 924672 (.seq (.reg 0 [] [] [sD 20 (.bin .lss .num (.t 19) (.t 18))])
 (.seq (.cond (.t 20) .skip
 (.exit 2))
 (.seq (.block 3 (.seq (.reg 0 [] [] [sD 21 (.ia none 2 (.t 17) (.t 19)),
 sD 22 (.ld (some 2) (.t 21)),
 sD 6 (.al none 58 [.nilsl, .nilsl]),
 sN (.st 2 (.t 6) (.t 22))])
 (.seq (.reg 0 [] [] [sD 23 (.fa 1 (.t 6)),
 sD 24 (.ld none (.t 23)),
 sD 25 (.call 37 [(.t 24), (.c (.fn 38 [] []))])])
 (.cond (.t 25) (.seq (.reg 0 [] [] [sD 2 (.mv (.c (.int .i64 1)))])
 .ret)
 .skip))))
 (.reg 0 [] [] [sD 26 (.bin .add .num (.t 19) (.c (.int .i64 1))),
 sD 19 (.mv (.t 26))])))))))))
 (.reg 0 [] [] [sD 27 (.bin .add .num (.t 12) (.c (.int .i64 1))),
 sD 12 (.mv (.t 27))])))))))
 (.seq (.reg 0 [] [] [sD 2 (.mv (.c (.int .i64 0)))])
 .ret))))
def fn18 : IFun := ⟨28, [(.tmp 2)], an18.erase⟩
theorem ok18 : okFun Try.prog 18 fn18 = true := by kernel_rfl
theorem oka18 : okA fn18.ntmps fn18.results an18 = true := by kernel_rfl
def sh18 (C : CallA) (m0 : AV) (h : H) (R : AV → H → Prop) : Prop :=
 boxA h (AV.cells m0) 34 fun m1 h =>
 valA (ldA h (some 7) m1) h fun t7 h =>
 C 36 [t7] h fun t8 h =>
 condA t8
  (R (.int .i64 2) h)
  (joinA (fun (h : H) =>
  R (.int .i64 0) h) fun J =>
 valA (faA 4 m1) h fun t9 h =>
 valA (ldA h none t9) h fun t10 h =>
 valA (lenA false t10) h fun t11 h =>
 loopA (fun N l h => argA l 0 fun t12 => 
  valA (binOp .lss .num t12 t11) h fun t13 h =>
  condA t13
   (joinA (fun (h : H) =>
   valA (binOp .add .num t12 (.int .i64 1)) h fun t27 h =>
   N [t27] h) fun J_16 =>
  valA (iaA 4 t10 t12) h fun t14 h =>
  valA (ldA h (some 4) t14) h fun t15 h =>
  boxA h [.nilsl, (.int .i64 0), (.int .i64 0), .nilsl] 51 fun f4 h =>
  memA (stA h 4 f4 t15) .undef fun _ h =>
  valA (faA 3 f4) h fun t16 h =>
  valA (ldA h none t16) h fun t17 h =>
  valA (lenA false t17) h fun t18 h =>
  loopA (fun N_17 l h => argA l 0 fun t19 => 
   valA (binOp .lss .num t19 t18) h fun t20 h =>
   condA t20
    (valA (iaA 2 t17 t19) h fun t21 h =>
   valA (ldA h (some 2) t21) h fun t22 h =>
   boxA h [.nilsl, .nilsl] 58 fun b6 h =>
   memA (stA h 2 b6 t22) .undef fun _ h =>
   valA (faA 1 b6) h fun t23 h =>
   valA (ldA h none t23) h fun t24 h =>
   C 37 [t24, (.fn 38 [] [])] h fun t25 h =>
   condA t25
    (R (.int .i64 1) h)
    (valA (binOp .add .num t19 (.int .i64 1)) h fun t26 h =>
   N_17 [t26] h))
    (J_16 h)) [(.int .i64 0)] h)
   (J h)) [(.int .i64 0)] h)
theorem she18 (C : CallA) (m0 : AV) (h : H) (R : AV → H → Prop) : wpA C an18 (argE [m0]) h (outA [(.tmp 2)] R) = sh18 C m0 h R := by kernel_rfl
/-! bellows/code.Decode -/
def an20 : ACode :=
 (.seq (.reg 0 [] [] [sD 2 (.al none 34 [.nilsl, .nilsl, .nilsl, .nilsl, .nilsl, (.int .i64 0), (.int .i64 0)]),
 sD 3 (.mv (.c (.int .i64 0)))])
 (.seq (.seq (.reg 0 [] [] [sD 6 (.mv (.t 0)),
 sD 7 (.len false (.t 6)),
 sD 8 (.bin .lss .num (.t 7) (.c (.int .i64 4))),
 sD 9 (.mv (.t 8)),
 sG 10 9 false (.mv (.t 0)),
 sG 11 9 false (.sli (.row 1) (.t 10) none (some (.c (.int .i64 4))) none),
 sG 12 9 false (.cv none .b2s (.t 11)),
 sG 13 9 false (.bin .neq .num (.t 12) (.c (.str [66, 69, 76, 49]))),
 sD 14 (.pick (.t 9) (.c (.bool true)) (.t 13))])
 (.cond (.t 14) (.seq (.reg 0 [] [] [sD 15 (.build [.nilsl, .nilsl, .nilsl, .nilsl, .nilsl, (.int .i64 0), (.int .i64 0)] []),
 sN (.st 7 (.t 2) (.t 15)),
 sD 3 (.mv (.c (.int .i64 20)))])
 .ret)
 .skip))
 (.seq (.reg 0 [] [] [sD 16 (.mv (.t 0)),
 sD 17 (.build [.nilsl, (.int .i64 0), (.bool false)] [(0, 1, (.t 16)), (1, 1, (.c (.int .i64 4)))]),
 sD 18 (.bx none 85 (.t 17)),
 sD 4 (.mv (.t 18))])
 (.seq (.reg 0 [] [] [sD 5 (.al none 34 [.nilsl, .nilsl, .nilsl, .nilsl, .nilsl, (.int .i64 0), (.int .i64 0)])])
 (.seq (.reg 0 [] [] [sD 19 (.mv (.t 4)),
 sD 20 (.mv (.t 4)),
 sD 21 (.mkf 44 [(.t 20)] []),
 sD 22 (.call 43 [(.t 19), (.t 21)]),
 sD 23 (.fa 0 (.t 5)),
 sN (.st 1 (.t 23) (.t 22))])
 (.seq (.reg 0 [] [] [sD 24 (.mv (.t 4)),
 sD 25 (.mv (.t 4)),
 sD 26 (.mkf 46 [(.t 25)] []),
 sD 27 (.call 45 [(.t 24), (.t 26)]),
 sD 28 (.fa 1 (.t 5)),
 sN (.st 1 (.t 28) (.t 27))])
 (.seq (.reg 0 [] [] [sD 29 (.mv (.t 4)),
 sD 30 (.mv (.t 4)),
 sD 31 (.mkf 48 [(.t 30)] []),
 sD 32 (.call 47 [(.t 29), (.t 31)]),
 sD 33 (.fa 2 (.t 5)),
 sN (.st 1 (.t 33) (.t 32))])
 (.seq (.reg 0 [] [] [sD 34 (.mv (.t 4)),
 sD 35 (.mv (.t 4)),
 sD 36 (.mkf 48 [(.t 35)] []),
 sD 37 (.call 47 [(.t 34), (.t 36)]),
 sD 38 (.fa 3 (.t 5)),
 sN (.st 1 (.t 38) (.t 37))])
 (.seq (.reg 0 [] [] [sD 39 (.mv (.t 4)),
 sD 40 (.mv (.t 4)),
 sD 41 (.mkf 50 [(.t 40)] []),
 sD 42 (.call 49 [(.t 39), (.t 41)]),
 sD 43 (.fa 4 (.t 5)),
 sN (.st 1 (.t 43) (.t 42))])
 (.seq (.reg 0 [] [] [sD 44 (.mv (.t 4)),
 sD 45 (.call 51 [(.t 44)]),
 sD 46 (.fa 5 (.t 5)),
 sN (.st 1 (.t 46) (.t 45))])
 (.seq (.reg 0 [] [] [sD 47 (.mv (.t 4)),
 sD 48 (.call 51 [(.t 47)]),
 sD 49 (.fa 6 (.t 5)),
 sN (.st 1 (.t 49) (.t 48))])
 (.seq (.seq (.reg 0 [] [] [sD 50 (.mv (.t 4)),
 sD 51 (.nilc (.t 50)),
 sD 52 (.fa 2 (.t 51)),
 sD 53 (.ld none (.t 52)),
 sD 54 (.mv (.t 53)),
 sG 55 54 false (.mv (.t 4)),
 sG 56 54 false (.nilc (.t 55)),
 sG 57 54 false (.fa 1 (.t 56)),
 sG 58 54 false (.ld none (.t 57)),
 sG 59 54 false (.mv (.t 0)),
 sG 60 54 false (.len false (.t 59)),
 sG 61 54 false (.bin .neq .num (.t 58) (.t 60)),
 sD 62 (.pick (.t 54) (.c (.bool true)) (.t 61)),
 sD 63 (.mv (.t 62)),
 sG 64 63 false (.ld (some 7) (.t 5)),
 sG 65 63 false (.call 18 [(.t 64)]),
 sG 66 63 false (.bin .neq .num (.t 65) (.c (.int .i64 0))),
 sD 67 (.pick (.t 63) (.c (.bool true)) (.t 66))])
 (.cond (.t 67) (.seq (.reg 0 [] [] [sD 68 (.build [.nilsl, .nilsl, .nilsl, .nilsl, .nilsl, (.int .i64 0), (.int .i64 0)] []),
 sN (.st 7 (.t 2) (.t 68)),
 sD 3 (.mv (.c (.int .i64 20)))])
 .ret)
 .skip))
 (.seq (.reg 0 [] [] [sD 69 (.ld (some 7) (.t 5)),
 sN (.st 7 (.t 2) (.t 69)),
 sD 3 (.mv (.c (.int .i64 0)))])
 .ret)))))))))))))
def fn20 : IFun := ⟨70, [(.cell 2 (some 7)), (.tmp 3)], an20.erase⟩
theorem ok20 : okFun Try.prog 20 fn20 = true := by kernel_rfl
theorem oka20 : okA fn20.ntmps fn20.results an20 = true := by kernel_rfl
def sh20 (C : CallA) (b0 : AV) (h : H) (R : AV → H → Prop) : Prop :=
 boxA h [.nilsl, .nilsl, .nilsl, .nilsl, .nilsl, (.int .i64 0), (.int .i64 0)] 34 fun t2 h =>
 valA (lenA false b0) h fun t7 h =>
 valA (binOp .lss .num t7 (.int .i64 4)) h fun t8 h =>
 whenA t8 false (fun K => K b0 h) h fun t10 h =>
 whenA t8 false (fun K => valA (sliceOp (.row 1) t10 none (some (.int .i64 4)) none) h K) h fun t11 h =>
 whenA t8 false (fun K => valA (b2sA h t11) h K) h fun t12 h =>
 whenA t8 false (fun K => valA (binOp .neq .num t12 (.str [66, 69, 76, 49])) h K) h fun t13 h =>
 valA (pickA t8 (.bool true) t13) h fun t14 h =>
 condA t14
  (valA (buildA (fillV [.nilsl, .nilsl, .nilsl, .nilsl, .nilsl, (.int .i64 0), (.int .i64 0)] [])) h fun t15 h =>
  memA (stA h 7 t2 t15) .undef fun _ h =>
  valA (ldA h (some 7) t2) h fun res _ => R (.tup [res, (.int .i64 20)]) h)
  (valA (buildA (fillV [.nilsl, (.int .i64 0), (.bool false)] [(0, 1, b0), (1, 1, (.int .i64 4))])) h fun t17 h =>
 boxA h (AV.cells t17) 85 fun t18 h =>
 boxA h [.nilsl, .nilsl, .nilsl, .nilsl, .nilsl, (.int .i64 0), (.int .i64 0)] 34 fun m5 h =>
 C 43 [t18, (.fn 44 [t18] [])] h fun t22 h =>
 valA (faA 0 m5) h fun t23 h =>
 memA (stA h 1 t23 t22) .undef fun _ h =>
 C 45 [t18, (.fn 46 [t18] [])] h fun t27 h =>
 valA (faA 1 m5) h fun t28 h =>
 memA (stA h 1 t28 t27) .undef fun _ h =>
 C 47 [t18, (.fn 48 [t18] [])] h fun t32 h =>
 valA (faA 2 m5) h fun t33 h =>
 memA (stA h 1 t33 t32) .undef fun _ h =>
 C 47 [t18, (.fn 48 [t18] [])] h fun t37 h =>
 valA (faA 3 m5) h fun t38 h =>
 memA (stA h 1 t38 t37) .undef fun _ h =>
 C 49 [t18, (.fn 50 [t18] [])] h fun t42 h =>
 valA (faA 4 m5) h fun t43 h =>
 memA (stA h 1 t43 t42) .undef fun _ h =>
 C 51 [t18] h fun t45 h =>
 valA (faA 5 m5) h fun t46 h =>
 memA (stA h 1 t46 t45) .undef fun _ h =>
 C 51 [t18] h fun t48 h =>
 valA (faA 6 m5) h fun t49 h =>
 memA (stA h 1 t49 t48) .undef fun _ h =>
 valA (nilcA t18) h fun t51 h =>
 valA (faA 2 t51) h fun t52 h =>
 valA (ldA h none t52) h fun t53 h =>
 whenA t53 false (fun K => K t18 h) h fun t55 h =>
 whenA t53 false (fun K => valA (nilcA t55) h K) h fun t56 h =>
 whenA t53 false (fun K => valA (faA 1 t56) h K) h fun t57 h =>
 whenA t53 false (fun K => valA (ldA h none t57) h K) h fun t58 h =>
 whenA t53 false (fun K => K b0 h) h fun t59 h =>
 whenA t53 false (fun K => valA (lenA false t59) h K) h fun t60 h =>
 whenA t53 false (fun K => valA (binOp .neq .num t58 t60) h K) h fun t61 h =>
 valA (pickA t53 (.bool true) t61) h fun t62 h =>
 whenA t62 false (fun K => valA (ldA h (some 7) m5) h K) h fun t64 h =>
 whenA t62 false (fun K => C 18 [t64] h K) h fun t65 h =>
 whenA t62 false (fun K => valA (binOp .neq .num t65 (.int .i64 0)) h K) h fun t66 h =>
 valA (pickA t62 (.bool true) t66) h fun t67 h =>
 condA t67
  (valA (buildA (fillV [.nilsl, .nilsl, .nilsl, .nilsl, .nilsl, (.int .i64 0), (.int .i64 0)] [])) h fun t68 h =>
  memA (stA h 7 t2 t68) .undef fun _ h =>
  valA (ldA h (some 7) t2) h fun res_0 _ => R (.tup [res_0, (.int .i64 20)]) h)
  (valA (ldA h (some 7) m5) h fun t69 h =>
 memA (stA h 7 t2 t69) .undef fun _ h =>
 valA (ldA h (some 7) t2) h fun res_1 _ => R (.tup [res_1, (.int .i64 0)]) h))
theorem she20 (C : CallA) (b0 : AV) (h : H) (R : AV → H → Prop) : wpA C an20 (argE [b0]) h (outA [(.cell 2 (some 7)), (.tmp 3)] R) = sh20 C b0 h R := by kernel_rfl
/-! bellows/code.Same -/
def an21 : ACode :=
 (.seq (.reg 0 [] [] [sD 2 (.bx none 34 (.t 0)),
 sD 3 (.bx none 34 (.t 1)),
 sD 4 (.mv (.c (.bool false)))])
 (.seq (.reg 0 [] [] [sD 5 (.fa 0 (.t 2)),
 sD 6 (.ld none (.t 5)),
 sD 7 (.fa 0 (.t 3)),
 sD 8 (.ld none (.t 7)),
 sD 9 (.call 52 [(.t 6), (.t 8), (.c (.fn 53 [] []))]),
 sD 10 (.mv (.t 9)),
 sG 11 10 true (.fa 1 (.t 2)),
 sG 12 10 true (.ld none (.t 11)),
 sG 13 10 true (.fa 1 (.t 3)),
 sG 14 10 true (.ld none (.t 13)),
 sG 15 10 true (.call 55 [(.t 12), (.t 14), (.c (.fn 56 [] []))]),
 sD 16 (.pick (.t 10) (.t 15) (.c (.bool false))),
 sD 17 (.mv (.t 16)),
 sG 18 17 true (.fa 2 (.t 2)),
 sG 19 17 true (.ld none (.t 18)),
 sG 20 17 true (.fa 2 (.t 3)),
 sG 21 17 true (.ld none (.t 20)),
 sG 22 17 true (.call 57 [(.t 19), (.t 21)]),
 sD 23 (.pick (.t 17) (.t 22) (.c (.bool false))),
 sD 24 (.mv (.t 23)),
 sG 25 24 true (.fa 3 (.t 2)),
 sG 26 24 true (.ld none (.t 25)),
 sG 27 24 true (.fa 3 (.t 3)),
 sG 28 24 true (.ld none (.t 27)),
 sG 29 24 true (.call 57 [(.t 26), (.t 28)]),
 sD 30 (.pick (.t 24) (.t 29) (.c (.bool false))),
 sD 31 (.mv (.t 30)),
 sG 32 31 true (.fa 4 (.t 2)),
 sG 33 31 true (.ld none (.t 32)),
 sG 34 31 true (.fa 4 (.t 3)),
 sG 35 31 true (.ld none (.t 34)),
 sG 36 31 true (.call 58 [(.t 33), (.t 35), (.c (.fn 59 [] []))]),
 sD 37 (.pick (.t 31) (.t 36) (.c (.bool false))),
 sD 38 (.mv (.t 37)),
 sG 39 38 true (.fa 5 (.t 2)),
 sG 40 38 true (.ld none (.t 39)),
 sG 41 38 true (.fa 5 (.t 3)),
 sG 42 38 true (.ld none (.t 41)),
 sG 43 38 true (.bin .eql .num (.t 40) (.t 42)),
 sD 44 (.pick (.t 38) (.t 43) (.c (.bool false))),
 sD 45 (.mv (.t 44)),
 sG 46 45 true (.fa 6 (.t 2)),
 sG 47 45 true (.ld none (.t 46)),
 sG 48 45 true (.fa 6 (.t 3)),
 sG 49 45 true (.ld none (.t 48)),
 sG 50 45 true (.bin .eql .num (.t 47) (.t 49)),
 sD 51 (.pick (.t 45) (.t 50) (.c (.bool false))),
 sD 4 (.mv (.t 51))])
 .ret))
def fn21 : IFun := ⟨52, [(.tmp 4)], an21.erase⟩
theorem ok21 : okFun Try.prog 21 fn21 = true := by kernel_rfl
theorem oka21 : okA fn21.ntmps fn21.results an21 = true := by kernel_rfl
def sh21 (C : CallA) (a0 b1 : AV) (h : H) (R : AV → H → Prop) : Prop :=
 boxA h (AV.cells a0) 34 fun a2 h =>
 boxA h (AV.cells b1) 34 fun b3 h =>
 valA (faA 0 a2) h fun t5 h =>
 valA (ldA h none t5) h fun t6 h =>
 valA (faA 0 b3) h fun t7 h =>
 valA (ldA h none t7) h fun t8 h =>
 C 52 [t6, t8, (.fn 53 [] [])] h fun t9 h =>
 whenA t9 true (fun K => valA (faA 1 a2) h K) h fun t11 h =>
 whenA t9 true (fun K => valA (ldA h none t11) h K) h fun t12 h =>
 whenA t9 true (fun K => valA (faA 1 b3) h K) h fun t13 h =>
 whenA t9 true (fun K => valA (ldA h none t13) h K) h fun t14 h =>
 whenA t9 true (fun K => C 55 [t12, t14, (.fn 56 [] [])] h K) h fun t15 h =>
 valA (pickA t9 t15 (.bool false)) h fun t16 h =>
 whenA t16 true (fun K => valA (faA 2 a2) h K) h fun t18 h =>
 whenA t16 true (fun K => valA (ldA h none t18) h K) h fun t19 h =>
 whenA t16 true (fun K => valA (faA 2 b3) h K) h fun t20 h =>
 whenA t16 true (fun K => valA (ldA h none t20) h K) h fun t21 h =>
 whenA t16 true (fun K => C 57 [t19, t21] h K) h fun t22 h =>
 valA (pickA t16 t22 (.bool false)) h fun t23 h =>
 whenA t23 true (fun K => valA (faA 3 a2) h K) h fun t25 h =>
 whenA t23 true (fun K => valA (ldA h none t25) h K) h fun t26 h =>
 whenA t23 true (fun K => valA (faA 3 b3) h K) h fun t27 h =>
 whenA t23 true (fun K => valA (ldA h none t27) h K) h fun t28 h =>
 whenA t23 true (fun K => C 57 [t26, t28] h K) h fun t29 h =>
 valA (pickA t23 t29 (.bool false)) h fun t30 h =>
 whenA t30 true (fun K => valA (faA 4 a2) h K) h fun t32 h =>
 whenA t30 true (fun K => valA (ldA h none t32) h K) h fun t33 h =>
 whenA t30 true (fun K => valA (faA 4 b3) h K) h fun t34 h =>
 whenA t30 true (fun K => valA (ldA h none t34) h K) h fun t35 h =>
 whenA t30 true (fun K => C 58 [t33, t35, (.fn 59 [] [])] h K) h fun t36 h =>
 valA (pickA t30 t36 (.bool false)) h fun t37 h =>
 whenA t37 true (fun K => valA (faA 5 a2) h K) h fun t39 h =>
 whenA t37 true (fun K => valA (ldA h none t39) h K) h fun t40 h =>
 whenA t37 true (fun K => valA (faA 5 b3) h K) h fun t41 h =>
 whenA t37 true (fun K => valA (ldA h none t41) h K) h fun t42 h =>
 whenA t37 true (fun K => valA (binOp .eql .num t40 t42) h K) h fun t43 h =>
 valA (pickA t37 t43 (.bool false)) h fun t44 h =>
 whenA t44 true (fun K => valA (faA 6 a2) h K) h fun t46 h =>
 whenA t44 true (fun K => valA (ldA h none t46) h K) h fun t47 h =>
 whenA t44 true (fun K => valA (faA 6 b3) h K) h fun t48 h =>
 whenA t44 true (fun K => valA (ldA h none t48) h K) h fun t49 h =>
 whenA t44 true (fun K => valA (binOp .eql .num t47 t49) h K) h fun t50 h =>
 valA (pickA t44 t50 (.bool false)) h fun t51 h =>
 R t51 h
theorem she21 (C : CallA) (a0 b1 : AV) (h : H) (R : AV → H → Prop) : wpA C an21 (argE [a0, b1]) h (outA [(.tmp 4)] R) = sh21 C a0 b1 h R := by kernel_rfl
/-! bellows/code.number -/
def an23 : ACode :=
 (.seq (.reg 0 [] [] [sD 4 (.mv (.c .nilp))])
 (.seq (.seq (.reg 0 [] [] [sD 5 (.mv (.t 1))])
 (.block 0 (.seq (.reg 0 [] [] [sD 7 (.bin .eql .num (.t 5) (.c (.int .u8 68))),
 sD 6 (.mv (.t 7))])
 (.cond (.t 6) (.seq (.reg 0 [] [] [sD 8 (.mv (.t 0)),
 sD 9 (.nilc (.t 8)),
 sD 10 (.fa 1 (.t 9)),
 sD 4 (.mv (.t 10))])
 .ret)
 (.seq (.reg 0 [] [] [sD 12 (.bin .eql .num (.t 5) (.c (.int .u8 65))),
 sD 11 (.mv (.t 12))])
 (.cond (.t 11) (.seq (.reg 0 [] [] [sD 13 (.mv (.t 0)),
 sD 14 (.nilc (.t 13)),
 sD 15 (.fa 2 (.t 14)),
 sD 4 (.mv (.t 15))])
 .ret)
 (.seq (.reg 0 [] [] [sD 17 (.bin .eql .num (.t 5) (.c (.int .u8 66))),
 sD 16 (.mv (.t 17))])
 (.cond (.t 16) (.seq (.reg 0 [] [] [sD 18 (.mv (.t 0)),
 sD 19 (.nilc (.t 18)),
 sD 20 (.fa 3 (.t 19)),
 sD 4 (.mv (.t 20))])
 .ret)
 (.seq (.reg 0 [] [] [sD 22 (.bin .eql .num (.t 5) (.c (.int .u8 67))),
 sD 21 (.mv (.t 22))])
 (.cond (.t 21) (.seq (.reg 0 [] [] [sD 23 (.mv (.t 0)),
 sD 24 (.nilc (.t 23)),
 sD 25 (.fa 4 (.t 24)),
 sD 4 (.mv (.t 25))])
 .ret)
 .skip))))))))))
 (.seq (.reg 0 [] [] [sD 4 (.mv (.c .nilp))])
 .ret)))
def fn23 : IFun := ⟨26, [(.tmp 4)], an23.erase⟩
theorem ok23 : okFun Try.prog 23 fn23 = true := by kernel_rfl
theorem oka23 : okA fn23.ntmps fn23.results an23 = true := by kernel_rfl
def sh23 (C : CallA) (x0 c1 : AV) (h : H) (R : AV → H → Prop) : Prop :=
 valA (binOp .eql .num c1 (.int .u8 68)) h fun t7 h =>
 condA t7
  (valA (nilcA x0) h fun t9 h =>
  valA (faA 1 t9) h fun t10 h =>
  R t10 h)
  (valA (binOp .eql .num c1 (.int .u8 65)) h fun t12 h =>
  condA t12
   (valA (nilcA x0) h fun t14 h =>
   valA (faA 2 t14) h fun t15 h =>
   R t15 h)
   (valA (binOp .eql .num c1 (.int .u8 66)) h fun t17 h =>
   condA t17
    (valA (nilcA x0) h fun t19 h =>
    valA (faA 3 t19) h fun t20 h =>
    R t20 h)
    (valA (binOp .eql .num c1 (.int .u8 67)) h fun t22 h =>
    condA t22
     (valA (nilcA x0) h fun t24 h =>
     valA (faA 4 t24) h fun t25 h =>
     R t25 h)
     (R .nilp h))))
theorem she23 (C : CallA) (x0 c1 : AV) (h : H) (R : AV → H → Prop) : wpA C an23 (argE [x0, c1]) h (outA [(.tmp 4)] R) = sh23 C x0 c1 h R := by kernel_rfl
/-! bellows/code.list -/
def an24 : ACode :=
 (.seq (.reg 0 [] [] [sD 4 (.mv (.c .nilp))])
 (.seq (.seq (.reg 0 [] [] [sD 5 (.mv (.t 1))])
 (.block 0 (.seq (.reg 0 [] [] [sD 7 (.bin .eql .num (.t 5) (.c (.int .u8 76))),
 sD 6 (.mv (.t 7))])
 (.cond (.t 6) (.seq (.reg 0 [] [] [sD 8 (.mv (.t 0)),
 sD 9 (.nilc (.t 8)),
 sD 10 (.fa 6 (.t 9)),
 sD 4 (.mv (.t 10))])
 .ret)
 (.seq (.reg 0 [] [] [sD 12 (.bin .eql .num (.t 5) (.c (.int .u8 77))),
 sD 11 (.mv (.t 12))])
 (.cond (.t 11) (.seq (.reg 0 [] [] [sD 13 (.mv (.t 0)),
 sD 14 (.nilc (.t 13)),
 sD 15 (.fa 7 (.t 14)),
 sD 4 (.mv (.t 15))])
 .ret)
 .skip))))))
 (.seq (.reg 0 [] [] [sD 16 (.mv (.t 0)),
 sD 17 (.nilc (.t 16)),
 sD 18 (.fa 8 (.t 17)),
 sD 4 (.mv (.t 18))])
 .ret)))
def fn24 : IFun := ⟨19, [(.tmp 4)], an24.erase⟩
theorem ok24 : okFun Try.prog 24 fn24 = true := by kernel_rfl
theorem oka24 : okA fn24.ntmps fn24.results an24 = true := by kernel_rfl
def sh24 (C : CallA) (x0 c1 : AV) (h : H) (R : AV → H → Prop) : Prop :=
 valA (binOp .eql .num c1 (.int .u8 76)) h fun t7 h =>
 condA t7
  (valA (nilcA x0) h fun t9 h =>
  valA (faA 6 t9) h fun t10 h =>
  R t10 h)
  (valA (binOp .eql .num c1 (.int .u8 77)) h fun t12 h =>
  condA t12
   (valA (nilcA x0) h fun t14 h =>
   valA (faA 7 t14) h fun t15 h =>
   R t15 h)
   (valA (nilcA x0) h fun t17 h =>
 valA (faA 8 t17) h fun t18 h =>
 R t18 h))
theorem she24 (C : CallA) (x0 c1 : AV) (h : H) (R : AV → H → Prop) : wpA C an24 (argE [x0, c1]) h (outA [(.tmp 4)] R) = sh24 C x0 c1 h R := by kernel_rfl
/-! bellows/code.many[bellows/api.Type] -/
def an26 : ACode :=
 (.seq (.reg 0 [] [] [sD 8 (.mv (.t 0)),
 sD 9 (.mv (.t 1)),
 sD 10 (.len false (.t 9)),
 sD 11 (.call 34 [(.t 8), (.t 10)])])
 (.seq (.reg 0 [] [] [sD 12 (.mv (.t 1)),
 sD 13 (.len false (.t 12)),
 sD 14 (.mv (.c (.int .i64 0)))])
 (.block 0 (.loop [14] 28676 (.seq (.reg 0 [] [] [sD 15 (.bin .lss .num (.t 14) (.t 13))])
 (.seq (.cond (.t 15) .skip
 (.exit 0))
 (.seq (.block 1 (.seq (.reg 0 [] [] [sD 16 (.ia none 2 (.t 12) (.t 14)),
 sD 17 (.ld (some 2) (.t 16)),
 sD 7 (.al none 53 [(.bool false), .nilsl]),
 sN (.st 2 (.t 7) (.t 17))])
 (.reg 0 [] [] [sD 18 (.mv (.t 2)),
 sD 19 (.ld (some 2) (.t 7)),
 sD 20 (.callv (.t 18) [(.t 19)])])))
 (.reg 0 [] [] [sD 21 (.bin .add .num (.t 14) (.c (.int .i64 1))),
 sD 14 (.mv (.t 21))]))))))))
def fn26 : IFun := ⟨22, [], an26.erase⟩
theorem ok26 : okFun Try.prog 26 fn26 = true := by kernel_rfl
theorem oka26 : okA fn26.ntmps fn26.results an26 = true := by kernel_rfl
def sh26 (C : CallA) (w0 l1 each2 : AV) (h : H) (R : AV → H → Prop) : Prop :=
 valA (lenA false l1) h fun t10 h =>
 C 34 [w0, t10] h fun t11 h =>
 valA (lenA false l1) h fun t13 h =>
 loopA (fun N l h => argA l 0 fun t14 => 
  valA (binOp .lss .num t14 t13) h fun t15 h =>
  condA t15
   (valA (iaA 2 l1 t14) h fun t16 h =>
  valA (ldA h (some 2) t16) h fun t17 h =>
  boxA h [(.bool false), .nilsl] 53 fun x7 h =>
  memA (stA h 2 x7 t17) .undef fun _ h =>
  valA (ldA h (some 2) x7) h fun t19 h =>
  callvA C each2 [t19] h fun t20 h =>
  valA (binOp .add .num t14 (.int .i64 1)) h fun t21 h =>
  N [t21] h)
   (R (.tup []) h)) [(.int .i64 0)] h
theorem she26 (C : CallA) (w0 l1 each2 : AV) (h : H) (R : AV → H → Prop) : wpA C an26 (argE [w0, l1, each2]) h (outA [] R) = sh26 C w0 l1 each2 h R := by kernel_rfl
/-! (*bellows/code.writer).kind -/
def an27 : ACode :=
 (.seq (.reg 0 [] [] [sD 3 (.bx none 53 (.t 1))])
 (.seq (.reg 0 [] [] [sD 4 (.mv (.c (.int .i64 0)))])
 (.seq (.seq (.reg 0 [] [] [sD 5 (.fa 0 (.t 3)),
 sD 6 (.ld none (.t 5))])
 (.cond (.t 6) (.reg 0 [] [] [sD 4 (.mv (.c (.int .i64 1)))])
 .skip))
 (.seq (.reg 0 [] [] [sD 7 (.mv (.t 0)),
 sD 8 (.mv (.t 4)),
 sD 9 (.call 34 [(.t 7), (.t 8)])])
 (.reg 0 [] [] [sD 10 (.mv (.t 0)),
 sD 11 (.fa 1 (.t 3)),
 sD 12 (.ld none (.t 11)),
 sD 13 (.call 60 [(.t 10), (.t 12)])])))))
def fn27 : IFun := ⟨14, [], an27.erase⟩
theorem ok27 : okFun Try.prog 27 fn27 = true := by kernel_rfl
theorem oka27 : okA fn27.ntmps fn27.results an27 = true := by kernel_rfl
def sh27 (C : CallA) (w0 t1 : AV) (h : H) (R : AV → H → Prop) : Prop :=
 boxA h (AV.cells t1) 53 fun t3 h =>
 joinA (fun (n4' : AV) (h : H) =>
  C 34 [w0, n4'] h fun t9 h =>
  valA (faA 1 t3) h fun t11 h =>
  valA (ldA h none t11) h fun t12 h =>
  C 60 [w0, t12] h fun t13 h =>
  R (.tup []) h) fun J =>
 valA (faA 0 t3) h fun t5 h =>
 valA (ldA h none t5) h fun t6 h =>
 condA t6
  (J (.int .i64 1) h)
  (J (.int .i64 0) h)
theorem she27 (C : CallA) (w0 t1 : AV) (h : H) (R : AV → H → Prop) : wpA C an27 (argE [w0, t1]) h (outA [] R) = sh27 C w0 t1 h R := by kernel_rfl
/-! bellows/code.many[bellows/api.Shape] -/
def an28 : ACode :=
 (.seq (.reg 0 [] [] [sD 8 (.mv (.t 0)),
 sD 9 (.mv (.t 1)),
 sD 10 (.len false (.t 9)),
 sD 11 (.call 34 [(.t 8), (.t 10)])])
 (.seq (.reg 0 [] [] [sD 12 (.mv (.t 1)),
 sD 13 (.len false (.t 12)),
 sD 14 (.mv (.c (.int .i64 0)))])
 (.block 0 (.loop [14] 28676 (.seq (.reg 0 [] [] [sD 15 (.bin .lss .num (.t 14) (.t 13))])
 (.seq (.cond (.t 15) .skip
 (.exit 0))
 (.seq (.block 1 (.seq (.reg 0 [] [] [sD 16 (.ia none 3 (.t 12) (.t 14)),
 sD 17 (.ld (some 3) (.t 16)),
 sD 7 (.al none 55 [(.int .i64 0), .nilsl, (.str [])]),
 sN (.st 3 (.t 7) (.t 17))])
 (.reg 0 [] [] [sD 18 (.mv (.t 2)),
 sD 19 (.ld (some 3) (.t 7)),
 sD 20 (.callv (.t 18) [(.t 19)])])))
 (.reg 0 [] [] [sD 21 (.bin .add .num (.t 14) (.c (.int .i64 1))),
 sD 14 (.mv (.t 21))]))))))))
def fn28 : IFun := ⟨22, [], an28.erase⟩
theorem ok28 : okFun Try.prog 28 fn28 = true := by kernel_rfl
theorem oka28 : okA fn28.ntmps fn28.results an28 = true := by kernel_rfl
def sh28 (C : CallA) (w0 l1 each2 : AV) (h : H) (R : AV → H → Prop) : Prop :=
 valA (lenA false l1) h fun t10 h =>
 C 34 [w0, t10] h fun t11 h =>
 valA (lenA false l1) h fun t13 h =>
 loopA (fun N l h => argA l 0 fun t14 => 
  valA (binOp .lss .num t14 t13) h fun t15 h =>
  condA t15
   (valA (iaA 3 l1 t14) h fun t16 h =>
  valA (ldA h (some 3) t16) h fun t17 h =>
  boxA h [(.int .i64 0), .nilsl, (.str [])] 55 fun x7 h =>
  memA (stA h 3 x7 t17) .undef fun _ h =>
  valA (ldA h (some 3) x7) h fun t19 h =>
  callvA C each2 [t19] h fun t20 h =>
  valA (binOp .add .num t14 (.int .i64 1)) h fun t21 h =>
  N [t21] h)
   (R (.tup []) h)) [(.int .i64 0)] h
theorem she28 (C : CallA) (w0 l1 each2 : AV) (h : H) (R : AV → H → Prop) : wpA C an28 (argE [w0, l1, each2]) h (outA [] R) = sh28 C w0 l1 each2 h R := by kernel_rfl
/-! (*bellows/code.writer).shape -/
def an29 : ACode :=
 (.seq (.reg 0 [] [] [sD 3 (.bx none 55 (.t 1))])
 (.seq (.reg 0 [] [] [sD 4 (.mv (.t 0)),
 sD 5 (.fa 0 (.t 3)),
 sD 6 (.ld none (.t 5)),
 sD 7 (.call 34 [(.t 4), (.t 6)])])
 (.seq (.reg 0 [] [] [sD 8 (.mv (.t 0)),
 sD 9 (.fa 1 (.t 3)),
 sD 10 (.ld none (.t 9)),
 sD 11 (.call 60 [(.t 8), (.t 10)])])
 (.reg 0 [] [] [sD 12 (.mv (.t 0)),
 sD 13 (.fa 2 (.t 3)),
 sD 14 (.ld none (.t 13)),
 sD 15 (.call 31 [(.t 12), (.t 14)])]))))
def fn29 : IFun := ⟨16, [], an29.erase⟩
theorem ok29 : okFun Try.prog 29 fn29 = true := by kernel_rfl
theorem oka29 : okA fn29.ntmps fn29.results an29 = true := by kernel_rfl
def sh29 (C : CallA) (w0 s1 : AV) (h : H) (R : AV → H → Prop) : Prop :=
 boxA h (AV.cells s1) 55 fun s3 h =>
 valA (faA 0 s3) h fun t5 h =>
 valA (ldA h none t5) h fun t6 h =>
 C 34 [w0, t6] h fun t7 h =>
 valA (faA 1 s3) h fun t9 h =>
 valA (ldA h none t9) h fun t10 h =>
 C 60 [w0, t10] h fun t11 h =>
 valA (faA 2 s3) h fun t13 h =>
 valA (ldA h none t13) h fun t14 h =>
 C 31 [w0, t14] h fun t15 h =>
 R (.tup []) h
theorem she29 (C : CallA) (w0 s1 : AV) (h : H) (R : AV → H → Prop) : wpA C an29 (argE [w0, s1]) h (outA [] R) = sh29 C w0 s1 h R := by kernel_rfl
/-! bellows/code.many[string] -/
def an30 : ACode :=
 (.seq (.reg 0 [] [] [sD 8 (.mv (.t 0)),
 sD 9 (.mv (.t 1)),
 sD 10 (.len false (.t 9)),
 sD 11 (.call 34 [(.t 8), (.t 10)])])
 (.seq (.reg 0 [] [] [sD 12 (.mv (.t 1)),
 sD 13 (.len false (.t 12)),
 sD 14 (.mv (.c (.int .i64 0)))])
 (.block 0 (.loop [14] 28676 (.seq (.reg 0 [] [] [sD 15 (.bin .lss .num (.t 14) (.t 13))])
 (.seq (.cond (.t 15) .skip
 (.exit 0))
 (.seq (.block 1 (.seq (.reg 0 [] [] [sD 16 (.ia none 1 (.t 12) (.t 14)),
 sD 17 (.ld none (.t 16)),
 sD 7 (.mv (.t 17))])
 (.reg 0 [] [] [sD 18 (.mv (.t 2)),
 sD 19 (.mv (.t 7)),
 sD 20 (.callv (.t 18) [(.t 19)])])))
 (.reg 0 [] [] [sD 21 (.bin .add .num (.t 14) (.c (.int .i64 1))),
 sD 14 (.mv (.t 21))]))))))))
def fn30 : IFun := ⟨22, [], an30.erase⟩
theorem ok30 : okFun Try.prog 30 fn30 = true := by kernel_rfl
theorem oka30 : okA fn30.ntmps fn30.results an30 = true := by kernel_rfl
def sh30 (C : CallA) (w0 l1 each2 : AV) (h : H) (R : AV → H → Prop) : Prop :=
 valA (lenA false l1) h fun t10 h =>
 C 34 [w0, t10] h fun t11 h =>
 valA (lenA false l1) h fun t13 h =>
 loopA (fun N l h => argA l 0 fun t14 => 
  valA (binOp .lss .num t14 t13) h fun t15 h =>
  condA t15
   (valA (iaA 1 l1 t14) h fun t16 h =>
  valA (ldA h none t16) h fun t17 h =>
  callvA C each2 [t17] h fun t20 h =>
  valA (binOp .add .num t14 (.int .i64 1)) h fun t21 h =>
  N [t21] h)
   (R (.tup []) h)) [(.int .i64 0)] h
theorem she30 (C : CallA) (w0 l1 each2 : AV) (h : H) (R : AV → H → Prop) : wpA C an30 (argE [w0, l1, each2]) h (outA [] R) = sh30 C w0 l1 each2 h R := by kernel_rfl
end Go.Proofs.Ytgcnliikibbcnaa.X
