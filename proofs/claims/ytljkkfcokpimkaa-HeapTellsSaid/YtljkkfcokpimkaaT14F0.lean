/- The plain programs of functions, printed; that they are the model's; what must hold ahead of each. -/
import Derived.Test.YtljkkfcokpimkaaProg
import Derived.Test.YtljkkfcokpimkaaXo
set_option maxRecDepth 100000
set_option linter.unusedVariables false
namespace Go.Proofs.Ytljkkfcokpimkaa.X
open Go
/-! bellows/bellowslaw02.HeapTells -/
def an14 : ACode :=
 (.seq (.reg 0 [] [] [sD 5 (.bx none 72 (.t 2)),
 sD 6 (.mv (.c (.bool false)))])
 (.seq (.reg 0 [] [] [sD 23 (.mv (.t 0)),
 sD 24 (.mv (.t 1)),
 sD 25 (.call 60 [(.c (.int .i64 1000)), (.t 23), (.t 24)]),
 sD 22 (.mv (.t 25)),
 sD 26 (.ext (.t 22) 0),
 sD 27 (.ext (.t 22) 1),
 sD 7 (.mv (.t 26)),
 sD 8 (.mv (.t 27))])
 (.seq (.seq (.reg 0 [] [] [sD 28 (.mv (.t 7)),
 sD 29 (.bin .eql .ptr (.t 28) (.c .nilp))])
 (.cond (.t 29) (.seq (.reg 0 [] [] [sD 30 (.call 51 []),
 sD 6 (.mv (.t 30))])
 .ret)
 .skip))
 (.seq (.reg 0 [0, 1, 2, 3, 4, 5, 6, 7] [[], [0], [0, 1], [1, 0, 2], [], [4], [4, 5, 2, 0, 1, 3], [3, 1, 0, 2, 5, 4, 6]] [sD 31 (.mv (.t 8)),
 sD 32 (.nilc (.t 31)),
 sD 33 (.fa 2 (.t 32)),
 sD 34 (.ld none (.t 33)),
 sD 35 (.fa 1 (.t 5)),
 sD 36 (.ld none (.t 35)),
 sD 37 (.call 61 [(.t 34), (.t 36)]),
 sD 9 (.mv (.t 37))])
 (.seq (.reg 0 [] [] [sD 38 (.mv (.t 8)),
 sD 39 (.mv (.t 9)),
 sD 40 (.call 67 [(.t 38), (.t 39)]),
 sD 10 (.mv (.t 40))])
 (.seq (.seq (.reg 0 [0, 1, 2, 3, 4, 5, 6, 7, 8, 9, 11, 12, 13, 10, 14, 15, 16] [[], [], [1, 0], [], [3], [3, 4, 0, 1, 2], [2, 1, 0, 4, 3, 5], [5, 3, 4, 0, 1, 2, 6], [5, 3, 4, 0, 1, 2, 6], [6, 2, 1, 0, 4, 3, 5, 8], [8, 9, 6, 2, 1, 0, 4, 3, 5, 7], [5, 3, 4, 0, 1, 2, 6], [5, 3, 4, 0, 1, 2, 6], [6, 2, 1, 0, 4, 3, 5, 12], [7, 9, 8, 10, 12, 13, 6, 2, 1, 0, 4, 3, 5, 11], [11, 13, 12, 14, 7, 5, 3, 4, 0, 1, 2, 6, 9, 8, 10], [10, 8, 9, 7, 14, 12, 13, 11, 15, 5, 3, 4, 0, 1, 2, 6]] [sD 41 (.mv (.t 7)),
 sD 42 (.mv (.t 9)),
 sD 43 (.call 56 [(.t 41), (.t 42)]),
 sD 44 (.mv (.t 10)),
 sD 45 (.bin .geq .num (.t 44) (.c (.int .i64 0))),
 sD 46 (.bin .neq .bool (.t 43) (.t 45)),
 sD 47 (.mv (.t 46)),
 sG 48 47 false (.mv (.t 7)),
 sG 49 47 false (.fa 3 (.t 5)),
 sG 50 47 false (.ld none (.t 49)),
 sG 52 47 false (.mv (.t 8)),
 sG 53 47 false (.fa 3 (.t 5)),
 sG 54 47 false (.ld none (.t 53)),
 ⟨(some 51), (some (47, false)), (.call 68 [(.t 48), (.t 50)]), [⟨(some (47, false)), (.ld none (.t 53)), 54⟩]⟩,
 sG 55 47 false (.call 69 [(.t 52), (.t 54)]),
 sG 56 47 false (.bin .neq .bool (.t 51) (.t 55)),
 sD 57 (.pick (.t 47) (.c (.bool true)) (.t 56))])
 (.cond (.t 57) (.seq (.reg 0 [] [] [sD 6 (.mv (.c (.bool false)))])
 .ret)
 .skip))
 (.seq (.reg 0 [] [] [sD 59 (.mv (.t 7)),
 sD 60 (.mv (.t 9)),
 sD 61 (.fa 2 (.t 5)),
 sD 62 (.ld none (.t 61)),
 sD 63 (.call 64 [(.t 59), (.t 60), (.t 62)]),
 sD 58 (.mv (.t 63)),
 sD 64 (.ext (.t 58) 0),
 sD 65 (.ext (.t 58) 1),
 sD 11 (.mv (.t 64)),
 sD 12 (.mv (.t 65))])
 (.seq (.reg 0 [] [] [sD 67 (.mv (.t 8)),
 sD 68 (.mv (.t 9)),
 sD 69 (.fa 2 (.t 5)),
 sD 70 (.ld none (.t 69)),
 sD 71 (.call 70 [(.t 67), (.t 68), (.t 70)]),
 sD 66 (.mv (.t 71)),
 sD 72 (.ext (.t 66) 0),
 sD 73 (.ext (.t 66) 1),
 sD 13 (.mv (.t 72)),
 sD 14 (.mv (.t 73))])
 (.seq (.reg 0 [] [] [sD 75 (.mv (.t 7)),
 sD 76 (.mv (.t 9)),
 sD 77 (.fa 2 (.t 5)),
 sD 78 (.ld none (.t 77)),
 sD 79 (.call 66 [(.t 75), (.t 76), (.t 78)]),
 sD 74 (.mv (.t 79)),
 sD 80 (.ext (.t 74) 0),
 sD 81 (.ext (.t 74) 1),
 sD 15 (.mv (.t 80)),
 sD 16 (.mv (.t 81))])
 (.seq (.reg 0 [] [] [sD 83 (.mv (.t 7)),
 sD 84 (.mv (.t 9)),
 sD 85 (.call 71 [(.t 83), (.t 84)]),
 sD 82 (.mv (.t 85)),
 sD 86 (.ext (.t 82) 0),
 sD 87 (.ext (.t 82) 1),
 sD 17 (.mv (.t 86)),
 sD 18 (.mv (.t 87))])
 (.seq (.reg 0 [] [] [sD 89 (.mv (.t 7)),
 sD 90 (.mv (.t 9)),
 sD 91 (.call 72 [(.t 89), (.t 90)]),
 sD 88 (.mv (.t 91)),
 sD 92 (.ext (.t 88) 0),
 sD 93 (.ext (.t 88) 1),
 sD 19 (.mv (.t 92)),
 sD 20 (.mv (.t 93))])
 (.seq (.seq (.reg 0 [] [] [sD 94 (.mv (.t 11)),
 sD 95 (.mv (.t 13)),
 sD 96 (.bin .neq .num (.t 94) (.t 95)),
 sD 97 (.mv (.t 96)),
 sG 98 97 false (.mv (.t 12)),
 sG 99 97 false (.mv (.t 14)),
 sG 100 97 false (.bin .neq .num (.t 98) (.t 99)),
 sD 101 (.pick (.t 97) (.c (.bool true)) (.t 100)),
 sD 102 (.mv (.t 101)),
 sG 103 102 false (.mv (.t 20)),
 sG 104 102 false (.bin .eql .num (.t 103) (.c (.int .i64 0))),
 sG 105 102 false (.mv (.t 10)),
 sG 106 102 false (.bin .geq .num (.t 105) (.c (.int .i64 0))),
 sG 107 102 false (.bin .neq .bool (.t 104) (.t 106)),
 sD 108 (.pick (.t 102) (.c (.bool true)) (.t 107))])
 (.cond (.t 108) (.seq (.reg 0 [] [] [sD 6 (.mv (.c (.bool false)))])
 .ret)
 .skip))
 (.seq (.seq (.reg 0 [0, 1, 2, 3, 4, 5, 6, 7, 8, 9, 10, 11, 12, 13, 14, 15, 16, 17, 18, 19] [[], [0], [0, 1], [1, 0, 2], [2, 0, 1, 3], [3, 1, 0, 2, 4], [4, 2, 0, 1, 3, 5], [1, 0, 2], [2, 0, 1, 7], [7, 1, 0, 2, 8], [8, 2, 0, 1, 7, 9], [1, 0, 2], [11, 9, 7, 1, 0, 2, 8, 10], [10, 8, 2, 0, 1, 7, 9, 11, 12], [12, 11, 9, 7, 1, 0, 2, 8, 10, 13], [13, 10, 8, 7, 9, 11, 12, 14, 5, 3, 1, 0, 2, 4, 6], [6, 4, 2, 0, 1, 3, 5, 14, 12, 11, 9, 7, 8, 10, 13, 15], [15, 13, 10, 8, 7, 9, 11, 12, 14, 5, 3, 1, 0, 2, 4, 6, 16], [16, 6, 4, 2, 0, 1, 3, 5, 14, 12, 11, 9, 7, 8, 10, 13, 15, 17], [17, 15, 13, 10, 8, 7, 9, 11, 12, 14, 5, 3, 4, 6, 16, 18, 1, 0, 2]] [sD 109 (.mv (.t 10)),
 sD 110 (.bin .lss .num (.t 109) (.c (.int .i64 0))),
 sD 111 (.mv (.t 110)),
 sG 112 111 false (.mv (.t 8)),
 sG 113 111 false (.nilc (.t 112)),
 sG 114 111 false (.fa 1 (.t 113)),
 sG 115 111 false (.ld none (.t 114)),
 sG 116 111 false (.mv (.t 8)),
 sG 117 111 false (.nilc (.t 116)),
 sG 118 111 false (.fa 2 (.t 117)),
 sG 119 111 false (.ld none (.t 118)),
 sG 120 111 false (.mv (.t 10)),
 sG 121 111 false (.ia none 5 (.t 119) (.t 120)),
 sG 122 111 false (.fa 1 (.t 121)),
 sG 123 111 false (.ld none (.t 122)),
 sG 124 111 false (.ia none 2 (.t 115) (.t 123)),
 sG 125 111 false (.fa 0 (.t 124)),
 sG 126 111 false (.ld none (.t 125)),
 sG 127 111 false (.bin .neq .num (.t 126) (.c (.int .i64 3))),
 sD 128 (.pick (.t 111) (.c (.bool true)) (.t 127))])
 (.cond (.t 128) (.seq (.reg 0 [] [] [sD 129 (.mv (.t 15)),
 sD 130 (.bin .eql .num (.t 129) (.c (.int .u8 0))),
 sD 131 (.mv (.t 130)),
 sG 132 131 true (.mv (.t 16)),
 sG 133 131 true (.bin .eql .num (.t 132) (.c (.int .i64 1))),
 sD 134 (.pick (.t 131) (.t 133) (.c (.bool false))),
 sD 135 (.mv (.t 134)),
 sG 136 135 true (.mv (.t 17)),
 sG 137 135 true (.bin .eql .num (.t 136) (.c (.str []))),
 sD 138 (.pick (.t 135) (.t 137) (.c (.bool false))),
 sD 139 (.mv (.t 138)),
 sG 140 139 true (.mv (.t 18)),
 sG 141 139 true (.bin .eql .num (.t 140) (.c (.int .i64 1))),
 sD 142 (.pick (.t 139) (.t 141) (.c (.bool false))),
 sD 143 (.mv (.t 142)),
 sG 144 143 true (.call 51 []),
 sD 145 (.pick (.t 143) (.t 144) (.c (.bool false))),
 sD 6 (.mv (.t 145))])
 .ret)
 .skip))
 (.seq (.reg 0 [] [] [sD 146 (.mv (.t 8)),
 sD 147 (.nilc (.t 146)),
 sD 148 (.fa 2 (.t 147)),
 sD 149 (.ld none (.t 148)),
 sD 150 (.mv (.t 10)),
 sD 151 (.ia none 5 (.t 149) (.t 150)),
 sD 152 (.ld (some 5) (.t 151)),
 sD 21 (.al none 89 [(.int .i64 0), (.int .i64 0), (.int .i64 0), .nilsl, .nilsl]),
 sN (.st 5 (.t 21) (.t 152))])
 (.seq (.seq (.reg 0 [] [] [sD 153 (.mv (.t 18)),
 sD 154 (.bin .neq .num (.t 153) (.c (.int .i64 0))),
 sD 155 (.mv (.t 154)),
 sG 156 155 false (.mv (.t 17)),
 sG 157 155 false (.fa 4 (.t 21)),
 sG 158 155 false (.ld none (.t 157)),
 sG 159 155 false (.cv none .b2s (.t 158)),
 sG 160 155 false (.bin .neq .num (.t 156) (.t 159)),
 sD 161 (.pick (.t 155) (.c (.bool true)) (.t 160)),
 sD 162 (.mv (.t 161)),
 sG 163 162 false (.mv (.t 19)),
 sG 164 162 false (.fa 2 (.t 21)),
 sG 165 162 false (.ld none (.t 164)),
 sG 166 162 false (.bin .neq .num (.t 163) (.t 165)),
 sD 167 (.pick (.t 162) (.c (.bool true)) (.t 166))])
 (.cond (.t 167) (.seq (.reg 0 [] [] [sD 6 (.mv (.c (.bool false)))])
 .ret)
 .skip))
 (.seq (.seq (.reg 0 [] [] [sD 168 (.fa 2 (.t 5)),
 sD 169 (.ld none (.t 168)),
 sD 170 (.bin .lss .num (.t 169) (.c (.int .i64 0))),
 sD 171 (.mv (.t 170)),
 sG 172 171 false (.fa 2 (.t 5)),
 sG 173 171 false (.ld none (.t 172)),
 sG 174 171 false (.fa 4 (.t 21)),
 sG 175 171 false (.ld none (.t 174)),
 sG 176 171 false (.len false (.t 175)),
 sG 177 171 false (.bin .geq .num (.t 173) (.t 176)),
 sD 178 (.pick (.t 171) (.c (.bool true)) (.t 177))])
 (.cond (.t 178) (.seq (.reg 0 [] [] [sD 179 (.mv (.t 15)),
 sD 180 (.bin .eql .num (.t 179) (.c (.int .u8 0))),
 sD 181 (.mv (.t 180)),
 sG 182 181 true (.mv (.t 16)),
 sG 183 181 true (.bin .eql .num (.t 182) (.c (.int .i64 1))),
 sD 184 (.pick (.t 181) (.t 183) (.c (.bool false))),
 sD 185 (.mv (.t 184)),
 sG 186 185 true (.call 51 []),
 sD 187 (.pick (.t 185) (.t 186) (.c (.bool false))),
 sD 6 (.mv (.t 187))])
 .ret)
 .skip))
 (.seq (.reg 0 [] [] [sD 188 (.mv (.t 15)),
 sD 189 (.fa 4 (.t 21)),
 sD 190 (.ld none (.t 189)),
 sD 191 (.fa 2 (.t 5)),
 sD 192 (.ld none (.t 191)),
 sD 193 (.ia none 1 (.t 190) (.t 192)),
 sD 194 (.ld none (.t 193)),
 sD 195 (.bin .eql .num (.t 188) (.t 194)),
 sD 196 (.mv (.t 195)),
 sG 197 196 true (.mv (.t 16)),
 sG 198 196 true (.bin .eql .num (.t 197) (.c (.int .i64 0))),
 sD 199 (.pick (.t 196) (.t 198) (.c (.bool false))),
 sD 200 (.mv (.t 199)),
 sG 201 200 true (.call 51 []),
 sD 202 (.pick (.t 200) (.t 201) (.c (.bool false))),
 sD 6 (.mv (.t 202))])
 .ret)))))))))))))))))
def fn14 : IFun := ⟨203, [(.tmp 6)], an14.erase⟩
theorem ok14 : okFun Try.prog 14 fn14 = true := by kernel_rfl
theorem oka14 : okA fn14.ntmps fn14.results an14 = true := by kernel_rfl
def sh14 (C : CallA) (layouts0 l1 q2 : AV) (h : H) (R : AV → H → Prop) : Prop :=
 newA h (AV.cells q2) 72 (fun b => .ptr b 0) fun q5 h =>
 C 60 [(.int .i64 1000), layouts0, l1] h fun t25 h =>
 valA (extA t25 0) h fun t26 h =>
 valA (extA t25 1) h fun t27 h =>
 valA (binOp .eql .ptr t26 .nilp) h fun t29 h =>
 condA t29
  (C 51 [] h fun t30 h =>
  R t30 h)
  (valA (nilcA t27) h fun t32 h =>
 valA (faA 2 t32) h fun t33 h =>
 valA (ldA h none t33) h fun t34 h =>
 valA (faA 1 q5) h fun t35 h =>
 valA (ldA h none t35) h fun t36 h =>
 C 61 [t34, t36] h fun t37 h =>
 C 67 [t27, t37] h fun t40 h =>
 C 56 [t26, t37] h fun t43 h =>
 valA (binOp .geq .num t40 (.int .i64 0)) h fun t45 h =>
 valA (binOp .neq .bool t43 t45) h fun t46 h =>
 whenA t46 false (fun K => K t26 h) h fun t48 h =>
 whenA t46 false (fun K => valA (faA 3 q5) h K) h fun t49 h =>
 whenA t46 false (fun K => valA (ldA h none t49) h K) h fun t50 h =>
 whenA t46 false (fun K => K t27 h) h fun t52 h =>
 whenA t46 false (fun K => valA (faA 3 q5) h K) h fun t53 h =>
 whenA t46 false (fun K => valA (ldA h none t53) h K) h fun t54 h =>
 whenA t46 false (fun K => C 68 [t48, t50] h K) h fun t51 h =>
 againK (whenP t46 false (valA (ldA h none t53) h (fun v _ => v = t54))) <|
 whenA t46 false (fun K => C 69 [t52, t54] h K) h fun t55 h =>
 whenA t46 false (fun K => valA (binOp .neq .bool t51 t55) h K) h fun t56 h =>
 valA (pickA t46 (.bool true) t56) h fun t57 h =>
 condA t57
  (R (.bool false) h)
  (valA (faA 2 q5) h fun t61 h =>
 valA (ldA h none t61) h fun t62 h =>
 C 64 [t26, t37, t62] h fun t63 h =>
 valA (extA t63 0) h fun t64 h =>
 valA (extA t63 1) h fun t65 h =>
 valA (faA 2 q5) h fun t69 h =>
 valA (ldA h none t69) h fun t70 h =>
 C 70 [t27, t37, t70] h fun t71 h =>
 valA (extA t71 0) h fun t72 h =>
 valA (extA t71 1) h fun t73 h =>
 valA (faA 2 q5) h fun t77 h =>
 valA (ldA h none t77) h fun t78 h =>
 C 66 [t26, t37, t78] h fun t79 h =>
 valA (extA t79 0) h fun t80 h =>
 valA (extA t79 1) h fun t81 h =>
 C 71 [t26, t37] h fun t85 h =>
 valA (extA t85 0) h fun t86 h =>
 valA (extA t85 1) h fun t87 h =>
 C 72 [t26, t37] h fun t91 h =>
 valA (extA t91 0) h fun t92 h =>
 valA (extA t91 1) h fun t93 h =>
 valA (binOp .neq .num t64 t72) h fun t96 h =>
 whenA t96 false (fun K => K t65 h) h fun t98 h =>
 whenA t96 false (fun K => K t73 h) h fun t99 h =>
 whenA t96 false (fun K => valA (binOp .neq .num t98 t99) h K) h fun t100 h =>
 valA (pickA t96 (.bool true) t100) h fun t101 h =>
 whenA t101 false (fun K => K t93 h) h fun t103 h =>
 whenA t101 false (fun K => valA (binOp .eql .num t103 (.int .i64 0)) h K) h fun t104 h =>
 whenA t101 false (fun K => K t40 h) h fun t105 h =>
 whenA t101 false (fun K => valA (binOp .geq .num t105 (.int .i64 0)) h K) h fun t106 h =>
 whenA t101 false (fun K => valA (binOp .neq .bool t104 t106) h K) h fun t107 h =>
 valA (pickA t101 (.bool true) t107) h fun t108 h =>
 condA t108
  (R (.bool false) h)
  (valA (binOp .lss .num t40 (.int .i64 0)) h fun t110 h =>
 whenA t110 false (fun K => K t27 h) h fun t112 h =>
 whenA t110 false (fun K => valA (nilcA t112) h K) h fun t113 h =>
 whenA t110 false (fun K => valA (faA 1 t113) h K) h fun t114 h =>
 whenA t110 false (fun K => valA (ldA h none t114) h K) h fun t115 h =>
 whenA t110 false (fun K => K t27 h) h fun t116 h =>
 whenA t110 false (fun K => valA (nilcA t116) h K) h fun t117 h =>
 whenA t110 false (fun K => valA (faA 2 t117) h K) h fun t118 h =>
 whenA t110 false (fun K => valA (ldA h none t118) h K) h fun t119 h =>
 whenA t110 false (fun K => K t40 h) h fun t120 h =>
 whenA t110 false (fun K => valA (iaA 5 t119 t120) h K) h fun t121 h =>
 whenA t110 false (fun K => valA (faA 1 t121) h K) h fun t122 h =>
 whenA t110 false (fun K => valA (ldA h none t122) h K) h fun t123 h =>
 whenA t110 false (fun K => valA (iaA 2 t115 t123) h K) h fun t124 h =>
 whenA t110 false (fun K => valA (faA 0 t124) h K) h fun t125 h =>
 whenA t110 false (fun K => valA (ldA h none t125) h K) h fun t126 h =>
 whenA t110 false (fun K => valA (binOp .neq .num t126 (.int .i64 3)) h K) h fun t127 h =>
 valA (pickA t110 (.bool true) t127) h fun t128 h =>
 condA t128
  (valA (binOp .eql .num t80 (.int .u8 0)) h fun t130 h =>
  whenA t130 true (fun K => K t81 h) h fun t132 h =>
  whenA t130 true (fun K => valA (binOp .eql .num t132 (.int .i64 1)) h K) h fun t133 h =>
  valA (pickA t130 t133 (.bool false)) h fun t134 h =>
  whenA t134 true (fun K => K t86 h) h fun t136 h =>
  whenA t134 true (fun K => valA (binOp .eql .num t136 (.str [])) h K) h fun t137 h =>
  valA (pickA t134 t137 (.bool false)) h fun t138 h =>
  whenA t138 true (fun K => K t87 h) h fun t140 h =>
  whenA t138 true (fun K => valA (binOp .eql .num t140 (.int .i64 1)) h K) h fun t141 h =>
  valA (pickA t138 t141 (.bool false)) h fun t142 h =>
  whenA t142 true (fun K => C 51 [] h K) h fun t144 h =>
  valA (pickA t142 t144 (.bool false)) h fun t145 h =>
  R t145 h)
  (valA (nilcA t27) h fun t147 h =>
 valA (faA 2 t147) h fun t148 h =>
 valA (ldA h none t148) h fun t149 h =>
 valA (iaA 5 t149 t40) h fun t151 h =>
 valA (ldA h (some 5) t151) h fun t152 h =>
 newA h [(.int .i64 0), (.int .i64 0), (.int .i64 0), .nilsl, .nilsl] 89 (fun b => .ptr b 0) fun o21 h =>
 memA (stA h 5 o21 t152) .undef fun _ h =>
 valA (binOp .neq .num t87 (.int .i64 0)) h fun t154 h =>
 whenA t154 false (fun K => K t86 h) h fun t156 h =>
 whenA t154 false (fun K => valA (faA 4 o21) h K) h fun t157 h =>
 whenA t154 false (fun K => valA (ldA h none t157) h K) h fun t158 h =>
 whenA t154 false (fun K => valA (b2sA h t158) h K) h fun t159 h =>
 whenA t154 false (fun K => valA (binOp .neq .num t156 t159) h K) h fun t160 h =>
 valA (pickA t154 (.bool true) t160) h fun t161 h =>
 whenA t161 false (fun K => K t92 h) h fun t163 h =>
 whenA t161 false (fun K => valA (faA 2 o21) h K) h fun t164 h =>
 whenA t161 false (fun K => valA (ldA h none t164) h K) h fun t165 h =>
 whenA t161 false (fun K => valA (binOp .neq .num t163 t165) h K) h fun t166 h =>
 valA (pickA t161 (.bool true) t166) h fun t167 h =>
 condA t167
  (R (.bool false) h)
  (valA (faA 2 q5) h fun t168 h =>
 valA (ldA h none t168) h fun t169 h =>
 valA (binOp .lss .num t169 (.int .i64 0)) h fun t170 h =>
 whenA t170 false (fun K => valA (faA 2 q5) h K) h fun t172 h =>
 whenA t170 false (fun K => valA (ldA h none t172) h K) h fun t173 h =>
 whenA t170 false (fun K => valA (faA 4 o21) h K) h fun t174 h =>
 whenA t170 false (fun K => valA (ldA h none t174) h K) h fun t175 h =>
 whenA t170 false (fun K => valA (lenA false t175) h K) h fun t176 h =>
 whenA t170 false (fun K => valA (binOp .geq .num t173 t176) h K) h fun t177 h =>
 valA (pickA t170 (.bool true) t177) h fun t178 h =>
 condA t178
  (valA (binOp .eql .num t80 (.int .u8 0)) h fun t180 h =>
  whenA t180 true (fun K => K t81 h) h fun t182 h =>
  whenA t180 true (fun K => valA (binOp .eql .num t182 (.int .i64 1)) h K) h fun t183 h =>
  valA (pickA t180 t183 (.bool false)) h fun t184 h =>
  whenA t184 true (fun K => C 51 [] h K) h fun t186 h =>
  valA (pickA t184 t186 (.bool false)) h fun t187 h =>
  R t187 h)
  (valA (faA 4 o21) h fun t189 h =>
 valA (ldA h none t189) h fun t190 h =>
 valA (faA 2 q5) h fun t191 h =>
 valA (ldA h none t191) h fun t192 h =>
 valA (iaA 1 t190 t192) h fun t193 h =>
 valA (ldA h none t193) h fun t194 h =>
 valA (binOp .eql .num t80 t194) h fun t195 h =>
 whenA t195 true (fun K => K t81 h) h fun t197 h =>
 whenA t195 true (fun K => valA (binOp .eql .num t197 (.int .i64 0)) h K) h fun t198 h =>
 valA (pickA t195 t198 (.bool false)) h fun t199 h =>
 whenA t199 true (fun K => C 51 [] h K) h fun t201 h =>
 valA (pickA t199 t201 (.bool false)) h fun t202 h =>
 R t202 h))))))
theorem she14 (C : CallA) (layouts0 l1 q2 : AV) (h : H) (R : AV → H → Prop) : wpA C an14 (argE [layouts0, l1, q2]) h (outA [(.tmp 6)] R) = sh14 C layouts0 l1 q2 h R := by kernel_rfl
/-! bellows/word.Head -/
def an31 : ACode :=
 (.seq (.reg 0 [] [] [sD 4 (.mv (.c (.int .u64 0)))])
 (.seq (.reg 0 [] [] [sD 5 (.mv (.t 0)),
 sD 6 (.cv none (.toInt .u64) (.t 5)),
 sD 7 (.bin .and .num (.t 6) (.c (.int .u64 1048575))),
 sD 8 (.bin .shl .num (.t 7) (.c (.int .u64 1))),
 sD 9 (.mv (.t 1)),
 sD 10 (.cv none (.toInt .u64) (.t 9)),
 sD 11 (.bin .and .num (.t 10) (.c (.int .u64 1048575))),
 sD 12 (.bin .shl .num (.t 11) (.c (.int .u64 21))),
 sD 13 (.bin .or .num (.t 8) (.t 12)),
 sD 14 (.bin .or .num (.t 13) (.c (.int .u64 1))),
 sD 4 (.mv (.t 14))])
 .ret))
def fn31 : IFun := ⟨15, [(.tmp 4)], an31.erase⟩
theorem ok31 : okFun Try.prog 31 fn31 = true := by kernel_rfl
theorem oka31 : okA fn31.ntmps fn31.results an31 = true := by kernel_rfl
def sh31 (C : CallA) (shape0 n1 : AV) (h : H) (R : AV → H → Prop) : Prop :=
 valA (cvA .u64 shape0) h fun t6 h =>
 valA (binOp .and .num t6 (.int .u64 1048575)) h fun t7 h =>
 valA (binOp .shl .num t7 (.int .u64 1)) h fun t8 h =>
 valA (cvA .u64 n1) h fun t10 h =>
 valA (binOp .and .num t10 (.int .u64 1048575)) h fun t11 h =>
 valA (binOp .shl .num t11 (.int .u64 21)) h fun t12 h =>
 valA (binOp .or .num t8 t12) h fun t13 h =>
 valA (binOp .or .num t13 (.int .u64 1)) h fun t14 h =>
 R t14 h
theorem she31 (C : CallA) (shape0 n1 : AV) (h : H) (R : AV → H → Prop) : wpA C an31 (argE [shape0, n1]) h (outA [(.tmp 4)] R) = sh31 C shape0 n1 h R := by kernel_rfl
/-! bellows/word.Shape -/
def an33 : ACode :=
 (.seq (.reg 0 [] [] [sD 2 (.mv (.c (.int .i64 0)))])
 (.seq (.reg 0 [] [] [sD 3 (.mv (.t 0)),
 sD 4 (.bin .shr .num (.t 3) (.c (.int .u64 1))),
 sD 5 (.bin .and .num (.t 4) (.c (.int .u64 1048575))),
 sD 6 (.cv none (.toInt .i64) (.t 5)),
 sD 2 (.mv (.t 6))])
 .ret))
def fn33 : IFun := ⟨7, [(.tmp 2)], an33.erase⟩
theorem ok33 : okFun Try.prog 33 fn33 = true := by kernel_rfl
theorem oka33 : okA fn33.ntmps fn33.results an33 = true := by kernel_rfl
def sh33 (C : CallA) (h0 : AV) (h : H) (R : AV → H → Prop) : Prop :=
 valA (binOp .shr .num h0 (.int .u64 1)) h fun t4 h =>
 valA (binOp .and .num t4 (.int .u64 1048575)) h fun t5 h =>
 valA (cvA .i64 t5) h fun t6 h =>
 R t6 h
theorem she33 (C : CallA) (h0 : AV) (h : H) (R : AV → H → Prop) : wpA C an33 (argE [h0]) h (outA [(.tmp 2)] R) = sh33 C h0 h R := by kernel_rfl
/-! bellows/word.Len -/
def an35 : ACode :=
 (.seq (.reg 0 [] [] [sD 2 (.mv (.c (.int .i64 0)))])
 (.seq (.reg 0 [] [] [sD 3 (.mv (.t 0)),
 sD 4 (.bin .shr .num (.t 3) (.c (.int .u64 21))),
 sD 5 (.bin .and .num (.t 4) (.c (.int .u64 1048575))),
 sD 6 (.cv none (.toInt .i64) (.t 5)),
 sD 2 (.mv (.t 6))])
 .ret))
def fn35 : IFun := ⟨7, [(.tmp 2)], an35.erase⟩
theorem ok35 : okFun Try.prog 35 fn35 = true := by kernel_rfl
theorem oka35 : okA fn35.ntmps fn35.results an35 = true := by kernel_rfl
def sh35 (C : CallA) (h0 : AV) (h : H) (R : AV → H → Prop) : Prop :=
 valA (binOp .shr .num h0 (.int .u64 21)) h fun t4 h =>
 valA (binOp .and .num t4 (.int .u64 1048575)) h fun t5 h =>
 valA (cvA .i64 t5) h fun t6 h =>
 R t6 h
theorem she35 (C : CallA) (h0 : AV) (h : H) (R : AV → H → Prop) : wpA C an35 (argE [h0]) h (outA [(.tmp 2)] R) = sh35 C h0 h R := by kernel_rfl
/-! bellows/word.IsImm -/
def an48 : ACode :=
 (.seq (.reg 0 [] [] [sD 2 (.mv (.c (.bool false)))])
 (.seq (.reg 0 [] [] [sD 3 (.mv (.t 0)),
 sD 4 (.bin .and .num (.t 3) (.c (.int .u64 1))),
 sD 5 (.bin .eql .num (.t 4) (.c (.int .u64 1))),
 sD 2 (.mv (.t 5))])
 .ret))
def fn48 : IFun := ⟨6, [(.tmp 2)], an48.erase⟩
theorem ok48 : okFun Try.prog 48 fn48 = true := by kernel_rfl
theorem oka48 : okA fn48.ntmps fn48.results an48 = true := by kernel_rfl
def sh48 (C : CallA) (w0 : AV) (h : H) (R : AV → H → Prop) : Prop :=
 valA (binOp .and .num w0 (.int .u64 1)) h fun t4 h =>
 valA (binOp .eql .num t4 (.int .u64 1)) h fun t5 h =>
 R t5 h
theorem she48 (C : CallA) (w0 : AV) (h : H) (R : AV → H → Prop) : wpA C an48 (argE [w0]) h (outA [(.tmp 2)] R) = sh48 C w0 h R := by kernel_rfl
/-! bellows/heap.New -/
def an49 : ACode :=
 (.seq (.reg 0 [] [] [sD 4 (.mv (.c .nilp)),
 sD 5 (.mv (.c (.int .i64 0)))])
 (.seq (.seq (.reg 0 [] [] [sD 8 (.mv (.t 0)),
 sD 9 (.bin .lss .num (.t 8) (.c (.int .i64 0))),
 sD 10 (.mv (.t 9)),
 sG 11 10 false (.mv (.t 0)),
 sG 12 10 false (.bin .gtr .num (.t 11) (.c (.int .i64 65536))),
 sD 13 (.pick (.t 10) (.c (.bool true)) (.t 12))])
 (.cond (.t 13) (.seq (.reg 0 [] [] [sD 4 (.mv (.c .nilp)),
 sD 5 (.mv (.c (.int .i64 1)))])
 .ret)
 .skip))
 (.seq (.seq (.reg 0 [] [] [sD 14 (.mv (.t 1)),
 sD 15 (.len false (.t 14)),
 sD 16 (.bin .gtr .num (.t 15) (.c (.int .i64 512)))])
 (.cond (.t 16) (.seq (.reg 0 [] [] [sD 4 (.mv (.c .nilp)),
 sD 5 (.mv (.c (.int .i64 2)))])
 .ret)
 .skip))
 (.seq (.seq (.reg 0 [] [] [sD 17 (.mv (.t 1)),
 sD 18 (.len false (.t 17)),
 sD 19 (.mv (.c (.int .i64 0)))])
 (.block 0 (.loop [19] 917507 (.seq (.reg 0 [] [] [sD 20 (.bin .lss .num (.t 19) (.t 18))])
 (.seq (.cond (.t 20) .skip
 (.exit 0))
 (.seq (.block 1 (.seq (.reg 0 [] [] [sD 21 (.ia none 2 (.t 17) (.t 19)),
 sD 22 (.ld (some 2) (.t 21)),
 sD 7 (.al none 60 [(.int .i64 0), (.int .i64 0)]),
 sN (.st 2 (.t 7) (.t 22))])
 (.seq (.reg 0 [] [] [sD 23 (.fa 0 (.t 7)),
 sD 24 (.ld none (.t 23)),
 sD 25 (.bin .lss .num (.t 24) (.c (.int .i64 1))),
 sD 26 (.mv (.t 25)),
 sG 27 26 false (.fa 0 (.t 7)),
 sG 28 26 false (.ld none (.t 27)),
 sG 29 26 false (.bin .gtr .num (.t 28) (.c (.int .i64 3))),
 sD 30 (.pick (.t 26) (.c (.bool true)) (.t 29)),
 sD 31 (.mv (.t 30)),
 sG 32 31 false (.fa 1 (.t 7)),
 sG 33 31 false (.ld none (.t 32)),
 sG 34 31 false (.bin .lss .num (.t 33) (.c (.int .i64 0))),
 sD 35 (.pick (.t 31) (.c (.bool true)) (.t 34)),
 sD 36 (.mv (.t 35)),
 sG 37 36 false (.fa 1 (.t 7)),
 sG 38 36 false (.ld none (.t 37)),
 sG 39 36 false (.bin .gtr .num (.t 38) (.c (.int .i64 65536))),
 sD 40 (.pick (.t 36) (.c (.bool true)) (.t 39))])
 (.cond (.t 40) (.seq (.reg 0 [] [] [sD 4 (.mv (.c .nilp)),
 sD 5 (.mv (.c (.int .i64 1)))])
 .ret)
 .skip))))
 (.reg 0 [] [] [sD 41 (.bin .add .num (.t 19) (.c (.int .i64 1))),
 sD 19 (.mv (.t 41))])))))))
 (.seq (.reg 3 [0, 2, 3, 4, 6, 7, 1, 5, 8, 9, 10, 11] [[], [0], [], [2], [2, 3], [3, 2, 4], [], [6], [6, 7, 4, 2, 3, 5, 0, 1], [1, 0, 5, 3, 2, 4, 7, 6, 8], [8, 6, 7, 4, 2, 3, 5, 0, 1, 9], [9, 1, 0, 5, 3, 2, 4, 7, 6, 8, 10]] [sD 42 (.mv (.t 0)),
 sD 44 (.mv (.t 0)),
 sD 45 (.bin .quo .num (.t 44) (.c (.int .i64 64))),
 sD 46 (.bin .add .num (.t 45) (.c (.int .i64 1))),
 sD 48 (.mv (.t 1)),
 sD 49 (.app 60 2 16 [(.int .i64 0), (.int .i64 0)] (.c .nilsl) (.t 48)),
 sD 43 (.mks (some 0) 25 [(.int .u64 0)] 8 (.t 42) (.t 42)),
 sD 47 (.mks (some 1) 25 [(.int .u64 0)] 8 (.t 46) (.t 46)),
 sD 50 (.build [.nilsl, .nilsl, .nilsl, (.int .i64 0)] [(0, 1, (.t 43)), (1, 1, (.t 47)), (2, 1, (.t 49))]),
 sD 51 (.bx (some 2) 130 (.t 50)),
 sD 4 (.mv (.t 51)),
 sD 5 (.mv (.c (.int .i64 0)))])
 .ret)))))
def fn49 : IFun := ⟨52, [(.tmp 4), (.tmp 5)], an49.erase⟩
theorem ok49 : okFun Try.prog 49 fn49 = true := by kernel_rfl
theorem oka49 : okA fn49.ntmps fn49.results an49 = true := by kernel_rfl
def sh49 (C : CallA) (words0 layouts1 : AV) (h : H) (R : AV → H → Prop) : Prop :=
 valA (binOp .lss .num words0 (.int .i64 0)) h fun t9 h =>
 whenA t9 false (fun K => K words0 h) h fun t11 h =>
 whenA t9 false (fun K => valA (binOp .gtr .num t11 (.int .i64 65536)) h K) h fun t12 h =>
 valA (pickA t9 (.bool true) t12) h fun t13 h =>
 condA t13
  (R (.tup [.nilp, (.int .i64 1)]) h)
  (valA (lenA false layouts1) h fun t15 h =>
 valA (binOp .gtr .num t15 (.int .i64 512)) h fun t16 h =>
 condA t16
  (R (.tup [.nilp, (.int .i64 2)]) h)
  (joinA (fun (h : H) =>
  valA (binOp .quo .num words0 (.int .i64 64)) h fun t45 h =>
  valA (binOp .add .num t45 (.int .i64 1)) h fun t46 h =>
  appendA h 60 2 16 .nilsl layouts1 fun t49 h =>
  mksA h 25 [(.int .u64 0)] 8 words0 words0 fun t43 h =>
  mksA h 25 [(.int .u64 0)] 8 t46 t46 fun t47 h =>
  valA (buildA (fillV [.nilsl, .nilsl, .nilsl, (.int .i64 0)] [(0, 1, t43), (1, 1, t47), (2, 1, t49)])) h fun t50 h =>
  newA h (AV.cells t50) 130 (fun b => .ptr b 0) fun t51 h =>
  R (.tup [t51, (.int .i64 0)]) h) fun J =>
 valA (lenA false layouts1) h fun t18 h =>
 loopA (fun N l h => argA l 0 fun t19 => 
  valA (binOp .lss .num t19 t18) h fun t20 h =>
  condA t20
   (valA (iaA 2 layouts1 t19) h fun t21 h =>
  valA (ldA h (some 2) t21) h fun t22 h =>
  newA h [(.int .i64 0), (.int .i64 0)] 60 (fun b => .ptr b 0) fun l7 h =>
  memA (stA h 2 l7 t22) .undef fun _ h =>
  valA (faA 0 l7) h fun t23 h =>
  valA (ldA h none t23) h fun t24 h =>
  valA (binOp .lss .num t24 (.int .i64 1)) h fun t25 h =>
  whenA t25 false (fun K => valA (faA 0 l7) h K) h fun t27 h =>
  whenA t25 false (fun K => valA (ldA h none t27) h K) h fun t28 h =>
  whenA t25 false (fun K => valA (binOp .gtr .num t28 (.int .i64 3)) h K) h fun t29 h =>
  valA (pickA t25 (.bool true) t29) h fun t30 h =>
  whenA t30 false (fun K => valA (faA 1 l7) h K) h fun t32 h =>
  whenA t30 false (fun K => valA (ldA h none t32) h K) h fun t33 h =>
  whenA t30 false (fun K => valA (binOp .lss .num t33 (.int .i64 0)) h K) h fun t34 h =>
  valA (pickA t30 (.bool true) t34) h fun t35 h =>
  whenA t35 false (fun K => valA (faA 1 l7) h K) h fun t37 h =>
  whenA t35 false (fun K => valA (ldA h none t37) h K) h fun t38 h =>
  whenA t35 false (fun K => valA (binOp .gtr .num t38 (.int .i64 65536)) h K) h fun t39 h =>
  valA (pickA t35 (.bool true) t39) h fun t40 h =>
  condA t40
   (R (.tup [.nilp, (.int .i64 1)]) h)
   (valA (binOp .add .num t19 (.int .i64 1)) h fun t41 h =>
  N [t41] h))
   (J h)) [(.int .i64 0)] h))
theorem she49 (C : CallA) (words0 layouts1 : AV) (h : H) (R : AV → H → Prop) : wpA C an49 (argE [words0, layouts1]) h (outA [(.tmp 4), (.tmp 5)] R) = sh49 C words0 layouts1 h R := by kernel_rfl
/-! bellows/bellowsref02.Check -/
def an50 : ACode :=
 (.seq (.reg 0 [] [] [sD 4 (.mv (.c (.int .i64 0)))])
 (.seq (.seq (.reg 0 [] [] [sD 7 (.mv (.t 0)),
 sD 8 (.bin .lss .num (.t 7) (.c (.int .i64 0))),
 sD 9 (.mv (.t 8)),
 sG 10 9 false (.mv (.t 0)),
 sG 11 9 false (.bin .gtr .num (.t 10) (.c (.int .i64 65536))),
 sD 12 (.pick (.t 9) (.c (.bool true)) (.t 11))])
 (.cond (.t 12) (.seq (.reg 0 [] [] [sD 4 (.mv (.c (.int .i64 1)))])
 .ret)
 .skip))
 (.seq (.seq (.reg 0 [] [] [sD 13 (.mv (.t 1)),
 sD 14 (.len false (.t 13)),
 sD 15 (.bin .gtr .num (.t 14) (.c (.int .i64 512)))])
 (.cond (.t 15) (.seq (.reg 0 [] [] [sD 4 (.mv (.c (.int .i64 2)))])
 .ret)
 .skip))
 (.seq (.seq (.reg 0 [] [] [sD 16 (.mv (.t 1)),
 sD 17 (.len false (.t 16)),
 sD 18 (.mv (.c (.int .i64 0)))])
 (.block 0 (.loop [18] 458752 (.seq (.reg 0 [] [] [sD 19 (.bin .lss .num (.t 18) (.t 17))])
 (.seq (.cond (.t 19) .skip
 (.exit 0))
 (.seq (.block 1 (.seq (.reg 0 [] [] [sD 20 (.ia none 2 (.t 16) (.t 18)),
 sD 21 (.ld (some 2) (.t 20)),
 sD 6 (.al none 60 [(.int .i64 0), (.int .i64 0)]),
 sN (.st 2 (.t 6) (.t 21))])
 (.seq (.reg 0 [] [] [sD 22 (.fa 0 (.t 6)),
 sD 23 (.ld none (.t 22)),
 sD 24 (.bin .neq .num (.t 23) (.c (.int .i64 1))),
 sD 25 (.mv (.t 24)),
 sG 26 25 true (.fa 0 (.t 6)),
 sG 27 25 true (.ld none (.t 26)),
 sG 28 25 true (.bin .neq .num (.t 27) (.c (.int .i64 2))),
 sD 29 (.pick (.t 25) (.t 28) (.c (.bool false))),
 sD 30 (.mv (.t 29)),
 sG 31 30 true (.fa 0 (.t 6)),
 sG 32 30 true (.ld none (.t 31)),
 sG 33 30 true (.bin .neq .num (.t 32) (.c (.int .i64 3))),
 sD 34 (.pick (.t 30) (.t 33) (.c (.bool false))),
 sD 35 (.mv (.t 34)),
 sG 36 35 false (.fa 1 (.t 6)),
 sG 37 35 false (.ld none (.t 36)),
 sG 38 35 false (.bin .lss .num (.t 37) (.c (.int .i64 0))),
 sD 39 (.pick (.t 35) (.c (.bool true)) (.t 38)),
 sD 40 (.mv (.t 39)),
 sG 41 40 false (.fa 1 (.t 6)),
 sG 42 40 false (.ld none (.t 41)),
 sG 43 40 false (.bin .gtr .num (.t 42) (.c (.int .i64 65536))),
 sD 44 (.pick (.t 40) (.c (.bool true)) (.t 43))])
 (.cond (.t 44) (.seq (.reg 0 [] [] [sD 4 (.mv (.c (.int .i64 1)))])
 .ret)
 .skip))))
 (.reg 0 [] [] [sD 45 (.bin .add .num (.t 18) (.c (.int .i64 1))),
 sD 18 (.mv (.t 45))])))))))
 (.seq (.reg 0 [] [] [sD 4 (.mv (.c (.int .i64 0)))])
 .ret)))))
def fn50 : IFun := ⟨46, [(.tmp 4)], an50.erase⟩
theorem ok50 : okFun Try.prog 50 fn50 = true := by kernel_rfl
theorem oka50 : okA fn50.ntmps fn50.results an50 = true := by kernel_rfl
def sh50 (C : CallA) (words0 layouts1 : AV) (h : H) (R : AV → H → Prop) : Prop :=
 valA (binOp .lss .num words0 (.int .i64 0)) h fun t8 h =>
 whenA t8 false (fun K => K words0 h) h fun t10 h =>
 whenA t8 false (fun K => valA (binOp .gtr .num t10 (.int .i64 65536)) h K) h fun t11 h =>
 valA (pickA t8 (.bool true) t11) h fun t12 h =>
 condA t12
  (R (.int .i64 1) h)
  (valA (lenA false layouts1) h fun t14 h =>
 valA (binOp .gtr .num t14 (.int .i64 512)) h fun t15 h =>
 condA t15
  (R (.int .i64 2) h)
  (joinA (fun (h : H) =>
  R (.int .i64 0) h) fun J =>
 valA (lenA false layouts1) h fun t17 h =>
 loopA (fun N l h => argA l 0 fun t18 => 
  valA (binOp .lss .num t18 t17) h fun t19 h =>
  condA t19
   (valA (iaA 2 layouts1 t18) h fun t20 h =>
  valA (ldA h (some 2) t20) h fun t21 h =>
  newA h [(.int .i64 0), (.int .i64 0)] 60 (fun b => .ptr b 0) fun l6 h =>
  memA (stA h 2 l6 t21) .undef fun _ h =>
  valA (faA 0 l6) h fun t22 h =>
  valA (ldA h none t22) h fun t23 h =>
  valA (binOp .neq .num t23 (.int .i64 1)) h fun t24 h =>
  whenA t24 true (fun K => valA (faA 0 l6) h K) h fun t26 h =>
  whenA t24 true (fun K => valA (ldA h none t26) h K) h fun t27 h =>
  whenA t24 true (fun K => valA (binOp .neq .num t27 (.int .i64 2)) h K) h fun t28 h =>
  valA (pickA t24 t28 (.bool false)) h fun t29 h =>
  whenA t29 true (fun K => valA (faA 0 l6) h K) h fun t31 h =>
  whenA t29 true (fun K => valA (ldA h none t31) h K) h fun t32 h =>
  whenA t29 true (fun K => valA (binOp .neq .num t32 (.int .i64 3)) h K) h fun t33 h =>
  valA (pickA t29 t33 (.bool false)) h fun t34 h =>
  whenA t34 false (fun K => valA (faA 1 l6) h K) h fun t36 h =>
  whenA t34 false (fun K => valA (ldA h none t36) h K) h fun t37 h =>
  whenA t34 false (fun K => valA (binOp .lss .num t37 (.int .i64 0)) h K) h fun t38 h =>
  valA (pickA t34 (.bool true) t38) h fun t39 h =>
  whenA t39 false (fun K => valA (faA 1 l6) h K) h fun t41 h =>
  whenA t39 false (fun K => valA (ldA h none t41) h K) h fun t42 h =>
  whenA t39 false (fun K => valA (binOp .gtr .num t42 (.int .i64 65536)) h K) h fun t43 h =>
  valA (pickA t39 (.bool true) t43) h fun t44 h =>
  condA t44
   (R (.int .i64 1) h)
   (valA (binOp .add .num t18 (.int .i64 1)) h fun t45 h =>
  N [t45] h))
   (J h)) [(.int .i64 0)] h))
theorem she50 (C : CallA) (words0 layouts1 : AV) (h : H) (R : AV → H → Prop) : wpA C an50 (argE [words0, layouts1]) h (outA [(.tmp 4)] R) = sh50 C words0 layouts1 h R := by kernel_rfl
/-! bellows/bellowslaw02.lives -/
def an51 : ACode :=
 (.seq (.reg 0 [] [] [sD 0 (.mv (.c (.bool false)))])
 (.seq (.reg 0 [] [] [sD 14 (.build [(.int .i64 0), (.int .i64 0)] [(0, 1, (.c (.int .i64 1))), (1, 1, (.c (.int .i64 2)))]),
 sD 15 (.build [(.int .i64 0), (.int .i64 0)] [(0, 1, (.c (.int .i64 3)))]),
 sD 16 (.mksl none 60 [(.int .i64 0), (.int .i64 0), (.int .i64 0), (.int .i64 0)] 2 [(0, 2, (.t 14)), (2, 2, (.t 15))]),
 sD 17 (.call 49 [(.c (.int .i64 10)), (.t 16)]),
 sD 13 (.mv (.t 17)),
 sD 18 (.ext (.t 13) 0),
 sD 19 (.ext (.t 13) 1),
 sD 1 (.mv (.t 18)),
 sD 2 (.mv (.t 19))])
 (.seq (.seq (.reg 0 [] [] [sD 20 (.mv (.t 2)),
 sD 21 (.bin .neq .num (.t 20) (.c (.int .i64 0))),
 sD 22 (.mv (.t 21)),
 sG 23 22 false (.mv (.t 1)),
 sG 24 22 false (.bin .eql .ptr (.t 23) (.c .nilp)),
 sD 25 (.pick (.t 22) (.c (.bool true)) (.t 24))])
 (.cond (.t 25) (.seq (.reg 0 [] [] [sD 0 (.mv (.c (.bool false)))])
 .ret)
 .skip))
 (.seq (.reg 0 [] [] [sD 27 (.mv (.t 1)),
 sD 28 (.call 55 [(.t 27), (.c (.int .i64 0)), (.c (.int .i64 2))]),
 sD 26 (.mv (.t 28)),
 sD 29 (.ext (.t 26) 0),
 sD 30 (.ext (.t 26) 1),
 sD 3 (.mv (.t 29)),
 sD 4 (.mv (.t 30))])
 (.seq (.reg 0 [] [] [sD 32 (.mv (.t 1)),
 sD 33 (.call 55 [(.t 32), (.c (.int .i64 1)), (.c (.int .i64 9))]),
 sD 31 (.mv (.t 33)),
 sD 34 (.ext (.t 31) 0),
 sD 35 (.ext (.t 31) 1),
 sD 5 (.mv (.t 34)),
 sD 6 (.mv (.t 35))])
 (.seq (.reg 0 [] [] [sD 37 (.mv (.t 1)),
 sD 38 (.call 55 [(.t 37), (.c (.int .i64 0)), (.c (.int .i64 1))]),
 sD 36 (.mv (.t 38)),
 sD 39 (.ext (.t 36) 0),
 sD 40 (.ext (.t 36) 1),
 sD 7 (.mv (.t 39)),
 sD 8 (.mv (.t 40))])
 (.seq (.reg 0 [] [] [sD 42 (.mv (.t 1)),
 sD 43 (.call 55 [(.t 42), (.c (.int .i64 0)), (.c (.int .i64 2))]),
 sD 41 (.mv (.t 43)),
 sD 44 (.ext (.t 41) 0),
 sD 45 (.ext (.t 41) 1),
 sD 9 (.mv (.t 44)),
 sD 10 (.mv (.t 45))])
 (.seq (.reg 0 [] [] [sD 47 (.mv (.t 1)),
 sD 48 (.call 55 [(.t 47), (.c (.int .i64 0)), (.c (.int .i64 2))]),
 sD 46 (.mv (.t 48)),
 sD 49 (.ext (.t 46) 0),
 sD 50 (.ext (.t 46) 1),
 sD 11 (.mv (.t 49)),
 sD 12 (.mv (.t 50))])
 (.seq (.reg 0 [] [] [sD 51 (.mv (.t 4)),
 sD 52 (.bin .eql .num (.t 51) (.c (.int .i64 0))),
 sD 53 (.mv (.t 52)),
 sG 54 53 true (.mv (.t 6)),
 sG 55 53 true (.bin .eql .num (.t 54) (.c (.int .i64 0))),
 sD 56 (.pick (.t 53) (.t 55) (.c (.bool false))),
 sD 57 (.mv (.t 56)),
 sG 58 57 true (.mv (.t 8)),
 sG 59 57 true (.bin .eql .num (.t 58) (.c (.int .i64 1))),
 sD 60 (.pick (.t 57) (.t 59) (.c (.bool false))),
 sD 61 (.mv (.t 60)),
 sG 62 61 true (.mv (.t 10)),
 sG 63 61 true (.bin .eql .num (.t 62) (.c (.int .i64 0))),
 sD 64 (.pick (.t 61) (.t 63) (.c (.bool false))),
 sD 65 (.mv (.t 64)),
 sG 66 65 true (.mv (.t 12)),
 sG 67 65 true (.bin .eql .num (.t 66) (.c (.int .i64 3))),
 sD 68 (.pick (.t 65) (.t 67) (.c (.bool false))),
 sD 69 (.mv (.t 68)),
 sG 70 69 true (.mv (.t 3)),
 sG 71 69 true (.bin .eql .num (.t 70) (.c (.int .i64 0))),
 sD 72 (.pick (.t 69) (.t 71) (.c (.bool false))),
 sD 73 (.mv (.t 72)),
 sG 74 73 true (.mv (.t 5)),
 sG 75 73 true (.bin .eql .num (.t 74) (.c (.int .i64 3))),
 sD 76 (.pick (.t 73) (.t 75) (.c (.bool false))),
 sD 77 (.mv (.t 76)),
 sG 78 77 true (.mv (.t 9)),
 sG 79 77 true (.bin .eql .num (.t 78) (.c (.int .i64 6))),
 sD 80 (.pick (.t 77) (.t 79) (.c (.bool false))),
 sD 81 (.mv (.t 80)),
 sG 82 81 true (.mv (.t 1)),
 sG 83 81 true (.call 82 [(.c (.int .i64 3))]),
 sG 84 81 true (.call 63 [(.t 82), (.c (.int .i64 0)), (.c (.int .i64 1)), (.t 83)]),
 sG 85 81 true (.bin .eql .num (.t 84) (.c (.int .i64 0))),
 sD 86 (.pick (.t 81) (.t 85) (.c (.bool false))),
 sD 87 (.mv (.t 86)),
 sG 88 87 true (.mv (.t 1)),
 sG 89 87 true (.call 82 [(.c (.int .i64 4))]),
 sG 90 87 true (.call 63 [(.t 88), (.c (.int .i64 0)), (.c (.int .i64 1)), (.t 89)]),
 sG 91 87 true (.bin .eql .num (.t 90) (.c (.int .i64 1))),
 sD 92 (.pick (.t 87) (.t 91) (.c (.bool false))),
 sD 0 (.mv (.t 92))])
 .ret)))))))))
def fn51 : IFun := ⟨93, [(.tmp 0)], an51.erase⟩
theorem ok51 : okFun Try.prog 51 fn51 = true := by kernel_rfl
theorem oka51 : okA fn51.ntmps fn51.results an51 = true := by kernel_rfl
def sh51 (C : CallA) (h : H) (R : AV → H → Prop) : Prop :=
 valA (buildA (fillV [(.int .i64 0), (.int .i64 0)] [(0, 1, (.int .i64 1)), (1, 1, (.int .i64 2))])) h fun t14 h =>
 valA (buildA (fillV [(.int .i64 0), (.int .i64 0)] [(0, 1, (.int .i64 3))])) h fun t15 h =>
 mkslA h 60 2 (fillV [(.int .i64 0), (.int .i64 0), (.int .i64 0), (.int .i64 0)] [(0, 2, t14), (2, 2, t15)]) fun t16 h =>
 C 49 [(.int .i64 10), t16] h fun t17 h =>
 valA (extA t17 0) h fun t18 h =>
 valA (extA t17 1) h fun t19 h =>
 valA (binOp .neq .num t19 (.int .i64 0)) h fun t21 h =>
 whenA t21 false (fun K => K t18 h) h fun t23 h =>
 whenA t21 false (fun K => valA (binOp .eql .ptr t23 .nilp) h K) h fun t24 h =>
 valA (pickA t21 (.bool true) t24) h fun t25 h =>
 condA t25
  (R (.bool false) h)
  (C 55 [t18, (.int .i64 0), (.int .i64 2)] h fun t28 h =>
 valA (extA t28 0) h fun t29 h =>
 valA (extA t28 1) h fun t30 h =>
 C 55 [t18, (.int .i64 1), (.int .i64 9)] h fun t33 h =>
 valA (extA t33 0) h fun t34 h =>
 valA (extA t33 1) h fun t35 h =>
 C 55 [t18, (.int .i64 0), (.int .i64 1)] h fun t38 h =>
 valA (extA t38 0) h fun t39 h =>
 valA (extA t38 1) h fun t40 h =>
 C 55 [t18, (.int .i64 0), (.int .i64 2)] h fun t43 h =>
 valA (extA t43 0) h fun t44 h =>
 valA (extA t43 1) h fun t45 h =>
 C 55 [t18, (.int .i64 0), (.int .i64 2)] h fun t48 h =>
 valA (extA t48 0) h fun t49 h =>
 valA (extA t48 1) h fun t50 h =>
 valA (binOp .eql .num t30 (.int .i64 0)) h fun t52 h =>
 whenA t52 true (fun K => K t35 h) h fun t54 h =>
 whenA t52 true (fun K => valA (binOp .eql .num t54 (.int .i64 0)) h K) h fun t55 h =>
 valA (pickA t52 t55 (.bool false)) h fun t56 h =>
 whenA t56 true (fun K => K t40 h) h fun t58 h =>
 whenA t56 true (fun K => valA (binOp .eql .num t58 (.int .i64 1)) h K) h fun t59 h =>
 valA (pickA t56 t59 (.bool false)) h fun t60 h =>
 whenA t60 true (fun K => K t45 h) h fun t62 h =>
 whenA t60 true (fun K => valA (binOp .eql .num t62 (.int .i64 0)) h K) h fun t63 h =>
 valA (pickA t60 t63 (.bool false)) h fun t64 h =>
 whenA t64 true (fun K => K t50 h) h fun t66 h =>
 whenA t64 true (fun K => valA (binOp .eql .num t66 (.int .i64 3)) h K) h fun t67 h =>
 valA (pickA t64 t67 (.bool false)) h fun t68 h =>
 whenA t68 true (fun K => K t29 h) h fun t70 h =>
 whenA t68 true (fun K => valA (binOp .eql .num t70 (.int .i64 0)) h K) h fun t71 h =>
 valA (pickA t68 t71 (.bool false)) h fun t72 h =>
 whenA t72 true (fun K => K t34 h) h fun t74 h =>
 whenA t72 true (fun K => valA (binOp .eql .num t74 (.int .i64 3)) h K) h fun t75 h =>
 valA (pickA t72 t75 (.bool false)) h fun t76 h =>
 whenA t76 true (fun K => K t44 h) h fun t78 h =>
 whenA t76 true (fun K => valA (binOp .eql .num t78 (.int .i64 6)) h K) h fun t79 h =>
 valA (pickA t76 t79 (.bool false)) h fun t80 h =>
 whenA t80 true (fun K => K t18 h) h fun t82 h =>
 whenA t80 true (fun K => C 82 [(.int .i64 3)] h K) h fun t83 h =>
 whenA t80 true (fun K => C 63 [t82, (.int .i64 0), (.int .i64 1), t83] h K) h fun t84 h =>
 whenA t80 true (fun K => valA (binOp .eql .num t84 (.int .i64 0)) h K) h fun t85 h =>
 valA (pickA t80 t85 (.bool false)) h fun t86 h =>
 whenA t86 true (fun K => K t18 h) h fun t88 h =>
 whenA t86 true (fun K => C 82 [(.int .i64 4)] h K) h fun t89 h =>
 whenA t86 true (fun K => C 63 [t88, (.int .i64 0), (.int .i64 1), t89] h K) h fun t90 h =>
 whenA t86 true (fun K => valA (binOp .eql .num t90 (.int .i64 1)) h K) h fun t91 h =>
 valA (pickA t86 t91 (.bool false)) h fun t92 h =>
 R t92 h)
theorem she51 (C : CallA) (h : H) (R : AV → H → Prop) : wpA C an51 (argE []) h (outA [(.tmp 0)] R) = sh51 C h R := by kernel_rfl
/-! (*bellows/heap.Heap).Need -/
def an52 : ACode :=
 (.seq (.reg 0 [] [] [sD 6 (.mv (.c (.int .i64 0))),
 sD 7 (.mv (.c (.int .i64 0)))])
 (.seq (.seq (.reg 0 [] [] [sD 9 (.mv (.t 0)),
 sD 10 (.bin .eql .ptr (.t 9) (.c .nilp)),
 sD 11 (.mv (.t 10)),
 sG 12 11 false (.mv (.t 1)),
 sG 13 11 false (.bin .lss .num (.t 12) (.c (.int .i64 0))),
 sD 14 (.pick (.t 11) (.c (.bool true)) (.t 13)),
 sD 15 (.mv (.t 14)),
 sG 16 15 false (.mv (.t 1)),
 sG 17 15 false (.mv (.t 0)),
 sG 18 15 false (.nilc (.t 17)),
 sG 19 15 false (.fa 2 (.t 18)),
 sG 20 15 false (.ld none (.t 19)),
 sG 21 15 false (.len false (.t 20)),
 sG 22 15 false (.bin .geq .num (.t 16) (.t 21)),
 sD 23 (.pick (.t 15) (.c (.bool true)) (.t 22)),
 sD 24 (.mv (.t 23)),
 sG 25 24 false (.mv (.t 2)),
 sG 26 24 false (.bin .lss .num (.t 25) (.c (.int .i64 0))),
 sD 27 (.pick (.t 24) (.c (.bool true)) (.t 26))])
 (.cond (.t 27) (.seq (.reg 0 [] [] [sD 6 (.mv (.c (.int .i64 0))),
 sD 7 (.mv (.c (.int .i64 1)))])
 .ret)
 .skip))
 (.seq (.reg 0 [] [] [sD 28 (.mv (.t 0)),
 sD 29 (.nilc (.t 28)),
 sD 30 (.fa 2 (.t 29)),
 sD 31 (.ld none (.t 30)),
 sD 32 (.mv (.t 1)),
 sD 33 (.ia none 2 (.t 31) (.t 32)),
 sD 34 (.ld (some 2) (.t 33)),
 sD 8 (.al none 60 [(.int .i64 0), (.int .i64 0)]),
 sN (.st 2 (.t 8) (.t 34))])
 (.seq (.block 0 (.seq (.reg 0 [] [] [sD 36 (.fa 0 (.t 8)),
 sD 37 (.ld none (.t 36)),
 sD 38 (.bin .eql .num (.t 37) (.c (.int .i64 1))),
 sD 39 (.mv (.t 38)),
 sG 40 39 true (.mv (.t 2)),
 sG 41 39 true (.fa 1 (.t 8)),
 sG 42 39 true (.ld none (.t 41)),
 sG 43 39 true (.bin .neq .num (.t 40) (.t 42)),
 sD 44 (.pick (.t 39) (.t 43) (.c (.bool false))),
 sD 35 (.mv (.t 44))])
 (.cond (.t 35) (.seq (.reg 0 [] [] [sD 6 (.mv (.c (.int .i64 0))),
 sD 7 (.mv (.c (.int .i64 1)))])
 .ret)
 (.seq (.reg 0 [] [] [sD 46 (.mv (.t 2)),
 sD 47 (.bin .gtr .num (.t 46) (.c (.int .i64 65536))),
 sD 45 (.mv (.t 47))])
 (.cond (.t 45) (.seq (.reg 0 [] [] [sD 6 (.mv (.c (.int .i64 0))),
 sD 7 (.mv (.c (.int .i64 2)))])
 .ret)
 (.seq (.reg 0 [] [] [sD 49 (.fa 0 (.t 8)),
 sD 50 (.ld none (.t 49)),
 sD 51 (.bin .eql .num (.t 50) (.c (.int .i64 3))),
 sD 48 (.mv (.t 51))])
 (.cond (.t 48) (.seq (.reg 0 [] [] [sD 52 (.mv (.t 2)),
 sD 53 (.bin .add .num (.t 52) (.c (.int .i64 7))),
 sD 54 (.bin .quo .num (.t 53) (.c (.int .i64 8))),
 sD 55 (.bin .add .num (.c (.int .i64 1)) (.t 54)),
 sD 6 (.mv (.t 55)),
 sD 7 (.mv (.c (.int .i64 0)))])
 .ret)
 .skip)))))))
 (.seq (.reg 0 [] [] [sD 56 (.mv (.t 2)),
 sD 57 (.bin .add .num (.c (.int .i64 1)) (.t 56)),
 sD 6 (.mv (.t 57)),
 sD 7 (.mv (.c (.int .i64 0)))])
 .ret)))))
def fn52 : IFun := ⟨58, [(.tmp 6), (.tmp 7)], an52.erase⟩
theorem ok52 : okFun Try.prog 52 fn52 = true := by kernel_rfl
theorem oka52 : okA fn52.ntmps fn52.results an52 = true := by kernel_rfl
def sh52 (C : CallA) (h0 shape1 n2 : AV) (h : H) (R : AV → H → Prop) : Prop :=
 valA (binOp .eql .ptr h0 .nilp) h fun t10 h =>
 whenA t10 false (fun K => K shape1 h) h fun t12 h =>
 whenA t10 false (fun K => valA (binOp .lss .num t12 (.int .i64 0)) h K) h fun t13 h =>
 valA (pickA t10 (.bool true) t13) h fun t14 h =>
 whenA t14 false (fun K => K shape1 h) h fun t16 h =>
 whenA t14 false (fun K => K h0 h) h fun t17 h =>
 whenA t14 false (fun K => valA (nilcA t17) h K) h fun t18 h =>
 whenA t14 false (fun K => valA (faA 2 t18) h K) h fun t19 h =>
 whenA t14 false (fun K => valA (ldA h none t19) h K) h fun t20 h =>
 whenA t14 false (fun K => valA (lenA false t20) h K) h fun t21 h =>
 whenA t14 false (fun K => valA (binOp .geq .num t16 t21) h K) h fun t22 h =>
 valA (pickA t14 (.bool true) t22) h fun t23 h =>
 whenA t23 false (fun K => K n2 h) h fun t25 h =>
 whenA t23 false (fun K => valA (binOp .lss .num t25 (.int .i64 0)) h K) h fun t26 h =>
 valA (pickA t23 (.bool true) t26) h fun t27 h =>
 condA t27
  (R (.tup [(.int .i64 0), (.int .i64 1)]) h)
  (valA (nilcA h0) h fun t29 h =>
 valA (faA 2 t29) h fun t30 h =>
 valA (ldA h none t30) h fun t31 h =>
 valA (iaA 2 t31 shape1) h fun t33 h =>
 valA (ldA h (some 2) t33) h fun t34 h =>
 newA h [(.int .i64 0), (.int .i64 0)] 60 (fun b => .ptr b 0) fun l8 h =>
 memA (stA h 2 l8 t34) .undef fun _ h =>
 valA (faA 0 l8) h fun t36 h =>
 valA (ldA h none t36) h fun t37 h =>
 valA (binOp .eql .num t37 (.int .i64 1)) h fun t38 h =>
 whenA t38 true (fun K => K n2 h) h fun t40 h =>
 whenA t38 true (fun K => valA (faA 1 l8) h K) h fun t41 h =>
 whenA t38 true (fun K => valA (ldA h none t41) h K) h fun t42 h =>
 whenA t38 true (fun K => valA (binOp .neq .num t40 t42) h K) h fun t43 h =>
 valA (pickA t38 t43 (.bool false)) h fun t44 h =>
 condA t44
  (R (.tup [(.int .i64 0), (.int .i64 1)]) h)
  (valA (binOp .gtr .num n2 (.int .i64 65536)) h fun t47 h =>
  condA t47
   (R (.tup [(.int .i64 0), (.int .i64 2)]) h)
   (valA (faA 0 l8) h fun t49 h =>
   valA (ldA h none t49) h fun t50 h =>
   valA (binOp .eql .num t50 (.int .i64 3)) h fun t51 h =>
   condA t51
    (valA (binOp .add .num n2 (.int .i64 7)) h fun t53 h =>
    valA (binOp .quo .num t53 (.int .i64 8)) h fun t54 h =>
    valA (binOp .add .num (.int .i64 1) t54) h fun t55 h =>
    R (.tup [t55, (.int .i64 0)]) h)
    (valA (binOp .add .num (.int .i64 1) n2) h fun t57 h =>
 R (.tup [t57, (.int .i64 0)]) h))))
theorem she52 (C : CallA) (h0 shape1 n2 : AV) (h : H) (R : AV → H → Prop) : wpA C an52 (argE [h0, shape1, n2]) h (outA [(.tmp 6), (.tmp 7)] R) = sh52 C h0 shape1 n2 h R := by kernel_rfl
end Go.Proofs.Ytljkkfcokpimkaa.X
