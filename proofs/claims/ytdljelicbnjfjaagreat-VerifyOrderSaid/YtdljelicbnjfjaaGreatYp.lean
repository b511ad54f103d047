/- Plain programs of functions, printed; that they are the model's; the table. -/
import Derived.Test.YtdljelicbnjfjaaGreatProg
import Derived.Test.YtdljelicbnjfjaaGreatYy
set_option maxRecDepth 100000
set_option linter.unusedVariables false
namespace Go.Proofs.YtdljelicbnjfjaaGreat.X
open Go
def zc9 : ICode :=
 (.seq (.reg 0 [] [] [⟨some 4, none, (.mv (.c (.bool false))), []⟩])
 (.seq (.reg 0 [] [] [⟨some 11, none, (.call 33 []), []⟩,
 ⟨some 5, none, (.al none 28 [.nilsl, .nilsl, .nilsl, .nilsl, .nilsl, (.int .i64 0), (.int .i64 0)]), []⟩,
 ⟨none, none, (.st 7 (.t 5) (.t 11)), []⟩])
 (.seq (.reg 0 [] [] [⟨some 12, none, (.fa 1 (.t 5)), []⟩,
 ⟨some 13, none, (.ld none (.t 12)), []⟩,
 ⟨some 14, none, (.mksl none 3 [(.int .i64 0)] 1 [(0, 1, (.c (.int .i64 0)))]), []⟩,
 ⟨some 15, none, (.build [(.int .i64 0), .nilsl, (.str [])] [(0, 1, (.c (.int .i64 1))), (1, 1, (.t 14))]), []⟩,
 ⟨some 16, none, (.mksl none 3 [(.int .i64 0)] 1 [(0, 1, (.c (.int .i64 0)))]), []⟩,
 ⟨some 17, none, (.build [(.int .i64 0), .nilsl, (.str [])] [(0, 1, (.c (.int .i64 2))), (1, 1, (.t 16))]), []⟩,
 ⟨some 18, none, (.mksl none 61 [(.int .i64 0), .nilsl, (.str []), (.int .i64 0), .nilsl, (.str [])] 2 [(0, 3, (.t 15)), (3, 3, (.t 17))]), []⟩,
 ⟨some 19, none, (.app 61 3 48 [(.int .i64 0), .nilsl, (.str [])] (.t 13) (.t 18)), []⟩,
 ⟨some 20, none, (.fa 1 (.t 5)), []⟩,
 ⟨none, none, (.st 1 (.t 20) (.t 19)), []⟩])
 (.seq (.reg 0 [] [] [⟨some 21, none, (.mksl none 9 [(.str [])] 1 [(0, 1, (.c (.str [120])))]), []⟩,
 ⟨some 22, none, (.fa 2 (.t 5)), []⟩,
 ⟨none, none, (.st 1 (.t 22) (.t 21)), []⟩])
 (.seq (.reg 0 [] [] [⟨some 23, none, (.build [(.int .i64 0), (.int .i64 0), (.int .i64 0), (.int .i64 0), (.int .i64 0), (.int .i64 0), .nilsl, .nilsl, .nilsl] [(0, 1, (.c (.int .i64 2))), (1, 1, (.c (.int .i64 1)))]), []⟩,
 ⟨some 6, none, (.al none 55 [(.int .i64 0), (.int .i64 0), (.int .i64 0), (.int .i64 0), (.int .i64 0), (.int .i64 0), .nilsl, .nilsl, .nilsl]), []⟩,
 ⟨none, none, (.st 9 (.t 6) (.t 23)), []⟩])
 (.seq (.seq (.reg 0 [] [] [⟨some 24, none, (.mv (.t 1)), []⟩,
 ⟨some 25, none, (.cv none (.toInt .u64) (.t 24)), []⟩,
 ⟨some 26, none, (.bin .rem .num (.t 25) (.c (.int .u64 4))), []⟩,
 ⟨some 27, none, (.cv none (.toInt .i64) (.t 26)), []⟩])
 (.block 0 (.seq (.reg 0 [] [] [⟨some 29, none, (.bin .eql .num (.t 27) (.c (.int .i64 1))), []⟩,
 ⟨some 28, none, (.mv (.t 29)), []⟩])
 (.cond (.t 28) (.reg 0 [] [] [⟨some 30, none, (.mksl none 3 [(.int .i64 0)] 1 [(0, 1, (.c (.int .i64 0)))]), []⟩,
 ⟨some 31, none, (.build [(.int .i64 0), (.int .i64 0), (.int .i64 0), (.int .i64 0), (.int .i64 0), (.int .i64 0), .nilsl, .nilsl, .nilsl] [(0, 1, (.c (.int .i64 5))), (1, 1, (.c (.int .i64 1))), (2, 1, (.c (.int .i64 1))), (6, 1, (.t 30))]), []⟩,
 ⟨none, none, (.st 9 (.t 6) (.t 31)), []⟩])
 (.seq (.reg 0 [] [] [⟨some 33, none, (.bin .eql .num (.t 27) (.c (.int .i64 2))), []⟩,
 ⟨some 32, none, (.mv (.t 33)), []⟩])
 (.cond (.t 32) (.reg 0 [] [] [⟨some 34, none, (.build [(.int .i64 0), (.int .i64 0), (.int .i64 0), (.int .i64 0), (.int .i64 0), (.int .i64 0), .nilsl, .nilsl, .nilsl] [(0, 1, (.c (.int .i64 8))), (1, 1, (.c (.int .i64 1))), (2, 1, (.c (.int .i64 2)))]), []⟩,
 ⟨none, none, (.st 9 (.t 6) (.t 34)), []⟩])
 (.seq (.reg 0 [] [] [⟨some 36, none, (.bin .eql .num (.t 27) (.c (.int .i64 3))), []⟩,
 ⟨some 35, none, (.mv (.t 36)), []⟩])
 (.cond (.t 35) (.reg 0 [] [] [⟨some 37, none, (.build [(.int .i64 0), (.int .i64 0), (.int .i64 0), (.int .i64 0), (.int .i64 0), (.int .i64 0), .nilsl, .nilsl, .nilsl] [(0, 1, (.c (.int .i64 17))), (1, 1, (.c (.int .i64 1))), (2, 1, (.c (.int .i64 1))), (3, 1, (.c (.int .i64 (-1))))]), []⟩,
 ⟨none, none, (.st 9 (.t 6) (.t 37)), []⟩])
 .skip))))))))
 (.seq (.seq (.reg 0 [] [] [⟨some 38, none, (.mv (.t 0)), []⟩])
 (.cond (.t 38) (.reg 0 [] [] [⟨some 39, none, (.mksl none 3 [(.int .i64 0)] 1 [(0, 1, (.c (.int .i64 0)))]), []⟩,
 ⟨some 40, none, (.fa 8 (.t 6)), []⟩,
 ⟨none, none, (.st 1 (.t 40) (.t 39)), []⟩])
 .skip))
 (.seq (.reg 1 [0, 1, 2, 3, 4, 5, 6, 7, 8, 9] [[], [0], [], [2], [2, 3], [3, 2, 4], [4, 2, 3, 5], [5, 3, 2, 4, 6, 0, 1], [7, 6, 5, 4, 3, 2, 1, 0], [0, 1, 2, 3, 4, 5, 6, 7, 8]] [⟨some 41, none, (.fa 4 (.t 5)), []⟩,
 ⟨some 42, none, (.ld none (.t 41)), []⟩,
 ⟨some 43, none, (.fa 4 (.t 5)), []⟩,
 ⟨some 44, none, (.ld none (.t 43)), []⟩,
 ⟨some 45, none, (.ia none 4 (.t 44) (.c (.int .i64 0))), []⟩,
 ⟨some 46, none, (.ld (some 4) (.t 45)), []⟩,
 ⟨some 47, none, (.mksl (some 0) 39 [.nilsl, (.int .i64 0), (.int .i64 0), .nilsl] 1 [(0, 4, (.t 46))]), []⟩,
 ⟨some 48, none, (.app 39 4 64 [.nilsl, (.int .i64 0), (.int .i64 0), .nilsl] (.t 42) (.t 47)), []⟩,
 ⟨some 49, none, (.fa 4 (.t 5)), []⟩,
 ⟨none, none, (.st 1 (.t 49) (.t 48)), []⟩])
 (.seq (.reg 0 [] [] [⟨some 50, none, (.fa 4 (.t 5)), []⟩,
 ⟨some 51, none, (.ld none (.t 50)), []⟩,
 ⟨some 52, none, (.mksl none 3 [(.int .i64 0), (.int .i64 0)] 2 [(0, 1, (.c (.int .i64 (-1)))), (1, 1, (.c (.int .i64 (-1))))]), []⟩,
 ⟨some 53, none, (.build [(.int .i64 0), (.int .i64 0), (.int .i64 0), (.int .i64 0), (.int .i64 0), (.int .i64 0), .nilsl, .nilsl, .nilsl] [(0, 1, (.c (.int .i64 1))), (5, 1, (.c (.int .i64 1)))]), []⟩,
 ⟨some 54, none, (.ld (some 9) (.t 6)), []⟩,
 ⟨some 55, none, (.build [(.int .i64 0), (.int .i64 0), (.int .i64 0), (.int .i64 0), (.int .i64 0), (.int .i64 0), .nilsl, .nilsl, .nilsl] [(0, 1, (.c (.int .i64 22)))]), []⟩,
 ⟨some 56, none, (.mksl none 55 [(.int .i64 0), (.int .i64 0), (.int .i64 0), (.int .i64 0), (.int .i64 0), (.int .i64 0), .nilsl, .nilsl, .nilsl, (.int .i64 0), (.int .i64 0), (.int .i64 0), (.int .i64 0), (.int .i64 0), (.int .i64 0), .nilsl, .nilsl, .nilsl, (.int .i64 0), (.int .i64 0), (.int .i64 0), (.int .i64 0), (.int .i64 0), (.int .i64 0), .nilsl, .nilsl, .nilsl] 3 [(0, 9, (.t 53)), (9, 9, (.t 54)), (18, 9, (.t 55))]), []⟩,
 ⟨some 57, none, (.build [.nilsl, .nilsl] [(0, 1, (.t 52)), (1, 1, (.t 56))]), []⟩,
 ⟨some 58, none, (.mksl none 42 [.nilsl, .nilsl] 1 [(0, 2, (.t 57))]), []⟩,
 ⟨some 59, none, (.build [.nilsl, (.int .i64 0), (.int .i64 0), .nilsl] [(2, 1, (.c (.int .i64 2))), (3, 1, (.t 58))]), []⟩,
 ⟨some 60, none, (.ia none 4 (.t 51) (.c (.int .i64 0))), []⟩,
 ⟨none, none, (.st 4 (.t 60) (.t 59)), []⟩])
 (.seq (.reg 0 [] [] [⟨some 62, none, (.ld (some 7) (.t 5)), []⟩,
 ⟨some 63, none, (.call 27 [(.t 62)]), []⟩,
 ⟨some 61, none, (.mv (.t 63)), []⟩,
 ⟨some 64, none, (.ext (.t 61) 0), []⟩,
 ⟨some 65, none, (.ext (.t 61) 1), []⟩,
 ⟨some 66, none, (.ext (.t 61) 2), []⟩,
 ⟨some 67, none, (.ext (.t 61) 3), []⟩,
 ⟨some 7, none, (.mv (.t 64)), []⟩,
 ⟨some 8, none, (.mv (.t 65)), []⟩,
 ⟨some 9, none, (.mv (.t 66)), []⟩,
 ⟨some 10, none, (.mv (.t 67)), []⟩])
 (.seq (.seq (.reg 0 [] [] [⟨some 68, none, (.mv (.t 0)), []⟩])
 (.cond (.t 68) (.seq (.reg 0 [] [] [⟨some 69, none, (.mv (.t 10)), []⟩,
 ⟨some 70, none, (.mv (.t 69)), []⟩,
 ⟨some 71, some (70, true), (.call 26 []), []⟩,
 ⟨some 72, none, (.pick (.t 70) (.t 71) (.c (.bool false))), []⟩,
 ⟨some 4, none, (.mv (.t 72)), []⟩])
 .ret)
 .skip))
 (.seq (.reg 0 [] [] [⟨some 73, none, (.mv (.t 10)), []⟩,
 ⟨some 74, none, (.un .not (.t 73)), []⟩,
 ⟨some 75, none, (.mv (.t 74)), []⟩,
 ⟨some 76, some (75, true), (.mv (.t 7)), []⟩,
 ⟨some 77, some (75, true), (.bin .eql .num (.t 76) (.c (.int .i64 0))), []⟩,
 ⟨some 78, none, (.pick (.t 75) (.t 77) (.c (.bool false))), []⟩,
 ⟨some 79, none, (.mv (.t 78)), []⟩,
 ⟨some 80, some (79, true), (.mv (.t 8)), []⟩,
 ⟨some 81, some (79, true), (.bin .eql .num (.t 80) (.c (.int .i64 0))), []⟩,
 ⟨some 82, none, (.pick (.t 79) (.t 81) (.c (.bool false))), []⟩,
 ⟨some 83, none, (.mv (.t 82)), []⟩,
 ⟨some 84, some (83, true), (.mv (.t 9)), []⟩,
 ⟨some 85, some (83, true), (.bin .eql .num (.t 84) (.c (.int .i64 2))), []⟩,
 ⟨some 86, none, (.pick (.t 83) (.t 85) (.c (.bool false))), []⟩,
 ⟨some 87, none, (.mv (.t 86)), []⟩,
 ⟨some 88, some (87, true), (.call 26 []), []⟩,
 ⟨some 89, none, (.pick (.t 87) (.t 88) (.c (.bool false))), []⟩,
 ⟨some 4, none, (.mv (.t 89)), []⟩])
 .ret))))))))))))
def zf9 : IFun := ⟨90, [(.tmp 4)], zc9⟩
theorem zok9 : okFun Tryz.prog 9 zf9 = true := by kernel_rfl
def zc10 : ICode :=
 (.seq (.reg 0 [] [] [⟨some 8, none, (.mv (.c (.bool false))), []⟩])
 (.seq (.reg 0 [] [] [⟨some 13, none, (.call 33 []), []⟩,
 ⟨some 9, none, (.al none 28 [.nilsl, .nilsl, .nilsl, .nilsl, .nilsl, (.int .i64 0), (.int .i64 0)]), []⟩,
 ⟨none, none, (.st 7 (.t 9) (.t 13)), []⟩])
 (.seq (.reg 0 [] [] [⟨some 14, none, (.fa 1 (.t 9)), []⟩,
 ⟨some 15, none, (.ld none (.t 14)), []⟩,
 ⟨some 16, none, (.mksl none 3 [(.int .i64 0)] 1 [(0, 1, (.c (.int .i64 0)))]), []⟩,
 ⟨some 17, none, (.build [(.int .i64 0), .nilsl, (.str [])] [(0, 1, (.c (.int .i64 1))), (1, 1, (.t 16))]), []⟩,
 ⟨some 18, none, (.build [(.int .i64 0), .nilsl, (.str [])] [(0, 1, (.c (.int .i64 1)))]), []⟩,
 ⟨some 19, none, (.mksl none 61 [(.int .i64 0), .nilsl, (.str []), (.int .i64 0), .nilsl, (.str [])] 2 [(0, 3, (.t 17)), (3, 3, (.t 18))]), []⟩,
 ⟨some 20, none, (.app 61 3 48 [(.int .i64 0), .nilsl, (.str [])] (.t 15) (.t 19)), []⟩,
 ⟨some 21, none, (.fa 1 (.t 9)), []⟩,
 ⟨none, none, (.st 1 (.t 21) (.t 20)), []⟩])
 (.seq (.reg 0 [] [] [⟨some 22, none, (.fa 0 (.t 9)), []⟩,
 ⟨some 23, none, (.ld none (.t 22)), []⟩,
 ⟨some 24, none, (.mv (.t 0)), []⟩,
 ⟨some 25, none, (.mksl none 3 [(.int .i64 0), (.int .i64 0)] 2 [(0, 1, (.c (.int .i64 1))), (1, 1, (.c (.int .i64 2)))]), []⟩,
 ⟨some 26, none, (.build [(.bool false), .nilsl] [(0, 1, (.t 24)), (1, 1, (.t 25))]), []⟩,
 ⟨some 27, none, (.mksl none 46 [(.bool false), .nilsl] 1 [(0, 2, (.t 26))]), []⟩,
 ⟨some 28, none, (.app 46 2 32 [(.bool false), .nilsl] (.t 23) (.t 27)), []⟩,
 ⟨some 29, none, (.fa 0 (.t 9)), []⟩,
 ⟨none, none, (.st 1 (.t 29) (.t 28)), []⟩])
 (.seq (.reg 0 [] [] [⟨some 30, none, (.build [(.int .i64 0), (.int .i64 0), (.int .i64 0), (.int .i64 0), (.int .i64 0), (.int .i64 0), .nilsl, .nilsl, .nilsl] [(0, 1, (.c (.int .i64 20))), (3, 1, (.c (.int .i64 (-1))))]), []⟩,
 ⟨some 10, none, (.al none 55 [(.int .i64 0), (.int .i64 0), (.int .i64 0), (.int .i64 0), (.int .i64 0), (.int .i64 0), .nilsl, .nilsl, .nilsl]), []⟩,
 ⟨none, none, (.st 9 (.t 10) (.t 30)), []⟩])
 (.seq (.seq (.reg 0 [] [] [⟨some 31, none, (.mv (.t 1)), []⟩])
 (.cond (.t 31) (.reg 0 [] [] [⟨some 32, none, (.fa 7 (.t 10)), []⟩,
 ⟨some 33, none, (.ld none (.t 32)), []⟩,
 ⟨some 34, none, (.mksl none 3 [(.int .i64 0), (.int .i64 0)] 2 [(0, 1, (.c (.int .i64 1))), (1, 1, (.c (.int .i64 1)))]), []⟩,
 ⟨some 35, none, (.app 3 1 8 [(.int .i64 0)] (.t 33) (.t 34)), []⟩,
 ⟨some 36, none, (.fa 7 (.t 10)), []⟩,
 ⟨none, none, (.st 1 (.t 36) (.t 35)), []⟩])
 .skip))
 (.seq (.seq (.reg 0 [] [] [⟨some 37, none, (.mv (.t 2)), []⟩])
 (.cond (.t 37) (.reg 0 [] [] [⟨some 38, none, (.fa 7 (.t 10)), []⟩,
 ⟨some 39, none, (.ld none (.t 38)), []⟩,
 ⟨some 40, none, (.mksl none 3 [(.int .i64 0), (.int .i64 0)] 2 [(0, 1, (.c (.int .i64 2))), (1, 1, (.c (.int .i64 2)))]), []⟩,
 ⟨some 41, none, (.app 3 1 8 [(.int .i64 0)] (.t 39) (.t 40)), []⟩,
 ⟨some 42, none, (.fa 7 (.t 10)), []⟩,
 ⟨none, none, (.st 1 (.t 42) (.t 41)), []⟩])
 .skip))
 (.seq (.seq (.reg 0 [] [] [⟨some 43, none, (.mv (.t 3)), []⟩])
 (.cond (.t 43) (.reg 0 [] [] [⟨some 44, none, (.fa 3 (.t 10)), []⟩,
 ⟨none, none, (.st 1 (.t 44) (.c (.int .i64 2))), []⟩])
 .skip))
 (.seq (.reg 0 [] [] [⟨some 45, none, (.build [(.int .i64 0), (.int .i64 0), (.int .i64 0), (.int .i64 0), (.int .i64 0), (.int .i64 0), .nilsl, .nilsl, .nilsl] [(0, 1, (.c (.int .i64 1))), (5, 1, (.c (.int .i64 3)))]), []⟩,
 ⟨some 46, none, (.build [(.int .i64 0), (.int .i64 0), (.int .i64 0), (.int .i64 0), (.int .i64 0), (.int .i64 0), .nilsl, .nilsl, .nilsl] [(0, 1, (.c (.int .i64 22)))]), []⟩,
 ⟨some 47, none, (.mksl none 55 [(.int .i64 0), (.int .i64 0), (.int .i64 0), (.int .i64 0), (.int .i64 0), (.int .i64 0), .nilsl, .nilsl, .nilsl, (.int .i64 0), (.int .i64 0), (.int .i64 0), (.int .i64 0), (.int .i64 0), (.int .i64 0), .nilsl, .nilsl, .nilsl] 2 [(0, 9, (.t 45)), (9, 9, (.t 46))]), []⟩,
 ⟨some 11, none, (.mv (.t 47)), []⟩])
 (.seq (.reg 0 [] [] [⟨some 48, none, (.fa 4 (.t 9)), []⟩,
 ⟨some 49, none, (.ld none (.t 48)), []⟩,
 ⟨some 50, none, (.mksl none 3 [(.int .i64 0)] 1 [(0, 1, (.c (.int .i64 2)))]), []⟩,
 ⟨some 51, none, (.mksl none 3 [(.int .i64 0)] 1 [(0, 1, (.c (.int .i64 2)))]), []⟩,
 ⟨some 52, none, (.ld (some 9) (.t 10)), []⟩,
 ⟨some 53, none, (.mksl none 55 [(.int .i64 0), (.int .i64 0), (.int .i64 0), (.int .i64 0), (.int .i64 0), (.int .i64 0), .nilsl, .nilsl, .nilsl] 1 [(0, 9, (.t 52))]), []⟩,
 ⟨some 54, none, (.build [.nilsl, .nilsl] [(0, 1, (.t 51)), (1, 1, (.t 53))]), []⟩,
 ⟨some 55, none, (.mksl none 3 [(.int .i64 0)] 1 [(0, 1, (.c (.int .i64 2)))]), []⟩,
 ⟨some 56, none, (.mv (.t 11)), []⟩,
 ⟨some 57, none, (.build [.nilsl, .nilsl] [(0, 1, (.t 55)), (1, 1, (.t 56))]), []⟩,
 ⟨some 58, none, (.mksl none 3 [(.int .i64 0)] 1 [(0, 1, (.c (.int .i64 (-1))))]), []⟩,
 ⟨some 59, none, (.mv (.t 11)), []⟩,
 ⟨some 60, none, (.build [.nilsl, .nilsl] [(0, 1, (.t 58)), (1, 1, (.t 59))]), []⟩,
 ⟨some 61, none, (.mksl none 42 [.nilsl, .nilsl, .nilsl, .nilsl, .nilsl, .nilsl] 3 [(0, 2, (.t 54)), (2, 2, (.t 57)), (4, 2, (.t 60))]), []⟩,
 ⟨some 62, none, (.build [.nilsl, (.int .i64 0), (.int .i64 0), .nilsl] [(0, 1, (.t 50)), (2, 1, (.c (.int .i64 1))), (3, 1, (.t 61))]), []⟩,
 ⟨some 63, none, (.mksl none 39 [.nilsl, (.int .i64 0), (.int .i64 0), .nilsl] 1 [(0, 4, (.t 62))]), []⟩,
 ⟨some 64, none, (.app 39 4 64 [.nilsl, (.int .i64 0), (.int .i64 0), .nilsl] (.t 49) (.t 63)), []⟩,
 ⟨some 65, none, (.fa 4 (.t 9)), []⟩,
 ⟨none, none, (.st 1 (.t 65) (.t 64)), []⟩])
 (.seq (.reg 0 [] [] [⟨some 66, none, (.mv (.t 1)), []⟩,
 ⟨some 67, none, (.mv (.t 66)), []⟩,
 ⟨some 68, some (67, true), (.mv (.t 2)), []⟩,
 ⟨some 69, none, (.pick (.t 67) (.t 68) (.c (.bool false))), []⟩,
 ⟨some 70, none, (.mv (.t 69)), []⟩,
 ⟨some 71, some (70, true), (.mv (.t 3)), []⟩,
 ⟨some 72, some (70, true), (.mv (.t 71)), []⟩,
 ⟨some 73, some (72, false), (.mv (.t 0)), []⟩,
 ⟨some 74, some (72, false), (.un .not (.t 73)), []⟩,
 ⟨some 75, some (70, true), (.pick (.t 72) (.c (.bool true)) (.t 74)), []⟩,
 ⟨some 76, none, (.pick (.t 70) (.t 75) (.c (.bool false))), []⟩,
 ⟨some 12, none, (.mv (.t 76)), []⟩])
 (.seq (.seq (.reg 0 [] [] [⟨some 77, none, (.ld (some 7) (.t 9)), []⟩,
 ⟨some 78, none, (.call 29 [(.t 77)]), []⟩,
 ⟨some 79, none, (.bin .eql .num (.t 78) (.c (.int .i64 0))), []⟩,
 ⟨some 80, none, (.mv (.t 12)), []⟩,
 ⟨some 81, none, (.bin .neq .bool (.t 79) (.t 80)), []⟩])
 (.cond (.t 81) (.seq (.reg 0 [] [] [⟨some 8, none, (.mv (.c (.bool false))), []⟩])
 .ret)
 .skip))
 (.seq (.reg 0 [] [] [⟨some 82, none, (.fa 0 (.t 9)), []⟩,
 ⟨some 83, none, (.ld none (.t 82)), []⟩,
 ⟨some 84, none, (.mksl none 3 [(.int .i64 0)] 1 [(0, 1, (.c (.int .i64 1)))]), []⟩,
 ⟨some 85, none, (.build [(.bool false), .nilsl] [(1, 1, (.t 84))]), []⟩,
 ⟨some 86, none, (.mksl none 46 [(.bool false), .nilsl] 1 [(0, 2, (.t 85))]), []⟩,
 ⟨some 87, none, (.app 46 2 32 [(.bool false), .nilsl] (.t 83) (.t 86)), []⟩,
 ⟨some 88, none, (.fa 0 (.t 9)), []⟩,
 ⟨none, none, (.st 1 (.t 88) (.t 87)), []⟩])
 (.seq (.reg 0 [] [] [⟨some 89, none, (.fa 4 (.t 9)), []⟩,
 ⟨some 90, none, (.ld none (.t 89)), []⟩,
 ⟨some 91, none, (.ia none 4 (.t 90) (.c (.int .i64 1))), []⟩,
 ⟨some 92, none, (.fa 3 (.t 91)), []⟩,
 ⟨some 93, none, (.ld none (.t 92)), []⟩,
 ⟨some 94, none, (.mksl none 3 [(.int .i64 0)] 1 [(0, 1, (.c (.int .i64 3)))]), []⟩,
 ⟨some 95, none, (.build [(.int .i64 0), (.int .i64 0), (.int .i64 0), (.int .i64 0), (.int .i64 0), (.int .i64 0), .nilsl, .nilsl, .nilsl] [(0, 1, (.c (.int .i64 6)))]), []⟩,
 ⟨some 96, none, (.build [(.int .i64 0), (.int .i64 0), (.int .i64 0), (.int .i64 0), (.int .i64 0), (.int .i64 0), .nilsl, .nilsl, .nilsl] [(0, 1, (.c (.int .i64 22)))]), []⟩,
 ⟨some 97, none, (.mksl none 55 [(.int .i64 0), (.int .i64 0), (.int .i64 0), (.int .i64 0), (.int .i64 0), (.int .i64 0), .nilsl, .nilsl, .nilsl, (.int .i64 0), (.int .i64 0), (.int .i64 0), (.int .i64 0), (.int .i64 0), (.int .i64 0), .nilsl, .nilsl, .nilsl] 2 [(0, 9, (.t 95)), (9, 9, (.t 96))]), []⟩,
 ⟨some 98, none, (.build [.nilsl, .nilsl] [(0, 1, (.t 94)), (1, 1, (.t 97))]), []⟩,
 ⟨some 99, none, (.ia none 2 (.t 93) (.c (.int .i64 1))), []⟩,
 ⟨none, none, (.st 2 (.t 99) (.t 98)), []⟩])
 (.seq (.reg 0 [] [] [⟨some 100, none, (.ld (some 7) (.t 9)), []⟩,
 ⟨some 101, none, (.call 29 [(.t 100)]), []⟩,
 ⟨some 102, none, (.bin .eql .num (.t 101) (.c (.int .i64 0))), []⟩,
 ⟨some 103, none, (.mv (.t 12)), []⟩,
 ⟨some 104, none, (.bin .eql .bool (.t 102) (.t 103)), []⟩,
 ⟨some 105, none, (.mv (.t 104)), []⟩,
 ⟨some 106, some (105, true), (.call 26 []), []⟩,
 ⟨some 107, none, (.pick (.t 105) (.t 106) (.c (.bool false))), []⟩,
 ⟨some 8, none, (.mv (.t 107)), []⟩])
 .ret)))))))))))))))
def zf10 : IFun := ⟨108, [(.tmp 8)], zc10⟩
theorem zok10 : okFun Tryz.prog 10 zf10 = true := by kernel_rfl
def zc11 : ICode :=
 (.seq (.reg 0 [] [] [⟨some 4, none, (.mv (.c (.bool false))), []⟩])
 (.seq (.reg 0 [] [] [⟨some 13, none, (.call 33 []), []⟩,
 ⟨some 5, none, (.al none 28 [.nilsl, .nilsl, .nilsl, .nilsl, .nilsl, (.int .i64 0), (.int .i64 0)]), []⟩,
 ⟨none, none, (.st 7 (.t 5) (.t 13)), []⟩])
 (.seq (.reg 0 [] [] [⟨some 14, none, (.mksl none 9 [(.str [])] 1 [(0, 1, (.c (.str [120])))]), []⟩,
 ⟨some 15, none, (.fa 2 (.t 5)), []⟩,
 ⟨none, none, (.st 1 (.t 15) (.t 14)), []⟩])
 (.seq (.reg 0 [] [] [⟨some 16, none, (.fa 0 (.t 5)), []⟩,
 ⟨some 17, none, (.ld none (.t 16)), []⟩,
 ⟨some 18, none, (.mksl none 3 [(.int .i64 0)] 1 [(0, 1, (.c (.int .i64 0)))]), []⟩,
 ⟨some 19, none, (.build [(.bool false), .nilsl] [(0, 1, (.c (.bool true))), (1, 1, (.t 18))]), []⟩,
 ⟨some 20, none, (.mksl none 46 [(.bool false), .nilsl] 1 [(0, 2, (.t 19))]), []⟩,
 ⟨some 21, none, (.app 46 2 32 [(.bool false), .nilsl] (.t 17) (.t 20)), []⟩,
 ⟨some 22, none, (.fa 0 (.t 5)), []⟩,
 ⟨none, none, (.st 1 (.t 22) (.t 21)), []⟩])
 (.seq (.reg 0 [] [] [⟨some 6, none, (.mv (.c (.int .i64 0))), []⟩])
 (.seq (.seq (.reg 0 [] [] [⟨some 23, none, (.mv (.t 1)), []⟩])
 (.cond (.t 23) (.reg 0 [] [] [⟨some 6, none, (.mv (.c (.int .i64 1))), []⟩])
 .skip))
 (.seq (.reg 0 [] [] [⟨some 24, none, (.build [(.int .i64 0), (.int .i64 0), (.int .i64 0), (.int .i64 0), (.int .i64 0), (.int .i64 0), .nilsl, .nilsl, .nilsl] [(0, 1, (.c (.int .i64 1))), (5, 1, (.c (.int .i64 7)))]), []⟩,
 ⟨some 7, none, (.al none 55 [(.int .i64 0), (.int .i64 0), (.int .i64 0), (.int .i64 0), (.int .i64 0), (.int .i64 0), .nilsl, .nilsl, .nilsl]), []⟩,
 ⟨none, none, (.st 9 (.t 7) (.t 24)), []⟩])
 (.seq (.seq (.reg 0 [] [] [⟨some 25, none, (.mv (.t 0)), []⟩,
 ⟨some 26, none, (.bin .rem .num (.t 25) (.c (.int .u64 2))), []⟩,
 ⟨some 27, none, (.bin .eql .num (.t 26) (.c (.int .u64 1))), []⟩])
 (.cond (.t 27) (.reg 0 [] [] [⟨some 28, none, (.build [(.int .i64 0), (.int .i64 0), (.int .i64 0), (.int .i64 0), (.int .i64 0), (.int .i64 0), .nilsl, .nilsl, .nilsl] [(0, 1, (.c (.int .i64 2)))]), []⟩,
 ⟨none, none, (.st 9 (.t 7) (.t 28)), []⟩])
 .skip))
 (.seq (.reg 0 [] [] [⟨some 29, none, (.mv (.t 1)), []⟩,
 ⟨some 30, none, (.mv (.t 0)), []⟩,
 ⟨some 31, none, (.bin .rem .num (.t 30) (.c (.int .u64 2))), []⟩,
 ⟨some 32, none, (.bin .eql .num (.t 31) (.c (.int .u64 1))), []⟩,
 ⟨some 33, none, (.bin .eql .bool (.t 29) (.t 32)), []⟩,
 ⟨some 8, none, (.mv (.t 33)), []⟩])
 (.seq (.reg 0 [] [] [⟨some 34, none, (.fa 4 (.t 5)), []⟩,
 ⟨some 35, none, (.ld none (.t 34)), []⟩,
 ⟨some 36, none, (.mv (.t 6)), []⟩,
 ⟨some 37, none, (.mksl none 3 [(.int .i64 0)] 1 [(0, 1, (.c (.int .i64 (-1))))]), []⟩,
 ⟨some 38, none, (.ld (some 9) (.t 7)), []⟩,
 ⟨some 39, none, (.build [(.int .i64 0), (.int .i64 0), (.int .i64 0), (.int .i64 0), (.int .i64 0), (.int .i64 0), .nilsl, .nilsl, .nilsl] [(0, 1, (.c (.int .i64 22)))]), []⟩,
 ⟨some 40, none, (.mksl none 55 [(.int .i64 0), (.int .i64 0), (.int .i64 0), (.int .i64 0), (.int .i64 0), (.int .i64 0), .nilsl, .nilsl, .nilsl, (.int .i64 0), (.int .i64 0), (.int .i64 0), (.int .i64 0), (.int .i64 0), (.int .i64 0), .nilsl, .nilsl, .nilsl] 2 [(0, 9, (.t 38)), (9, 9, (.t 39))]), []⟩,
 ⟨some 41, none, (.build [.nilsl, .nilsl] [(0, 1, (.t 37)), (1, 1, (.t 40))]), []⟩,
 ⟨some 42, none, (.mksl none 42 [.nilsl, .nilsl] 1 [(0, 2, (.t 41))]), []⟩,
 ⟨some 43, none, (.build [.nilsl, (.int .i64 0), (.int .i64 0), .nilsl] [(1, 1, (.t 36)), (2, 1, (.c (.int .i64 1))), (3, 1, (.t 42))]), []⟩,
 ⟨some 44, none, (.mksl none 39 [.nilsl, (.int .i64 0), (.int .i64 0), .nilsl] 1 [(0, 4, (.t 43))]), []⟩,
 ⟨some 45, none, (.app 39 4 64 [.nilsl, (.int .i64 0), (.int .i64 0), .nilsl] (.t 35) (.t 44)), []⟩,
 ⟨some 46, none, (.fa 4 (.t 5)), []⟩,
 ⟨none, none, (.st 1 (.t 46) (.t 45)), []⟩])
 (.seq (.reg 0 [] [] [⟨some 48, none, (.ld (some 7) (.t 5)), []⟩,
 ⟨some 49, none, (.call 27 [(.t 48)]), []⟩,
 ⟨some 47, none, (.mv (.t 49)), []⟩,
 ⟨some 50, none, (.ext (.t 47) 0), []⟩,
 ⟨some 51, none, (.ext (.t 47) 1), []⟩,
 ⟨some 52, none, (.ext (.t 47) 2), []⟩,
 ⟨some 53, none, (.ext (.t 47) 3), []⟩,
 ⟨some 9, none, (.mv (.t 50)), []⟩,
 ⟨some 10, none, (.mv (.t 51)), []⟩,
 ⟨some 11, none, (.mv (.t 52)), []⟩,
 ⟨some 12, none, (.mv (.t 53)), []⟩])
 (.seq (.seq (.reg 0 [] [] [⟨some 54, none, (.mv (.t 12)), []⟩,
 ⟨some 55, none, (.mv (.t 8)), []⟩,
 ⟨some 56, none, (.bin .neq .bool (.t 54) (.t 55)), []⟩,
 ⟨some 57, none, (.mv (.t 56)), []⟩,
 ⟨some 58, some (57, false), (.mv (.t 12)), []⟩,
 ⟨some 59, some (57, false), (.un .not (.t 58)), []⟩,
 ⟨some 60, some (57, false), (.mv (.t 59)), []⟩,
 ⟨some 61, some (60, true), (.mv (.t 9)), []⟩,
 ⟨some 62, some (60, true), (.bin .neq .num (.t 61) (.c (.int .i64 1))), []⟩,
 ⟨some 63, some (60, true), (.mv (.t 62)), []⟩,
 ⟨some 64, some (63, false), (.mv (.t 10)), []⟩,
 ⟨some 65, some (63, false), (.bin .neq .num (.t 64) (.c (.int .i64 0))), []⟩,
 ⟨some 66, some (60, true), (.pick (.t 63) (.c (.bool true)) (.t 65)), []⟩,
 ⟨some 67, some (60, true), (.mv (.t 66)), []⟩,
 ⟨some 68, some (67, false), (.mv (.t 11)), []⟩,
 ⟨some 69, some (67, false), (.bin .neq .num (.t 68) (.c (.int .i64 1))), []⟩,
 ⟨some 70, some (60, true), (.pick (.t 67) (.c (.bool true)) (.t 69)), []⟩,
 ⟨some 71, some (57, false), (.pick (.t 60) (.t 70) (.c (.bool false))), []⟩,
 ⟨some 72, none, (.pick (.t 57) (.c (.bool true)) (.t 71)), []⟩])
 (.cond (.t 72) (.seq (.reg 0 [] [] [⟨some 4, none, (.mv (.c (.bool false))), []⟩])
 .ret)
 .skip))
 (.seq (.reg 0 [] [] [⟨some 73, none, (.fa 4 (.t 5)), []⟩,
 ⟨some 74, none, (.ld none (.t 73)), []⟩,
 ⟨some 75, none, (.ia none 4 (.t 74) (.c (.int .i64 1))), []⟩,
 ⟨some 76, none, (.fa 1 (.t 75)), []⟩,
 ⟨none, none, (.st 1 (.t 76) (.c (.int .i64 2))), []⟩])
 (.seq (.seq (.reg 0 [] [] [⟨some 77, none, (.ld (some 7) (.t 5)), []⟩,
 ⟨some 78, none, (.call 29 [(.t 77)]), []⟩,
 ⟨some 79, none, (.bin .neq .num (.t 78) (.c (.int .i64 0))), []⟩])
 (.cond (.t 79) (.seq (.reg 0 [] [] [⟨some 4, none, (.mv (.c (.bool false))), []⟩])
 .ret)
 .skip))
 (.seq (.reg 0 [] [] [⟨some 80, none, (.fa 4 (.t 5)), []⟩,
 ⟨some 81, none, (.ld none (.t 80)), []⟩,
 ⟨some 82, none, (.ia none 4 (.t 81) (.c (.int .i64 1))), []⟩,
 ⟨some 83, none, (.fa 3 (.t 82)), []⟩,
 ⟨some 84, none, (.ld none (.t 83)), []⟩,
 ⟨some 85, none, (.ia none 2 (.t 84) (.c (.int .i64 0))), []⟩,
 ⟨some 86, none, (.fa 1 (.t 85)), []⟩,
 ⟨some 87, none, (.ld none (.t 86)), []⟩,
 ⟨some 88, none, (.build [(.int .i64 0), (.int .i64 0), (.int .i64 0), (.int .i64 0), (.int .i64 0), (.int .i64 0), .nilsl, .nilsl, .nilsl] [(0, 1, (.c (.int .i64 23)))]), []⟩,
 ⟨some 89, none, (.ia none 9 (.t 87) (.c (.int .i64 1))), []⟩,
 ⟨none, none, (.st 9 (.t 89) (.t 88)), []⟩])
 (.seq (.seq (.reg 0 [] [] [⟨some 90, none, (.ld (some 7) (.t 5)), []⟩,
 ⟨some 91, none, (.call 29 [(.t 90)]), []⟩,
 ⟨some 92, none, (.bin .eql .num (.t 91) (.c (.int .i64 0))), []⟩,
 ⟨some 93, none, (.mv (.t 0)), []⟩,
 ⟨some 94, none, (.bin .rem .num (.t 93) (.c (.int .u64 2))), []⟩,
 ⟨some 95, none, (.bin .eql .num (.t 94) (.c (.int .u64 0))), []⟩,
 ⟨some 96, none, (.bin .neq .bool (.t 92) (.t 95)), []⟩])
 (.cond (.t 96) (.seq (.reg 0 [] [] [⟨some 4, none, (.mv (.c (.bool false))), []⟩])
 .ret)
 .skip))
 (.seq (.reg 0 [] [] [⟨some 97, none, (.fa 4 (.t 5)), []⟩,
 ⟨some 98, none, (.ld none (.t 97)), []⟩,
 ⟨some 99, none, (.ia none 4 (.t 98) (.c (.int .i64 1))), []⟩,
 ⟨some 100, none, (.fa 3 (.t 99)), []⟩,
 ⟨some 101, none, (.ld none (.t 100)), []⟩,
 ⟨some 102, none, (.ia none 2 (.t 101) (.c (.int .i64 0))), []⟩,
 ⟨some 103, none, (.fa 1 (.t 102)), []⟩,
 ⟨some 104, none, (.ld none (.t 103)), []⟩,
 ⟨some 105, none, (.build [(.int .i64 0), (.int .i64 0), (.int .i64 0), (.int .i64 0), (.int .i64 0), (.int .i64 0), .nilsl, .nilsl, .nilsl] [(0, 1, (.c (.int .i64 22)))]), []⟩,
 ⟨some 106, none, (.ia none 9 (.t 104) (.c (.int .i64 1))), []⟩,
 ⟨none, none, (.st 9 (.t 106) (.t 105)), []⟩])
 (.seq (.reg 0 [] [] [⟨some 107, none, (.fa 4 (.t 5)), []⟩,
 ⟨some 108, none, (.ld none (.t 107)), []⟩,
 ⟨some 109, none, (.mv (.t 6)), []⟩,
 ⟨some 110, none, (.ia none 4 (.t 108) (.c (.int .i64 1))), []⟩,
 ⟨some 111, none, (.fa 1 (.t 110)), []⟩,
 ⟨none, none, (.st 1 (.t 111) (.t 109)), []⟩])
 (.seq (.reg 0 [] [] [⟨some 112, none, (.fa 4 (.t 5)), []⟩,
 ⟨some 113, none, (.ld none (.t 112)), []⟩,
 ⟨some 114, none, (.ia none 4 (.t 113) (.c (.int .i64 0))), []⟩,
 ⟨some 115, none, (.fa 3 (.t 114)), []⟩,
 ⟨some 116, none, (.ld none (.t 115)), []⟩,
 ⟨some 117, none, (.build [(.int .i64 0), (.int .i64 0), (.int .i64 0), (.int .i64 0), (.int .i64 0), (.int .i64 0), .nilsl, .nilsl, .nilsl] [(0, 1, (.c (.int .i64 17))), (2, 1, (.c (.int .i64 1))), (3, 1, (.c (.int .i64 (-1))))]), []⟩,
 ⟨some 118, none, (.build [(.int .i64 0), (.int .i64 0), (.int .i64 0), (.int .i64 0), (.int .i64 0), (.int .i64 0), .nilsl, .nilsl, .nilsl] [(0, 1, (.c (.int .i64 16)))]), []⟩,
 ⟨some 119, none, (.build [(.int .i64 0), (.int .i64 0), (.int .i64 0), (.int .i64 0), (.int .i64 0), (.int .i64 0), .nilsl, .nilsl, .nilsl] [(0, 1, (.c (.int .i64 22)))]), []⟩,
 ⟨some 120, none, (.mksl none 55 [(.int .i64 0), (.int .i64 0), (.int .i64 0), (.int .i64 0), (.int .i64 0), (.int .i64 0), .nilsl, .nilsl, .nilsl, (.int .i64 0), (.int .i64 0), (.int .i64 0), (.int .i64 0), (.int .i64 0), (.int .i64 0), .nilsl, .nilsl, .nilsl, (.int .i64 0), (.int .i64 0), (.int .i64 0), (.int .i64 0), (.int .i64 0), (.int .i64 0), .nilsl, .nilsl, .nilsl] 3 [(0, 9, (.t 117)), (9, 9, (.t 118)), (18, 9, (.t 119))]), []⟩,
 ⟨some 121, none, (.ia none 2 (.t 116) (.c (.int .i64 0))), []⟩,
 ⟨some 122, none, (.fa 1 (.t 121)), []⟩,
 ⟨none, none, (.st 1 (.t 122) (.t 120)), []⟩])
 (.seq (.reg 0 [] [] [⟨some 123, none, (.ld (some 7) (.t 5)), []⟩,
 ⟨some 124, none, (.call 29 [(.t 123)]), []⟩,
 ⟨some 125, none, (.bin .eql .num (.t 124) (.c (.int .i64 0))), []⟩,
 ⟨some 126, none, (.mv (.t 8)), []⟩,
 ⟨some 127, none, (.mv (.t 126)), []⟩,
 ⟨some 128, some (127, true), (.mv (.t 1)), []⟩,
 ⟨some 129, some (127, true), (.un .not (.t 128)), []⟩,
 ⟨some 130, none, (.pick (.t 127) (.t 129) (.c (.bool false))), []⟩,
 ⟨some 131, none, (.bin .eql .bool (.t 125) (.t 130)), []⟩,
 ⟨some 132, none, (.mv (.t 131)), []⟩,
 ⟨some 133, some (132, true), (.call 26 []), []⟩,
 ⟨some 134, none, (.pick (.t 132) (.t 133) (.c (.bool false))), []⟩,
 ⟨some 4, none, (.mv (.t 134)), []⟩])
 .ret))))))))))))))))))))
def zf11 : IFun := ⟨135, [(.tmp 4)], zc11⟩
theorem zok11 : okFun Tryz.prog 11 zf11 = true := by kernel_rfl
def zc21 : ICode :=
 (.seq (.reg 0 [] [] [⟨some 2, none, (.bx none 46 (.t 0)), []⟩,
 ⟨some 3, none, (.bx none 46 (.t 1)), []⟩,
 ⟨some 4, none, (.al none 46 [(.bool false), .nilsl]), []⟩])
 (.seq (.reg 0 [] [] [⟨some 6, none, (.fa 1 (.t 2)), []⟩,
 ⟨some 7, none, (.ld none (.t 6)), []⟩,
 ⟨some 8, none, (.fa 1 (.t 3)), []⟩,
 ⟨some 9, none, (.ld none (.t 8)), []⟩,
 ⟨some 10, none, (.mksl none 36 [.nilsl, .nilsl] 2 [(0, 1, (.t 7)), (1, 1, (.t 9))]), []⟩,
 ⟨some 11, none, (.call 63 [(.t 10)]), []⟩,
 ⟨some 5, none, (.mv (.t 11)), []⟩])
 (.seq (.reg 0 [] [] [⟨some 12, none, (.mv (.t 5)), []⟩,
 ⟨some 13, none, (.call 64 [(.t 12)]), []⟩])
 (.seq (.reg 0 [0, 1, 2, 3, 4, 5, 6, 7, 8, 9] [[], [0], [0, 1], [1, 0, 2], [2, 0, 1, 3], [3, 4, 1, 0, 2], [], [1, 0, 2, 6], [6, 7, 2, 0, 1, 4, 3, 5], [5, 3, 4, 1, 0, 2, 7, 6, 8]] [⟨some 14, none, (.fa 0 (.t 2)), []⟩,
 ⟨some 15, none, (.ld none (.t 14)), []⟩,
 ⟨some 16, none, (.mv (.t 15)), []⟩,
 ⟨some 17, some (16, false), (.fa 0 (.t 3)), []⟩,
 ⟨some 18, some (16, false), (.ld none (.t 17)), []⟩,
 ⟨some 19, none, (.pick (.t 16) (.c (.bool true)) (.t 18)), []⟩,
 ⟨some 20, none, (.mv (.t 5)), []⟩,
 ⟨(some 21), none, (.call 65 [(.t 20)]), [⟨(some (16, false)), (.ld none (.t 17)), 18⟩]⟩,
 ⟨some 22, none, (.build [(.bool false), .nilsl] [(0, 1, (.t 19)), (1, 1, (.t 21))]), []⟩,
 ⟨none, none, (.st 2 (.t 4) (.t 22)), []⟩])
 .ret))))
def zf21 : IFun := ⟨23, [(.cell 4 (some 2))], zc21⟩
theorem zok21 : okFun Tryz.prog 21 zf21 = true := by kernel_rfl
def zc23 : ICode :=
 (.seq (.reg 0 [] [] [⟨some 2, none, (.bx none 46 (.t 0)), []⟩,
 ⟨some 3, none, (.bx none 46 (.t 1)), []⟩,
 ⟨some 4, none, (.mv (.c (.bool false))), []⟩])
 (.seq (.reg 0 [] [] [⟨some 5, none, (.fa 0 (.t 3)), []⟩,
 ⟨some 6, none, (.ld none (.t 5)), []⟩,
 ⟨some 7, none, (.mv (.t 6)), []⟩,
 ⟨some 8, some (7, false), (.fa 0 (.t 2)), []⟩,
 ⟨some 9, some (7, false), (.ld none (.t 8)), []⟩,
 ⟨some 10, some (7, false), (.un .not (.t 9)), []⟩,
 ⟨some 11, none, (.pick (.t 7) (.c (.bool true)) (.t 10)), []⟩,
 ⟨some 12, none, (.mv (.t 11)), []⟩,
 ⟨some 13, some (12, true), (.fa 1 (.t 2)), []⟩,
 ⟨some 14, some (12, true), (.ld none (.t 13)), []⟩,
 ⟨some 15, some (12, true), (.mkf 68 [] [(.t 3)]), []⟩,
 ⟨some 16, some (12, true), (.call 67 [(.t 14), (.t 15)]), []⟩,
 ⟨some 17, some (12, true), (.un .not (.t 16)), []⟩,
 ⟨some 18, none, (.pick (.t 12) (.t 17) (.c (.bool false))), []⟩,
 ⟨some 4, none, (.mv (.t 18)), []⟩])
 .ret))
def zf23 : IFun := ⟨19, [(.tmp 4)], zc23⟩
theorem zok23 : okFun Tryz.prog 23 zf23 = true := by kernel_rfl
def zc26 : ICode :=
 (.seq (.reg 0 [] [] [⟨some 0, none, (.mv (.c (.bool false))), []⟩])
 (.seq (.reg 0 [] [] [⟨some 10, none, (.call 33 []), []⟩,
 ⟨some 1, none, (.al none 28 [.nilsl, .nilsl, .nilsl, .nilsl, .nilsl, (.int .i64 0), (.int .i64 0)]), []⟩,
 ⟨none, none, (.st 7 (.t 1) (.t 10)), []⟩])
 (.seq (.reg 0 [] [] [⟨some 12, none, (.ld (some 7) (.t 1)), []⟩,
 ⟨some 13, none, (.call 27 [(.t 12)]), []⟩,
 ⟨some 11, none, (.mv (.t 13)), []⟩,
 ⟨some 14, none, (.ext (.t 11) 0), []⟩,
 ⟨some 15, none, (.ext (.t 11) 1), []⟩,
 ⟨some 16, none, (.ext (.t 11) 2), []⟩,
 ⟨some 17, none, (.ext (.t 11) 3), []⟩,
 ⟨some 2, none, (.mv (.t 14)), []⟩,
 ⟨some 3, none, (.mv (.t 15)), []⟩,
 ⟨some 4, none, (.mv (.t 16)), []⟩,
 ⟨some 5, none, (.mv (.t 17)), []⟩])
 (.seq (.reg 0 [0, 1, 2, 3, 4, 5, 6, 7, 8, 9, 10, 11, 12, 13, 14, 15, 16] [[], [0], [0, 1], [1, 0, 2], [2, 0, 1, 3], [], [5], [5, 6], [6, 5, 7], [7, 5, 6, 8], [8, 6, 5, 7, 9], [9, 7, 5, 6, 8, 10], [10, 8, 6, 5, 7, 9, 11], [11, 9, 7, 5, 6, 8, 10, 12], [13, 12, 11, 10, 9, 8, 7, 6, 5, 3, 1, 0, 2, 4], [4, 2, 0, 1, 3, 5, 6, 7, 8, 9, 10, 11, 12, 13, 14], [14, 13, 12, 11, 10, 9, 8, 7, 6, 5, 3, 1, 0, 2, 4, 15]] [⟨some 18, none, (.fa 4 (.t 1)), []⟩,
 ⟨some 19, none, (.ld none (.t 18)), []⟩,
 ⟨some 20, none, (.ia none 4 (.t 19) (.c (.int .i64 0))), []⟩,
 ⟨some 21, none, (.fa 3 (.t 20)), []⟩,
 ⟨some 22, none, (.ld none (.t 21)), []⟩,
 ⟨some 23, none, (.fa 4 (.t 1)), []⟩,
 ⟨some 24, none, (.ld none (.t 23)), []⟩,
 ⟨some 25, none, (.ia none 4 (.t 24) (.c (.int .i64 0))), []⟩,
 ⟨some 26, none, (.fa 3 (.t 25)), []⟩,
 ⟨some 27, none, (.ld none (.t 26)), []⟩,
 ⟨some 28, none, (.ia none 2 (.t 27) (.c (.int .i64 0))), []⟩,
 ⟨some 29, none, (.fa 1 (.t 28)), []⟩,
 ⟨some 30, none, (.ld none (.t 29)), []⟩,
 ⟨some 31, none, (.sli (.row 9) (.t 30) (some (.c (.int .i64 1))) none none), []⟩,
 ⟨some 32, none, (.ia none 2 (.t 22) (.c (.int .i64 0))), []⟩,
 ⟨some 33, none, (.fa 1 (.t 32)), []⟩,
 ⟨none, none, (.st 1 (.t 33) (.t 31)), []⟩])
 (.seq (.reg 0 [] [] [⟨some 35, none, (.ld (some 7) (.t 1)), []⟩,
 ⟨some 36, none, (.call 27 [(.t 35)]), []⟩,
 ⟨some 34, none, (.mv (.t 36)), []⟩,
 ⟨some 37, none, (.ext (.t 34) 0), []⟩,
 ⟨some 38, none, (.ext (.t 34) 1), []⟩,
 ⟨some 39, none, (.ext (.t 34) 2), []⟩,
 ⟨some 40, none, (.ext (.t 34) 3), []⟩,
 ⟨some 6, none, (.mv (.t 37)), []⟩,
 ⟨some 7, none, (.mv (.t 38)), []⟩,
 ⟨some 8, none, (.mv (.t 39)), []⟩,
 ⟨some 9, none, (.mv (.t 40)), []⟩])
 (.seq (.reg 0 [] [] [⟨some 41, none, (.mv (.t 5)), []⟩,
 ⟨some 42, none, (.mv (.t 41)), []⟩,
 ⟨some 43, some (42, true), (.mv (.t 9)), []⟩,
 ⟨some 44, some (42, true), (.un .not (.t 43)), []⟩,
 ⟨some 45, none, (.pick (.t 42) (.t 44) (.c (.bool false))), []⟩,
 ⟨some 46, none, (.mv (.t 45)), []⟩,
 ⟨some 47, some (46, true), (.mv (.t 2)), []⟩,
 ⟨some 48, some (46, true), (.bin .eql .num (.t 47) (.c (.int .i64 0))), []⟩,
 ⟨some 49, none, (.pick (.t 46) (.t 48) (.c (.bool false))), []⟩,
 ⟨some 50, none, (.mv (.t 49)), []⟩,
 ⟨some 51, some (50, true), (.mv (.t 3)), []⟩,
 ⟨some 52, some (50, true), (.bin .eql .num (.t 51) (.c (.int .i64 0))), []⟩,
 ⟨some 53, none, (.pick (.t 50) (.t 52) (.c (.bool false))), []⟩,
 ⟨some 54, none, (.mv (.t 53)), []⟩,
 ⟨some 55, some (54, true), (.mv (.t 4)), []⟩,
 ⟨some 56, some (54, true), (.bin .eql .num (.t 55) (.c (.int .i64 0))), []⟩,
 ⟨some 57, none, (.pick (.t 54) (.t 56) (.c (.bool false))), []⟩,
 ⟨some 58, none, (.mv (.t 57)), []⟩,
 ⟨some 59, some (58, true), (.mv (.t 6)), []⟩,
 ⟨some 60, some (58, true), (.bin .eql .num (.t 59) (.c (.int .i64 0))), []⟩,
 ⟨some 61, none, (.pick (.t 58) (.t 60) (.c (.bool false))), []⟩,
 ⟨some 62, none, (.mv (.t 61)), []⟩,
 ⟨some 63, some (62, true), (.mv (.t 7)), []⟩,
 ⟨some 64, some (62, true), (.bin .eql .num (.t 63) (.c (.int .i64 0))), []⟩,
 ⟨some 65, none, (.pick (.t 62) (.t 64) (.c (.bool false))), []⟩,
 ⟨some 66, none, (.mv (.t 65)), []⟩,
 ⟨some 67, some (66, true), (.mv (.t 8)), []⟩,
 ⟨some 68, some (66, true), (.bin .eql .num (.t 67) (.c (.int .i64 0))), []⟩,
 ⟨some 69, none, (.pick (.t 66) (.t 68) (.c (.bool false))), []⟩,
 ⟨some 70, none, (.mv (.t 69)), []⟩,
 ⟨some 71, some (70, true), (.ld (some 7) (.t 1)), []⟩,
 ⟨some 72, some (70, true), (.call 29 [(.t 71)]), []⟩,
 ⟨some 73, some (70, true), (.bin .eql .num (.t 72) (.c (.int .i64 21))), []⟩,
 ⟨some 74, none, (.pick (.t 70) (.t 73) (.c (.bool false))), []⟩,
 ⟨some 75, none, (.mv (.t 74)), []⟩,
 ⟨some 76, some (75, true), (.call 33 []), []⟩,
 ⟨some 77, some (75, true), (.call 29 [(.t 76)]), []⟩,
 ⟨some 78, some (75, true), (.bin .eql .num (.t 77) (.c (.int .i64 0))), []⟩,
 ⟨some 79, none, (.pick (.t 75) (.t 78) (.c (.bool false))), []⟩,
 ⟨some 80, none, (.mv (.t 79)), []⟩,
 ⟨some 81, some (80, true), (.build [(.bool false), .nilsl] []), []⟩,
 ⟨some 82, some (80, true), (.build [(.bool false), .nilsl] [(0, 1, (.c (.bool true)))]), []⟩,
 ⟨some 83, some (80, true), (.call 23 [(.t 81), (.t 82)]), []⟩,
 ⟨some 84, none, (.pick (.t 80) (.t 83) (.c (.bool false))), []⟩,
 ⟨some 85, none, (.mv (.t 84)), []⟩,
 ⟨some 86, some (85, true), (.build [(.bool false), .nilsl] [(0, 1, (.c (.bool true)))]), []⟩,
 ⟨some 87, some (85, true), (.build [(.bool false), .nilsl] []), []⟩,
 ⟨some 88, some (85, true), (.call 23 [(.t 86), (.t 87)]), []⟩,
 ⟨some 89, some (85, true), (.un .not (.t 88)), []⟩,
 ⟨some 90, none, (.pick (.t 85) (.t 89) (.c (.bool false))), []⟩,
 ⟨some 0, none, (.mv (.t 90)), []⟩])
 .ret))))))
def zf26 : IFun := ⟨91, [(.tmp 0)], zc26⟩
theorem zok26 : okFun Tryz.prog 26 zf26 = true := by kernel_rfl
def zc27 : ICode :=
 (.seq (.reg 0 [] [] [⟨some 1, none, (.bx none 28 (.t 0)), []⟩,
 ⟨some 2, none, (.mv (.c (.int .i64 0))), []⟩,
 ⟨some 3, none, (.mv (.c (.int .i64 0))), []⟩,
 ⟨some 4, none, (.mv (.c (.int .i64 0))), []⟩,
 ⟨some 5, none, (.mv (.c (.bool false))), []⟩])
 (.seq (.seq (.reg 0 [] [] [⟨some 11, none, (.ld (some 7) (.t 1)), []⟩,
 ⟨some 12, none, (.call 30 [(.t 11)]), []⟩,
 ⟨some 13, none, (.un .not (.t 12)), []⟩])
 (.cond (.t 13) (.seq (.reg 0 [] [] [⟨some 2, none, (.mv (.c (.int .i64 (-1)))), []⟩,
 ⟨some 3, none, (.mv (.c (.int .i64 (-1)))), []⟩,
 ⟨some 4, none, (.mv (.c (.int .i64 (-1)))), []⟩,
 ⟨some 5, none, (.mv (.c (.bool false))), []⟩])
 .ret)
 .skip))
 (.seq (.seq (.reg 0 [] [] [⟨some 14, none, (.fa 4 (.t 1)), []⟩,
 ⟨some 15, none, (.ld none (.t 14)), []⟩,
 ⟨some 16, none, (.len false (.t 15)), []⟩,
 ⟨some 17, none, (.mv (.c (.int .i64 0))), []⟩])
 (.block 0 (.loop (.seq (.reg 0 [] [] [⟨some 18, none, (.bin .lss .num (.t 17) (.t 16)), []⟩])
 (.seq (.cond (.t 18) .skip
 (.exit 0))
 (.seq (.block 1 (.seq (.reg 0 [] [] [⟨some 19, none, (.mv (.t 17)), []⟩,
 ⟨some 20, none, (.ia none 4 (.t 15) (.t 17)), []⟩,
 ⟨some 21, none, (.ld (some 4) (.t 20)), []⟩,
 ⟨some 7, none, (.al none 39 [.nilsl, (.int .i64 0), (.int .i64 0), .nilsl]), []⟩,
 ⟨some 6, none, (.mv (.t 19)), []⟩,
 ⟨none, none, (.st 4 (.t 7) (.t 21)), []⟩])
 (.seq (.reg 0 [] [] [⟨some 22, none, (.fa 3 (.t 7)), []⟩,
 ⟨some 23, none, (.ld none (.t 22)), []⟩,
 ⟨some 24, none, (.len false (.t 23)), []⟩,
 ⟨some 25, none, (.mv (.c (.int .i64 0))), []⟩])
 (.block 2 (.loop (.seq (.reg 0 [] [] [⟨some 26, none, (.bin .lss .num (.t 25) (.t 24)), []⟩])
 (.seq (.cond (.t 26) .skip
 (.exit 2))
 (.seq (.block 3 (.seq (.reg 0 [] [] [⟨some 27, none, (.mv (.t 25)), []⟩,
 ⟨some 28, none, (.ia none 2 (.t 23) (.t 25)), []⟩,
 ⟨some 29, none, (.ld (some 2) (.t 28)), []⟩,
 ⟨some 9, none, (.al none 42 [.nilsl, .nilsl]), []⟩,
 ⟨some 8, none, (.mv (.t 27)), []⟩,
 ⟨none, none, (.st 2 (.t 9) (.t 29)), []⟩])
 (.seq (.reg 0 [] [] [⟨some 30, none, (.ld (some 7) (.t 1)), []⟩,
 ⟨some 31, none, (.ld (some 4) (.t 7)), []⟩,
 ⟨some 32, none, (.ld (some 2) (.t 9)), []⟩,
 ⟨some 33, none, (.call 70 [(.t 30), (.t 31), (.t 32)]), []⟩,
 ⟨some 10, none, (.mv (.t 33)), []⟩])
 (.seq (.reg 0 [] [] [⟨some 34, none, (.mv (.t 10)), []⟩,
 ⟨some 35, none, (.bin .geq .num (.t 34) (.c (.int .i64 0))), []⟩])
 (.cond (.t 35) (.seq (.reg 0 [] [] [⟨some 36, none, (.mv (.t 6)), []⟩,
 ⟨some 37, none, (.mv (.t 8)), []⟩,
 ⟨some 38, none, (.mv (.t 10)), []⟩,
 ⟨some 2, none, (.mv (.t 36)), []⟩,
 ⟨some 3, none, (.mv (.t 37)), []⟩,
 ⟨some 4, none, (.mv (.t 38)), []⟩,
 ⟨some 5, none, (.mv (.c (.bool false))), []⟩])
 .ret)
 .skip)))))
 (.reg 0 [] [] [⟨some 39, none, (.bin .add .num (.t 25) (.c (.int .i64 1))), []⟩,
 ⟨some 25, none, (.mv (.t 39)), []⟩])))))))))
 (.reg 0 [] [] [⟨some 40, none, (.bin .add .num (.t 17) (.c (.int .i64 1))), []⟩,
 ⟨some 17, none, (.mv (.t 40)), []⟩])))))))
 (.seq (.reg 0 [] [] [⟨some 2, none, (.mv (.c (.int .i64 0))), []⟩,
 ⟨some 3, none, (.mv (.c (.int .i64 0))), []⟩,
 ⟨some 4, none, (.mv (.c (.int .i64 0))), []⟩,
 ⟨some 5, none, (.mv (.c (.bool true))), []⟩])
 .ret))))
def zf27 : IFun := ⟨41, [(.tmp 2), (.tmp 3), (.tmp 4), (.tmp 5)], zc27⟩
theorem zok27 : okFun Tryz.prog 27 zf27 = true := by kernel_rfl
def zc29 : ICode :=
 (.seq (.reg 0 [] [] [⟨some 1, none, (.bx none 28 (.t 0)), []⟩,
 ⟨some 2, none, (.mv (.c (.int .i64 0))), []⟩])
 (.seq (.seq (.reg 0 [] [] [⟨some 8, none, (.ld (some 7) (.t 1)), []⟩,
 ⟨some 9, none, (.call 27 [(.t 8)]), []⟩,
 ⟨some 7, none, (.mv (.t 9)), []⟩,
 ⟨some 10, none, (.ext (.t 7) 0), []⟩,
 ⟨some 11, none, (.ext (.t 7) 1), []⟩,
 ⟨some 12, none, (.ext (.t 7) 2), []⟩,
 ⟨some 13, none, (.ext (.t 7) 3), []⟩,
 ⟨some 3, none, (.mv (.t 10)), []⟩,
 ⟨some 4, none, (.mv (.t 11)), []⟩,
 ⟨some 5, none, (.mv (.t 12)), []⟩,
 ⟨some 6, none, (.mv (.t 13)), []⟩])
 (.seq (.reg 0 [] [] [⟨some 14, none, (.mv (.t 6)), []⟩,
 ⟨some 15, none, (.un .not (.t 14)), []⟩])
 (.cond (.t 15) (.seq (.reg 0 [] [] [⟨some 2, none, (.mv (.c (.int .i64 21))), []⟩])
 .ret)
 .skip)))
 (.seq (.reg 0 [] [] [⟨some 2, none, (.mv (.c (.int .i64 0))), []⟩])
 .ret)))
def zf29 : IFun := ⟨16, [(.tmp 2)], zc29⟩
theorem zok29 : okFun Tryz.prog 29 zf29 = true := by kernel_rfl
def zc30 : ICode :=
 (.seq (.reg 0 [] [] [⟨some 1, none, (.bx none 28 (.t 0)), []⟩,
 ⟨some 2, none, (.mv (.c (.bool false))), []⟩])
 (.seq (.seq (.reg 0 [] [] [⟨some 8, none, (.ld (some 7) (.t 1)), []⟩,
 ⟨some 9, none, (.call 43 [(.t 8)]), []⟩,
 ⟨some 10, none, (.bin .neq .num (.t 9) (.c (.int .i64 0))), []⟩,
 ⟨some 11, none, (.mv (.t 10)), []⟩,
 ⟨some 12, some (11, false), (.fa 0 (.t 1)), []⟩,
 ⟨some 13, some (11, false), (.ld none (.t 12)), []⟩,
 ⟨some 14, some (11, false), (.len false (.t 13)), []⟩,
 ⟨some 15, some (11, false), (.bin .eql .num (.t 14) (.c (.int .i64 0))), []⟩,
 ⟨some 16, none, (.pick (.t 11) (.c (.bool true)) (.t 15)), []⟩,
 ⟨some 17, none, (.mv (.t 16)), []⟩,
 ⟨some 18, some (17, false), (.fa 0 (.t 1)), []⟩,
 ⟨some 19, some (17, false), (.ld none (.t 18)), []⟩,
 ⟨some 20, some (17, false), (.ia none 2 (.t 19) (.c (.int .i64 0))), []⟩,
 ⟨some 21, some (17, false), (.fa 0 (.t 20)), []⟩,
 ⟨some 22, some (17, false), (.ld none (.t 21)), []⟩,
 ⟨some 23, some (17, false), (.un .not (.t 22)), []⟩,
 ⟨some 24, none, (.pick (.t 17) (.c (.bool true)) (.t 23)), []⟩,
 ⟨some 25, none, (.mv (.t 24)), []⟩,
 ⟨some 26, some (25, false), (.fa 0 (.t 1)), []⟩,
 ⟨some 27, some (25, false), (.ld none (.t 26)), []⟩,
 ⟨some 28, some (25, false), (.ia none 2 (.t 27) (.c (.int .i64 0))), []⟩,
 ⟨some 29, some (25, false), (.fa 1 (.t 28)), []⟩,
 ⟨some 30, some (25, false), (.ld none (.t 29)), []⟩,
 ⟨some 31, some (25, false), (.len false (.t 30)), []⟩,
 ⟨some 32, some (25, false), (.bin .gtr .num (.t 31) (.c (.int .i64 0))), []⟩,
 ⟨some 33, none, (.pick (.t 25) (.c (.bool true)) (.t 32)), []⟩,
 ⟨some 34, none, (.mv (.t 33)), []⟩,
 ⟨some 35, some (34, false), (.fa 1 (.t 1)), []⟩,
 ⟨some 36, some (34, false), (.ld none (.t 35)), []⟩,
 ⟨some 37, some (34, false), (.len false (.t 36)), []⟩,
 ⟨some 38, some (34, false), (.bin .eql .num (.t 37) (.c (.int .i64 0))), []⟩,
 ⟨some 39, none, (.pick (.t 34) (.c (.bool true)) (.t 38)), []⟩,
 ⟨some 40, none, (.mv (.t 39)), []⟩,
 ⟨some 41, some (40, false), (.fa 1 (.t 1)), []⟩,
 ⟨some 42, some (40, false), (.ld none (.t 41)), []⟩,
 ⟨some 43, some (40, false), (.ia none 3 (.t 42) (.c (.int .i64 0))), []⟩,
 ⟨some 44, some (40, false), (.fa 0 (.t 43)), []⟩,
 ⟨some 45, some (40, false), (.ld none (.t 44)), []⟩,
 ⟨some 46, some (40, false), (.bin .neq .num (.t 45) (.c (.int .i64 3))), []⟩,
 ⟨some 47, none, (.pick (.t 40) (.c (.bool true)) (.t 46)), []⟩])
 (.cond (.t 47) (.seq (.reg 0 [] [] [⟨some 2, none, (.mv (.c (.bool false))), []⟩])
 .ret)
 .skip))
 (.seq (.reg 0 [] [] [⟨some 48, none, (.mkf 72 [] [(.t 1)]), []⟩,
 ⟨some 3, none, (.al none 98 [.nilfn]), []⟩,
 ⟨none, none, (.st 1 (.t 3) (.t 48)), []⟩])
 (.seq (.seq (.reg 0 [] [] [⟨some 49, none, (.fa 0 (.t 1)), []⟩,
 ⟨some 50, none, (.ld none (.t 49)), []⟩,
 ⟨some 51, none, (.len false (.t 50)), []⟩,
 ⟨some 52, none, (.mv (.c (.int .i64 0))), []⟩])
 (.block 0 (.loop (.seq (.reg 0 [] [] [⟨some 53, none, (.bin .lss .num (.t 52) (.t 51)), []⟩])
 (.seq (.cond (.t 53) .skip
 (.exit 0))
 (.seq (.block 1 (.seq (.reg 0 [] [] [⟨some 54, none, (.ia none 2 (.t 50) (.t 52)), []⟩,
 ⟨some 55, none, (.ld (some 2) (.t 54)), []⟩,
 ⟨some 5, none, (.al none 46 [(.bool false), .nilsl]), []⟩,
 ⟨none, none, (.st 2 (.t 5) (.t 55)), []⟩])
 (.seq (.reg 0 [] [] [⟨some 56, none, (.fa 1 (.t 5)), []⟩,
 ⟨some 57, none, (.ld none (.t 56)), []⟩,
 ⟨some 58, none, (.fa 1 (.t 1)), []⟩,
 ⟨some 59, none, (.ld none (.t 58)), []⟩,
 ⟨some 60, none, (.len false (.t 59)), []⟩,
 ⟨some 61, none, (.call 73 [(.t 57), (.t 60)]), []⟩,
 ⟨some 62, none, (.un .not (.t 61)), []⟩])
 (.cond (.t 62) (.seq (.reg 0 [] [] [⟨some 2, none, (.mv (.c (.bool false))), []⟩])
 .ret)
 .skip))))
 (.reg 0 [] [] [⟨some 63, none, (.bin .add .num (.t 52) (.c (.int .i64 1))), []⟩,
 ⟨some 52, none, (.mv (.t 63)), []⟩])))))))
 (.seq (.seq (.reg 0 [] [] [⟨some 64, none, (.fa 1 (.t 1)), []⟩,
 ⟨some 65, none, (.ld none (.t 64)), []⟩,
 ⟨some 66, none, (.len false (.t 65)), []⟩,
 ⟨some 67, none, (.mv (.c (.int .i64 0))), []⟩])
 (.block 2 (.loop (.seq (.reg 0 [] [] [⟨some 68, none, (.bin .lss .num (.t 67) (.t 66)), []⟩])
 (.seq (.cond (.t 68) .skip
 (.exit 2))
 (.seq (.block 3 (.seq (.reg 0 [] [] [⟨some 69, none, (.ia none 3 (.t 65) (.t 67)), []⟩,
 ⟨some 70, none, (.ld (some 3) (.t 69)), []⟩,
 ⟨some 7, none, (.al none 61 [(.int .i64 0), .nilsl, (.str [])]), []⟩,
 ⟨none, none, (.st 3 (.t 7) (.t 70)), []⟩])
 (.seq (.reg 0 [] [] [⟨some 71, none, (.fa 0 (.t 7)), []⟩,
 ⟨some 72, none, (.ld none (.t 71)), []⟩,
 ⟨some 73, none, (.bin .lss .num (.t 72) (.c (.int .i64 1))), []⟩,
 ⟨some 74, none, (.mv (.t 73)), []⟩,
 ⟨some 75, some (74, false), (.fa 0 (.t 7)), []⟩,
 ⟨some 76, some (74, false), (.ld none (.t 75)), []⟩,
 ⟨some 77, some (74, false), (.bin .gtr .num (.t 76) (.c (.int .i64 3))), []⟩,
 ⟨some 78, none, (.pick (.t 74) (.c (.bool true)) (.t 77)), []⟩,
 ⟨some 79, none, (.mv (.t 78)), []⟩,
 ⟨some 80, some (79, false), (.fa 0 (.t 7)), []⟩,
 ⟨some 81, some (79, false), (.ld none (.t 80)), []⟩,
 ⟨some 82, some (79, false), (.bin .eql .num (.t 81) (.c (.int .i64 2))), []⟩,
 ⟨some 83, some (79, false), (.mv (.t 82)), []⟩,
 ⟨some 84, some (83, true), (.fa 1 (.t 7)), []⟩,
 ⟨some 85, some (83, true), (.ld none (.t 84)), []⟩,
 ⟨some 86, some (83, true), (.len false (.t 85)), []⟩,
 ⟨some 87, some (83, true), (.bin .neq .num (.t 86) (.c (.int .i64 1))), []⟩,
 ⟨some 88, some (79, false), (.pick (.t 83) (.t 87) (.c (.bool false))), []⟩,
 ⟨some 89, none, (.pick (.t 79) (.c (.bool true)) (.t 88)), []⟩,
 ⟨some 90, none, (.mv (.t 89)), []⟩,
 ⟨some 91, some (90, false), (.fa 0 (.t 7)), []⟩,
 ⟨some 92, some (90, false), (.ld none (.t 91)), []⟩,
 ⟨some 93, some (90, false), (.bin .eql .num (.t 92) (.c (.int .i64 3))), []⟩,
 ⟨some 94, some (90, false), (.mv (.t 93)), []⟩,
 ⟨some 95, some (94, true), (.fa 1 (.t 7)), []⟩,
 ⟨some 96, some (94, true), (.ld none (.t 95)), []⟩,
 ⟨some 97, some (94, true), (.len false (.t 96)), []⟩,
 ⟨some 98, some (94, true), (.bin .gtr .num (.t 97) (.c (.int .i64 0))), []⟩,
 ⟨some 99, some (90, false), (.pick (.t 94) (.t 98) (.c (.bool false))), []⟩,
 ⟨some 100, none, (.pick (.t 90) (.c (.bool true)) (.t 99)), []⟩,
 ⟨some 101, none, (.mv (.t 100)), []⟩,
 ⟨some 102, some (101, false), (.fa 1 (.t 7)), []⟩,
 ⟨some 103, some (101, false), (.ld none (.t 102)), []⟩,
 ⟨some 104, some (101, false), (.mkf 74 [] [(.t 3)]), []⟩,
 ⟨some 105, some (101, false), (.call 67 [(.t 103), (.t 104)]), []⟩,
 ⟨some 106, none, (.pick (.t 101) (.c (.bool true)) (.t 105)), []⟩])
 (.cond (.t 106) (.seq (.reg 0 [] [] [⟨some 2, none, (.mv (.c (.bool false))), []⟩])
 .ret)
 .skip))))
 (.reg 0 [] [] [⟨some 107, none, (.bin .add .num (.t 67) (.c (.int .i64 1))), []⟩,
 ⟨some 67, none, (.mv (.t 107)), []⟩])))))))
 (.seq (.seq (.reg 0 [] [] [⟨some 108, none, (.ld none (.t 3)), []⟩,
 ⟨some 109, none, (.fa 6 (.t 1)), []⟩,
 ⟨some 110, none, (.ld none (.t 109)), []⟩,
 ⟨some 111, none, (.callv (.t 108) [(.t 110)]), []⟩,
 ⟨some 112, none, (.un .not (.t 111)), []⟩,
 ⟨some 113, none, (.mv (.t 112)), []⟩,
 ⟨some 114, some (113, false), (.fa 0 (.t 1)), []⟩,
 ⟨some 115, some (113, false), (.ld none (.t 114)), []⟩,
 ⟨some 116, some (113, false), (.fa 6 (.t 1)), []⟩,
 ⟨some 117, some (113, false), (.ld none (.t 116)), []⟩,
 ⟨some 118, some (113, false), (.ia none 2 (.t 115) (.t 117)), []⟩,
 ⟨some 119, some (113, false), (.fa 0 (.t 118)), []⟩,
 ⟨some 120, some (113, false), (.ld none (.t 119)), []⟩,
 ⟨some 121, some (113, false), (.un .not (.t 120)), []⟩,
 ⟨some 122, none, (.pick (.t 113) (.c (.bool true)) (.t 121)), []⟩,
 ⟨some 123, none, (.mv (.t 122)), []⟩,
 ⟨some 124, some (123, false), (.fa 0 (.t 1)), []⟩,
 ⟨some 125, some (123, false), (.ld none (.t 124)), []⟩,
 ⟨some 126, some (123, false), (.fa 6 (.t 1)), []⟩,
 ⟨some 127, some (123, false), (.ld none (.t 126)), []⟩,
 ⟨some 128, some (123, false), (.ia none 2 (.t 125) (.t 127)), []⟩,
 ⟨some 129, some (123, false), (.fa 1 (.t 128)), []⟩,
 ⟨some 130, some (123, false), (.ld none (.t 129)), []⟩,
 ⟨some 131, some (123, false), (.mkf 75 [] [(.t 1)]), []⟩,
 ⟨some 132, some (123, false), (.call 67 [(.t 130), (.t 131)]), []⟩,
 ⟨some 133, none, (.pick (.t 123) (.c (.bool true)) (.t 132)), []⟩])
 (.cond (.t 133) (.seq (.reg 0 [] [] [⟨some 2, none, (.mv (.c (.bool false))), []⟩])
 .ret)
 .skip))
 (.seq (.seq (.reg 0 [] [] [⟨some 134, none, (.fa 5 (.t 1)), []⟩,
 ⟨some 135, none, (.ld none (.t 134)), []⟩,
 ⟨some 136, none, (.bin .lss .num (.t 135) (.c (.int .i64 0))), []⟩,
 ⟨some 137, none, (.mv (.t 136)), []⟩,
 ⟨some 138, some (137, false), (.fa 5 (.t 1)), []⟩,
 ⟨some 139, some (137, false), (.ld none (.t 138)), []⟩,
 ⟨some 140, some (137, false), (.fa 4 (.t 1)), []⟩,
 ⟨some 141, some (137, false), (.ld none (.t 140)), []⟩,
 ⟨some 142, some (137, false), (.len false (.t 141)), []⟩,
 ⟨some 143, some (137, false), (.bin .geq .num (.t 139) (.t 142)), []⟩,
 ⟨some 144, none, (.pick (.t 137) (.c (.bool true)) (.t 143)), []⟩,
 ⟨some 145, none, (.mv (.t 144)), []⟩,
 ⟨some 146, some (145, false), (.fa 4 (.t 1)), []⟩,
 ⟨some 147, some (145, false), (.ld none (.t 146)), []⟩,
 ⟨some 148, some (145, false), (.fa 5 (.t 1)), []⟩,
 ⟨some 149, some (145, false), (.ld none (.t 148)), []⟩,
 ⟨some 150, some (145, false), (.ia none 4 (.t 147) (.t 149)), []⟩,
 ⟨some 151, some (145, false), (.fa 0 (.t 150)), []⟩,
 ⟨some 152, some (145, false), (.ld none (.t 151)), []⟩,
 ⟨some 153, some (145, false), (.len false (.t 152)), []⟩,
 ⟨some 154, some (145, false), (.bin .gtr .num (.t 153) (.c (.int .i64 0))), []⟩,
 ⟨some 155, none, (.pick (.t 145) (.c (.bool true)) (.t 154)), []⟩])
 (.cond (.t 155) (.seq (.reg 0 [] [] [⟨some 2, none, (.mv (.c (.bool false))), []⟩])
 .ret)
 .skip))
 (.seq (.reg 0 [] [] [⟨some 156, none, (.fa 4 (.t 1)), []⟩,
 ⟨some 157, none, (.ld none (.t 156)), []⟩,
 ⟨some 158, none, (.mkf 77 [] [(.t 3)]), []⟩,
 ⟨some 159, none, (.call 76 [(.t 157), (.t 158)]), []⟩,
 ⟨some 160, none, (.un .not (.t 159)), []⟩,
 ⟨some 2, none, (.mv (.t 160)), []⟩])
 .ret))))))))
def zf30 : IFun := ⟨161, [(.tmp 2)], zc30⟩
theorem zok30 : okFun Tryz.prog 30 zf30 = true := by kernel_rfl
def zc33 : ICode :=
 (.seq (.reg 0 [] [] [⟨some 0, none, (.al none 28 [.nilsl, .nilsl, .nilsl, .nilsl, .nilsl, (.int .i64 0), (.int .i64 0)]), []⟩])
 (.seq (.reg 0 [] [] [⟨some 1, none, (.build [(.bool false), .nilsl] [(0, 1, (.c (.bool true)))]), []⟩,
 ⟨some 2, none, (.mksl none 3 [(.int .i64 0)] 1 [(0, 1, (.c (.int .i64 0)))]), []⟩,
 ⟨some 3, none, (.build [(.bool false), .nilsl] [(1, 1, (.t 2))]), []⟩,
 ⟨some 4, none, (.mksl none 46 [(.bool false), .nilsl, (.bool false), .nilsl] 2 [(0, 2, (.t 1)), (2, 2, (.t 3))]), []⟩,
 ⟨some 5, none, (.build [(.int .i64 0), .nilsl, (.str [])] [(0, 1, (.c (.int .i64 3)))]), []⟩,
 ⟨some 6, none, (.mksl none 61 [(.int .i64 0), .nilsl, (.str [])] 1 [(0, 3, (.t 5))]), []⟩,
 ⟨some 7, none, (.mksl none 3 [(.int .i64 0)] 1 [(0, 1, (.c (.int .i64 (-1))))]), []⟩,
 ⟨some 8, none, (.build [(.int .i64 0), (.int .i64 0), (.int .i64 0), (.int .i64 0), (.int .i64 0), (.int .i64 0), .nilsl, .nilsl, .nilsl] [(0, 1, (.c (.int .i64 1))), (5, 1, (.c (.int .i64 5)))]), []⟩,
 ⟨some 9, none, (.build [(.int .i64 0), (.int .i64 0), (.int .i64 0), (.int .i64 0), (.int .i64 0), (.int .i64 0), .nilsl, .nilsl, .nilsl] [(0, 1, (.c (.int .i64 22)))]), []⟩,
 ⟨some 10, none, (.mksl none 55 [(.int .i64 0), (.int .i64 0), (.int .i64 0), (.int .i64 0), (.int .i64 0), (.int .i64 0), .nilsl, .nilsl, .nilsl, (.int .i64 0), (.int .i64 0), (.int .i64 0), (.int .i64 0), (.int .i64 0), (.int .i64 0), .nilsl, .nilsl, .nilsl] 2 [(0, 9, (.t 8)), (9, 9, (.t 9))]), []⟩,
 ⟨some 11, none, (.build [.nilsl, .nilsl] [(0, 1, (.t 7)), (1, 1, (.t 10))]), []⟩,
 ⟨some 12, none, (.mksl none 42 [.nilsl, .nilsl] 1 [(0, 2, (.t 11))]), []⟩,
 ⟨some 13, none, (.build [.nilsl, (.int .i64 0), (.int .i64 0), .nilsl] [(2, 1, (.c (.int .i64 1))), (3, 1, (.t 12))]), []⟩,
 ⟨some 14, none, (.mksl none 39 [.nilsl, (.int .i64 0), (.int .i64 0), .nilsl] 1 [(0, 4, (.t 13))]), []⟩,
 ⟨some 15, none, (.build [.nilsl, .nilsl, .nilsl, .nilsl, .nilsl, (.int .i64 0), (.int .i64 0)] [(0, 1, (.t 4)), (1, 1, (.t 6)), (4, 1, (.t 14))]), []⟩,
 ⟨none, none, (.st 7 (.t 0) (.t 15)), []⟩])
 .ret))
def zf33 : IFun := ⟨16, [(.cell 0 (some 7))], zc33⟩
theorem zok33 : okFun Tryz.prog 33 zf33 = true := by kernel_rfl
def zc43 : ICode :=
 (.seq (.reg 0 [] [] [⟨some 1, none, (.bx none 28 (.t 0)), []⟩,
 ⟨some 2, none, (.mv (.c (.int .i64 0))), []⟩])
 (.seq (.seq (.reg 0 [] [] [⟨some 7, none, (.ld (some 7) (.t 1)), []⟩,
 ⟨some 8, none, (.call 87 [(.t 7)]), []⟩])
 (.cond (.t 8) (.seq (.reg 0 [] [] [⟨some 2, none, (.mv (.c (.int .i64 2))), []⟩])
 .ret)
 .skip))
 (.seq (.seq (.reg 0 [] [] [⟨some 9, none, (.fa 4 (.t 1)), []⟩,
 ⟨some 10, none, (.ld none (.t 9)), []⟩,
 ⟨some 11, none, (.len false (.t 10)), []⟩,
 ⟨some 12, none, (.mv (.c (.int .i64 0))), []⟩])
 (.block 0 (.loop (.seq (.reg 0 [] [] [⟨some 13, none, (.bin .lss .num (.t 12) (.t 11)), []⟩])
 (.seq (.cond (.t 13) .skip
 (.exit 0))
 (.seq (.block 1 (.seq (.reg 0 [] [] [⟨some 14, none, (.ia none 4 (.t 10) (.t 12)), []⟩,
 ⟨some 15, none, (.ld (some 4) (.t 14)), []⟩,
 ⟨some 4, none, (.al none 39 [.nilsl, (.int .i64 0), (.int .i64 0), .nilsl]), []⟩,
 ⟨none, none, (.st 4 (.t 4) (.t 15)), []⟩])
 (.seq (.reg 0 [] [] [⟨some 16, none, (.fa 3 (.t 4)), []⟩,
 ⟨some 17, none, (.ld none (.t 16)), []⟩,
 ⟨some 18, none, (.len false (.t 17)), []⟩,
 ⟨some 19, none, (.mv (.c (.int .i64 0))), []⟩])
 (.block 2 (.loop (.seq (.reg 0 [] [] [⟨some 20, none, (.bin .lss .num (.t 19) (.t 18)), []⟩])
 (.seq (.cond (.t 20) .skip
 (.exit 2))
 (.seq (.block 3 (.seq (.reg 0 [] [] [⟨some 21, none, (.ia none 2 (.t 17) (.t 19)), []⟩,
 ⟨some 22, none, (.ld (some 2) (.t 21)), []⟩,
 ⟨some 6, none, (.al none 42 [.nilsl, .nilsl]), []⟩,
 ⟨none, none, (.st 2 (.t 6) (.t 22)), []⟩])
 (.seq (.reg 0 [] [] [⟨some 23, none, (.fa 1 (.t 6)), []⟩,
 ⟨some 24, none, (.ld none (.t 23)), []⟩,
 ⟨some 25, none, (.call 88 [(.t 24), (.c (.fn 89 [] []))]), []⟩])
 (.cond (.t 25) (.seq (.reg 0 [] [] [⟨some 2, none, (.mv (.c (.int .i64 1))), []⟩])
 .ret)
 .skip))))
 (.reg 0 [] [] [⟨some 26, none, (.bin .add .num (.t 19) (.c (.int .i64 1))), []⟩,
 ⟨some 19, none, (.mv (.t 26)), []⟩])))))))))
 (.reg 0 [] [] [⟨some 27, none, (.bin .add .num (.t 12) (.c (.int .i64 1))), []⟩,
 ⟨some 12, none, (.mv (.t 27)), []⟩])))))))
 (.seq (.reg 0 [] [] [⟨some 2, none, (.mv (.c (.int .i64 0))), []⟩])
 .ret))))
def zf43 : IFun := ⟨28, [(.tmp 2)], zc43⟩
theorem zok43 : okFun Tryz.prog 43 zf43 = true := by kernel_rfl
def zc59 : ICode :=
 (.seq (.reg 0 [] [] [⟨some 2, none, (.mv (.c (.str []))), []⟩])
 (.seq (.seq (.reg 0 [] [] [⟨some 3, none, (.mv (.t 0)), []⟩])
 (.block 0 (.seq (.reg 0 [] [] [⟨some 5, none, (.bin .eql .num (.t 3) (.c (.int .i64 1))), []⟩,
 ⟨some 4, none, (.mv (.t 5)), []⟩])
 (.cond (.t 4) (.seq (.reg 0 [] [] [⟨some 2, none, (.mv (.c (.str [68, 78]))), []⟩])
 .ret)
 (.seq (.reg 0 [] [] [⟨some 7, none, (.bin .eql .num (.t 3) (.c (.int .i64 2))), []⟩,
 ⟨some 6, none, (.mv (.t 7)), []⟩])
 (.cond (.t 6) (.seq (.reg 0 [] [] [⟨some 2, none, (.mv (.c (.str [68, 65, 108]))), []⟩])
 .ret)
 (.seq (.seq (.reg 0 [] [] [⟨some 9, none, (.bin .eql .num (.t 3) (.c (.int .i64 3))), []⟩,
 ⟨some 8, none, (.mv (.t 9)), []⟩])
 (.cond (.t 8) .skip
 (.reg 0 [] [] [⟨some 10, none, (.bin .eql .num (.t 3) (.c (.int .i64 11))), []⟩,
 ⟨some 8, none, (.mv (.t 10)), []⟩])))
 (.cond (.t 8) (.seq (.reg 0 [] [] [⟨some 2, none, (.mv (.c (.str [68, 65]))), []⟩])
 .ret)
 (.seq (.reg 0 [] [] [⟨some 12, none, (.bin .eql .num (.t 3) (.c (.int .i64 4))), []⟩,
 ⟨some 11, none, (.mv (.t 12)), []⟩])
 (.cond (.t 11) (.seq (.reg 0 [] [] [⟨some 2, none, (.mv (.c (.str [68, 65, 66, 78]))), []⟩])
 .ret)
 (.seq (.reg 0 [] [] [⟨some 14, none, (.bin .eql .num (.t 3) (.c (.int .i64 5))), []⟩,
 ⟨some 13, none, (.mv (.t 14)), []⟩])
 (.cond (.t 13) (.seq (.reg 0 [] [] [⟨some 2, none, (.mv (.c (.str [68, 65, 76, 108]))), []⟩])
 .ret)
 (.seq (.seq (.reg 0 [] [] [⟨some 16, none, (.bin .eql .num (.t 3) (.c (.int .i64 6))), []⟩,
 ⟨some 15, none, (.mv (.t 16)), []⟩])
 (.cond (.t 15) .skip
 (.seq (.reg 0 [] [] [⟨some 17, none, (.bin .eql .num (.t 3) (.c (.int .i64 9))), []⟩,
 ⟨some 15, none, (.mv (.t 17)), []⟩])
 (.cond (.t 15) .skip
 (.seq (.reg 0 [] [] [⟨some 18, none, (.bin .eql .num (.t 3) (.c (.int .i64 12))), []⟩,
 ⟨some 15, none, (.mv (.t 18)), []⟩])
 (.cond (.t 15) .skip
 (.reg 0 [] [] [⟨some 19, none, (.bin .eql .num (.t 3) (.c (.int .i64 14))), []⟩,
 ⟨some 15, none, (.mv (.t 19)), []⟩])))))))
 (.cond (.t 15) (.seq (.reg 0 [] [] [⟨some 2, none, (.mv (.c (.str [68, 65, 66]))), []⟩])
 .ret)
 (.seq (.seq (.reg 0 [] [] [⟨some 21, none, (.bin .eql .num (.t 3) (.c (.int .i64 7))), []⟩,
 ⟨some 20, none, (.mv (.t 21)), []⟩])
 (.cond (.t 20) .skip
 (.seq (.reg 0 [] [] [⟨some 22, none, (.bin .eql .num (.t 3) (.c (.int .i64 10))), []⟩,
 ⟨some 20, none, (.mv (.t 22)), []⟩])
 (.cond (.t 20) .skip
 (.reg 0 [] [] [⟨some 23, none, (.bin .eql .num (.t 3) (.c (.int .i64 19))), []⟩,
 ⟨some 20, none, (.mv (.t 23)), []⟩])))))
 (.cond (.t 20) (.seq (.reg 0 [] [] [⟨some 2, none, (.mv (.c (.str [65, 66, 67]))), []⟩])
 .ret)
 (.seq (.reg 0 [] [] [⟨some 25, none, (.bin .eql .num (.t 3) (.c (.int .i64 8))), []⟩,
 ⟨some 24, none, (.mv (.t 25)), []⟩])
 (.cond (.t 24) (.seq (.reg 0 [] [] [⟨some 2, none, (.mv (.c (.str [68, 65, 66, 67, 108]))), []⟩])
 .ret)
 (.seq (.reg 0 [] [] [⟨some 27, none, (.bin .eql .num (.t 3) (.c (.int .i64 13))), []⟩,
 ⟨some 26, none, (.mv (.t 27)), []⟩])
 (.cond (.t 26) (.seq (.reg 0 [] [] [⟨some 2, none, (.mv (.c (.str [68, 65, 66, 108]))), []⟩])
 .ret)
 (.seq (.reg 0 [] [] [⟨some 29, none, (.bin .eql .num (.t 3) (.c (.int .i64 15))), []⟩,
 ⟨some 28, none, (.mv (.t 29)), []⟩])
 (.cond (.t 28) (.seq (.reg 0 [] [] [⟨some 2, none, (.mv (.c (.str [68]))), []⟩])
 .ret)
 (.seq (.seq (.reg 0 [] [] [⟨some 31, none, (.bin .eql .num (.t 3) (.c (.int .i64 16))), []⟩,
 ⟨some 30, none, (.mv (.t 31)), []⟩])
 (.cond (.t 30) .skip
 (.seq (.reg 0 [] [] [⟨some 32, none, (.bin .eql .num (.t 3) (.c (.int .i64 18))), []⟩,
 ⟨some 30, none, (.mv (.t 32)), []⟩])
 (.cond (.t 30) .skip
 (.seq (.reg 0 [] [] [⟨some 33, none, (.bin .eql .num (.t 3) (.c (.int .i64 22))), []⟩,
 ⟨some 30, none, (.mv (.t 33)), []⟩])
 (.cond (.t 30) .skip
 (.reg 0 [] [] [⟨some 34, none, (.bin .eql .num (.t 3) (.c (.int .i64 23))), []⟩,
 ⟨some 30, none, (.mv (.t 34)), []⟩])))))))
 (.cond (.t 30) (.seq (.reg 0 [] [] [⟨some 2, none, (.mv (.c (.str [65]))), []⟩])
 .ret)
 (.seq (.reg 0 [] [] [⟨some 36, none, (.bin .eql .num (.t 3) (.c (.int .i64 17))), []⟩,
 ⟨some 35, none, (.mv (.t 36)), []⟩])
 (.cond (.t 35) (.seq (.reg 0 [] [] [⟨some 2, none, (.mv (.c (.str [68, 65, 66, 67, 76, 108]))), []⟩])
 .ret)
 (.seq (.reg 0 [] [] [⟨some 38, none, (.bin .eql .num (.t 3) (.c (.int .i64 20))), []⟩,
 ⟨some 37, none, (.mv (.t 38)), []⟩])
 (.cond (.t 37) (.seq (.reg 0 [] [] [⟨some 2, none, (.mv (.c (.str [65, 76, 77, 66]))), []⟩])
 .ret)
 (.seq (.reg 0 [] [] [⟨some 40, none, (.bin .eql .num (.t 3) (.c (.int .i64 21))), []⟩,
 ⟨some 39, none, (.mv (.t 40)), []⟩])
 (.cond (.t 39) (.seq (.reg 0 [] [] [⟨some 2, none, (.mv (.c (.str [65, 76]))), []⟩])
 .ret)
 .skip))))))))))))))))))))))))))))))
 (.seq (.reg 0 [] [] [⟨some 2, none, (.mv (.c (.str []))), []⟩])
 .ret)))
def zf59 : IFun := ⟨41, [(.tmp 2)], zc59⟩
theorem zok59 : okFun Tryz.prog 59 zf59 = true := by kernel_rfl
def zc60 : ICode :=
 (.seq (.reg 0 [] [] [⟨some 1, none, (.bx none 55 (.t 0)), []⟩,
 ⟨some 2, none, (.mv (.c (.bool false))), []⟩])
 (.seq (.reg 0 [] [] [⟨some 8, none, (.ld (some 9) (.t 1)), []⟩,
 ⟨some 3, none, (.al none 55 [(.int .i64 0), (.int .i64 0), (.int .i64 0), (.int .i64 0), (.int .i64 0), (.int .i64 0), .nilsl, .nilsl, .nilsl]), []⟩,
 ⟨none, none, (.st 9 (.t 3) (.t 8)), []⟩])
 (.seq (.reg 0 [] [] [⟨some 9, none, (.fa 0 (.t 1)), []⟩,
 ⟨some 10, none, (.ld none (.t 9)), []⟩,
 ⟨some 11, none, (.call 59 [(.t 10)]), []⟩,
 ⟨some 4, none, (.mv (.t 11)), []⟩])
 (.seq (.seq (.reg 0 [] [] [⟨some 12, none, (.mv (.t 4)), []⟩,
 ⟨some 13, none, (.cv none (.s2b 5) (.t 12)), []⟩,
 ⟨some 14, none, (.len false (.t 13)), []⟩,
 ⟨some 15, none, (.mv (.c (.int .i64 0))), []⟩])
 (.block 0 (.loop (.seq (.reg 0 [] [] [⟨some 16, none, (.bin .lss .num (.t 15) (.t 14)), []⟩])
 (.seq (.cond (.t 16) .skip
 (.exit 0))
 (.seq (.block 1 (.seq (.reg 0 [] [] [⟨some 17, none, (.ia none 1 (.t 13) (.t 15)), []⟩,
 ⟨some 18, none, (.ld none (.t 17)), []⟩,
 ⟨some 6, none, (.mv (.t 18)), []⟩])
 (.seq (.reg 0 [] [] [⟨some 19, none, (.mv (.t 6)), []⟩,
 ⟨some 20, none, (.bin .eql .num (.t 19) (.c (.int .u8 78))), []⟩])
 (.cond (.t 20) (.reg 0 [] [] [⟨some 21, none, (.fa 5 (.t 3)), []⟩,
 ⟨none, none, (.st 1 (.t 21) (.c (.int .i64 0))), []⟩])
 (.seq (.reg 0 [] [] [⟨some 22, none, (.mv (.t 6)), []⟩,
 ⟨some 23, none, (.call 109 [(.t 3), (.t 22)]), []⟩,
 ⟨some 7, none, (.mv (.t 23)), []⟩])
 (.seq (.reg 0 [] [] [⟨some 24, none, (.mv (.t 7)), []⟩,
 ⟨some 25, none, (.bin .neq .ptr (.t 24) (.c .nilp)), []⟩])
 (.cond (.t 25) (.reg 0 [] [] [⟨some 26, none, (.mv (.t 7)), []⟩,
 ⟨some 27, none, (.nilc (.t 26)), []⟩,
 ⟨none, none, (.st 1 (.t 27) (.c (.int .i64 0))), []⟩])
 (.reg 0 [] [] [⟨some 28, none, (.mv (.t 6)), []⟩,
 ⟨some 29, none, (.call 110 [(.t 3), (.t 28)]), []⟩,
 ⟨some 30, none, (.nilc (.t 29)), []⟩,
 ⟨none, none, (.st 1 (.t 30) (.c .nilsl)), []⟩]))))))))
 (.reg 0 [] [] [⟨some 31, none, (.bin .add .num (.t 15) (.c (.int .i64 1))), []⟩,
 ⟨some 15, none, (.mv (.t 31)), []⟩])))))))
 (.seq (.reg 0 [] [] [⟨some 32, none, (.mv (.t 4)), []⟩,
 ⟨some 33, none, (.bin .neq .num (.t 32) (.c (.str []))), []⟩,
 ⟨some 34, none, (.mv (.t 33)), []⟩,
 ⟨some 35, some (34, true), (.fa 1 (.t 3)), []⟩,
 ⟨some 36, some (34, true), (.ld none (.t 35)), []⟩,
 ⟨some 37, some (34, true), (.bin .eql .num (.t 36) (.c (.int .i64 0))), []⟩,
 ⟨some 38, none, (.pick (.t 34) (.t 37) (.c (.bool false))), []⟩,
 ⟨some 39, none, (.mv (.t 38)), []⟩,
 ⟨some 40, some (39, true), (.fa 2 (.t 3)), []⟩,
 ⟨some 41, some (39, true), (.ld none (.t 40)), []⟩,
 ⟨some 42, some (39, true), (.bin .eql .num (.t 41) (.c (.int .i64 0))), []⟩,
 ⟨some 43, none, (.pick (.t 39) (.t 42) (.c (.bool false))), []⟩,
 ⟨some 44, none, (.mv (.t 43)), []⟩,
 ⟨some 45, some (44, true), (.fa 3 (.t 3)), []⟩,
 ⟨some 46, some (44, true), (.ld none (.t 45)), []⟩,
 ⟨some 47, some (44, true), (.bin .eql .num (.t 46) (.c (.int .i64 0))), []⟩,
 ⟨some 48, none, (.pick (.t 44) (.t 47) (.c (.bool false))), []⟩,
 ⟨some 49, none, (.mv (.t 48)), []⟩,
 ⟨some 50, some (49, true), (.fa 4 (.t 3)), []⟩,
 ⟨some 51, some (49, true), (.ld none (.t 50)), []⟩,
 ⟨some 52, some (49, true), (.bin .eql .num (.t 51) (.c (.int .i64 0))), []⟩,
 ⟨some 53, none, (.pick (.t 49) (.t 52) (.c (.bool false))), []⟩,
 ⟨some 54, none, (.mv (.t 53)), []⟩,
 ⟨some 55, some (54, true), (.fa 5 (.t 3)), []⟩,
 ⟨some 56, some (54, true), (.ld none (.t 55)), []⟩,
 ⟨some 57, some (54, true), (.bin .eql .num (.t 56) (.c (.int .i64 0))), []⟩,
 ⟨some 58, none, (.pick (.t 54) (.t 57) (.c (.bool false))), []⟩,
 ⟨some 59, none, (.mv (.t 58)), []⟩,
 ⟨some 60, some (59, true), (.fa 6 (.t 3)), []⟩,
 ⟨some 61, some (59, true), (.ld none (.t 60)), []⟩,
 ⟨some 62, some (59, true), (.len false (.t 61)), []⟩,
 ⟨some 63, some (59, true), (.bin .eql .num (.t 62) (.c (.int .i64 0))), []⟩,
 ⟨some 64, none, (.pick (.t 59) (.t 63) (.c (.bool false))), []⟩,
 ⟨some 65, none, (.mv (.t 64)), []⟩,
 ⟨some 66, some (65, true), (.fa 7 (.t 3)), []⟩,
 ⟨some 67, some (65, true), (.ld none (.t 66)), []⟩,
 ⟨some 68, some (65, true), (.len false (.t 67)), []⟩,
 ⟨some 69, some (65, true), (.bin .eql .num (.t 68) (.c (.int .i64 0))), []⟩,
 ⟨some 70, none, (.pick (.t 65) (.t 69) (.c (.bool false))), []⟩,
 ⟨some 71, none, (.mv (.t 70)), []⟩,
 ⟨some 72, some (71, true), (.fa 8 (.t 3)), []⟩,
 ⟨some 73, some (71, true), (.ld none (.t 72)), []⟩,
 ⟨some 74, some (71, true), (.len false (.t 73)), []⟩,
 ⟨some 75, some (71, true), (.bin .eql .num (.t 74) (.c (.int .i64 0))), []⟩,
 ⟨some 76, none, (.pick (.t 71) (.t 75) (.c (.bool false))), []⟩,
 ⟨some 2, none, (.mv (.t 76)), []⟩])
 .ret)))))
def zf60 : IFun := ⟨77, [(.tmp 2)], zc60⟩
theorem zok60 : okFun Tryz.prog 60 zf60 = true := by kernel_rfl
def zc63 : ICode :=
 (.seq (.reg 0 [] [] [⟨some 2, none, (.mv (.c .nilsl)), []⟩])
 (.seq (.reg 0 [] [] [⟨some 3, none, (.mv (.c (.int .i64 0))), []⟩])
 (.seq (.seq (.reg 0 [] [] [⟨some 9, none, (.mv (.t 0)), []⟩,
 ⟨some 10, none, (.len false (.t 9)), []⟩,
 ⟨some 11, none, (.mv (.c (.int .i64 0))), []⟩])
 (.block 0 (.loop (.seq (.reg 0 [] [] [⟨some 12, none, (.bin .lss .num (.t 11) (.t 10)), []⟩])
 (.seq (.cond (.t 12) .skip
 (.exit 0))
 (.seq (.block 1 (.seq (.reg 0 [] [] [⟨some 13, none, (.ia none 1 (.t 9) (.t 11)), []⟩,
 ⟨some 14, none, (.ld none (.t 13)), []⟩,
 ⟨some 5, none, (.mv (.t 14)), []⟩])
 (.seq (.reg 0 [] [] [⟨some 15, none, (.mv (.t 3)), []⟩,
 ⟨some 16, none, (.mv (.t 5)), []⟩,
 ⟨some 17, none, (.len false (.t 16)), []⟩,
 ⟨some 18, none, (.bin .add .num (.t 15) (.t 17)), []⟩,
 ⟨some 3, none, (.mv (.t 18)), []⟩])
 (.seq (.reg 0 [] [] [⟨some 19, none, (.mv (.t 3)), []⟩,
 ⟨some 20, none, (.bin .lss .num (.t 19) (.c (.int .i64 0))), []⟩])
 (.cond (.t 20) (.reg 0 [] [] [⟨some 21, none, (.ext (.c .undef) 0), []⟩,
 ⟨none, none, (.ext (.c .undef) 0), []⟩])
 .skip)))))
 (.reg 0 [] [] [⟨some 22, none, (.bin .add .num (.t 11) (.c (.int .i64 1))), []⟩,
 ⟨some 11, none, (.mv (.t 22)), []⟩])))))))
 (.seq (.reg 0 [] [] [⟨some 23, none, (.mv (.t 3)), []⟩,
 ⟨some 24, none, (.call 113 [(.c .nilsl), (.t 23)]), []⟩,
 ⟨some 6, none, (.mv (.t 24)), []⟩])
 (.seq (.seq (.reg 0 [] [] [⟨some 25, none, (.mv (.t 0)), []⟩,
 ⟨some 26, none, (.len false (.t 25)), []⟩,
 ⟨some 27, none, (.mv (.c (.int .i64 0))), []⟩])
 (.block 2 (.loop (.seq (.reg 0 [] [] [⟨some 28, none, (.bin .lss .num (.t 27) (.t 26)), []⟩])
 (.seq (.cond (.t 28) .skip
 (.exit 2))
 (.seq (.block 3 (.seq (.reg 0 [] [] [⟨some 29, none, (.ia none 1 (.t 25) (.t 27)), []⟩,
 ⟨some 30, none, (.ld none (.t 29)), []⟩,
 ⟨some 8, none, (.mv (.t 30)), []⟩])
 (.reg 0 [] [] [⟨some 31, none, (.mv (.t 6)), []⟩,
 ⟨some 32, none, (.mv (.t 8)), []⟩,
 ⟨some 33, none, (.app 3 1 8 [(.int .i64 0)] (.t 31) (.t 32)), []⟩,
 ⟨some 6, none, (.mv (.t 33)), []⟩])))
 (.reg 0 [] [] [⟨some 34, none, (.bin .add .num (.t 27) (.c (.int .i64 1))), []⟩,
 ⟨some 27, none, (.mv (.t 34)), []⟩])))))))
 (.seq (.reg 0 [] [] [⟨some 35, none, (.mv (.t 6)), []⟩,
 ⟨some 2, none, (.mv (.t 35)), []⟩])
 .ret))))))
def zf63 : IFun := ⟨36, [(.tmp 2)], zc63⟩
theorem zok63 : okFun Tryz.prog 63 zf63 = true := by kernel_rfl
def zc64 : ICode :=
 (.seq (.reg 0 [] [] [⟨some 3, none, (.mv (.t 0)), []⟩,
 ⟨some 4, none, (.len false (.t 3)), []⟩,
 ⟨some 2, none, (.mv (.t 4)), []⟩])
 (.reg 0 [] [] [⟨some 5, none, (.mv (.t 0)), []⟩,
 ⟨some 6, none, (.mv (.t 2)), []⟩,
 ⟨some 7, none, (.mv (.t 2)), []⟩,
 ⟨some 8, none, (.cv none (.toInt .u64) (.t 7)), []⟩,
 ⟨some 9, none, (.call 115 [(.t 8)]), []⟩,
 ⟨some 10, none, (.call 114 [(.t 5), (.c (.int .i64 0)), (.t 6), (.t 9)]), []⟩]))
def zf64 : IFun := ⟨11, [], zc64⟩
theorem zok64 : okFun Tryz.prog 64 zf64 = true := by kernel_rfl
def zc65 : ICode :=
 (.seq (.reg 0 [] [] [⟨some 2, none, (.mv (.c .nilsl)), []⟩])
 (.seq (.seq (.reg 0 [] [] [⟨some 6, none, (.mv (.t 0)), []⟩,
 ⟨some 7, none, (.len false (.t 6)), []⟩,
 ⟨some 8, none, (.bin .lss .num (.t 7) (.c (.int .i64 2))), []⟩])
 (.cond (.t 8) (.seq (.reg 0 [] [] [⟨some 9, none, (.mv (.t 0)), []⟩,
 ⟨some 2, none, (.mv (.t 9)), []⟩])
 .ret)
 .skip))
 (.seq (.seq (.reg 0 [] [] [⟨some 3, none, (.mv (.c (.int .i64 1))), []⟩])
 (.block 0 (.loop (.seq (.seq (.reg 0 [] [] [⟨some 10, none, (.mv (.t 3)), []⟩,
 ⟨some 11, none, (.mv (.t 0)), []⟩,
 ⟨some 12, none, (.len false (.t 11)), []⟩,
 ⟨some 13, none, (.bin .lss .num (.t 10) (.t 12)), []⟩])
 (.cond (.t 13) .skip
 (.exit 0)))
 (.seq (.block 1 (.seq (.reg 0 [0, 1, 2, 3, 4, 5, 6, 7, 8, 9] [[], [], [1, 0], [0, 1, 2], [], [], [5], [5, 6, 4], [4, 6, 5, 7], [7, 5, 6, 4, 8, 2, 1, 0, 3]] [⟨some 16, none, (.mv (.t 0)), []⟩,
 ⟨some 17, none, (.mv (.t 3)), []⟩,
 ⟨some 18, none, (.ia none 1 (.t 16) (.t 17)), []⟩,
 ⟨some 19, none, (.ld none (.t 18)), []⟩,
 ⟨some 20, none, (.mv (.t 0)), []⟩,
 ⟨some 21, none, (.mv (.t 3)), []⟩,
 ⟨some 22, none, (.bin .sub .num (.t 21) (.c (.int .i64 1))), []⟩,
 ⟨some 23, none, (.ia none 1 (.t 20) (.t 22)), []⟩,
 ⟨some 24, none, (.ld none (.t 23)), []⟩,
 ⟨some 25, none, (.bin .eql .num (.t 19) (.t 24)), []⟩])
 (.cond (.t 25) (.seq (.reg 0 [] [] [⟨some 26, none, (.mv (.t 0)), []⟩,
 ⟨some 27, none, (.mv (.t 3)), []⟩,
 ⟨some 28, none, (.sli (.row 1) (.t 26) (some (.t 27)) none none), []⟩,
 ⟨some 4, none, (.mv (.t 28)), []⟩])
 (.seq (.seq (.reg 0 [] [] [⟨some 5, none, (.mv (.c (.int .i64 1))), []⟩])
 (.block 2 (.loop (.seq (.seq (.reg 0 [] [] [⟨some 29, none, (.mv (.t 5)), []⟩,
 ⟨some 30, none, (.mv (.t 4)), []⟩,
 ⟨some 31, none, (.len false (.t 30)), []⟩,
 ⟨some 32, none, (.bin .lss .num (.t 29) (.t 31)), []⟩])
 (.cond (.t 32) .skip
 (.exit 2)))
 (.seq (.block 3 (.seq (.reg 0 [0, 1, 2, 3, 4, 5, 6, 7, 8, 9] [[], [], [1, 0], [0, 1, 2], [], [], [5], [5, 6, 4], [4, 6, 5, 7], [7, 5, 6, 4, 8, 2, 1, 0, 3]] [⟨some 35, none, (.mv (.t 4)), []⟩,
 ⟨some 36, none, (.mv (.t 5)), []⟩,
 ⟨some 37, none, (.ia none 1 (.t 35) (.t 36)), []⟩,
 ⟨some 38, none, (.ld none (.t 37)), []⟩,
 ⟨some 39, none, (.mv (.t 4)), []⟩,
 ⟨some 40, none, (.mv (.t 5)), []⟩,
 ⟨some 41, none, (.bin .sub .num (.t 40) (.c (.int .i64 1))), []⟩,
 ⟨some 42, none, (.ia none 1 (.t 39) (.t 41)), []⟩,
 ⟨some 43, none, (.ld none (.t 42)), []⟩,
 ⟨some 44, none, (.bin .neq .num (.t 38) (.t 43)), []⟩])
 (.cond (.t 44) (.seq (.reg 0 [] [] [⟨some 45, none, (.mv (.t 0)), []⟩,
 ⟨some 46, none, (.mv (.t 3)), []⟩,
 ⟨some 47, none, (.mv (.t 4)), []⟩,
 ⟨some 48, none, (.mv (.t 5)), []⟩,
 ⟨some 49, none, (.ia none 1 (.t 47) (.t 48)), []⟩,
 ⟨some 50, none, (.ld none (.t 49)), []⟩,
 ⟨some 51, none, (.ia none 1 (.t 45) (.t 46)), []⟩,
 ⟨none, none, (.st 1 (.t 51) (.t 50)), []⟩])
 (.reg 0 [] [] [⟨some 52, none, (.mv (.t 3)), []⟩,
 ⟨some 53, none, (.bin .add .num (.t 52) (.c (.int .i64 1))), []⟩,
 ⟨some 3, none, (.mv (.t 53)), []⟩]))
 .skip)))
 (.reg 0 [] [] [⟨some 33, none, (.mv (.t 5)), []⟩,
 ⟨some 34, none, (.bin .add .num (.t 33) (.c (.int .i64 1))), []⟩,
 ⟨some 5, none, (.mv (.t 34)), []⟩]))))))
 (.seq (.reg 0 [] [] [⟨some 54, none, (.mv (.t 0)), []⟩,
 ⟨some 55, none, (.mv (.t 3)), []⟩,
 ⟨some 56, none, (.sli (.row 1) (.t 54) (some (.t 55)) none none), []⟩,
 ⟨none, none, (.clear [(.int .i64 0)] (.t 56)), []⟩])
 (.seq (.reg 0 [] [] [⟨some 57, none, (.mv (.t 0)), []⟩,
 ⟨some 58, none, (.mv (.t 3)), []⟩,
 ⟨some 59, none, (.sli (.row 1) (.t 57) none (some (.t 58)) none), []⟩,
 ⟨some 2, none, (.mv (.t 59)), []⟩])
 .ret))))
 .skip)))
 (.reg 0 [] [] [⟨some 14, none, (.mv (.t 3)), []⟩,
 ⟨some 15, none, (.bin .add .num (.t 14) (.c (.int .i64 1))), []⟩,
 ⟨some 3, none, (.mv (.t 15)), []⟩]))))))
 (.seq (.reg 0 [] [] [⟨some 60, none, (.mv (.t 0)), []⟩,
 ⟨some 2, none, (.mv (.t 60)), []⟩])
 .ret))))
def zf65 : IFun := ⟨61, [(.tmp 2)], zc65⟩
theorem zok65 : okFun Tryz.prog 65 zf65 = true := by kernel_rfl
def zc67 : ICode :=
 (.seq (.reg 0 [] [] [⟨some 4, none, (.mv (.c (.bool false))), []⟩])
 (.seq (.reg 0 [] [] [⟨some 5, none, (.mv (.t 0)), []⟩,
 ⟨some 6, none, (.mv (.t 1)), []⟩,
 ⟨some 7, none, (.call 116 [(.t 5), (.t 6)]), []⟩,
 ⟨some 8, none, (.bin .geq .num (.t 7) (.c (.int .i64 0))), []⟩,
 ⟨some 4, none, (.mv (.t 8)), []⟩])
 .ret))
def zf67 : IFun := ⟨9, [(.tmp 4)], zc67⟩
theorem zok67 : okFun Tryz.prog 67 zf67 = true := by kernel_rfl
def zc68 : ICode :=
 (.seq (.reg 0 [] [] [⟨some 3, none, (.mv (.c (.bool false))), []⟩])
 (.seq (.reg 0 [] [] [⟨some 4, none, (.fa 1 (.t 1)), []⟩,
 ⟨some 5, none, (.ld none (.t 4)), []⟩,
 ⟨some 6, none, (.mv (.t 0)), []⟩,
 ⟨some 7, none, (.call 69 [(.t 5), (.t 6)]), []⟩,
 ⟨some 8, none, (.un .not (.t 7)), []⟩,
 ⟨some 3, none, (.mv (.t 8)), []⟩])
 .ret))
def zf68 : IFun := ⟨9, [(.tmp 3)], zc68⟩
theorem zok68 : okFun Tryz.prog 68 zf68 = true := by kernel_rfl
def zc69 : ICode :=
 (.seq (.reg 0 [] [] [⟨some 4, none, (.mv (.c (.bool false))), []⟩])
 (.seq (.reg 0 [] [] [⟨some 5, none, (.mv (.t 0)), []⟩,
 ⟨some 6, none, (.mv (.t 1)), []⟩,
 ⟨some 7, none, (.call 117 [(.t 5), (.t 6)]), []⟩,
 ⟨some 8, none, (.bin .geq .num (.t 7) (.c (.int .i64 0))), []⟩,
 ⟨some 4, none, (.mv (.t 8)), []⟩])
 .ret))
def zf69 : IFun := ⟨9, [(.tmp 4)], zc69⟩
theorem zok69 : okFun Tryz.prog 69 zf69 = true := by kernel_rfl
def zc70 : ICode :=
 (.seq (.reg 0 [] [] [⟨some 3, none, (.bx none 28 (.t 0)), []⟩,
 ⟨some 4, none, (.bx none 39 (.t 1)), []⟩,
 ⟨some 5, none, (.bx none 42 (.t 2)), []⟩,
 ⟨some 6, none, (.mv (.c (.int .i64 0))), []⟩])
 (.seq (.reg 0 [] [] [⟨some 14, none, (.ld (some 7) (.t 3)), []⟩,
 ⟨some 15, none, (.ld (some 4) (.t 4)), []⟩,
 ⟨some 16, none, (.build [.nilsl, .nilsl, .nilsl, .nilsl, .nilsl, (.int .i64 0), (.int .i64 0), .nilsl, (.int .i64 0), (.int .i64 0), .nilsl, .nilsl] [(0, 7, (.t 14)), (7, 4, (.t 15))]), []⟩,
 ⟨some 17, none, (.bx none 146 (.t 16)), []⟩,
 ⟨some 7, none, (.al none 143 [.nilp]), []⟩,
 ⟨none, none, (.st 1 (.t 7) (.t 17)), []⟩])
 (.seq (.seq (.reg 0 [] [] [⟨some 18, none, (.fa 0 (.t 5)), []⟩,
 ⟨some 19, none, (.ld none (.t 18)), []⟩,
 ⟨some 20, none, (.len false (.t 19)), []⟩,
 ⟨some 21, none, (.mv (.c (.int .i64 0))), []⟩])
 (.block 0 (.loop (.seq (.reg 0 [] [] [⟨some 22, none, (.bin .lss .num (.t 21) (.t 20)), []⟩])
 (.seq (.cond (.t 22) .skip
 (.exit 0))
 (.seq (.block 1 (.seq (.reg 0 [] [] [⟨some 23, none, (.ia none 1 (.t 19) (.t 21)), []⟩,
 ⟨some 24, none, (.ld none (.t 23)), []⟩,
 ⟨some 9, none, (.mv (.t 24)), []⟩])
 (.reg 1 [0, 1, 2, 3, 4, 5, 6, 7, 8, 9, 10, 11, 12] [[], [], [1], [1, 2], [2, 1, 3], [], [], [6, 5], [5, 6, 7], [7, 6, 5, 8, 3, 1, 2, 4], [9, 8, 7, 6, 5, 4, 3, 2, 1, 0], [0, 1, 2, 3, 4, 5, 6, 7, 8, 9, 10], [10, 9, 8, 7, 6, 5, 4, 3, 2, 1, 0, 11]] [⟨some 25, none, (.ld none (.t 7)), []⟩,
 ⟨some 26, none, (.ld none (.t 7)), []⟩,
 ⟨some 27, none, (.nilc (.t 26)), []⟩,
 ⟨some 28, none, (.fa 11 (.t 27)), []⟩,
 ⟨some 29, none, (.ld none (.t 28)), []⟩,
 ⟨some 30, none, (.ld none (.t 7)), []⟩,
 ⟨some 31, none, (.mv (.t 9)), []⟩,
 ⟨(some 32), none, (.call 118 [(.t 30), (.t 31)]), [⟨none, (.ld none (.t 7)), 25⟩, ⟨none, (.ld none (.t 7)), 26⟩, ⟨none, (.ld none (.t 28)), 29⟩]⟩,
 ⟨some 33, none, (.mksl (some 0) 148 [(.bool false), .nilsl, (.bool false)] 1 [(0, 3, (.t 32))]), []⟩,
 ⟨(some 34), none, (.app 148 3 40 [(.bool false), .nilsl, (.bool false)] (.t 29) (.t 33)), [⟨none, (.ld none (.t 7)), 25⟩]⟩,
 ⟨some 35, none, (.nilc (.t 25)), []⟩,
 ⟨some 36, none, (.fa 11 (.t 35)), []⟩,
 ⟨none, none, (.st 1 (.t 36) (.t 34)), []⟩])))
 (.reg 0 [] [] [⟨some 37, none, (.bin .add .num (.t 21) (.c (.int .i64 1))), []⟩,
 ⟨some 21, none, (.mv (.t 37)), []⟩])))))))
 (.seq (.seq (.reg 0 [] [] [⟨some 38, none, (.fa 1 (.t 5)), []⟩,
 ⟨some 39, none, (.ld none (.t 38)), []⟩,
 ⟨some 40, none, (.len false (.t 39)), []⟩,
 ⟨some 41, none, (.mv (.c (.int .i64 0))), []⟩])
 (.block 2 (.loop (.seq (.reg 0 [] [] [⟨some 42, none, (.bin .lss .num (.t 41) (.t 40)), []⟩])
 (.seq (.cond (.t 42) .skip
 (.exit 2))
 (.seq (.block 3 (.seq (.reg 0 [] [] [⟨some 43, none, (.mv (.t 41)), []⟩,
 ⟨some 44, none, (.ia none 9 (.t 39) (.t 41)), []⟩,
 ⟨some 45, none, (.ld (some 9) (.t 44)), []⟩,
 ⟨some 11, none, (.al none 55 [(.int .i64 0), (.int .i64 0), (.int .i64 0), (.int .i64 0), (.int .i64 0), (.int .i64 0), .nilsl, .nilsl, .nilsl]), []⟩,
 ⟨some 10, none, (.mv (.t 43)), []⟩,
 ⟨none, none, (.st 9 (.t 11) (.t 45)), []⟩])
 (.seq (.reg 0 [] [] [⟨some 46, none, (.fa 0 (.t 11)), []⟩,
 ⟨some 47, none, (.ld none (.t 46)), []⟩,
 ⟨some 48, none, (.bin .geq .num (.t 47) (.c (.int .i64 18))), []⟩,
 ⟨some 12, none, (.al none 4 [(.bool false)]), []⟩,
 ⟨none, none, (.st 1 (.t 12) (.t 48)), []⟩])
 (.seq (.seq (.reg 0 [] [] [⟨some 49, none, (.ld none (.t 12)), []⟩,
 ⟨some 50, none, (.mv (.t 10)), []⟩,
 ⟨some 51, none, (.bin .add .num (.t 50) (.c (.int .i64 1))), []⟩,
 ⟨some 52, none, (.fa 1 (.t 5)), []⟩,
 ⟨some 53, none, (.ld none (.t 52)), []⟩,
 ⟨some 54, none, (.len false (.t 53)), []⟩,
 ⟨some 55, none, (.bin .eql .num (.t 51) (.t 54)), []⟩,
 ⟨some 56, none, (.bin .neq .bool (.t 49) (.t 55)), []⟩,
 ⟨some 57, none, (.mv (.t 56)), []⟩,
 ⟨some 58, some (57, true), (.ld none (.t 12)), []⟩,
 ⟨some 59, none, (.pick (.t 57) (.t 58) (.c (.bool false))), []⟩])
 (.cond (.t 59) (.seq (.reg 0 [] [] [⟨some 60, none, (.mv (.t 10)), []⟩,
 ⟨some 6, none, (.mv (.t 60)), []⟩])
 .ret)
 .skip))
 (.seq (.reg 0 [] [] [⟨some 61, none, (.mkf 120 [] [(.t 12), (.t 7), (.t 11)]), []⟩,
 ⟨some 62, none, (.call 119 [(.t 61)]), []⟩,
 ⟨some 63, none, (.un .not (.t 62)), []⟩])
 (.cond (.t 63) (.seq (.reg 0 [] [] [⟨some 64, none, (.mv (.t 10)), []⟩,
 ⟨some 6, none, (.mv (.t 64)), []⟩])
 .ret)
 .skip))))))
 (.reg 0 [] [] [⟨some 65, none, (.bin .add .num (.t 41) (.c (.int .i64 1))), []⟩,
 ⟨some 41, none, (.mv (.t 65)), []⟩])))))))
 (.seq (.seq (.reg 0 [] [] [⟨some 66, none, (.fa 1 (.t 5)), []⟩,
 ⟨some 67, none, (.ld none (.t 66)), []⟩,
 ⟨some 68, none, (.len false (.t 67)), []⟩,
 ⟨some 13, none, (.mv (.t 68)), []⟩])
 (.seq (.reg 0 [] [] [⟨some 69, none, (.mv (.t 13)), []⟩,
 ⟨some 70, none, (.bin .eql .num (.t 69) (.c (.int .i64 0))), []⟩,
 ⟨some 71, none, (.mv (.t 70)), []⟩,
 ⟨some 72, some (71, false), (.fa 1 (.t 5)), []⟩,
 ⟨some 73, some (71, false), (.ld none (.t 72)), []⟩,
 ⟨some 74, some (71, false), (.mv (.t 13)), []⟩,
 ⟨some 75, some (71, false), (.bin .sub .num (.t 74) (.c (.int .i64 1))), []⟩,
 ⟨some 76, some (71, false), (.ia none 9 (.t 73) (.t 75)), []⟩,
 ⟨some 77, some (71, false), (.fa 0 (.t 76)), []⟩,
 ⟨some 78, some (71, false), (.ld none (.t 77)), []⟩,
 ⟨some 79, some (71, false), (.bin .lss .num (.t 78) (.c (.int .i64 18))), []⟩,
 ⟨some 80, none, (.pick (.t 71) (.c (.bool true)) (.t 79)), []⟩])
 (.cond (.t 80) (.seq (.reg 0 [] [] [⟨some 81, none, (.mv (.t 13)), []⟩,
 ⟨some 6, none, (.mv (.t 81)), []⟩])
 .ret)
 .skip)))
 (.seq (.reg 0 [] [] [⟨some 6, none, (.mv (.c (.int .i64 (-1)))), []⟩])
 .ret))))))
def zf70 : IFun := ⟨82, [(.tmp 6)], zc70⟩
theorem zok70 : okFun Tryz.prog 70 zf70 = true := by kernel_rfl
def zc72 : ICode :=
 (.seq (.reg 0 [] [] [⟨some 3, none, (.mv (.c (.bool false))), []⟩])
 (.seq (.reg 0 [] [] [⟨some 4, none, (.mv (.t 0)), []⟩,
 ⟨some 5, none, (.bin .geq .num (.t 4) (.c (.int .i64 0))), []⟩,
 ⟨some 6, none, (.mv (.t 5)), []⟩,
 ⟨some 7, some (6, true), (.mv (.t 0)), []⟩,
 ⟨some 8, some (6, true), (.fa 0 (.t 1)), []⟩,
 ⟨some 9, some (6, true), (.ld none (.t 8)), []⟩,
 ⟨some 10, some (6, true), (.len false (.t 9)), []⟩,
 ⟨some 11, some (6, true), (.bin .lss .num (.t 7) (.t 10)), []⟩,
 ⟨some 12, none, (.pick (.t 6) (.t 11) (.c (.bool false))), []⟩,
 ⟨some 3, none, (.mv (.t 12)), []⟩])
 .ret))
def zf72 : IFun := ⟨13, [(.tmp 3)], zc72⟩
theorem zok72 : okFun Tryz.prog 72 zf72 = true := by kernel_rfl
def zc73 : ICode :=
 (.seq (.reg 0 [] [] [⟨some 4, none, (.mv (.c (.bool false))), []⟩])
 (.seq (.reg 0 [] [] [⟨some 5, none, (.mv (.c (.int .i64 (-1)))), []⟩])
 (.seq (.seq (.reg 0 [] [] [⟨some 8, none, (.mv (.t 0)), []⟩,
 ⟨some 9, none, (.len false (.t 8)), []⟩,
 ⟨some 10, none, (.mv (.c (.int .i64 0))), []⟩])
 (.block 0 (.loop (.seq (.reg 0 [] [] [⟨some 11, none, (.bin .lss .num (.t 10) (.t 9)), []⟩])
 (.seq (.cond (.t 11) .skip
 (.exit 0))
 (.seq (.block 1 (.seq (.reg 0 [] [] [⟨some 12, none, (.ia none 1 (.t 8) (.t 10)), []⟩,
 ⟨some 13, none, (.ld none (.t 12)), []⟩,
 ⟨some 7, none, (.mv (.t 13)), []⟩])
 (.seq (.seq (.reg 0 [] [] [⟨some 14, none, (.mv (.t 7)), []⟩,
 ⟨some 15, none, (.mv (.t 5)), []⟩,
 ⟨some 16, none, (.bin .leq .num (.t 14) (.t 15)), []⟩,
 ⟨some 17, none, (.mv (.t 16)), []⟩,
 ⟨some 18, some (17, false), (.mv (.t 7)), []⟩,
 ⟨some 19, some (17, false), (.mv (.t 1)), []⟩,
 ⟨some 20, some (17, false), (.bin .geq .num (.t 18) (.t 19)), []⟩,
 ⟨some 21, none, (.pick (.t 17) (.c (.bool true)) (.t 20)), []⟩])
 (.cond (.t 21) (.seq (.reg 0 [] [] [⟨some 4, none, (.mv (.c (.bool false))), []⟩])
 .ret)
 .skip))
 (.reg 0 [] [] [⟨some 22, none, (.mv (.t 7)), []⟩,
 ⟨some 5, none, (.mv (.t 22)), []⟩]))))
 (.reg 0 [] [] [⟨some 23, none, (.bin .add .num (.t 10) (.c (.int .i64 1))), []⟩,
 ⟨some 10, none, (.mv (.t 23)), []⟩])))))))
 (.seq (.reg 0 [] [] [⟨some 4, none, (.mv (.c (.bool true))), []⟩])
 .ret))))
def zf73 : IFun := ⟨24, [(.tmp 4)], zc73⟩
theorem zok73 : okFun Tryz.prog 73 zf73 = true := by kernel_rfl
def zc74 : ICode :=
 (.seq (.reg 0 [] [] [⟨some 3, none, (.mv (.c (.bool false))), []⟩])
 (.seq (.reg 0 [] [] [⟨some 4, none, (.ld none (.t 1)), []⟩,
 ⟨some 5, none, (.mv (.t 0)), []⟩,
 ⟨some 6, none, (.callv (.t 4) [(.t 5)]), []⟩,
 ⟨some 7, none, (.un .not (.t 6)), []⟩,
 ⟨some 3, none, (.mv (.t 7)), []⟩])
 .ret))
def zf74 : IFun := ⟨8, [(.tmp 3)], zc74⟩
theorem zok74 : okFun Tryz.prog 74 zf74 = true := by kernel_rfl
def zc75 : ICode :=
 (.seq (.reg 0 [] [] [⟨some 3, none, (.mv (.c (.bool false))), []⟩])
 (.seq (.reg 0 [] [] [⟨some 4, none, (.fa 1 (.t 1)), []⟩,
 ⟨some 5, none, (.ld none (.t 4)), []⟩,
 ⟨some 6, none, (.mv (.t 0)), []⟩,
 ⟨some 7, none, (.ia none 3 (.t 5) (.t 6)), []⟩,
 ⟨some 8, none, (.fa 0 (.t 7)), []⟩,
 ⟨some 9, none, (.ld none (.t 8)), []⟩,
 ⟨some 10, none, (.bin .neq .num (.t 9) (.c (.int .i64 1))), []⟩,
 ⟨some 3, none, (.mv (.t 10)), []⟩])
 .ret))
def zf75 : IFun := ⟨11, [(.tmp 3)], zc75⟩
theorem zok75 : okFun Tryz.prog 75 zf75 = true := by kernel_rfl
def zc76 : ICode :=
 (.seq (.reg 0 [] [] [⟨some 4, none, (.mv (.c (.bool false))), []⟩])
 (.seq (.reg 0 [] [] [⟨some 5, none, (.mv (.t 0)), []⟩,
 ⟨some 6, none, (.mv (.t 1)), []⟩,
 ⟨some 7, none, (.call 126 [(.t 5), (.t 6)]), []⟩,
 ⟨some 8, none, (.bin .geq .num (.t 7) (.c (.int .i64 0))), []⟩,
 ⟨some 4, none, (.mv (.t 8)), []⟩])
 .ret))
def zf76 : IFun := ⟨9, [(.tmp 4)], zc76⟩
theorem zok76 : okFun Tryz.prog 76 zf76 = true := by kernel_rfl
def zc77 : ICode :=
 (.seq (.reg 0 [] [] [⟨some 2, none, (.bx none 39 (.t 0)), []⟩,
 ⟨some 3, none, (.mv (.c (.bool false))), []⟩])
 (.seq (.reg 0 [] [] [⟨some 4, none, (.ld (some 4) (.t 2)), []⟩,
 ⟨some 5, none, (.ld none (.t 1)), []⟩,
 ⟨some 6, none, (.call 78 [(.t 4), (.t 5)]), []⟩,
 ⟨some 7, none, (.un .not (.t 6)), []⟩,
 ⟨some 3, none, (.mv (.t 7)), []⟩])
 .ret))
def zf77 : IFun := ⟨8, [(.tmp 3)], zc77⟩
theorem zok77 : okFun Tryz.prog 77 zf77 = true := by kernel_rfl
def zc78 : ICode :=
 (.seq (.reg 0 [] [] [⟨some 2, none, (.bx none 39 (.t 0)), []⟩,
 ⟨some 3, none, (.bx none 98 (.t 1)), []⟩,
 ⟨some 4, none, (.mv (.c (.bool false))), []⟩])
 (.seq (.seq (.reg 0 [] [] [⟨some 10, none, (.fa 0 (.t 2)), []⟩,
 ⟨some 11, none, (.ld none (.t 10)), []⟩,
 ⟨some 12, none, (.mkf 127 [] [(.t 3)]), []⟩,
 ⟨some 13, none, (.call 67 [(.t 11), (.t 12)]), []⟩,
 ⟨some 14, none, (.mv (.t 13)), []⟩,
 ⟨some 15, some (14, false), (.ld none (.t 3)), []⟩,
 ⟨some 16, some (14, false), (.fa 1 (.t 2)), []⟩,
 ⟨some 17, some (14, false), (.ld none (.t 16)), []⟩,
 ⟨some 18, some (14, false), (.callv (.t 15) [(.t 17)]), []⟩,
 ⟨some 19, some (14, false), (.un .not (.t 18)), []⟩,
 ⟨some 20, none, (.pick (.t 14) (.c (.bool true)) (.t 19)), []⟩,
 ⟨some 21, none, (.mv (.t 20)), []⟩,
 ⟨some 22, some (21, false), (.fa 2 (.t 2)), []⟩,
 ⟨some 23, some (21, false), (.ld none (.t 22)), []⟩,
 ⟨some 24, some (21, false), (.bin .lss .num (.t 23) (.c (.int .i64 0))), []⟩,
 ⟨some 25, none, (.pick (.t 21) (.c (.bool true)) (.t 24)), []⟩,
 ⟨some 26, none, (.mv (.t 25)), []⟩,
 ⟨some 27, some (26, false), (.fa 0 (.t 2)), []⟩,
 ⟨some 28, some (26, false), (.ld none (.t 27)), []⟩,
 ⟨some 29, some (26, false), (.len false (.t 28)), []⟩,
 ⟨some 30, some (26, false), (.fa 2 (.t 2)), []⟩,
 ⟨some 31, some (26, false), (.ld none (.t 30)), []⟩,
 ⟨some 32, some (26, false), (.bin .gtr .num (.t 29) (.t 31)), []⟩,
 ⟨some 33, none, (.pick (.t 26) (.c (.bool true)) (.t 32)), []⟩,
 ⟨some 34, none, (.mv (.t 33)), []⟩,
 ⟨some 35, some (34, false), (.fa 3 (.t 2)), []⟩,
 ⟨some 36, some (34, false), (.ld none (.t 35)), []⟩,
 ⟨some 37, some (34, false), (.len false (.t 36)), []⟩,
 ⟨some 38, some (34, false), (.bin .eql .num (.t 37) (.c (.int .i64 0))), []⟩,
 ⟨some 39, none, (.pick (.t 34) (.c (.bool true)) (.t 38)), []⟩])
 (.cond (.t 39) (.seq (.reg 0 [] [] [⟨some 4, none, (.mv (.c (.bool false))), []⟩])
 .ret)
 .skip))
 (.seq (.seq (.reg 0 [] [] [⟨some 40, none, (.fa 3 (.t 2)), []⟩,
 ⟨some 41, none, (.ld none (.t 40)), []⟩,
 ⟨some 42, none, (.len false (.t 41)), []⟩,
 ⟨some 43, none, (.mv (.c (.int .i64 0))), []⟩])
 (.block 0 (.loop (.seq (.reg 0 [] [] [⟨some 44, none, (.bin .lss .num (.t 43) (.t 42)), []⟩])
 (.seq (.cond (.t 44) .skip
 (.exit 0))
 (.seq (.block 1 (.seq (.reg 0 [] [] [⟨some 45, none, (.mv (.t 43)), []⟩,
 ⟨some 46, none, (.ia none 2 (.t 41) (.t 43)), []⟩,
 ⟨some 47, none, (.ld (some 2) (.t 46)), []⟩,
 ⟨some 6, none, (.al none 42 [.nilsl, .nilsl]), []⟩,
 ⟨some 5, none, (.mv (.t 45)), []⟩,
 ⟨none, none, (.st 2 (.t 6) (.t 47)), []⟩])
 (.seq (.seq (.reg 0 [] [] [⟨some 48, none, (.fa 0 (.t 6)), []⟩,
 ⟨some 49, none, (.ld none (.t 48)), []⟩,
 ⟨some 50, none, (.len false (.t 49)), []⟩,
 ⟨some 51, none, (.fa 2 (.t 2)), []⟩,
 ⟨some 52, none, (.ld none (.t 51)), []⟩,
 ⟨some 53, none, (.bin .neq .num (.t 50) (.t 52)), []⟩])
 (.cond (.t 53) (.seq (.reg 0 [] [] [⟨some 4, none, (.mv (.c (.bool false))), []⟩])
 .ret)
 .skip))
 (.seq (.reg 0 [] [] [⟨some 54, none, (.fa 0 (.t 6)), []⟩,
 ⟨some 55, none, (.ld none (.t 54)), []⟩,
 ⟨some 56, none, (.len false (.t 55)), []⟩,
 ⟨some 57, none, (.mv (.c (.int .i64 0))), []⟩])
 (.block 2 (.loop (.seq (.reg 0 [] [] [⟨some 58, none, (.bin .lss .num (.t 57) (.t 56)), []⟩])
 (.seq (.cond (.t 58) .skip
 (.exit 2))
 (.seq (.block 3 (.seq (.reg 0 [] [] [⟨some 59, none, (.mv (.t 57)), []⟩,
 ⟨some 60, none, (.ia none 1 (.t 55) (.t 57)), []⟩,
 ⟨some 61, none, (.ld none (.t 60)), []⟩,
 ⟨some 7, none, (.mv (.t 59)), []⟩,
 ⟨some 8, none, (.mv (.t 61)), []⟩])
 (.seq (.seq (.reg 0 [] [] [⟨some 62, none, (.mv (.t 8)), []⟩,
 ⟨some 63, none, (.bin .neq .num (.t 62) (.c (.int .i64 (-1)))), []⟩,
 ⟨some 64, none, (.mv (.t 63)), []⟩,
 ⟨some 65, some (64, true), (.ld none (.t 3)), []⟩,
 ⟨some 66, some (64, true), (.mv (.t 8)), []⟩,
 ⟨some 67, some (64, true), (.callv (.t 65) [(.t 66)]), []⟩,
 ⟨some 68, some (64, true), (.un .not (.t 67)), []⟩,
 ⟨some 69, none, (.pick (.t 64) (.t 68) (.c (.bool false))), []⟩])
 (.cond (.t 69) (.seq (.reg 0 [] [] [⟨some 4, none, (.mv (.c (.bool false))), []⟩])
 .ret)
 .skip))
 (.seq (.reg 0 [] [] [⟨some 9, none, (.mv (.c (.int .i64 (-1)))), []⟩])
 (.seq (.reg 0 [] [] [⟨some 70, none, (.mv (.t 5)), []⟩,
 ⟨some 71, none, (.bin .eql .num (.t 70) (.c (.int .i64 0))), []⟩])
 (.cond (.t 71) (.seq (.seq (.reg 0 [] [] [⟨some 72, none, (.mv (.t 7)), []⟩,
 ⟨some 73, none, (.fa 0 (.t 2)), []⟩,
 ⟨some 74, none, (.ld none (.t 73)), []⟩,
 ⟨some 75, none, (.len false (.t 74)), []⟩,
 ⟨some 76, none, (.bin .lss .num (.t 72) (.t 75)), []⟩])
 (.cond (.t 76) (.reg 0 [] [] [⟨some 77, none, (.fa 0 (.t 2)), []⟩,
 ⟨some 78, none, (.ld none (.t 77)), []⟩,
 ⟨some 79, none, (.mv (.t 7)), []⟩,
 ⟨some 80, none, (.ia none 1 (.t 78) (.t 79)), []⟩,
 ⟨some 81, none, (.ld none (.t 80)), []⟩,
 ⟨some 9, none, (.mv (.t 81)), []⟩])
 .skip))
 (.seq (.reg 0 [] [] [⟨some 82, none, (.mv (.t 8)), []⟩,
 ⟨some 83, none, (.mv (.t 9)), []⟩,
 ⟨some 84, none, (.bin .neq .num (.t 82) (.t 83)), []⟩])
 (.cond (.t 84) (.seq (.reg 0 [] [] [⟨some 4, none, (.mv (.c (.bool false))), []⟩])
 .ret)
 .skip)))
 .skip))))))
 (.reg 0 [] [] [⟨some 85, none, (.bin .add .num (.t 57) (.c (.int .i64 1))), []⟩,
 ⟨some 57, none, (.mv (.t 85)), []⟩]))))))))))
 (.reg 0 [] [] [⟨some 86, none, (.bin .add .num (.t 43) (.c (.int .i64 1))), []⟩,
 ⟨some 43, none, (.mv (.t 86)), []⟩])))))))
 (.seq (.reg 0 [] [] [⟨some 4, none, (.mv (.c (.bool true))), []⟩])
 .ret))))
def zf78 : IFun := ⟨87, [(.tmp 4)], zc78⟩
theorem zok78 : okFun Tryz.prog 78 zf78 = true := by kernel_rfl
def zc87 : ICode :=
 (.seq (.reg 0 [] [] [⟨some 1, none, (.bx none 28 (.t 0)), []⟩,
 ⟨some 2, none, (.mv (.c (.bool false))), []⟩])
 (.seq (.seq (.reg 0 [] [] [⟨some 14, none, (.fa 0 (.t 1)), []⟩,
 ⟨some 15, none, (.ld none (.t 14)), []⟩,
 ⟨some 16, none, (.mksl none 23 [.nilsl] 1 [(0, 1, (.t 15))]), []⟩,
 ⟨some 17, none, (.call 132 [(.c (.int .i64 1024)), (.t 16)]), []⟩,
 ⟨some 18, none, (.mv (.t 17)), []⟩,
 ⟨some 19, some (18, false), (.fa 1 (.t 1)), []⟩,
 ⟨some 20, some (18, false), (.ld none (.t 19)), []⟩,
 ⟨some 21, some (18, false), (.mksl none 24 [.nilsl] 1 [(0, 1, (.t 20))]), []⟩,
 ⟨some 22, some (18, false), (.call 133 [(.c (.int .i64 512)), (.t 21)]), []⟩,
 ⟨some 23, none, (.pick (.t 18) (.c (.bool true)) (.t 22)), []⟩,
 ⟨some 24, none, (.mv (.t 23)), []⟩,
 ⟨some 25, some (24, false), (.fa 2 (.t 1)), []⟩,
 ⟨some 26, some (24, false), (.ld none (.t 25)), []⟩,
 ⟨some 27, some (24, false), (.fa 3 (.t 1)), []⟩,
 ⟨some 28, some (24, false), (.ld none (.t 27)), []⟩,
 ⟨some 29, some (24, false), (.mksl none 25 [.nilsl, .nilsl] 2 [(0, 1, (.t 26)), (1, 1, (.t 28))]), []⟩,
 ⟨some 30, some (24, false), (.call 134 [(.c (.int .i64 256)), (.t 29)]), []⟩,
 ⟨some 31, none, (.pick (.t 24) (.c (.bool true)) (.t 30)), []⟩,
 ⟨some 32, none, (.mv (.t 31)), []⟩,
 ⟨some 33, some (32, false), (.fa 4 (.t 1)), []⟩,
 ⟨some 34, some (32, false), (.ld none (.t 33)), []⟩,
 ⟨some 35, some (32, false), (.mksl none 26 [.nilsl] 1 [(0, 1, (.t 34))]), []⟩,
 ⟨some 36, some (32, false), (.call 135 [(.c (.int .i64 1024)), (.t 35)]), []⟩,
 ⟨some 37, none, (.pick (.t 32) (.c (.bool true)) (.t 36)), []⟩,
 ⟨some 38, none, (.mv (.t 37)), []⟩,
 ⟨some 39, some (38, false), (.fa 2 (.t 1)), []⟩,
 ⟨some 40, some (38, false), (.ld none (.t 39)), []⟩,
 ⟨some 41, some (38, false), (.call 136 [(.t 40)]), []⟩,
 ⟨some 42, none, (.pick (.t 38) (.c (.bool true)) (.t 41)), []⟩,
 ⟨some 43, none, (.mv (.t 42)), []⟩,
 ⟨some 44, some (43, false), (.fa 3 (.t 1)), []⟩,
 ⟨some 45, some (43, false), (.ld none (.t 44)), []⟩,
 ⟨some 46, some (43, false), (.call 136 [(.t 45)]), []⟩,
 ⟨some 47, none, (.pick (.t 43) (.c (.bool true)) (.t 46)), []⟩])
 (.cond (.t 47) (.seq (.reg 0 [] [] [⟨some 2, none, (.mv (.c (.bool true))), []⟩])
 .ret)
 .skip))
 (.seq (.seq (.reg 0 [] [] [⟨some 48, none, (.fa 0 (.t 1)), []⟩,
 ⟨some 49, none, (.ld none (.t 48)), []⟩,
 ⟨some 50, none, (.len false (.t 49)), []⟩,
 ⟨some 51, none, (.mv (.c (.int .i64 0))), []⟩])
 (.block 0 (.loop (.seq (.reg 0 [] [] [⟨some 52, none, (.bin .lss .num (.t 51) (.t 50)), []⟩])
 (.seq (.cond (.t 52) .skip
 (.exit 0))
 (.seq (.block 1 (.seq (.reg 0 [] [] [⟨some 53, none, (.ia none 2 (.t 49) (.t 51)), []⟩,
 ⟨some 54, none, (.ld (some 2) (.t 53)), []⟩,
 ⟨some 4, none, (.al none 46 [(.bool false), .nilsl]), []⟩,
 ⟨none, none, (.st 2 (.t 4) (.t 54)), []⟩])
 (.seq (.reg 0 [] [] [⟨some 55, none, (.fa 1 (.t 4)), []⟩,
 ⟨some 56, none, (.ld none (.t 55)), []⟩,
 ⟨some 57, none, (.mksl none 36 [.nilsl] 1 [(0, 1, (.t 56))]), []⟩,
 ⟨some 58, none, (.call 137 [(.c (.int .i64 512)), (.t 57)]), []⟩])
 (.cond (.t 58) (.seq (.reg 0 [] [] [⟨some 2, none, (.mv (.c (.bool true))), []⟩])
 .ret)
 .skip))))
 (.reg 0 [] [] [⟨some 59, none, (.bin .add .num (.t 51) (.c (.int .i64 1))), []⟩,
 ⟨some 51, none, (.mv (.t 59)), []⟩])))))))
 (.seq (.seq (.reg 0 [] [] [⟨some 60, none, (.fa 1 (.t 1)), []⟩,
 ⟨some 61, none, (.ld none (.t 60)), []⟩,
 ⟨some 62, none, (.len false (.t 61)), []⟩,
 ⟨some 63, none, (.mv (.c (.int .i64 0))), []⟩])
 (.block 2 (.loop (.seq (.reg 0 [] [] [⟨some 64, none, (.bin .lss .num (.t 63) (.t 62)), []⟩])
 (.seq (.cond (.t 64) .skip
 (.exit 2))
 (.seq (.block 3 (.seq (.reg 0 [] [] [⟨some 65, none, (.ia none 3 (.t 61) (.t 63)), []⟩,
 ⟨some 66, none, (.ld (some 3) (.t 65)), []⟩,
 ⟨some 6, none, (.al none 61 [(.int .i64 0), .nilsl, (.str [])]), []⟩,
 ⟨none, none, (.st 3 (.t 6) (.t 66)), []⟩])
 (.seq (.reg 0 [] [] [⟨some 67, none, (.fa 1 (.t 6)), []⟩,
 ⟨some 68, none, (.ld none (.t 67)), []⟩,
 ⟨some 69, none, (.mksl none 36 [.nilsl] 1 [(0, 1, (.t 68))]), []⟩,
 ⟨some 70, none, (.call 137 [(.c (.int .i64 200)), (.t 69)]), []⟩,
 ⟨some 71, none, (.mv (.t 70)), []⟩,
 ⟨some 72, some (71, false), (.fa 2 (.t 6)), []⟩,
 ⟨some 73, some (71, false), (.ld none (.t 72)), []⟩,
 ⟨some 74, some (71, false), (.mksl none 9 [(.str [])] 1 [(0, 1, (.t 73))]), []⟩,
 ⟨some 75, some (71, false), (.call 136 [(.t 74)]), []⟩,
 ⟨some 76, none, (.pick (.t 71) (.c (.bool true)) (.t 75)), []⟩])
 (.cond (.t 76) (.seq (.reg 0 [] [] [⟨some 2, none, (.mv (.c (.bool true))), []⟩])
 .ret)
 .skip))))
 (.reg 0 [] [] [⟨some 77, none, (.bin .add .num (.t 63) (.c (.int .i64 1))), []⟩,
 ⟨some 63, none, (.mv (.t 77)), []⟩])))))))
 (.seq (.reg 0 [] [] [⟨some 7, none, (.mv (.c (.int .i64 20000))), []⟩])
 (.seq (.seq (.reg 0 [] [] [⟨some 78, none, (.fa 4 (.t 1)), []⟩,
 ⟨some 79, none, (.ld none (.t 78)), []⟩,
 ⟨some 80, none, (.len false (.t 79)), []⟩,
 ⟨some 81, none, (.mv (.c (.int .i64 0))), []⟩])
 (.block 4 (.loop (.seq (.reg 0 [] [] [⟨some 82, none, (.bin .lss .num (.t 81) (.t 80)), []⟩])
 (.seq (.cond (.t 82) .skip
 (.exit 4))
 (.seq (.block 5 (.seq (.reg 0 [] [] [⟨some 83, none, (.ia none 4 (.t 79) (.t 81)), []⟩,
 ⟨some 84, none, (.ld (some 4) (.t 83)), []⟩,
 ⟨some 9, none, (.al none 39 [.nilsl, (.int .i64 0), (.int .i64 0), .nilsl]), []⟩,
 ⟨none, none, (.st 4 (.t 9) (.t 84)), []⟩])
 (.seq (.seq (.reg 0 [] [] [⟨some 85, none, (.fa 2 (.t 9)), []⟩,
 ⟨some 86, none, (.ld none (.t 85)), []⟩,
 ⟨some 87, none, (.bin .gtr .num (.t 86) (.c (.int .i64 200))), []⟩,
 ⟨some 88, none, (.mv (.t 87)), []⟩,
 ⟨some 89, some (88, false), (.fa 0 (.t 9)), []⟩,
 ⟨some 90, some (88, false), (.ld none (.t 89)), []⟩,
 ⟨some 91, some (88, false), (.mksl none 36 [.nilsl] 1 [(0, 1, (.t 90))]), []⟩,
 ⟨some 92, some (88, false), (.call 137 [(.c (.int .i64 200)), (.t 91)]), []⟩,
 ⟨some 93, none, (.pick (.t 88) (.c (.bool true)) (.t 92)), []⟩,
 ⟨some 94, none, (.mv (.t 93)), []⟩,
 ⟨some 95, some (94, false), (.fa 3 (.t 9)), []⟩,
 ⟨some 96, some (94, false), (.ld none (.t 95)), []⟩,
 ⟨some 97, some (94, false), (.mksl none 37 [.nilsl] 1 [(0, 1, (.t 96))]), []⟩,
 ⟨some 98, some (94, false), (.call 138 [(.c (.int .i64 2000)), (.t 97)]), []⟩,
 ⟨some 99, none, (.pick (.t 94) (.c (.bool true)) (.t 98)), []⟩])
 (.cond (.t 99) (.seq (.reg 0 [] [] [⟨some 2, none, (.mv (.c (.bool true))), []⟩])
 .ret)
 .skip))
 (.seq (.reg 0 [] [] [⟨some 100, none, (.fa 3 (.t 9)), []⟩,
 ⟨some 101, none, (.ld none (.t 100)), []⟩,
 ⟨some 102, none, (.len false (.t 101)), []⟩,
 ⟨some 103, none, (.mv (.c (.int .i64 0))), []⟩])
 (.block 6 (.loop (.seq (.reg 0 [] [] [⟨some 104, none, (.bin .lss .num (.t 103) (.t 102)), []⟩])
 (.seq (.cond (.t 104) .skip
 (.exit 6))
 (.seq (.block 7 (.seq (.reg 0 [] [] [⟨some 105, none, (.ia none 2 (.t 101) (.t 103)), []⟩,
 ⟨some 106, none, (.ld (some 2) (.t 105)), []⟩,
 ⟨some 11, none, (.al none 42 [.nilsl, .nilsl]), []⟩,
 ⟨none, none, (.st 2 (.t 11) (.t 106)), []⟩])
 (.seq (.seq (.reg 0 [] [] [⟨some 107, none, (.mv (.t 7)), []⟩,
 ⟨some 108, none, (.fa 1 (.t 11)), []⟩,
 ⟨some 109, none, (.ld none (.t 108)), []⟩,
 ⟨some 110, none, (.len false (.t 109)), []⟩,
 ⟨some 111, none, (.bin .sub .num (.t 107) (.t 110)), []⟩,
 ⟨some 7, none, (.mv (.t 111)), []⟩])
 (.seq (.reg 0 [] [] [⟨some 112, none, (.mv (.t 7)), []⟩,
 ⟨some 113, none, (.bin .lss .num (.t 112) (.c (.int .i64 0))), []⟩,
 ⟨some 114, none, (.mv (.t 113)), []⟩,
 ⟨some 115, some (114, false), (.fa 0 (.t 11)), []⟩,
 ⟨some 116, some (114, false), (.ld none (.t 115)), []⟩,
 ⟨some 117, some (114, false), (.mksl none 36 [.nilsl] 1 [(0, 1, (.t 116))]), []⟩,
 ⟨some 118, some (114, false), (.call 137 [(.c (.int .i64 200)), (.t 117)]), []⟩,
 ⟨some 119, none, (.pick (.t 114) (.c (.bool true)) (.t 118)), []⟩])
 (.cond (.t 119) (.seq (.reg 0 [] [] [⟨some 2, none, (.mv (.c (.bool true))), []⟩])
 .ret)
 .skip)))
 (.seq (.reg 0 [] [] [⟨some 120, none, (.fa 1 (.t 11)), []⟩,
 ⟨some 121, none, (.ld none (.t 120)), []⟩,
 ⟨some 122, none, (.len false (.t 121)), []⟩,
 ⟨some 123, none, (.mv (.c (.int .i64 0))), []⟩])
 (.block 8 (.loop (.seq (.reg 0 [] [] [⟨some 124, none, (.bin .lss .num (.t 123) (.t 122)), []⟩])
 (.seq (.cond (.t 124) .skip
 (.exit 8))
 (.seq (.block 9 (.seq (.reg 0 [] [] [⟨some 125, none, (.ia none 9 (.t 121) (.t 123)), []⟩,
 ⟨some 126, none, (.ld (some 9) (.t 125)), []⟩,
 ⟨some 13, none, (.al none 55 [(.int .i64 0), (.int .i64 0), (.int .i64 0), (.int .i64 0), (.int .i64 0), (.int .i64 0), .nilsl, .nilsl, .nilsl]), []⟩,
 ⟨none, none, (.st 9 (.t 13) (.t 126)), []⟩])
 (.seq (.reg 0 [] [] [⟨some 127, none, (.fa 6 (.t 13)), []⟩,
 ⟨some 128, none, (.ld none (.t 127)), []⟩,
 ⟨some 129, none, (.fa 7 (.t 13)), []⟩,
 ⟨some 130, none, (.ld none (.t 129)), []⟩,
 ⟨some 131, none, (.mksl none 36 [.nilsl, .nilsl] 2 [(0, 1, (.t 128)), (1, 1, (.t 130))]), []⟩,
 ⟨some 132, none, (.call 137 [(.c (.int .i64 1024)), (.t 131)]), []⟩,
 ⟨some 133, none, (.mv (.t 132)), []⟩,
 ⟨some 134, some (133, false), (.fa 8 (.t 13)), []⟩,
 ⟨some 135, some (133, false), (.ld none (.t 134)), []⟩,
 ⟨some 136, some (133, false), (.mksl none 36 [.nilsl] 1 [(0, 1, (.t 135))]), []⟩,
 ⟨some 137, some (133, false), (.call 137 [(.c (.int .i64 200)), (.t 136)]), []⟩,
 ⟨some 138, none, (.pick (.t 133) (.c (.bool true)) (.t 137)), []⟩])
 (.cond (.t 138) (.seq (.reg 0 [] [] [⟨some 2, none, (.mv (.c (.bool true))), []⟩])
 .ret)
 .skip))))
 (.reg 0 [] [] [⟨some 139, none, (.bin .add .num (.t 123) (.c (.int .i64 1))), []⟩,
 ⟨some 123, none, (.mv (.t 139)), []⟩]))))))))))
 (.reg 0 [] [] [⟨some 140, none, (.bin .add .num (.t 103) (.c (.int .i64 1))), []⟩,
 ⟨some 103, none, (.mv (.t 140)), []⟩]))))))))))
 (.reg 0 [] [] [⟨some 141, none, (.bin .add .num (.t 81) (.c (.int .i64 1))), []⟩,
 ⟨some 81, none, (.mv (.t 141)), []⟩])))))))
 (.seq (.reg 0 [] [] [⟨some 2, none, (.mv (.c (.bool false))), []⟩])
 .ret)))))))
def zf87 : IFun := ⟨142, [(.tmp 2)], zc87⟩
theorem zok87 : okFun Tryz.prog 87 zf87 = true := by kernel_rfl
def zc88 : ICode :=
 (.seq (.reg 0 [] [] [⟨some 4, none, (.mv (.c (.bool false))), []⟩])
 (.seq (.reg 0 [] [] [⟨some 5, none, (.mv (.t 0)), []⟩,
 ⟨some 6, none, (.mv (.t 1)), []⟩,
 ⟨some 7, none, (.call 139 [(.t 5), (.t 6)]), []⟩,
 ⟨some 8, none, (.bin .geq .num (.t 7) (.c (.int .i64 0))), []⟩,
 ⟨some 4, none, (.mv (.t 8)), []⟩])
 .ret))
def zf88 : IFun := ⟨9, [(.tmp 4)], zc88⟩
theorem zok88 : okFun Tryz.prog 88 zf88 = true := by kernel_rfl
def zc89 : ICode :=
 (.seq (.reg 0 [] [] [⟨some 1, none, (.bx none 55 (.t 0)), []⟩,
 ⟨some 2, none, (.mv (.c (.bool false))), []⟩])
 (.seq (.reg 0 [] [] [⟨some 3, none, (.ld (some 9) (.t 1)), []⟩,
 ⟨some 4, none, (.call 60 [(.t 3)]), []⟩,
 ⟨some 5, none, (.un .not (.t 4)), []⟩,
 ⟨some 2, none, (.mv (.t 5)), []⟩])
 .ret))
def zf89 : IFun := ⟨6, [(.tmp 2)], zc89⟩
theorem zok89 : okFun Tryz.prog 89 zf89 = true := by kernel_rfl
def zc109 : ICode :=
 (.seq (.reg 0 [] [] [⟨some 4, none, (.mv (.c .nilp)), []⟩])
 (.seq (.seq (.reg 0 [] [] [⟨some 5, none, (.mv (.t 1)), []⟩])
 (.block 0 (.seq (.reg 0 [] [] [⟨some 7, none, (.bin .eql .num (.t 5) (.c (.int .u8 68))), []⟩,
 ⟨some 6, none, (.mv (.t 7)), []⟩])
 (.cond (.t 6) (.seq (.reg 0 [] [] [⟨some 8, none, (.mv (.t 0)), []⟩,
 ⟨some 9, none, (.nilc (.t 8)), []⟩,
 ⟨some 10, none, (.fa 1 (.t 9)), []⟩,
 ⟨some 4, none, (.mv (.t 10)), []⟩])
 .ret)
 (.seq (.reg 0 [] [] [⟨some 12, none, (.bin .eql .num (.t 5) (.c (.int .u8 65))), []⟩,
 ⟨some 11, none, (.mv (.t 12)), []⟩])
 (.cond (.t 11) (.seq (.reg 0 [] [] [⟨some 13, none, (.mv (.t 0)), []⟩,
 ⟨some 14, none, (.nilc (.t 13)), []⟩,
 ⟨some 15, none, (.fa 2 (.t 14)), []⟩,
 ⟨some 4, none, (.mv (.t 15)), []⟩])
 .ret)
 (.seq (.reg 0 [] [] [⟨some 17, none, (.bin .eql .num (.t 5) (.c (.int .u8 66))), []⟩,
 ⟨some 16, none, (.mv (.t 17)), []⟩])
 (.cond (.t 16) (.seq (.reg 0 [] [] [⟨some 18, none, (.mv (.t 0)), []⟩,
 ⟨some 19, none, (.nilc (.t 18)), []⟩,
 ⟨some 20, none, (.fa 3 (.t 19)), []⟩,
 ⟨some 4, none, (.mv (.t 20)), []⟩])
 .ret)
 (.seq (.reg 0 [] [] [⟨some 22, none, (.bin .eql .num (.t 5) (.c (.int .u8 67))), []⟩,
 ⟨some 21, none, (.mv (.t 22)), []⟩])
 (.cond (.t 21) (.seq (.reg 0 [] [] [⟨some 23, none, (.mv (.t 0)), []⟩,
 ⟨some 24, none, (.nilc (.t 23)), []⟩,
 ⟨some 25, none, (.fa 4 (.t 24)), []⟩,
 ⟨some 4, none, (.mv (.t 25)), []⟩])
 .ret)
 .skip))))))))))
 (.seq (.reg 0 [] [] [⟨some 4, none, (.mv (.c .nilp)), []⟩])
 .ret)))
def zf109 : IFun := ⟨26, [(.tmp 4)], zc109⟩
theorem zok109 : okFun Tryz.prog 109 zf109 = true := by kernel_rfl
def zc110 : ICode :=
 (.seq (.reg 0 [] [] [⟨some 4, none, (.mv (.c .nilp)), []⟩])
 (.seq (.seq (.reg 0 [] [] [⟨some 5, none, (.mv (.t 1)), []⟩])
 (.block 0 (.seq (.reg 0 [] [] [⟨some 7, none, (.bin .eql .num (.t 5) (.c (.int .u8 76))), []⟩,
 ⟨some 6, none, (.mv (.t 7)), []⟩])
 (.cond (.t 6) (.seq (.reg 0 [] [] [⟨some 8, none, (.mv (.t 0)), []⟩,
 ⟨some 9, none, (.nilc (.t 8)), []⟩,
 ⟨some 10, none, (.fa 6 (.t 9)), []⟩,
 ⟨some 4, none, (.mv (.t 10)), []⟩])
 .ret)
 (.seq (.reg 0 [] [] [⟨some 12, none, (.bin .eql .num (.t 5) (.c (.int .u8 77))), []⟩,
 ⟨some 11, none, (.mv (.t 12)), []⟩])
 (.cond (.t 11) (.seq (.reg 0 [] [] [⟨some 13, none, (.mv (.t 0)), []⟩,
 ⟨some 14, none, (.nilc (.t 13)), []⟩,
 ⟨some 15, none, (.fa 7 (.t 14)), []⟩,
 ⟨some 4, none, (.mv (.t 15)), []⟩])
 .ret)
 .skip))))))
 (.seq (.reg 0 [] [] [⟨some 16, none, (.mv (.t 0)), []⟩,
 ⟨some 17, none, (.nilc (.t 16)), []⟩,
 ⟨some 18, none, (.fa 8 (.t 17)), []⟩,
 ⟨some 4, none, (.mv (.t 18)), []⟩])
 .ret)))
def zf110 : IFun := ⟨19, [(.tmp 4)], zc110⟩
theorem zok110 : okFun Tryz.prog 110 zf110 = true := by kernel_rfl
def zc113 : ICode :=
 (.seq (.reg 0 [] [] [⟨some 4, none, (.mv (.c .nilsl)), []⟩])
 (.seq (.seq (.reg 0 [] [] [⟨some 5, none, (.mv (.t 1)), []⟩,
 ⟨some 6, none, (.bin .lss .num (.t 5) (.c (.int .i64 0))), []⟩])
 (.cond (.t 6) (.reg 0 [] [] [⟨some 7, none, (.ext (.c .undef) 0), []⟩,
 ⟨none, none, (.ext (.c .undef) 0), []⟩])
 .skip))
 (.seq (.seq (.reg 0 [] [] [⟨some 8, none, (.mv (.t 1)), []⟩,
 ⟨some 9, none, (.mv (.t 0)), []⟩,
 ⟨some 10, none, (.cap (.t 9)), []⟩,
 ⟨some 11, none, (.mv (.t 0)), []⟩,
 ⟨some 12, none, (.len false (.t 11)), []⟩,
 ⟨some 13, none, (.bin .sub .num (.t 10) (.t 12)), []⟩,
 ⟨some 14, none, (.bin .sub .num (.t 8) (.t 13)), []⟩,
 ⟨some 1, none, (.mv (.t 14)), []⟩])
 (.seq (.reg 0 [] [] [⟨some 15, none, (.mv (.t 1)), []⟩,
 ⟨some 16, none, (.bin .gtr .num (.t 15) (.c (.int .i64 0))), []⟩])
 (.cond (.t 16) (.reg 0 [] [] [⟨some 17, none, (.mv (.t 0)), []⟩,
 ⟨some 18, none, (.mv (.t 0)), []⟩,
 ⟨some 19, none, (.cap (.t 18)), []⟩,
 ⟨some 20, none, (.sli (.row 1) (.t 17) none (some (.t 19)) none), []⟩,
 ⟨some 21, none, (.mv (.t 1)), []⟩,
 ⟨some 22, none, (.grow 3 1 8 [(.int .i64 0)] (.t 20) (.t 21)), []⟩,
 ⟨some 23, none, (.mv (.t 0)), []⟩,
 ⟨some 24, none, (.len false (.t 23)), []⟩,
 ⟨some 25, none, (.sli (.row 1) (.t 22) none (some (.t 24)) none), []⟩,
 ⟨some 0, none, (.mv (.t 25)), []⟩])
 .skip)))
 (.seq (.reg 0 [] [] [⟨some 26, none, (.mv (.t 0)), []⟩,
 ⟨some 4, none, (.mv (.t 26)), []⟩])
 .ret))))
def zf113 : IFun := ⟨27, [(.tmp 4)], zc113⟩
theorem zok113 : okFun Tryz.prog 113 zf113 = true := by kernel_rfl
def zc114 : ICode :=
 (.seq (.reg 0 [] [] [⟨some 8, none, (.mv (.c (.bool true))), []⟩])
 (.seq (.reg 0 [] [] [⟨some 9, none, (.mv (.c (.bool true))), []⟩])
 (.block 0 (.loop (.block 1 (.seq (.reg 0 [] [] [⟨some 19, none, (.mv (.t 2)), []⟩,
 ⟨some 20, none, (.mv (.t 1)), []⟩,
 ⟨some 21, none, (.bin .sub .num (.t 19) (.t 20)), []⟩,
 ⟨some 10, none, (.mv (.t 21)), []⟩])
 (.seq (.seq (.reg 0 [] [] [⟨some 22, none, (.mv (.t 10)), []⟩,
 ⟨some 23, none, (.bin .leq .num (.t 22) (.c (.int .i64 12))), []⟩])
 (.cond (.t 23) (.seq (.reg 0 [] [] [⟨some 24, none, (.mv (.t 0)), []⟩,
 ⟨some 25, none, (.mv (.t 1)), []⟩,
 ⟨some 26, none, (.mv (.t 2)), []⟩,
 ⟨some 27, none, (.call 145 [(.t 24), (.t 25), (.t 26)]), []⟩])
 .ret)
 .skip))
 (.seq (.seq (.reg 0 [] [] [⟨some 28, none, (.mv (.t 3)), []⟩,
 ⟨some 29, none, (.bin .eql .num (.t 28) (.c (.int .i64 0))), []⟩])
 (.cond (.t 29) (.seq (.reg 0 [] [] [⟨some 30, none, (.mv (.t 0)), []⟩,
 ⟨some 31, none, (.mv (.t 1)), []⟩,
 ⟨some 32, none, (.mv (.t 2)), []⟩,
 ⟨some 33, none, (.call 146 [(.t 30), (.t 31), (.t 32)]), []⟩])
 .ret)
 .skip))
 (.seq (.seq (.reg 0 [] [] [⟨some 34, none, (.mv (.t 8)), []⟩,
 ⟨some 35, none, (.un .not (.t 34)), []⟩])
 (.cond (.t 35) (.seq (.reg 0 [] [] [⟨some 36, none, (.mv (.t 0)), []⟩,
 ⟨some 37, none, (.mv (.t 1)), []⟩,
 ⟨some 38, none, (.mv (.t 2)), []⟩,
 ⟨some 39, none, (.call 147 [(.t 36), (.t 37), (.t 38)]), []⟩])
 (.reg 0 [] [] [⟨some 40, none, (.mv (.t 3)), []⟩,
 ⟨some 41, none, (.bin .sub .num (.t 40) (.c (.int .i64 1))), []⟩,
 ⟨some 3, none, (.mv (.t 41)), []⟩]))
 .skip))
 (.seq (.reg 0 [] [] [⟨some 43, none, (.mv (.t 0)), []⟩,
 ⟨some 44, none, (.mv (.t 1)), []⟩,
 ⟨some 45, none, (.mv (.t 2)), []⟩,
 ⟨some 46, none, (.call 148 [(.t 43), (.t 44), (.t 45)]), []⟩,
 ⟨some 42, none, (.mv (.t 46)), []⟩,
 ⟨some 47, none, (.ext (.t 42) 0), []⟩,
 ⟨some 48, none, (.ext (.t 42) 1), []⟩,
 ⟨some 11, none, (.mv (.t 47)), []⟩,
 ⟨some 12, none, (.mv (.t 48)), []⟩])
 (.seq (.seq (.reg 0 [] [] [⟨some 49, none, (.mv (.t 12)), []⟩,
 ⟨some 50, none, (.bin .eql .num (.t 49) (.c (.int .i64 2))), []⟩])
 (.cond (.t 50) (.seq (.reg 0 [] [] [⟨some 51, none, (.mv (.t 0)), []⟩,
 ⟨some 52, none, (.mv (.t 1)), []⟩,
 ⟨some 53, none, (.mv (.t 2)), []⟩,
 ⟨some 54, none, (.call 149 [(.t 51), (.t 52), (.t 53)]), []⟩])
 (.seq (.reg 0 [] [] [⟨some 55, none, (.mv (.t 2)), []⟩,
 ⟨some 56, none, (.bin .sub .num (.t 55) (.c (.int .i64 1))), []⟩,
 ⟨some 57, none, (.mv (.t 11)), []⟩,
 ⟨some 58, none, (.mv (.t 1)), []⟩,
 ⟨some 59, none, (.bin .sub .num (.t 57) (.t 58)), []⟩,
 ⟨some 60, none, (.bin .sub .num (.t 56) (.t 59)), []⟩,
 ⟨some 11, none, (.mv (.t 60)), []⟩])
 (.reg 0 [] [] [⟨some 12, none, (.mv (.c (.int .i64 1))), []⟩])))
 .skip))
 (.seq (.seq (.reg 0 [] [] [⟨some 61, none, (.mv (.t 8)), []⟩,
 ⟨some 62, none, (.mv (.t 61)), []⟩,
 ⟨some 63, some (62, true), (.mv (.t 9)), []⟩,
 ⟨some 64, none, (.pick (.t 62) (.t 63) (.c (.bool false))), []⟩,
 ⟨some 65, none, (.mv (.t 64)), []⟩,
 ⟨some 66, some (65, true), (.mv (.t 12)), []⟩,
 ⟨some 67, some (65, true), (.bin .eql .num (.t 66) (.c (.int .i64 1))), []⟩,
 ⟨some 68, none, (.pick (.t 65) (.t 67) (.c (.bool false))), []⟩])
 (.cond (.t 68) (.seq (.reg 0 [] [] [⟨some 69, none, (.mv (.t 0)), []⟩,
 ⟨some 70, none, (.mv (.t 1)), []⟩,
 ⟨some 71, none, (.mv (.t 2)), []⟩,
 ⟨some 72, none, (.call 150 [(.t 69), (.t 70), (.t 71)]), []⟩])
 (.cond (.t 72) .ret
 .skip))
 .skip))
 (.seq (.seq (.reg 0 [0, 1, 2, 3, 4, 5, 6, 7, 8, 9, 10, 11, 12, 13, 14] [[], [0], [0, 1], [1, 0, 2], [1, 0, 2], [2, 0, 1, 4], [4, 5, 2, 0, 1, 3], [3, 1, 0, 2, 5, 4, 6], [1, 0, 2], [1, 0, 2], [9, 2, 0, 1, 8], [8, 1, 0, 2, 9, 10], [10, 9, 8, 11, 6, 4, 5, 2, 0, 1, 3, 7], [7, 3, 1, 0, 2, 5, 4, 6, 11, 8, 9, 10, 12], [12, 10, 9, 8, 11, 6, 4, 5, 3, 7, 13, 1, 0, 2]] [⟨some 73, none, (.mv (.t 1)), []⟩,
 ⟨some 74, none, (.bin .gtr .num (.t 73) (.c (.int .i64 0))), []⟩,
 ⟨some 75, none, (.mv (.t 74)), []⟩,
 ⟨some 76, some (75, true), (.mv (.t 0)), []⟩,
 ⟨some 77, some (75, true), (.mv (.t 1)), []⟩,
 ⟨some 78, some (75, true), (.bin .sub .num (.t 77) (.c (.int .i64 1))), []⟩,
 ⟨some 79, some (75, true), (.ia none 1 (.t 76) (.t 78)), []⟩,
 ⟨some 80, some (75, true), (.ld none (.t 79)), []⟩,
 ⟨some 81, some (75, true), (.mv (.t 0)), []⟩,
 ⟨some 82, some (75, true), (.mv (.t 11)), []⟩,
 ⟨some 83, some (75, true), (.ia none 1 (.t 81) (.t 82)), []⟩,
 ⟨some 84, some (75, true), (.ld none (.t 83)), []⟩,
 ⟨some 85, some (75, true), (.call 151 [(.t 80), (.t 84)]), []⟩,
 ⟨some 86, some (75, true), (.un .not (.t 85)), []⟩,
 ⟨some 87, none, (.pick (.t 75) (.t 86) (.c (.bool false))), []⟩])
 (.cond (.t 87) (.seq (.reg 0 [] [] [⟨some 88, none, (.mv (.t 0)), []⟩,
 ⟨some 89, none, (.mv (.t 1)), []⟩,
 ⟨some 90, none, (.mv (.t 2)), []⟩,
 ⟨some 91, none, (.mv (.t 11)), []⟩,
 ⟨some 92, none, (.call 152 [(.t 88), (.t 89), (.t 90), (.t 91)]), []⟩,
 ⟨some 13, none, (.mv (.t 92)), []⟩])
 (.seq (.reg 0 [] [] [⟨some 93, none, (.mv (.t 13)), []⟩,
 ⟨some 1, none, (.mv (.t 93)), []⟩])
 (.exit 1)))
 .skip))
 (.seq (.reg 0 [] [] [⟨some 95, none, (.mv (.t 0)), []⟩,
 ⟨some 96, none, (.mv (.t 1)), []⟩,
 ⟨some 97, none, (.mv (.t 2)), []⟩,
 ⟨some 98, none, (.mv (.t 11)), []⟩,
 ⟨some 99, none, (.call 153 [(.t 95), (.t 96), (.t 97), (.t 98)]), []⟩,
 ⟨some 94, none, (.mv (.t 99)), []⟩,
 ⟨some 100, none, (.ext (.t 94) 0), []⟩,
 ⟨some 101, none, (.ext (.t 94) 1), []⟩,
 ⟨some 14, none, (.mv (.t 100)), []⟩,
 ⟨some 15, none, (.mv (.t 101)), []⟩])
 (.seq (.reg 0 [] [] [⟨some 102, none, (.mv (.t 15)), []⟩,
 ⟨some 9, none, (.mv (.t 102)), []⟩])
 (.seq (.reg 0 [] [] [⟨some 103, none, (.mv (.t 14)), []⟩,
 ⟨some 104, none, (.mv (.t 1)), []⟩,
 ⟨some 105, none, (.bin .sub .num (.t 103) (.t 104)), []⟩,
 ⟨some 106, none, (.mv (.t 2)), []⟩,
 ⟨some 107, none, (.mv (.t 14)), []⟩,
 ⟨some 108, none, (.bin .sub .num (.t 106) (.t 107)), []⟩,
 ⟨some 16, none, (.mv (.t 105)), []⟩,
 ⟨some 17, none, (.mv (.t 108)), []⟩])
 (.seq (.reg 0 [] [] [⟨some 109, none, (.mv (.t 10)), []⟩,
 ⟨some 110, none, (.bin .quo .num (.t 109) (.c (.int .i64 8))), []⟩,
 ⟨some 18, none, (.mv (.t 110)), []⟩])
 (.seq (.reg 0 [] [] [⟨some 111, none, (.mv (.t 16)), []⟩,
 ⟨some 112, none, (.mv (.t 17)), []⟩,
 ⟨some 113, none, (.bin .lss .num (.t 111) (.t 112)), []⟩])
 (.cond (.t 113) (.seq (.reg 0 [] [] [⟨some 114, none, (.mv (.t 16)), []⟩,
 ⟨some 115, none, (.mv (.t 18)), []⟩,
 ⟨some 116, none, (.bin .geq .num (.t 114) (.t 115)), []⟩,
 ⟨some 8, none, (.mv (.t 116)), []⟩])
 (.seq (.reg 0 [] [] [⟨some 117, none, (.mv (.t 0)), []⟩,
 ⟨some 118, none, (.mv (.t 1)), []⟩,
 ⟨some 119, none, (.mv (.t 14)), []⟩,
 ⟨some 120, none, (.mv (.t 3)), []⟩,
 ⟨some 121, none, (.call 114 [(.t 117), (.t 118), (.t 119), (.t 120)]), []⟩])
 (.reg 0 [] [] [⟨some 122, none, (.mv (.t 14)), []⟩,
 ⟨some 123, none, (.bin .add .num (.t 122) (.c (.int .i64 1))), []⟩,
 ⟨some 1, none, (.mv (.t 123)), []⟩])))
 (.seq (.reg 0 [] [] [⟨some 124, none, (.mv (.t 17)), []⟩,
 ⟨some 125, none, (.mv (.t 18)), []⟩,
 ⟨some 126, none, (.bin .geq .num (.t 124) (.t 125)), []⟩,
 ⟨some 8, none, (.mv (.t 126)), []⟩])
 (.seq (.reg 0 [] [] [⟨some 127, none, (.mv (.t 0)), []⟩,
 ⟨some 128, none, (.mv (.t 14)), []⟩,
 ⟨some 129, none, (.bin .add .num (.t 128) (.c (.int .i64 1))), []⟩,
 ⟨some 130, none, (.mv (.t 2)), []⟩,
 ⟨some 131, none, (.mv (.t 3)), []⟩,
 ⟨some 132, none, (.call 114 [(.t 127), (.t 129), (.t 130), (.t 131)]), []⟩])
 (.reg 0 [] [] [⟨some 133, none, (.mv (.t 14)), []⟩,
 ⟨some 2, none, (.mv (.t 133)), []⟩]))))))))))))))))))))))
def zf114 : IFun := ⟨134, [], zc114⟩
theorem zok114 : okFun Tryz.prog 114 zf114 = true := by kernel_rfl
def zc115 : ICode :=
 (.seq (.reg 0 [] [] [⟨some 2, none, (.mv (.c (.int .i64 0))), []⟩])
 (.seq (.cond (.c (.bool false)) (.seq (.reg 0 [] [] [⟨some 3, none, (.mv (.t 0)), []⟩,
 ⟨some 4, none, (.cv none (.toInt .u32) (.t 3)), []⟩,
 ⟨some 5, none, (.call 154 [(.t 4)]), []⟩,
 ⟨some 2, none, (.mv (.t 5)), []⟩])
 .ret)
 .skip)
 (.seq (.reg 0 [] [] [⟨some 6, none, (.mv (.t 0)), []⟩,
 ⟨some 7, none, (.call 155 [(.t 6)]), []⟩,
 ⟨some 2, none, (.mv (.t 7)), []⟩])
 .ret)))
def zf115 : IFun := ⟨8, [(.tmp 2)], zc115⟩
theorem zok115 : okFun Tryz.prog 115 zf115 = true := by kernel_rfl
def zc116 : ICode :=
 (.seq (.reg 0 [] [] [⟨some 4, none, (.mv (.c (.int .i64 0))), []⟩])
 (.seq (.seq (.reg 0 [] [] [⟨some 6, none, (.mv (.t 0)), []⟩,
 ⟨some 7, none, (.len false (.t 6)), []⟩,
 ⟨some 8, none, (.mv (.c (.int .i64 0))), []⟩])
 (.block 0 (.loop (.seq (.reg 0 [] [] [⟨some 9, none, (.bin .lss .num (.t 8) (.t 7)), []⟩])
 (.seq (.cond (.t 9) .skip
 (.exit 0))
 (.seq (.block 1 (.seq (.reg 0 [] [] [⟨some 10, none, (.mv (.t 8)), []⟩,
 ⟨some 5, none, (.mv (.t 10)), []⟩])
 (.seq (.reg 0 [] [] [⟨some 11, none, (.mv (.t 1)), []⟩,
 ⟨some 12, none, (.mv (.t 0)), []⟩,
 ⟨some 13, none, (.mv (.t 5)), []⟩,
 ⟨some 14, none, (.ia none 1 (.t 12) (.t 13)), []⟩,
 ⟨some 15, none, (.ld none (.t 14)), []⟩,
 ⟨some 16, none, (.callv (.t 11) [(.t 15)]), []⟩])
 (.cond (.t 16) (.seq (.reg 0 [] [] [⟨some 17, none, (.mv (.t 5)), []⟩,
 ⟨some 4, none, (.mv (.t 17)), []⟩])
 .ret)
 .skip))))
 (.reg 0 [] [] [⟨some 18, none, (.bin .add .num (.t 8) (.c (.int .i64 1))), []⟩,
 ⟨some 8, none, (.mv (.t 18)), []⟩])))))))
 (.seq (.reg 0 [] [] [⟨some 4, none, (.mv (.c (.int .i64 (-1)))), []⟩])
 .ret)))
def zf116 : IFun := ⟨19, [(.tmp 4)], zc116⟩
theorem zok116 : okFun Tryz.prog 116 zf116 = true := by kernel_rfl
def zc117 : ICode :=
 (.seq (.reg 0 [] [] [⟨some 4, none, (.mv (.c (.int .i64 0))), []⟩])
 (.seq (.seq (.reg 0 [] [] [⟨some 6, none, (.mv (.t 0)), []⟩,
 ⟨some 7, none, (.len false (.t 6)), []⟩,
 ⟨some 8, none, (.mv (.c (.int .i64 0))), []⟩])
 (.block 0 (.loop (.seq (.reg 0 [] [] [⟨some 9, none, (.bin .lss .num (.t 8) (.t 7)), []⟩])
 (.seq (.cond (.t 9) .skip
 (.exit 0))
 (.seq (.block 1 (.seq (.reg 0 [] [] [⟨some 10, none, (.mv (.t 8)), []⟩,
 ⟨some 5, none, (.mv (.t 10)), []⟩])
 (.seq (.reg 0 [] [] [⟨some 11, none, (.mv (.t 1)), []⟩,
 ⟨some 12, none, (.mv (.t 0)), []⟩,
 ⟨some 13, none, (.mv (.t 5)), []⟩,
 ⟨some 14, none, (.ia none 1 (.t 12) (.t 13)), []⟩,
 ⟨some 15, none, (.ld none (.t 14)), []⟩,
 ⟨some 16, none, (.bin .eql .num (.t 11) (.t 15)), []⟩])
 (.cond (.t 16) (.seq (.reg 0 [] [] [⟨some 17, none, (.mv (.t 5)), []⟩,
 ⟨some 4, none, (.mv (.t 17)), []⟩])
 .ret)
 .skip))))
 (.reg 0 [] [] [⟨some 18, none, (.bin .add .num (.t 8) (.c (.int .i64 1))), []⟩,
 ⟨some 8, none, (.mv (.t 18)), []⟩])))))))
 (.seq (.reg 0 [] [] [⟨some 4, none, (.mv (.c (.int .i64 (-1)))), []⟩])
 .ret)))
def zf117 : IFun := ⟨19, [(.tmp 4)], zc117⟩
theorem zok117 : okFun Tryz.prog 117 zf117 = true := by kernel_rfl
def zc118 : ICode :=
 (.seq (.reg 0 [] [] [⟨some 4, none, (.al none 148 [(.bool false), .nilsl, (.bool false)]), []⟩])
 (.seq (.seq (.reg 0 [] [] [⟨some 5, none, (.mv (.t 1)), []⟩,
 ⟨some 6, none, (.bin .lss .num (.t 5) (.c (.int .i64 0))), []⟩])
 (.cond (.t 6) (.seq (.reg 0 [] [] [⟨some 7, none, (.build [(.bool false), .nilsl, (.bool false)] [(2, 1, (.c (.bool true)))]), []⟩,
 ⟨none, none, (.st 3 (.t 4) (.t 7)), []⟩])
 .ret)
 .skip))
 (.seq (.reg 0 [] [] [⟨some 8, none, (.mv (.t 0)), []⟩,
 ⟨some 9, none, (.nilc (.t 8)), []⟩,
 ⟨some 10, none, (.fa 0 (.t 9)), []⟩,
 ⟨some 11, none, (.fa 0 (.t 10)), []⟩,
 ⟨some 12, none, (.ld none (.t 11)), []⟩,
 ⟨some 13, none, (.mv (.t 1)), []⟩,
 ⟨some 14, none, (.ia none 2 (.t 12) (.t 13)), []⟩,
 ⟨some 15, none, (.ld (some 2) (.t 14)), []⟩,
 ⟨some 16, none, (.build [(.bool false), .nilsl, (.bool false)] [(0, 2, (.t 15))]), []⟩,
 ⟨none, none, (.st 3 (.t 4) (.t 16)), []⟩])
 .ret)))
def zf118 : IFun := ⟨17, [(.cell 4 (some 3))], zc118⟩
theorem zok118 : okFun Tryz.prog 118 zf118 = true := by kernel_rfl
def zc120 : ICode :=
 (.seq (.reg 0 [] [] [⟨some 3, none, (.ld none (.t 0)), []⟩])
 (.cond (.t 3) (.reg 0 [] [] [⟨some 4, none, (.ld none (.t 1)), []⟩,
 ⟨some 5, none, (.ld (some 9) (.t 2)), []⟩,
 ⟨some 6, none, (.call 121 [(.t 4), (.t 5)]), []⟩])
 (.reg 0 [] [] [⟨some 7, none, (.ld none (.t 1)), []⟩,
 ⟨some 8, none, (.ld (some 9) (.t 2)), []⟩,
 ⟨some 9, none, (.call 122 [(.t 7), (.t 8)]), []⟩])))
def zf120 : IFun := ⟨10, [], zc120⟩
theorem zok120 : okFun Tryz.prog 120 zf120 = true := by kernel_rfl
def zc121 : ICode :=
 (.seq (.reg 0 [] [] [⟨some 3, none, (.bx none 55 (.t 1)), []⟩])
 (.seq (.reg 0 [] [] [⟨some 5, none, (.fa 0 (.t 3)), []⟩,
 ⟨some 6, none, (.ld none (.t 5)), []⟩])
 (.block 0 (.seq (.reg 0 [] [] [⟨some 9, none, (.bin .eql .num (.t 6) (.c (.int .i64 18))), []⟩,
 ⟨some 8, none, (.mv (.t 9)), []⟩])
 (.cond (.t 8) (.reg 0 [] [] [⟨some 10, none, (.mv (.t 0)), []⟩,
 ⟨some 11, none, (.fa 2 (.t 3)), []⟩,
 ⟨some 12, none, (.ld none (.t 11)), []⟩,
 ⟨some 13, none, (.build [(.bool false), .nilsl] []), []⟩,
 ⟨some 14, none, (.call 157 [(.t 10), (.t 12), (.c (.int .i64 (-1))), (.t 13)]), []⟩])
 (.seq (.reg 0 [] [] [⟨some 16, none, (.bin .eql .num (.t 6) (.c (.int .i64 19))), []⟩,
 ⟨some 15, none, (.mv (.t 16)), []⟩])
 (.cond (.t 15) (.seq (.reg 0 [] [] [⟨some 17, none, (.mv (.t 0)), []⟩,
 ⟨some 18, none, (.fa 2 (.t 3)), []⟩,
 ⟨some 19, none, (.ld none (.t 18)), []⟩,
 ⟨some 20, none, (.call 158 [(.t 17), (.t 19)]), []⟩])
 (.seq (.reg 0 [] [] [⟨some 21, none, (.mv (.t 0)), []⟩,
 ⟨some 22, none, (.fa 3 (.t 3)), []⟩,
 ⟨some 23, none, (.ld none (.t 22)), []⟩,
 ⟨some 24, none, (.build [(.bool false), .nilsl] []), []⟩,
 ⟨some 25, none, (.call 157 [(.t 21), (.t 23), (.c (.int .i64 (-1))), (.t 24)]), []⟩])
 (.reg 0 [] [] [⟨some 26, none, (.mv (.t 0)), []⟩,
 ⟨some 27, none, (.fa 4 (.t 3)), []⟩,
 ⟨some 28, none, (.ld none (.t 27)), []⟩,
 ⟨some 29, none, (.build [(.bool false), .nilsl] []), []⟩,
 ⟨some 30, none, (.call 157 [(.t 26), (.t 28), (.c (.int .i64 (-1))), (.t 29)]), []⟩])))
 (.seq (.reg 0 [] [] [⟨some 32, none, (.bin .eql .num (.t 6) (.c (.int .i64 20))), []⟩,
 ⟨some 31, none, (.mv (.t 32)), []⟩])
 (.cond (.t 31) (.reg 0 [] [] [⟨some 33, none, (.mv (.t 0)), []⟩,
 ⟨some 34, none, (.ld (some 9) (.t 3)), []⟩,
 ⟨some 35, none, (.call 159 [(.t 33), (.t 34)]), []⟩])
 (.seq (.reg 0 [] [] [⟨some 37, none, (.bin .eql .num (.t 6) (.c (.int .i64 21))), []⟩,
 ⟨some 36, none, (.mv (.t 37)), []⟩])
 (.cond (.t 36) (.seq (.reg 0 [] [] [⟨some 38, none, (.mv (.t 0)), []⟩,
 ⟨some 39, none, (.ld (some 9) (.t 3)), []⟩,
 ⟨some 40, none, (.call 160 [(.t 38), (.t 39)]), []⟩,
 ⟨some 4, none, (.al none 39 [.nilsl, (.int .i64 0), (.int .i64 0), .nilsl]), []⟩,
 ⟨none, none, (.st 4 (.t 4) (.t 40)), []⟩])
 (.reg 0 [0, 1, 2, 3, 4, 5, 6, 7, 8, 9, 10, 11, 12, 13, 14, 15, 16, 17, 18, 19, 20, 21, 22] [[], [0], [0, 1], [1, 0, 2], [2, 0, 1, 3], [], [5], [5, 6, 3, 1, 0, 2, 4], [4, 2, 0, 1, 3, 6, 5, 7], [], [9], [9, 10], [10, 9, 11], [11, 9, 10, 12], [], [14], [14, 15], [15, 14, 16], [16, 14, 15, 17], [17, 15, 14, 16, 18, 12, 10, 9, 11, 13], [13, 11, 9, 10, 12, 18, 16, 14, 15, 17, 19], [19, 17, 15, 14, 16, 18, 12, 10, 9, 11, 13, 20, 7, 5, 6, 3, 1, 0, 2, 4, 8], [8, 4, 2, 0, 1, 3, 6, 5, 7, 20, 13, 11, 9, 10, 12, 18, 16, 14, 15, 17, 19, 21]] [⟨some 41, none, (.mv (.t 0)), []⟩,
 ⟨some 42, none, (.nilc (.t 41)), []⟩,
 ⟨some 43, none, (.fa 0 (.t 42)), []⟩,
 ⟨some 44, none, (.fa 0 (.t 43)), []⟩,
 ⟨some 45, none, (.ld none (.t 44)), []⟩,
 ⟨some 46, none, (.fa 1 (.t 4)), []⟩,
 ⟨some 47, none, (.ld none (.t 46)), []⟩,
 ⟨some 48, none, (.ia none 2 (.t 45) (.t 47)), []⟩,
 ⟨some 49, none, (.ld (some 2) (.t 48)), []⟩,
 ⟨some 50, none, (.mv (.t 0)), []⟩,
 ⟨some 51, none, (.nilc (.t 50)), []⟩,
 ⟨some 52, none, (.fa 0 (.t 51)), []⟩,
 ⟨some 53, none, (.fa 0 (.t 52)), []⟩,
 ⟨some 54, none, (.ld none (.t 53)), []⟩,
 ⟨some 55, none, (.mv (.t 0)), []⟩,
 ⟨some 56, none, (.nilc (.t 55)), []⟩,
 ⟨some 57, none, (.fa 7 (.t 56)), []⟩,
 ⟨some 58, none, (.fa 1 (.t 57)), []⟩,
 ⟨some 59, none, (.ld none (.t 58)), []⟩,
 ⟨some 60, none, (.ia none 2 (.t 54) (.t 59)), []⟩,
 ⟨some 61, none, (.ld (some 2) (.t 60)), []⟩,
 ⟨some 62, none, (.call 23 [(.t 49), (.t 61)]), []⟩,
 ⟨some 63, none, (.call 161 [(.t 62)]), []⟩]))
 (.seq (.reg 0 [] [] [⟨some 65, none, (.bin .eql .num (.t 6) (.c (.int .i64 22))), []⟩,
 ⟨some 64, none, (.mv (.t 65)), []⟩])
 (.cond (.t 64) (.reg 0 [0, 1, 2, 4, 5, 6, 7, 8, 9, 10, 11, 12, 13, 14, 15, 3, 16, 17] [[], [], [1], [1, 2, 0], [], [4], [4, 5], [5, 4, 6], [6, 4, 5, 7], [], [9], [9, 10], [10, 9, 11], [11, 9, 10, 12], [12, 10, 9, 11, 13, 7, 5, 4, 6, 8], [8, 6, 4, 5, 7, 13, 11, 9, 10, 12, 14], [14, 12, 10, 9, 11, 13, 7, 5, 4, 6, 8, 15, 0, 2, 1, 3], [3, 1, 2, 0, 15, 8, 6, 4, 5, 7, 13, 11, 9, 10, 12, 14, 16]] [⟨some 66, none, (.mv (.t 0)), []⟩,
 ⟨some 67, none, (.fa 2 (.t 3)), []⟩,
 ⟨some 68, none, (.ld none (.t 67)), []⟩,
 ⟨some 70, none, (.mv (.t 0)), []⟩,
 ⟨some 71, none, (.nilc (.t 70)), []⟩,
 ⟨some 72, none, (.fa 0 (.t 71)), []⟩,
 ⟨some 73, none, (.fa 0 (.t 72)), []⟩,
 ⟨some 74, none, (.ld none (.t 73)), []⟩,
 ⟨some 75, none, (.mv (.t 0)), []⟩,
 ⟨some 76, none, (.nilc (.t 75)), []⟩,
 ⟨some 77, none, (.fa 7 (.t 76)), []⟩,
 ⟨some 78, none, (.fa 1 (.t 77)), []⟩,
 ⟨some 79, none, (.ld none (.t 78)), []⟩,
 ⟨some 80, none, (.ia none 2 (.t 74) (.t 79)), []⟩,
 ⟨some 81, none, (.ld (some 2) (.t 80)), []⟩,
 ⟨(some 69), none, (.call 162 [(.t 66), (.t 68)]), [⟨none, (.ld none (.t 73)), 74⟩, ⟨none, (.ld none (.t 78)), 79⟩, ⟨none, (.ld (some 2) (.t 80)), 81⟩]⟩,
 ⟨some 82, none, (.call 23 [(.t 69), (.t 81)]), []⟩,
 ⟨some 83, none, (.call 161 [(.t 82)]), []⟩])
 (.seq (.reg 0 [] [] [⟨some 85, none, (.bin .eql .num (.t 6) (.c (.int .i64 23))), []⟩,
 ⟨some 84, none, (.mv (.t 85)), []⟩])
 (.cond (.t 84) (.reg 0 [0, 1, 2, 4, 5, 6, 7, 8, 9, 10, 11, 12, 13, 14, 15, 3, 16, 17] [[], [], [1], [1, 2, 0], [], [4], [4, 5], [5, 4, 6], [6, 4, 5, 7], [], [9], [9, 10], [10, 9, 11], [11, 9, 10, 12], [12, 10, 9, 11, 13, 7, 5, 4, 6, 8], [8, 6, 4, 5, 7, 13, 11, 9, 10, 12, 14], [14, 12, 10, 9, 11, 13, 7, 5, 4, 6, 8, 15, 0, 2, 1, 3], [3, 1, 2, 0, 15, 8, 6, 4, 5, 7, 13, 11, 9, 10, 12, 14, 16]] [⟨some 86, none, (.mv (.t 0)), []⟩,
 ⟨some 87, none, (.fa 2 (.t 3)), []⟩,
 ⟨some 88, none, (.ld none (.t 87)), []⟩,
 ⟨some 90, none, (.mv (.t 0)), []⟩,
 ⟨some 91, none, (.nilc (.t 90)), []⟩,
 ⟨some 92, none, (.fa 0 (.t 91)), []⟩,
 ⟨some 93, none, (.fa 0 (.t 92)), []⟩,
 ⟨some 94, none, (.ld none (.t 93)), []⟩,
 ⟨some 95, none, (.mv (.t 0)), []⟩,
 ⟨some 96, none, (.nilc (.t 95)), []⟩,
 ⟨some 97, none, (.fa 0 (.t 96)), []⟩,
 ⟨some 98, none, (.fa 6 (.t 97)), []⟩,
 ⟨some 99, none, (.ld none (.t 98)), []⟩,
 ⟨some 100, none, (.ia none 2 (.t 94) (.t 99)), []⟩,
 ⟨some 101, none, (.ld (some 2) (.t 100)), []⟩,
 ⟨(some 89), none, (.call 162 [(.t 86), (.t 88)]), [⟨none, (.ld none (.t 93)), 94⟩, ⟨none, (.ld none (.t 98)), 99⟩, ⟨none, (.ld (some 2) (.t 100)), 101⟩]⟩,
 ⟨some 102, none, (.call 23 [(.t 89), (.t 101)]), []⟩,
 ⟨some 103, none, (.call 161 [(.t 102)]), []⟩])
 (.reg 0 [] [] [⟨some 7, none, (.call 161 [(.c (.bool false))]), []⟩]))))))))))))))))
def zf121 : IFun := ⟨104, [], zc121⟩
theorem zok121 : okFun Tryz.prog 121 zf121 = true := by kernel_rfl
def zc122 : ICode :=
 (.seq (.reg 0 [] [] [⟨some 3, none, (.bx none 55 (.t 1)), []⟩])
 (.seq (.reg 0 [] [] [⟨some 7, none, (.build [(.bool false), .nilsl] [(0, 1, (.c (.bool true)))]), []⟩,
 ⟨some 4, none, (.al none 46 [(.bool false), .nilsl]), []⟩,
 ⟨none, none, (.st 2 (.t 4) (.t 7)), []⟩])
 (.seq (.reg 0 [] [] [⟨some 8, none, (.fa 0 (.t 3)), []⟩,
 ⟨some 9, none, (.ld none (.t 8)), []⟩])
 (.block 0 (.seq (.reg 0 [] [] [⟨some 12, none, (.bin .eql .num (.t 9) (.c (.int .i64 1))), []⟩,
 ⟨some 11, none, (.mv (.t 12)), []⟩])
 (.cond (.t 11) (.seq (.reg 0 [0, 1, 3, 4, 2, 5, 6] [[], [0], [0, 1], [], [3], [3, 4, 1, 0, 2], [2, 0, 1, 4, 3, 5]] [⟨some 13, none, (.fa 5 (.t 3)), []⟩,
 ⟨some 14, none, (.ld none (.t 13)), []⟩,
 ⟨some 16, none, (.fa 5 (.t 3)), []⟩,
 ⟨some 17, none, (.ld none (.t 16)), []⟩,
 ⟨(some 15), none, (.call 163 [(.t 14)]), [⟨none, (.ld none (.t 16)), 17⟩]⟩,
 ⟨some 18, none, (.bin .eql .num (.t 15) (.t 17)), []⟩,
 ⟨some 19, none, (.call 161 [(.t 18)]), []⟩])
 (.reg 0 [] [] [⟨some 20, none, (.mv (.t 0)), []⟩,
 ⟨some 21, none, (.fa 1 (.t 3)), []⟩,
 ⟨some 22, none, (.ld none (.t 21)), []⟩,
 ⟨some 23, none, (.ld (some 2) (.t 4)), []⟩,
 ⟨some 24, none, (.call 164 [(.t 20), (.t 22), (.t 23)]), []⟩]))
 (.seq (.reg 0 [] [] [⟨some 26, none, (.bin .eql .num (.t 9) (.c (.int .i64 3))), []⟩,
 ⟨some 25, none, (.mv (.t 26)), []⟩])
 (.cond (.t 25) (.reg 0 [0, 1, 2, 3, 4, 5, 6, 7] [[], [], [1], [], [], [4], [4, 5, 3], [3, 5, 4, 6, 1, 2, 0]] [⟨some 27, none, (.mv (.t 0)), []⟩,
 ⟨some 28, none, (.fa 1 (.t 3)), []⟩,
 ⟨some 29, none, (.ld none (.t 28)), []⟩,
 ⟨some 30, none, (.mv (.t 0)), []⟩,
 ⟨some 31, none, (.fa 2 (.t 3)), []⟩,
 ⟨some 32, none, (.ld none (.t 31)), []⟩,
 ⟨(some 33), none, (.call 162 [(.t 30), (.t 32)]), [⟨none, (.ld none (.t 28)), 29⟩]⟩,
 ⟨some 34, none, (.call 164 [(.t 27), (.t 29), (.t 33)]), []⟩])
 (.seq (.reg 0 [] [] [⟨some 36, none, (.bin .eql .num (.t 9) (.c (.int .i64 15))), []⟩,
 ⟨some 35, none, (.mv (.t 36)), []⟩])
 (.cond (.t 35) (.reg 0 [] [] [⟨some 37, none, (.mv (.t 0)), []⟩,
 ⟨some 38, none, (.fa 1 (.t 3)), []⟩,
 ⟨some 39, none, (.ld none (.t 38)), []⟩,
 ⟨some 40, none, (.ld (some 2) (.t 4)), []⟩,
 ⟨some 41, none, (.call 164 [(.t 37), (.t 39), (.t 40)]), []⟩])
 (.seq (.reg 0 [] [] [⟨some 43, none, (.bin .eql .num (.t 9) (.c (.int .i64 16))), []⟩,
 ⟨some 42, none, (.mv (.t 43)), []⟩])
 (.cond (.t 42) (.reg 0 [] [] [⟨some 44, none, (.mv (.t 0)), []⟩,
 ⟨some 45, none, (.fa 2 (.t 3)), []⟩,
 ⟨some 46, none, (.ld none (.t 45)), []⟩,
 ⟨some 47, none, (.call 158 [(.t 44), (.t 46)]), []⟩])
 (.seq (.reg 0 [] [] [⟨some 49, none, (.bin .eql .num (.t 9) (.c (.int .i64 4))), []⟩,
 ⟨some 48, none, (.mv (.t 49)), []⟩])
 (.cond (.t 48) (.seq (.reg 0 [] [] [⟨some 50, none, (.fa 5 (.t 3)), []⟩,
 ⟨some 51, none, (.ld none (.t 50)), []⟩,
 ⟨some 52, none, (.bin .geq .num (.t 51) (.c (.int .i64 1))), []⟩,
 ⟨some 53, none, (.mv (.t 52)), []⟩,
 ⟨some 54, some (53, true), (.fa 5 (.t 3)), []⟩,
 ⟨some 55, some (53, true), (.ld none (.t 54)), []⟩,
 ⟨some 56, some (53, true), (.bin .leq .num (.t 55) (.c (.int .i64 8))), []⟩,
 ⟨some 57, none, (.pick (.t 53) (.t 56) (.c (.bool false))), []⟩,
 ⟨some 58, none, (.call 161 [(.t 57)]), []⟩])
 (.seq (.reg 0 [] [] [⟨some 59, none, (.mv (.t 0)), []⟩,
 ⟨some 60, none, (.fa 2 (.t 3)), []⟩,
 ⟨some 61, none, (.ld none (.t 60)), []⟩,
 ⟨some 62, none, (.call 158 [(.t 59), (.t 61)]), []⟩])
 (.seq (.reg 0 [] [] [⟨some 63, none, (.mv (.t 0)), []⟩,
 ⟨some 64, none, (.fa 3 (.t 3)), []⟩,
 ⟨some 65, none, (.ld none (.t 64)), []⟩,
 ⟨some 66, none, (.call 158 [(.t 63), (.t 65)]), []⟩])
 (.reg 0 [] [] [⟨some 67, none, (.mv (.t 0)), []⟩,
 ⟨some 68, none, (.fa 1 (.t 3)), []⟩,
 ⟨some 69, none, (.ld none (.t 68)), []⟩,
 ⟨some 70, none, (.ld (some 2) (.t 4)), []⟩,
 ⟨some 71, none, (.call 164 [(.t 67), (.t 69), (.t 70)]), []⟩]))))
 (.seq (.reg 0 [] [] [⟨some 73, none, (.bin .eql .num (.t 9) (.c (.int .i64 2))), []⟩,
 ⟨some 72, none, (.mv (.t 73)), []⟩])
 (.cond (.t 72) (.seq (.reg 0 [0, 1, 2, 3, 4, 5, 6, 7, 8, 9, 10, 11, 12, 13, 14] [[], [0], [0, 1], [1, 0, 2], [2, 0, 1, 3], [3, 1, 0, 2, 4], [2, 0, 1, 3], [3, 1, 0, 2, 6], [6, 2, 0, 1, 3, 7], [7, 3, 1, 0, 2, 6, 8], [8, 6, 2, 0, 1, 3, 7, 9], [9, 7, 3, 1, 0, 2, 6, 8, 10], [10, 8, 6, 7, 9, 11, 4, 2, 0, 1, 3, 5], [5, 4, 11, 9, 7, 6, 8, 10, 12, 2, 0, 1, 3], [3, 1, 0, 2, 12, 10, 8, 6, 7, 9, 11, 4, 5, 13]] [⟨some 74, none, (.fa 2 (.t 3)), []⟩,
 ⟨some 75, none, (.ld none (.t 74)), []⟩,
 ⟨some 76, none, (.bin .geq .num (.t 75) (.c (.int .i64 0))), []⟩,
 ⟨some 77, none, (.mv (.t 76)), []⟩,
 ⟨some 78, some (77, true), (.fa 2 (.t 3)), []⟩,
 ⟨some 79, some (77, true), (.ld none (.t 78)), []⟩,
 ⟨some 80, some (77, true), (.mv (.t 0)), []⟩,
 ⟨some 81, some (77, true), (.nilc (.t 80)), []⟩,
 ⟨some 82, some (77, true), (.fa 0 (.t 81)), []⟩,
 ⟨some 83, some (77, true), (.fa 2 (.t 82)), []⟩,
 ⟨some 84, some (77, true), (.ld none (.t 83)), []⟩,
 ⟨some 85, some (77, true), (.len false (.t 84)), []⟩,
 ⟨some 86, some (77, true), (.bin .lss .num (.t 79) (.t 85)), []⟩,
 ⟨some 87, none, (.pick (.t 77) (.t 86) (.c (.bool false))), []⟩,
 ⟨some 88, none, (.call 161 [(.t 87)]), []⟩])
 (.seq (.reg 0 [] [] [⟨some 89, none, (.mv (.t 0)), []⟩,
 ⟨some 90, none, (.fa 8 (.t 3)), []⟩,
 ⟨some 91, none, (.ld none (.t 90)), []⟩,
 ⟨some 92, none, (.call 165 [(.t 89), (.t 91)]), []⟩])
 (.reg 0 [0, 1, 2, 3, 4] [[], [], [1], [], [3, 1, 2, 0]] [⟨some 93, none, (.mv (.t 0)), []⟩,
 ⟨some 94, none, (.fa 1 (.t 3)), []⟩,
 ⟨some 95, none, (.ld none (.t 94)), []⟩,
 ⟨(some 96), none, (.call 166 [(.c (.int .i64 0))]), [⟨none, (.ld none (.t 94)), 95⟩]⟩,
 ⟨some 97, none, (.call 164 [(.t 93), (.t 95), (.t 96)]), []⟩])))
 (.seq (.seq (.reg 0 [] [] [⟨some 99, none, (.bin .eql .num (.t 9) (.c (.int .i64 13))), []⟩,
 ⟨some 98, none, (.mv (.t 99)), []⟩])
 (.cond (.t 98) .skip
 (.seq (.reg 0 [] [] [⟨some 100, none, (.bin .eql .num (.t 9) (.c (.int .i64 14))), []⟩,
 ⟨some 98, none, (.mv (.t 100)), []⟩])
 (.cond (.t 98) .skip
 (.reg 0 [] [] [⟨some 101, none, (.bin .eql .num (.t 9) (.c (.int .i64 12))), []⟩,
 ⟨some 98, none, (.mv (.t 101)), []⟩])))))
 (.cond (.t 98) (.reg 0 [] [] [⟨some 102, none, (.mv (.t 0)), []⟩,
 ⟨some 103, none, (.ld (some 9) (.t 3)), []⟩,
 ⟨some 104, none, (.call 167 [(.t 102), (.t 103)]), []⟩])
 (.seq (.reg 0 [] [] [⟨some 106, none, (.bin .eql .num (.t 9) (.c (.int .i64 5))), []⟩,
 ⟨some 105, none, (.mv (.t 106)), []⟩])
 (.cond (.t 105) (.seq (.reg 0 [] [] [⟨some 107, none, (.mv (.t 0)), []⟩,
 ⟨some 108, none, (.fa 2 (.t 3)), []⟩,
 ⟨some 109, none, (.ld none (.t 108)), []⟩,
 ⟨some 110, none, (.call 168 [(.t 107), (.t 109), (.c (.int .i64 1))]), []⟩,
 ⟨some 111, none, (.fld 1 none (.t 110)), []⟩,
 ⟨some 5, none, (.mv (.t 111)), []⟩])
 (.seq (.reg 0 [] [] [⟨some 112, none, (.mv (.t 0)), []⟩,
 ⟨some 113, none, (.fa 6 (.t 3)), []⟩,
 ⟨some 114, none, (.ld none (.t 113)), []⟩,
 ⟨some 115, none, (.mv (.t 5)), []⟩,
 ⟨some 116, none, (.call 169 [(.t 112), (.t 114), (.t 115)]), []⟩])
 (.seq (.reg 0 [] [] [⟨some 117, none, (.mv (.t 0)), []⟩,
 ⟨some 118, none, (.fa 8 (.t 3)), []⟩,
 ⟨some 119, none, (.ld none (.t 118)), []⟩,
 ⟨some 120, none, (.call 165 [(.t 117), (.t 119)]), []⟩])
 (.reg 0 [0, 1, 2, 3, 4, 5, 6] [[], [], [1], [], [3], [3, 4], [4, 3, 5, 1, 2, 0]] [⟨some 121, none, (.mv (.t 0)), []⟩,
 ⟨some 122, none, (.fa 1 (.t 3)), []⟩,
 ⟨some 123, none, (.ld none (.t 122)), []⟩,
 ⟨some 124, none, (.fa 2 (.t 3)), []⟩,
 ⟨some 125, none, (.ld none (.t 124)), []⟩,
 ⟨(some 126), none, (.call 166 [(.t 125)]), [⟨none, (.ld none (.t 122)), 123⟩]⟩,
 ⟨some 127, none, (.call 164 [(.t 121), (.t 123), (.t 126)]), []⟩]))))
 (.seq (.reg 0 [] [] [⟨some 129, none, (.bin .eql .num (.t 9) (.c (.int .i64 8))), []⟩,
 ⟨some 128, none, (.mv (.t 129)), []⟩])
 (.cond (.t 128) (.seq (.reg 0 [] [] [⟨some 130, none, (.mv (.t 0)), []⟩,
 ⟨some 131, none, (.fa 2 (.t 3)), []⟩,
 ⟨some 132, none, (.ld none (.t 131)), []⟩,
 ⟨some 133, none, (.call 168 [(.t 130), (.t 132), (.c (.int .i64 2))]), []⟩,
 ⟨some 134, none, (.fld 1 none (.t 133)), []⟩,
 ⟨some 6, none, (.mv (.t 134)), []⟩])
 (.seq (.reg 0 [] [] [⟨some 135, none, (.mv (.t 0)), []⟩,
 ⟨some 136, none, (.fa 3 (.t 3)), []⟩,
 ⟨some 137, none, (.ld none (.t 136)), []⟩,
 ⟨some 138, none, (.call 158 [(.t 135), (.t 137)]), []⟩])
 (.seq (.reg 0 [] [] [⟨some 139, none, (.mv (.t 0)), []⟩,
 ⟨some 140, none, (.fa 4 (.t 3)), []⟩,
 ⟨some 141, none, (.ld none (.t 140)), []⟩,
 ⟨some 142, none, (.mksl none 3 [(.int .i64 0)] 1 [(0, 1, (.t 141))]), []⟩,
 ⟨some 143, none, (.mv (.t 6)), []⟩,
 ⟨some 144, none, (.call 169 [(.t 139), (.t 142), (.t 143)]), []⟩])
 (.seq (.reg 0 [] [] [⟨some 145, none, (.mv (.t 0)), []⟩,
 ⟨some 146, none, (.fa 8 (.t 3)), []⟩,
 ⟨some 147, none, (.ld none (.t 146)), []⟩,
 ⟨some 148, none, (.call 165 [(.t 145), (.t 147)]), []⟩])
 (.reg 0 [0, 1, 2, 3, 4, 5, 6] [[], [], [1], [], [3], [3, 4], [4, 3, 5, 1, 2, 0]] [⟨some 149, none, (.mv (.t 0)), []⟩,
 ⟨some 150, none, (.fa 1 (.t 3)), []⟩,
 ⟨some 151, none, (.ld none (.t 150)), []⟩,
 ⟨some 152, none, (.fa 2 (.t 3)), []⟩,
 ⟨some 153, none, (.ld none (.t 152)), []⟩,
 ⟨(some 154), none, (.call 166 [(.t 153)]), [⟨none, (.ld none (.t 150)), 151⟩]⟩,
 ⟨some 155, none, (.call 164 [(.t 149), (.t 151), (.t 154)]), []⟩])))))
 (.seq (.reg 0 [] [] [⟨some 157, none, (.bin .eql .num (.t 9) (.c (.int .i64 6))), []⟩,
 ⟨some 156, none, (.mv (.t 157)), []⟩])
 (.cond (.t 156) (.reg 1 [0, 1, 2, 3, 4, 5, 6, 9, 10, 7, 8, 11, 12, 13] [[], [], [1], [], [], [], [5], [], [7, 5, 6, 4], [], [9], [9, 10, 4, 6, 5, 7, 8, 3], [3, 8, 7, 5, 6, 4, 10, 9, 11], [11, 9, 10, 4, 6, 5, 7, 8, 3, 12, 1, 2, 0]] [⟨some 158, none, (.mv (.t 0)), []⟩,
 ⟨some 159, none, (.fa 1 (.t 3)), []⟩,
 ⟨some 160, none, (.ld none (.t 159)), []⟩,
 ⟨some 161, none, (.mv (.t 0)), []⟩,
 ⟨some 162, none, (.mv (.t 0)), []⟩,
 ⟨some 163, none, (.fa 2 (.t 3)), []⟩,
 ⟨some 164, none, (.ld none (.t 163)), []⟩,
 ⟨some 167, none, (.fa 3 (.t 3)), []⟩,
 ⟨some 168, none, (.ld none (.t 167)), []⟩,
 ⟨some 165, none, (.mksl (some 0) 3 [(.int .i64 0)] 1 [(0, 1, (.c (.int .i64 1)))]), []⟩,
 ⟨(some 166), none, (.call 172 [(.t 162), (.t 164), (.t 165)]), [⟨none, (.ld none (.t 159)), 160⟩, ⟨none, (.ld none (.t 167)), 168⟩]⟩,
 ⟨(some 169), none, (.call 171 [(.t 161), (.t 166), (.t 168)]), [⟨none, (.ld none (.t 159)), 160⟩]⟩,
 ⟨(some 170), none, (.call 170 [(.t 169)]), [⟨none, (.ld none (.t 159)), 160⟩]⟩,
 ⟨some 171, none, (.call 164 [(.t 158), (.t 160), (.t 170)]), []⟩])
 (.seq (.reg 0 [] [] [⟨some 173, none, (.bin .eql .num (.t 9) (.c (.int .i64 7))), []⟩,
 ⟨some 172, none, (.mv (.t 173)), []⟩])
 (.cond (.t 172) (.reg 1 [0, 1, 2, 3, 4, 5, 6, 9, 10, 7, 8, 11, 12] [[], [], [1], [], [], [], [5], [], [7, 5, 6, 4], [], [9], [9, 10, 4, 6, 5, 7, 8, 3], [3, 8, 7, 5, 6, 4, 10, 9, 11, 1, 2, 0]] [⟨some 174, none, (.mv (.t 0)), []⟩,
 ⟨some 175, none, (.fa 4 (.t 3)), []⟩,
 ⟨some 176, none, (.ld none (.t 175)), []⟩,
 ⟨some 177, none, (.mv (.t 0)), []⟩,
 ⟨some 178, none, (.mv (.t 0)), []⟩,
 ⟨some 179, none, (.fa 2 (.t 3)), []⟩,
 ⟨some 180, none, (.ld none (.t 179)), []⟩,
 ⟨some 183, none, (.fa 3 (.t 3)), []⟩,
 ⟨some 184, none, (.ld none (.t 183)), []⟩,
 ⟨some 181, none, (.mksl (some 0) 3 [(.int .i64 0)] 1 [(0, 1, (.c (.int .i64 1)))]), []⟩,
 ⟨(some 182), none, (.call 172 [(.t 178), (.t 180), (.t 181)]), [⟨none, (.ld none (.t 175)), 176⟩, ⟨none, (.ld none (.t 183)), 184⟩]⟩,
 ⟨(some 185), none, (.call 171 [(.t 177), (.t 182), (.t 184)]), [⟨none, (.ld none (.t 175)), 176⟩]⟩,
 ⟨some 186, none, (.call 173 [(.t 174), (.t 176), (.t 185)]), []⟩])
 (.seq (.reg 0 [] [] [⟨some 188, none, (.bin .eql .num (.t 9) (.c (.int .i64 9))), []⟩,
 ⟨some 187, none, (.mv (.t 188)), []⟩])
 (.cond (.t 187) (.seq (.reg 0 [] [] [⟨some 189, none, (.mv (.t 0)), []⟩,
 ⟨some 190, none, (.fa 3 (.t 3)), []⟩,
 ⟨some 191, none, (.ld none (.t 190)), []⟩,
 ⟨some 192, none, (.call 158 [(.t 189), (.t 191)]), []⟩])
 (.reg 1 [0, 1, 2, 3, 4, 5, 6, 7, 8, 9, 10, 11] [[], [], [1], [], [], [], [5], [], [7, 5, 6, 4], [4, 6, 5, 7, 8, 3], [3, 8, 7, 5, 6, 4, 9], [9, 4, 6, 5, 7, 8, 3, 10, 1, 2, 0]] [⟨some 193, none, (.mv (.t 0)), []⟩,
 ⟨some 194, none, (.fa 1 (.t 3)), []⟩,
 ⟨some 195, none, (.ld none (.t 194)), []⟩,
 ⟨some 196, none, (.mv (.t 0)), []⟩,
 ⟨some 197, none, (.mv (.t 0)), []⟩,
 ⟨some 198, none, (.fa 2 (.t 3)), []⟩,
 ⟨some 199, none, (.ld none (.t 198)), []⟩,
 ⟨some 200, none, (.mksl (some 0) 3 [(.int .i64 0)] 1 [(0, 1, (.c (.int .i64 2)))]), []⟩,
 ⟨(some 201), none, (.call 172 [(.t 197), (.t 199), (.t 200)]), [⟨none, (.ld none (.t 194)), 195⟩]⟩,
 ⟨(some 202), none, (.call 171 [(.t 196), (.t 201), (.c (.int .i64 0))]), [⟨none, (.ld none (.t 194)), 195⟩]⟩,
 ⟨(some 203), none, (.call 170 [(.t 202)]), [⟨none, (.ld none (.t 194)), 195⟩]⟩,
 ⟨some 204, none, (.call 164 [(.t 193), (.t 195), (.t 203)]), []⟩]))
 (.seq (.reg 0 [] [] [⟨some 206, none, (.bin .eql .num (.t 9) (.c (.int .i64 10))), []⟩,
 ⟨some 205, none, (.mv (.t 206)), []⟩])
 (.cond (.t 205) (.seq (.reg 0 [] [] [⟨some 207, none, (.mv (.t 0)), []⟩,
 ⟨some 208, none, (.fa 3 (.t 3)), []⟩,
 ⟨some 209, none, (.ld none (.t 208)), []⟩,
 ⟨some 210, none, (.call 158 [(.t 207), (.t 209)]), []⟩])
 (.reg 1 [0, 1, 2, 3, 4, 5, 6, 7, 8, 9, 10] [[], [], [1], [], [], [], [5], [], [7, 5, 6, 4], [4, 6, 5, 7, 8, 3], [3, 8, 7, 5, 6, 4, 9, 1, 2, 0]] [⟨some 211, none, (.mv (.t 0)), []⟩,
 ⟨some 212, none, (.fa 4 (.t 3)), []⟩,
 ⟨some 213, none, (.ld none (.t 212)), []⟩,
 ⟨some 214, none, (.mv (.t 0)), []⟩,
 ⟨some 215, none, (.mv (.t 0)), []⟩,
 ⟨some 216, none, (.fa 2 (.t 3)), []⟩,
 ⟨some 217, none, (.ld none (.t 216)), []⟩,
 ⟨some 218, none, (.mksl (some 0) 3 [(.int .i64 0)] 1 [(0, 1, (.c (.int .i64 2)))]), []⟩,
 ⟨(some 219), none, (.call 172 [(.t 215), (.t 217), (.t 218)]), [⟨none, (.ld none (.t 212)), 213⟩]⟩,
 ⟨(some 220), none, (.call 171 [(.t 214), (.t 219), (.c (.int .i64 0))]), [⟨none, (.ld none (.t 212)), 213⟩]⟩,
 ⟨some 221, none, (.call 173 [(.t 211), (.t 213), (.t 220)]), []⟩]))
 (.seq (.reg 0 [] [] [⟨some 223, none, (.bin .eql .num (.t 9) (.c (.int .i64 11))), []⟩,
 ⟨some 222, none, (.mv (.t 223)), []⟩])
 (.cond (.t 222) (.seq (.reg 0 [] [] [⟨some 224, none, (.mv (.t 0)), []⟩,
 ⟨some 225, none, (.fa 2 (.t 3)), []⟩,
 ⟨some 226, none, (.ld none (.t 225)), []⟩,
 ⟨some 227, none, (.mksl none 3 [(.int .i64 0), (.int .i64 0)] 2 [(0, 1, (.c (.int .i64 2))), (1, 1, (.c (.int .i64 3)))]), []⟩,
 ⟨some 228, none, (.call 172 [(.t 224), (.t 226), (.t 227)]), []⟩])
 (.reg 0 [] [] [⟨some 229, none, (.mv (.t 0)), []⟩,
 ⟨some 230, none, (.fa 1 (.t 3)), []⟩,
 ⟨some 231, none, (.ld none (.t 230)), []⟩,
 ⟨some 232, none, (.ld (some 2) (.t 4)), []⟩,
 ⟨some 233, none, (.call 164 [(.t 229), (.t 231), (.t 232)]), []⟩]))
 (.seq (.reg 0 [] [] [⟨some 235, none, (.bin .eql .num (.t 9) (.c (.int .i64 17))), []⟩,
 ⟨some 234, none, (.mv (.t 235)), []⟩])
 (.cond (.t 234) (.reg 0 [] [] [⟨some 236, none, (.mv (.t 0)), []⟩,
 ⟨some 237, none, (.ld (some 9) (.t 3)), []⟩,
 ⟨some 238, none, (.call 174 [(.t 236), (.t 237)]), []⟩])
 (.reg 0 [] [] [⟨some 10, none, (.call 161 [(.c (.bool false))]), []⟩])))))))))))))))))))))))))))))))))))
def zf122 : IFun := ⟨239, [], zc122⟩
theorem zok122 : okFun Tryz.prog 122 zf122 = true := by kernel_rfl
def zc126 : ICode :=
 (.seq (.reg 0 [] [] [⟨some 4, none, (.mv (.c (.int .i64 0))), []⟩])
 (.seq (.seq (.reg 0 [] [] [⟨some 6, none, (.mv (.t 0)), []⟩,
 ⟨some 7, none, (.len false (.t 6)), []⟩,
 ⟨some 8, none, (.mv (.c (.int .i64 0))), []⟩])
 (.block 0 (.loop (.seq (.reg 0 [] [] [⟨some 9, none, (.bin .lss .num (.t 8) (.t 7)), []⟩])
 (.seq (.cond (.t 9) .skip
 (.exit 0))
 (.seq (.block 1 (.seq (.reg 0 [] [] [⟨some 10, none, (.mv (.t 8)), []⟩,
 ⟨some 5, none, (.mv (.t 10)), []⟩])
 (.seq (.reg 0 [] [] [⟨some 11, none, (.mv (.t 1)), []⟩,
 ⟨some 12, none, (.mv (.t 0)), []⟩,
 ⟨some 13, none, (.mv (.t 5)), []⟩,
 ⟨some 14, none, (.ia none 4 (.t 12) (.t 13)), []⟩,
 ⟨some 15, none, (.ld (some 4) (.t 14)), []⟩,
 ⟨some 16, none, (.callv (.t 11) [(.t 15)]), []⟩])
 (.cond (.t 16) (.seq (.reg 0 [] [] [⟨some 17, none, (.mv (.t 5)), []⟩,
 ⟨some 4, none, (.mv (.t 17)), []⟩])
 .ret)
 .skip))))
 (.reg 0 [] [] [⟨some 18, none, (.bin .add .num (.t 8) (.c (.int .i64 1))), []⟩,
 ⟨some 8, none, (.mv (.t 18)), []⟩])))))))
 (.seq (.reg 0 [] [] [⟨some 4, none, (.mv (.c (.int .i64 (-1)))), []⟩])
 .ret)))
def zf126 : IFun := ⟨19, [(.tmp 4)], zc126⟩
theorem zok126 : okFun Tryz.prog 126 zf126 = true := by kernel_rfl
def zc127 : ICode :=
 (.seq (.reg 0 [] [] [⟨some 3, none, (.mv (.c (.bool false))), []⟩])
 (.seq (.reg 0 [] [] [⟨some 4, none, (.ld none (.t 1)), []⟩,
 ⟨some 5, none, (.mv (.t 0)), []⟩,
 ⟨some 6, none, (.callv (.t 4) [(.t 5)]), []⟩,
 ⟨some 7, none, (.un .not (.t 6)), []⟩,
 ⟨some 3, none, (.mv (.t 7)), []⟩])
 .ret))
def zf127 : IFun := ⟨8, [(.tmp 3)], zc127⟩
theorem zok127 : okFun Tryz.prog 127 zf127 = true := by kernel_rfl
def zc132 : ICode :=
 (.seq (.reg 0 [] [] [⟨some 2, none, (.bx none 3 (.t 0)), []⟩,
 ⟨some 4, none, (.mv (.c (.bool false))), []⟩])
 (.seq (.reg 0 [] [] [⟨some 5, none, (.mv (.t 1)), []⟩,
 ⟨some 6, none, (.mkf 185 [] [(.t 2)]), []⟩,
 ⟨some 7, none, (.call 184 [(.t 5), (.t 6)]), []⟩,
 ⟨some 4, none, (.mv (.t 7)), []⟩])
 .ret))
def zf132 : IFun := ⟨8, [(.tmp 4)], zc132⟩
theorem zok132 : okFun Tryz.prog 132 zf132 = true := by kernel_rfl
def zc133 : ICode :=
 (.seq (.reg 0 [] [] [⟨some 2, none, (.bx none 3 (.t 0)), []⟩,
 ⟨some 4, none, (.mv (.c (.bool false))), []⟩])
 (.seq (.reg 0 [] [] [⟨some 5, none, (.mv (.t 1)), []⟩,
 ⟨some 6, none, (.mkf 187 [] [(.t 2)]), []⟩,
 ⟨some 7, none, (.call 186 [(.t 5), (.t 6)]), []⟩,
 ⟨some 4, none, (.mv (.t 7)), []⟩])
 .ret))
def zf133 : IFun := ⟨8, [(.tmp 4)], zc133⟩
theorem zok133 : okFun Tryz.prog 133 zf133 = true := by kernel_rfl
def zc134 : ICode :=
 (.seq (.reg 0 [] [] [⟨some 2, none, (.bx none 3 (.t 0)), []⟩,
 ⟨some 4, none, (.mv (.c (.bool false))), []⟩])
 (.seq (.reg 0 [] [] [⟨some 5, none, (.mv (.t 1)), []⟩,
 ⟨some 6, none, (.mkf 189 [] [(.t 2)]), []⟩,
 ⟨some 7, none, (.call 188 [(.t 5), (.t 6)]), []⟩,
 ⟨some 4, none, (.mv (.t 7)), []⟩])
 .ret))
def zf134 : IFun := ⟨8, [(.tmp 4)], zc134⟩
theorem zok134 : okFun Tryz.prog 134 zf134 = true := by kernel_rfl
def zc135 : ICode :=
 (.seq (.reg 0 [] [] [⟨some 2, none, (.bx none 3 (.t 0)), []⟩,
 ⟨some 4, none, (.mv (.c (.bool false))), []⟩])
 (.seq (.reg 0 [] [] [⟨some 5, none, (.mv (.t 1)), []⟩,
 ⟨some 6, none, (.mkf 191 [] [(.t 2)]), []⟩,
 ⟨some 7, none, (.call 190 [(.t 5), (.t 6)]), []⟩,
 ⟨some 4, none, (.mv (.t 7)), []⟩])
 .ret))
def zf135 : IFun := ⟨8, [(.tmp 4)], zc135⟩
theorem zok135 : okFun Tryz.prog 135 zf135 = true := by kernel_rfl
def zc136 : ICode :=
 (.seq (.reg 0 [] [] [⟨some 2, none, (.mv (.c (.bool false))), []⟩])
 (.seq (.reg 0 [] [] [⟨some 3, none, (.mv (.t 0)), []⟩,
 ⟨some 4, none, (.call 192 [(.t 3), (.c (.fn 193 [] []))]), []⟩,
 ⟨some 2, none, (.mv (.t 4)), []⟩])
 .ret))
def zf136 : IFun := ⟨5, [(.tmp 2)], zc136⟩
theorem zok136 : okFun Tryz.prog 136 zf136 = true := by kernel_rfl
def zc137 : ICode :=
 (.seq (.reg 0 [] [] [⟨some 2, none, (.bx none 3 (.t 0)), []⟩,
 ⟨some 4, none, (.mv (.c (.bool false))), []⟩])
 (.seq (.reg 0 [] [] [⟨some 5, none, (.mv (.t 1)), []⟩,
 ⟨some 6, none, (.mkf 195 [] [(.t 2)]), []⟩,
 ⟨some 7, none, (.call 194 [(.t 5), (.t 6)]), []⟩,
 ⟨some 4, none, (.mv (.t 7)), []⟩])
 .ret))
def zf137 : IFun := ⟨8, [(.tmp 4)], zc137⟩
theorem zok137 : okFun Tryz.prog 137 zf137 = true := by kernel_rfl
def zc138 : ICode :=
 (.seq (.reg 0 [] [] [⟨some 2, none, (.bx none 3 (.t 0)), []⟩,
 ⟨some 4, none, (.mv (.c (.bool false))), []⟩])
 (.seq (.reg 0 [] [] [⟨some 5, none, (.mv (.t 1)), []⟩,
 ⟨some 6, none, (.mkf 197 [] [(.t 2)]), []⟩,
 ⟨some 7, none, (.call 196 [(.t 5), (.t 6)]), []⟩,
 ⟨some 4, none, (.mv (.t 7)), []⟩])
 .ret))
def zf138 : IFun := ⟨8, [(.tmp 4)], zc138⟩
theorem zok138 : okFun Tryz.prog 138 zf138 = true := by kernel_rfl
def zc139 : ICode :=
 (.seq (.reg 0 [] [] [⟨some 4, none, (.mv (.c (.int .i64 0))), []⟩])
 (.seq (.seq (.reg 0 [] [] [⟨some 6, none, (.mv (.t 0)), []⟩,
 ⟨some 7, none, (.len false (.t 6)), []⟩,
 ⟨some 8, none, (.mv (.c (.int .i64 0))), []⟩])
 (.block 0 (.loop (.seq (.reg 0 [] [] [⟨some 9, none, (.bin .lss .num (.t 8) (.t 7)), []⟩])
 (.seq (.cond (.t 9) .skip
 (.exit 0))
 (.seq (.block 1 (.seq (.reg 0 [] [] [⟨some 10, none, (.mv (.t 8)), []⟩,
 ⟨some 5, none, (.mv (.t 10)), []⟩])
 (.seq (.reg 0 [] [] [⟨some 11, none, (.mv (.t 1)), []⟩,
 ⟨some 12, none, (.mv (.t 0)), []⟩,
 ⟨some 13, none, (.mv (.t 5)), []⟩,
 ⟨some 14, none, (.ia none 9 (.t 12) (.t 13)), []⟩,
 ⟨some 15, none, (.ld (some 9) (.t 14)), []⟩,
 ⟨some 16, none, (.callv (.t 11) [(.t 15)]), []⟩])
 (.cond (.t 16) (.seq (.reg 0 [] [] [⟨some 17, none, (.mv (.t 5)), []⟩,
 ⟨some 4, none, (.mv (.t 17)), []⟩])
 .ret)
 .skip))))
 (.reg 0 [] [] [⟨some 18, none, (.bin .add .num (.t 8) (.c (.int .i64 1))), []⟩,
 ⟨some 8, none, (.mv (.t 18)), []⟩])))))))
 (.seq (.reg 0 [] [] [⟨some 4, none, (.mv (.c (.int .i64 (-1)))), []⟩])
 .ret)))
def zf139 : IFun := ⟨19, [(.tmp 4)], zc139⟩
theorem zok139 : okFun Tryz.prog 139 zf139 = true := by kernel_rfl
def zc145 : ICode :=
 (.seq (.reg 0 [] [] [⟨some 8, none, (.mv (.t 1)), []⟩,
 ⟨some 9, none, (.bin .add .num (.t 8) (.c (.int .i64 1))), []⟩,
 ⟨some 6, none, (.mv (.t 9)), []⟩])
 (.block 0 (.loop (.seq (.seq (.reg 0 [] [] [⟨some 10, none, (.mv (.t 6)), []⟩,
 ⟨some 11, none, (.mv (.t 2)), []⟩,
 ⟨some 12, none, (.bin .lss .num (.t 10) (.t 11)), []⟩])
 (.cond (.t 12) .skip
 (.exit 0)))
 (.seq (.block 1 (.seq (.reg 0 [] [] [⟨some 15, none, (.mv (.t 6)), []⟩,
 ⟨some 7, none, (.mv (.t 15)), []⟩])
 (.block 2 (.loop (.seq (.seq (.reg 0 [0, 1, 2, 3, 4, 5, 6, 7, 8, 9, 10, 11, 12, 13, 14] [[], [], [1, 0], [0, 1, 2], [2, 1, 0, 3], [2, 1, 0, 3], [5, 3, 0, 1, 2, 4], [4, 2, 1, 0, 3, 5, 6], [2, 1, 0, 3], [2, 1, 0, 3], [3, 0, 1, 2, 9], [9, 10, 3, 0, 1, 2, 8], [8, 2, 1, 0, 3, 10, 9, 11], [11, 9, 10, 8, 12, 6, 5, 3, 0, 1, 2, 4, 7], [7, 4, 5, 6, 12, 8, 10, 9, 11, 13, 2, 1, 0, 3]] [⟨some 16, none, (.mv (.t 7)), []⟩,
 ⟨some 17, none, (.mv (.t 1)), []⟩,
 ⟨some 18, none, (.bin .gtr .num (.t 16) (.t 17)), []⟩,
 ⟨some 19, none, (.mv (.t 18)), []⟩,
 ⟨some 20, some (19, true), (.mv (.t 0)), []⟩,
 ⟨some 21, some (19, true), (.mv (.t 7)), []⟩,
 ⟨some 22, some (19, true), (.ia none 1 (.t 20) (.t 21)), []⟩,
 ⟨some 23, some (19, true), (.ld none (.t 22)), []⟩,
 ⟨some 24, some (19, true), (.mv (.t 0)), []⟩,
 ⟨some 25, some (19, true), (.mv (.t 7)), []⟩,
 ⟨some 26, some (19, true), (.bin .sub .num (.t 25) (.c (.int .i64 1))), []⟩,
 ⟨some 27, some (19, true), (.ia none 1 (.t 24) (.t 26)), []⟩,
 ⟨some 28, some (19, true), (.ld none (.t 27)), []⟩,
 ⟨some 29, some (19, true), (.call 151 [(.t 23), (.t 28)]), []⟩,
 ⟨some 30, none, (.pick (.t 19) (.t 29) (.c (.bool false))), []⟩])
 (.cond (.t 30) .skip
 (.exit 2)))
 (.seq (.block 3 (.reg 0 [0, 1, 2, 3, 4, 5, 6, 7, 8, 9, 10, 11, 12, 13, 14, 15, 16, 17] [[], [], [], [], [3], [], [], [6], [6, 7, 5], [5, 7, 6, 8], [], [], [11, 10], [10, 11, 12], [12, 11, 10, 13, 9, 8, 7, 6, 5, 1, 0], [0, 1, 5, 6, 7, 8, 9, 13, 10, 11, 12, 14], [15, 14, 13, 12, 11, 10, 9, 8, 7, 6, 5, 1, 0, 3, 4, 2], [2, 4, 3, 0, 1, 5, 6, 7, 8, 9, 10, 11, 12, 13, 14, 15, 16]] [⟨some 33, none, (.mv (.t 0)), []⟩,
 ⟨some 34, none, (.mv (.t 7)), []⟩,
 ⟨some 35, none, (.mv (.t 0)), []⟩,
 ⟨some 36, none, (.mv (.t 7)), []⟩,
 ⟨some 37, none, (.bin .sub .num (.t 36) (.c (.int .i64 1))), []⟩,
 ⟨some 38, none, (.mv (.t 0)), []⟩,
 ⟨some 39, none, (.mv (.t 7)), []⟩,
 ⟨some 40, none, (.bin .sub .num (.t 39) (.c (.int .i64 1))), []⟩,
 ⟨some 41, none, (.ia none 1 (.t 38) (.t 40)), []⟩,
 ⟨some 42, none, (.ld none (.t 41)), []⟩,
 ⟨some 43, none, (.mv (.t 0)), []⟩,
 ⟨some 44, none, (.mv (.t 7)), []⟩,
 ⟨some 45, none, (.ia none 1 (.t 43) (.t 44)), []⟩,
 ⟨some 46, none, (.ld none (.t 45)), []⟩,
 ⟨some 47, none, (.ia none 1 (.t 33) (.t 34)), []⟩,
 ⟨none, none, (.st 1 (.t 47) (.t 42)), []⟩,
 ⟨some 48, none, (.ia none 1 (.t 35) (.t 37)), []⟩,
 ⟨none, none, (.st 1 (.t 48) (.t 46)), []⟩]))
 (.reg 0 [] [] [⟨some 31, none, (.mv (.t 7)), []⟩,
 ⟨some 32, none, (.bin .sub .num (.t 31) (.c (.int .i64 1))), []⟩,
 ⟨some 7, none, (.mv (.t 32)), []⟩])))))))
 (.reg 0 [] [] [⟨some 13, none, (.mv (.t 6)), []⟩,
 ⟨some 14, none, (.bin .add .num (.t 13) (.c (.int .i64 1))), []⟩,
 ⟨some 6, none, (.mv (.t 14)), []⟩]))))))
def zf145 : IFun := ⟨49, [], zc145⟩
theorem zok145 : okFun Tryz.prog 145 zf145 = true := by kernel_rfl
def zc146 : ICode :=
 (.seq (.reg 0 [] [] [⟨some 11, none, (.mv (.t 1)), []⟩,
 ⟨some 6, none, (.mv (.t 11)), []⟩])
 (.seq (.reg 0 [] [] [⟨some 7, none, (.mv (.c (.int .i64 0))), []⟩])
 (.seq (.reg 0 [] [] [⟨some 12, none, (.mv (.t 2)), []⟩,
 ⟨some 13, none, (.mv (.t 1)), []⟩,
 ⟨some 14, none, (.bin .sub .num (.t 12) (.t 13)), []⟩,
 ⟨some 8, none, (.mv (.t 14)), []⟩])
 (.seq (.seq (.reg 0 [] [] [⟨some 15, none, (.mv (.t 8)), []⟩,
 ⟨some 16, none, (.bin .sub .num (.t 15) (.c (.int .i64 1))), []⟩,
 ⟨some 17, none, (.bin .quo .num (.t 16) (.c (.int .i64 2))), []⟩,
 ⟨some 9, none, (.mv (.t 17)), []⟩])
 (.block 0 (.loop (.seq (.seq (.reg 0 [] [] [⟨some 18, none, (.mv (.t 9)), []⟩,
 ⟨some 19, none, (.bin .geq .num (.t 18) (.c (.int .i64 0))), []⟩])
 (.cond (.t 19) .skip
 (.exit 0)))
 (.seq (.block 1 (.reg 0 [] [] [⟨some 22, none, (.mv (.t 0)), []⟩,
 ⟨some 23, none, (.mv (.t 9)), []⟩,
 ⟨some 24, none, (.mv (.t 8)), []⟩,
 ⟨some 25, none, (.mv (.t 6)), []⟩,
 ⟨some 26, none, (.call 201 [(.t 22), (.t 23), (.t 24), (.t 25)]), []⟩]))
 (.reg 0 [] [] [⟨some 20, none, (.mv (.t 9)), []⟩,
 ⟨some 21, none, (.bin .sub .num (.t 20) (.c (.int .i64 1))), []⟩,
 ⟨some 9, none, (.mv (.t 21)), []⟩]))))))
 (.seq (.reg 0 [] [] [⟨some 27, none, (.mv (.t 8)), []⟩,
 ⟨some 28, none, (.bin .sub .num (.t 27) (.c (.int .i64 1))), []⟩,
 ⟨some 10, none, (.mv (.t 28)), []⟩])
 (.block 2 (.loop (.seq (.seq (.reg 0 [] [] [⟨some 29, none, (.mv (.t 10)), []⟩,
 ⟨some 30, none, (.bin .geq .num (.t 29) (.c (.int .i64 0))), []⟩])
 (.cond (.t 30) .skip
 (.exit 2)))
 (.seq (.block 3 (.seq (.reg 0 [0, 1, 2, 3, 4, 5, 6, 7, 8, 9, 10, 11, 12, 13, 14, 15, 16, 17, 18, 19] [[], [], [], [], [], [4, 3], [], [], [], [8, 7], [7, 8, 9, 6], [6, 9, 8, 7, 10], [], [], [13, 12], [12, 13, 14], [14, 13, 12, 15, 11, 10, 9, 8, 7, 6, 1, 0], [0, 1, 6, 7, 8, 9, 10, 11, 15, 12, 13, 14, 16], [17, 16, 15, 14, 13, 12, 11, 10, 9, 8, 7, 6, 1, 0, 3, 4, 5, 2], [2, 5, 4, 3, 0, 1, 6, 7, 8, 9, 10, 11, 12, 13, 14, 15, 16, 17, 18]] [⟨some 33, none, (.mv (.t 0)), []⟩,
 ⟨some 34, none, (.mv (.t 6)), []⟩,
 ⟨some 35, none, (.mv (.t 0)), []⟩,
 ⟨some 36, none, (.mv (.t 6)), []⟩,
 ⟨some 37, none, (.mv (.t 10)), []⟩,
 ⟨some 38, none, (.bin .add .num (.t 36) (.t 37)), []⟩,
 ⟨some 39, none, (.mv (.t 0)), []⟩,
 ⟨some 40, none, (.mv (.t 6)), []⟩,
 ⟨some 41, none, (.mv (.t 10)), []⟩,
 ⟨some 42, none, (.bin .add .num (.t 40) (.t 41)), []⟩,
 ⟨some 43, none, (.ia none 1 (.t 39) (.t 42)), []⟩,
 ⟨some 44, none, (.ld none (.t 43)), []⟩,
 ⟨some 45, none, (.mv (.t 0)), []⟩,
 ⟨some 46, none, (.mv (.t 6)), []⟩,
 ⟨some 47, none, (.ia none 1 (.t 45) (.t 46)), []⟩,
 ⟨some 48, none, (.ld none (.t 47)), []⟩,
 ⟨some 49, none, (.ia none 1 (.t 33) (.t 34)), []⟩,
 ⟨none, none, (.st 1 (.t 49) (.t 44)), []⟩,
 ⟨some 50, none, (.ia none 1 (.t 35) (.t 38)), []⟩,
 ⟨none, none, (.st 1 (.t 50) (.t 48)), []⟩])
 (.reg 0 [] [] [⟨some 51, none, (.mv (.t 0)), []⟩,
 ⟨some 52, none, (.mv (.t 7)), []⟩,
 ⟨some 53, none, (.mv (.t 10)), []⟩,
 ⟨some 54, none, (.mv (.t 6)), []⟩,
 ⟨some 55, none, (.call 201 [(.t 51), (.t 52), (.t 53), (.t 54)]), []⟩])))
 (.reg 0 [] [] [⟨some 31, none, (.mv (.t 10)), []⟩,
 ⟨some 32, none, (.bin .sub .num (.t 31) (.c (.int .i64 1))), []⟩,
 ⟨some 10, none, (.mv (.t 32)), []⟩]))))))))))
def zf146 : IFun := ⟨56, [], zc146⟩
theorem zok146 : okFun Tryz.prog 146 zf146 = true := by kernel_rfl
def zc147 : ICode :=
 (.seq (.reg 0 [] [] [⟨some 11, none, (.mv (.t 2)), []⟩,
 ⟨some 12, none, (.mv (.t 1)), []⟩,
 ⟨some 13, none, (.bin .sub .num (.t 11) (.t 12)), []⟩,
 ⟨some 6, none, (.mv (.t 13)), []⟩])
 (.seq (.reg 0 [] [] [⟨some 14, none, (.mv (.t 6)), []⟩,
 ⟨some 15, none, (.bin .geq .num (.t 14) (.c (.int .i64 8))), []⟩])
 (.cond (.t 15) (.seq (.reg 0 [] [] [⟨some 16, none, (.mv (.t 6)), []⟩,
 ⟨some 17, none, (.cv none (.toInt .u64) (.t 16)), []⟩,
 ⟨some 7, none, (.al none 229 [(.int .u64 0)]), []⟩,
 ⟨none, none, (.st 1 (.t 7) (.t 17)), []⟩])
 (.seq (.reg 0 [] [] [⟨some 18, none, (.mv (.t 6)), []⟩,
 ⟨some 19, none, (.call 202 [(.t 18)]), []⟩,
 ⟨some 8, none, (.mv (.t 19)), []⟩])
 (.seq (.reg 0 [] [] [⟨some 20, none, (.mv (.t 1)), []⟩,
 ⟨some 21, none, (.mv (.t 6)), []⟩,
 ⟨some 22, none, (.bin .quo .num (.t 21) (.c (.int .i64 4))), []⟩,
 ⟨some 23, none, (.bin .mul .num (.t 22) (.c (.int .i64 2))), []⟩,
 ⟨some 24, none, (.bin .add .num (.t 20) (.t 23)), []⟩,
 ⟨some 25, none, (.bin .sub .num (.t 24) (.c (.int .i64 1))), []⟩,
 ⟨some 9, none, (.mv (.t 25)), []⟩])
 (.block 0 (.loop (.seq (.seq (.reg 0 [] [] [⟨some 26, none, (.mv (.t 9)), []⟩,
 ⟨some 27, none, (.mv (.t 1)), []⟩,
 ⟨some 28, none, (.mv (.t 6)), []⟩,
 ⟨some 29, none, (.bin .quo .num (.t 28) (.c (.int .i64 4))), []⟩,
 ⟨some 30, none, (.bin .mul .num (.t 29) (.c (.int .i64 2))), []⟩,
 ⟨some 31, none, (.bin .add .num (.t 27) (.t 30)), []⟩,
 ⟨some 32, none, (.bin .add .num (.t 31) (.c (.int .i64 1))), []⟩,
 ⟨some 33, none, (.bin .leq .num (.t 26) (.t 32)), []⟩])
 (.cond (.t 33) .skip
 (.exit 0)))
 (.seq (.block 1 (.seq (.reg 0 [] [] [⟨some 36, none, (.call 203 [(.t 7)]), []⟩,
 ⟨some 37, none, (.mv (.t 8)), []⟩,
 ⟨some 38, none, (.bin .sub .num (.t 37) (.c (.int .u64 1))), []⟩,
 ⟨some 39, none, (.bin .and .num (.t 36) (.t 38)), []⟩,
 ⟨some 40, none, (.cv none (.toInt .i64) (.t 39)), []⟩,
 ⟨some 10, none, (.mv (.t 40)), []⟩])
 (.seq (.seq (.reg 0 [] [] [⟨some 41, none, (.mv (.t 10)), []⟩,
 ⟨some 42, none, (.mv (.t 6)), []⟩,
 ⟨some 43, none, (.bin .geq .num (.t 41) (.t 42)), []⟩])
 (.cond (.t 43) (.reg 0 [] [] [⟨some 44, none, (.mv (.t 10)), []⟩,
 ⟨some 45, none, (.mv (.t 6)), []⟩,
 ⟨some 46, none, (.bin .sub .num (.t 44) (.t 45)), []⟩,
 ⟨some 10, none, (.mv (.t 46)), []⟩])
 .skip))
 (.reg 0 [0, 1, 2, 3, 4, 5, 6, 7, 8, 9, 10, 11, 12, 13, 14, 15, 16, 17, 18, 19] [[], [], [], [], [], [4, 3], [], [], [], [8, 7], [7, 8, 9, 6], [6, 9, 8, 7, 10], [], [], [13, 12], [12, 13, 14], [14, 13, 12, 15, 11, 10, 9, 8, 7, 6, 1, 0], [0, 1, 6, 7, 8, 9, 10, 11, 15, 12, 13, 14, 16], [17, 16, 15, 14, 13, 12, 11, 10, 9, 8, 7, 6, 1, 0, 3, 4, 5, 2], [2, 5, 4, 3, 0, 1, 6, 7, 8, 9, 10, 11, 12, 13, 14, 15, 16, 17, 18]] [⟨some 47, none, (.mv (.t 0)), []⟩,
 ⟨some 48, none, (.mv (.t 9)), []⟩,
 ⟨some 49, none, (.mv (.t 0)), []⟩,
 ⟨some 50, none, (.mv (.t 1)), []⟩,
 ⟨some 51, none, (.mv (.t 10)), []⟩,
 ⟨some 52, none, (.bin .add .num (.t 50) (.t 51)), []⟩,
 ⟨some 53, none, (.mv (.t 0)), []⟩,
 ⟨some 54, none, (.mv (.t 1)), []⟩,
 ⟨some 55, none, (.mv (.t 10)), []⟩,
 ⟨some 56, none, (.bin .add .num (.t 54) (.t 55)), []⟩,
 ⟨some 57, none, (.ia none 1 (.t 53) (.t 56)), []⟩,
 ⟨some 58, none, (.ld none (.t 57)), []⟩,
 ⟨some 59, none, (.mv (.t 0)), []⟩,
 ⟨some 60, none, (.mv (.t 9)), []⟩,
 ⟨some 61, none, (.ia none 1 (.t 59) (.t 60)), []⟩,
 ⟨some 62, none, (.ld none (.t 61)), []⟩,
 ⟨some 63, none, (.ia none 1 (.t 47) (.t 48)), []⟩,
 ⟨none, none, (.st 1 (.t 63) (.t 58)), []⟩,
 ⟨some 64, none, (.ia none 1 (.t 49) (.t 52)), []⟩,
 ⟨none, none, (.st 1 (.t 64) (.t 62)), []⟩]))))
 (.reg 0 [] [] [⟨some 34, none, (.mv (.t 9)), []⟩,
 ⟨some 35, none, (.bin .add .num (.t 34) (.c (.int .i64 1))), []⟩,
 ⟨some 9, none, (.mv (.t 35)), []⟩]))))))))
 .skip)))
def zf147 : IFun := ⟨65, [], zc147⟩
theorem zok147 : okFun Tryz.prog 147 zf147 = true := by kernel_rfl
def zc148 : ICode :=
 (.seq (.reg 0 [] [] [⟨some 6, none, (.mv (.c (.int .i64 0))), []⟩,
 ⟨some 7, none, (.mv (.c (.int .i64 0))), []⟩])
 (.seq (.reg 0 [] [] [⟨some 13, none, (.mv (.t 2)), []⟩,
 ⟨some 14, none, (.mv (.t 1)), []⟩,
 ⟨some 15, none, (.bin .sub .num (.t 13) (.t 14)), []⟩,
 ⟨some 8, none, (.mv (.t 15)), []⟩])
 (.seq (.reg 0 [] [] [⟨some 9, none, (.al none 3 [(.int .i64 0)]), []⟩])
 (.seq (.reg 0 [] [] [⟨some 16, none, (.mv (.t 1)), []⟩,
 ⟨some 17, none, (.mv (.t 8)), []⟩,
 ⟨some 18, none, (.bin .quo .num (.t 17) (.c (.int .i64 4))), []⟩,
 ⟨some 19, none, (.bin .mul .num (.t 18) (.c (.int .i64 1))), []⟩,
 ⟨some 20, none, (.bin .add .num (.t 16) (.t 19)), []⟩,
 ⟨some 10, none, (.mv (.t 20)), []⟩])
 (.seq (.reg 0 [] [] [⟨some 21, none, (.mv (.t 1)), []⟩,
 ⟨some 22, none, (.mv (.t 8)), []⟩,
 ⟨some 23, none, (.bin .quo .num (.t 22) (.c (.int .i64 4))), []⟩,
 ⟨some 24, none, (.bin .mul .num (.t 23) (.c (.int .i64 2))), []⟩,
 ⟨some 25, none, (.bin .add .num (.t 21) (.t 24)), []⟩,
 ⟨some 11, none, (.mv (.t 25)), []⟩])
 (.seq (.reg 0 [] [] [⟨some 26, none, (.mv (.t 1)), []⟩,
 ⟨some 27, none, (.mv (.t 8)), []⟩,
 ⟨some 28, none, (.bin .quo .num (.t 27) (.c (.int .i64 4))), []⟩,
 ⟨some 29, none, (.bin .mul .num (.t 28) (.c (.int .i64 3))), []⟩,
 ⟨some 30, none, (.bin .add .num (.t 26) (.t 29)), []⟩,
 ⟨some 12, none, (.mv (.t 30)), []⟩])
 (.seq (.seq (.reg 0 [] [] [⟨some 31, none, (.mv (.t 8)), []⟩,
 ⟨some 32, none, (.bin .geq .num (.t 31) (.c (.int .i64 8))), []⟩])
 (.cond (.t 32) (.seq (.seq (.reg 0 [] [] [⟨some 33, none, (.mv (.t 8)), []⟩,
 ⟨some 34, none, (.bin .geq .num (.t 33) (.c (.int .i64 50))), []⟩])
 (.cond (.t 34) (.seq (.reg 0 [] [] [⟨some 35, none, (.mv (.t 0)), []⟩,
 ⟨some 36, none, (.mv (.t 10)), []⟩,
 ⟨some 37, none, (.call 204 [(.t 35), (.t 36), (.t 9)]), []⟩,
 ⟨some 10, none, (.mv (.t 37)), []⟩])
 (.seq (.reg 0 [] [] [⟨some 38, none, (.mv (.t 0)), []⟩,
 ⟨some 39, none, (.mv (.t 11)), []⟩,
 ⟨some 40, none, (.call 204 [(.t 38), (.t 39), (.t 9)]), []⟩,
 ⟨some 11, none, (.mv (.t 40)), []⟩])
 (.reg 0 [] [] [⟨some 41, none, (.mv (.t 0)), []⟩,
 ⟨some 42, none, (.mv (.t 12)), []⟩,
 ⟨some 43, none, (.call 204 [(.t 41), (.t 42), (.t 9)]), []⟩,
 ⟨some 12, none, (.mv (.t 43)), []⟩])))
 .skip))
 (.reg 0 [] [] [⟨some 44, none, (.mv (.t 0)), []⟩,
 ⟨some 45, none, (.mv (.t 10)), []⟩,
 ⟨some 46, none, (.mv (.t 11)), []⟩,
 ⟨some 47, none, (.mv (.t 12)), []⟩,
 ⟨some 48, none, (.call 205 [(.t 44), (.t 45), (.t 46), (.t 47), (.t 9)]), []⟩,
 ⟨some 11, none, (.mv (.t 48)), []⟩]))
 .skip))
 (.seq (.reg 0 [] [] [⟨some 49, none, (.ld none (.t 9)), []⟩])
 (.block 0 (.seq (.reg 0 [] [] [⟨some 52, none, (.bin .eql .num (.t 49) (.c (.int .i64 0))), []⟩,
 ⟨some 51, none, (.mv (.t 52)), []⟩])
 (.cond (.t 51) (.seq (.reg 0 [] [] [⟨some 53, none, (.mv (.t 11)), []⟩,
 ⟨some 6, none, (.mv (.t 53)), []⟩,
 ⟨some 7, none, (.mv (.c (.int .i64 1))), []⟩])
 .ret)
 (.seq (.reg 0 [] [] [⟨some 55, none, (.bin .eql .num (.t 49) (.c (.int .i64 12))), []⟩,
 ⟨some 54, none, (.mv (.t 55)), []⟩])
 (.cond (.t 54) (.seq (.reg 0 [] [] [⟨some 56, none, (.mv (.t 11)), []⟩,
 ⟨some 6, none, (.mv (.t 56)), []⟩,
 ⟨some 7, none, (.mv (.c (.int .i64 2))), []⟩])
 .ret)
 (.seq (.reg 0 [] [] [⟨some 50, none, (.mv (.t 11)), []⟩,
 ⟨some 6, none, (.mv (.t 50)), []⟩,
 ⟨some 7, none, (.mv (.c (.int .i64 0))), []⟩])
 .ret))))))))))))))
def zf148 : IFun := ⟨57, [(.tmp 6), (.tmp 7)], zc148⟩
theorem zok148 : okFun Tryz.prog 148 zf148 = true := by kernel_rfl
def zc149 : ICode :=
 (.seq (.reg 0 [] [] [⟨some 8, none, (.mv (.t 1)), []⟩,
 ⟨some 6, none, (.mv (.t 8)), []⟩])
 (.seq (.reg 0 [] [] [⟨some 9, none, (.mv (.t 2)), []⟩,
 ⟨some 10, none, (.bin .sub .num (.t 9) (.c (.int .i64 1))), []⟩,
 ⟨some 7, none, (.mv (.t 10)), []⟩])
 (.block 0 (.loop (.seq (.seq (.reg 0 [] [] [⟨some 11, none, (.mv (.t 6)), []⟩,
 ⟨some 12, none, (.mv (.t 7)), []⟩,
 ⟨some 13, none, (.bin .lss .num (.t 11) (.t 12)), []⟩])
 (.cond (.t 13) .skip
 (.exit 0)))
 (.block 1 (.seq (.reg 0 [0, 1, 2, 3, 4, 5, 6, 7, 8, 9, 10, 11, 12, 13, 14, 15] [[], [], [], [], [], [], [5, 4], [4, 5, 6], [], [], [9, 8], [8, 9, 10], [10, 9, 8, 11, 7, 6, 5, 4, 1, 0], [0, 1, 4, 5, 6, 7, 11, 8, 9, 10, 12], [13, 12, 11, 10, 9, 8, 7, 6, 5, 4, 1, 0, 3, 2], [2, 3, 0, 1, 4, 5, 6, 7, 8, 9, 10, 11, 12, 13, 14]] [⟨some 14, none, (.mv (.t 0)), []⟩,
 ⟨some 15, none, (.mv (.t 6)), []⟩,
 ⟨some 16, none, (.mv (.t 0)), []⟩,
 ⟨some 17, none, (.mv (.t 7)), []⟩,
 ⟨some 18, none, (.mv (.t 0)), []⟩,
 ⟨some 19, none, (.mv (.t 7)), []⟩,
 ⟨some 20, none, (.ia none 1 (.t 18) (.t 19)), []⟩,
 ⟨some 21, none, (.ld none (.t 20)), []⟩,
 ⟨some 22, none, (.mv (.t 0)), []⟩,
 ⟨some 23, none, (.mv (.t 6)), []⟩,
 ⟨some 24, none, (.ia none 1 (.t 22) (.t 23)), []⟩,
 ⟨some 25, none, (.ld none (.t 24)), []⟩,
 ⟨some 26, none, (.ia none 1 (.t 14) (.t 15)), []⟩,
 ⟨none, none, (.st 1 (.t 26) (.t 21)), []⟩,
 ⟨some 27, none, (.ia none 1 (.t 16) (.t 17)), []⟩,
 ⟨none, none, (.st 1 (.t 27) (.t 25)), []⟩])
 (.seq (.reg 0 [] [] [⟨some 28, none, (.mv (.t 6)), []⟩,
 ⟨some 29, none, (.bin .add .num (.t 28) (.c (.int .i64 1))), []⟩,
 ⟨some 6, none, (.mv (.t 29)), []⟩])
 (.reg 0 [] [] [⟨some 30, none, (.mv (.t 7)), []⟩,
 ⟨some 31, none, (.bin .sub .num (.t 30) (.c (.int .i64 1))), []⟩,
 ⟨some 7, none, (.mv (.t 31)), []⟩])))))))))
def zf149 : IFun := ⟨32, [], zc149⟩
theorem zok149 : okFun Tryz.prog 149 zf149 = true := by kernel_rfl
def zc150 : ICode :=
 (.seq (.reg 0 [] [] [⟨some 6, none, (.mv (.c (.bool false))), []⟩])
 (.seq (.reg 0 [] [] [⟨some 11, none, (.mv (.t 1)), []⟩,
 ⟨some 12, none, (.bin .add .num (.t 11) (.c (.int .i64 1))), []⟩,
 ⟨some 7, none, (.mv (.t 12)), []⟩])
 (.seq (.seq (.reg 0 [] [] [⟨some 8, none, (.mv (.c (.int .i64 0))), []⟩])
 (.block 0 (.loop (.seq (.seq (.reg 0 [] [] [⟨some 13, none, (.mv (.t 8)), []⟩,
 ⟨some 14, none, (.bin .lss .num (.t 13) (.c (.int .i64 5))), []⟩])
 (.cond (.t 14) .skip
 (.exit 0)))
 (.seq (.block 1 (.seq (.block 2 (.loop (.seq (.seq (.reg 0 [0, 1, 2, 3, 4, 5, 6, 7, 8, 9, 10, 11, 12, 13, 14, 15] [[], [], [1, 0], [0, 1, 2], [2, 1, 0, 3], [2, 1, 0, 3], [5, 3, 0, 1, 2, 4], [4, 2, 1, 0, 3, 5, 6], [2, 1, 0, 3], [2, 1, 0, 3], [3, 0, 1, 2, 9], [9, 10, 3, 0, 1, 2, 8], [8, 2, 1, 0, 3, 10, 9, 11], [11, 9, 10, 8, 12, 6, 5, 3, 0, 1, 2, 4, 7], [7, 4, 2, 1, 0, 3, 5, 6, 12, 8, 10, 9, 11, 13], [13, 11, 9, 10, 8, 12, 6, 5, 4, 7, 14, 2, 1, 0, 3]] [⟨some 17, none, (.mv (.t 7)), []⟩,
 ⟨some 18, none, (.mv (.t 2)), []⟩,
 ⟨some 19, none, (.bin .lss .num (.t 17) (.t 18)), []⟩,
 ⟨some 20, none, (.mv (.t 19)), []⟩,
 ⟨some 21, some (20, true), (.mv (.t 0)), []⟩,
 ⟨some 22, some (20, true), (.mv (.t 7)), []⟩,
 ⟨some 23, some (20, true), (.ia none 1 (.t 21) (.t 22)), []⟩,
 ⟨some 24, some (20, true), (.ld none (.t 23)), []⟩,
 ⟨some 25, some (20, true), (.mv (.t 0)), []⟩,
 ⟨some 26, some (20, true), (.mv (.t 7)), []⟩,
 ⟨some 27, some (20, true), (.bin .sub .num (.t 26) (.c (.int .i64 1))), []⟩,
 ⟨some 28, some (20, true), (.ia none 1 (.t 25) (.t 27)), []⟩,
 ⟨some 29, some (20, true), (.ld none (.t 28)), []⟩,
 ⟨some 30, some (20, true), (.call 151 [(.t 24), (.t 29)]), []⟩,
 ⟨some 31, some (20, true), (.un .not (.t 30)), []⟩,
 ⟨some 32, none, (.pick (.t 20) (.t 31) (.c (.bool false))), []⟩])
 (.cond (.t 32) .skip
 (.exit 2)))
 (.block 3 (.reg 0 [] [] [⟨some 33, none, (.mv (.t 7)), []⟩,
 ⟨some 34, none, (.bin .add .num (.t 33) (.c (.int .i64 1))), []⟩,
 ⟨some 7, none, (.mv (.t 34)), []⟩])))))
 (.seq (.seq (.reg 0 [] [] [⟨some 35, none, (.mv (.t 7)), []⟩,
 ⟨some 36, none, (.mv (.t 2)), []⟩,
 ⟨some 37, none, (.bin .eql .num (.t 35) (.t 36)), []⟩])
 (.cond (.t 37) (.seq (.reg 0 [] [] [⟨some 6, none, (.mv (.c (.bool true))), []⟩])
 .ret)
 .skip))
 (.seq (.seq (.reg 0 [] [] [⟨some 38, none, (.mv (.t 2)), []⟩,
 ⟨some 39, none, (.mv (.t 1)), []⟩,
 ⟨some 40, none, (.bin .sub .num (.t 38) (.t 39)), []⟩,
 ⟨some 41, none, (.bin .lss .num (.t 40) (.c (.int .i64 50))), []⟩])
 (.cond (.t 41) (.seq (.reg 0 [] [] [⟨some 6, none, (.mv (.c (.bool false))), []⟩])
 .ret)
 .skip))
 (.seq (.reg 0 [0, 1, 2, 3, 4, 5, 6, 7, 8, 9, 10, 11, 12, 13, 14, 15, 16, 17] [[], [], [], [], [3], [], [], [6], [6, 7, 5], [5, 7, 6, 8], [], [], [11, 10], [10, 11, 12], [12, 11, 10, 13, 9, 8, 7, 6, 5, 1, 0], [0, 1, 5, 6, 7, 8, 9, 13, 10, 11, 12, 14], [15, 14, 13, 12, 11, 10, 9, 8, 7, 6, 5, 1, 0, 3, 4, 2], [2, 4, 3, 0, 1, 5, 6, 7, 8, 9, 10, 11, 12, 13, 14, 15, 16]] [⟨some 42, none, (.mv (.t 0)), []⟩,
 ⟨some 43, none, (.mv (.t 7)), []⟩,
 ⟨some 44, none, (.mv (.t 0)), []⟩,
 ⟨some 45, none, (.mv (.t 7)), []⟩,
 ⟨some 46, none, (.bin .sub .num (.t 45) (.c (.int .i64 1))), []⟩,
 ⟨some 47, none, (.mv (.t 0)), []⟩,
 ⟨some 48, none, (.mv (.t 7)), []⟩,
 ⟨some 49, none, (.bin .sub .num (.t 48) (.c (.int .i64 1))), []⟩,
 ⟨some 50, none, (.ia none 1 (.t 47) (.t 49)), []⟩,
 ⟨some 51, none, (.ld none (.t 50)), []⟩,
 ⟨some 52, none, (.mv (.t 0)), []⟩,
 ⟨some 53, none, (.mv (.t 7)), []⟩,
 ⟨some 54, none, (.ia none 1 (.t 52) (.t 53)), []⟩,
 ⟨some 55, none, (.ld none (.t 54)), []⟩,
 ⟨some 56, none, (.ia none 1 (.t 42) (.t 43)), []⟩,
 ⟨none, none, (.st 1 (.t 56) (.t 51)), []⟩,
 ⟨some 57, none, (.ia none 1 (.t 44) (.t 46)), []⟩,
 ⟨none, none, (.st 1 (.t 57) (.t 55)), []⟩])
 (.seq (.seq (.reg 0 [] [] [⟨some 58, none, (.mv (.t 7)), []⟩,
 ⟨some 59, none, (.mv (.t 1)), []⟩,
 ⟨some 60, none, (.bin .sub .num (.t 58) (.t 59)), []⟩,
 ⟨some 61, none, (.bin .geq .num (.t 60) (.c (.int .i64 2))), []⟩])
 (.cond (.t 61) (.seq (.reg 0 [] [] [⟨some 62, none, (.mv (.t 7)), []⟩,
 ⟨some 63, none, (.bin .sub .num (.t 62) (.c (.int .i64 1))), []⟩,
 ⟨some 9, none, (.mv (.t 63)), []⟩])
 (.block 4 (.loop (.seq (.seq (.reg 0 [] [] [⟨some 64, none, (.mv (.t 9)), []⟩,
 ⟨some 65, none, (.bin .geq .num (.t 64) (.c (.int .i64 1))), []⟩])
 (.cond (.t 65) .skip
 (.exit 4)))
 (.seq (.block 5 (.seq (.seq (.reg 0 [0, 1, 2, 3, 4, 5, 6, 7, 8, 9, 10] [[], [], [1, 0], [0, 1, 2], [], [], [5], [5, 6, 4], [4, 6, 5, 7], [7, 5, 6, 4, 8, 2, 1, 0, 3], [3, 0, 1, 2, 8, 4, 6, 5, 7, 9]] [⟨some 68, none, (.mv (.t 0)), []⟩,
 ⟨some 69, none, (.mv (.t 9)), []⟩,
 ⟨some 70, none, (.ia none 1 (.t 68) (.t 69)), []⟩,
 ⟨some 71, none, (.ld none (.t 70)), []⟩,
 ⟨some 72, none, (.mv (.t 0)), []⟩,
 ⟨some 73, none, (.mv (.t 9)), []⟩,
 ⟨some 74, none, (.bin .sub .num (.t 73) (.c (.int .i64 1))), []⟩,
 ⟨some 75, none, (.ia none 1 (.t 72) (.t 74)), []⟩,
 ⟨some 76, none, (.ld none (.t 75)), []⟩,
 ⟨some 77, none, (.call 151 [(.t 71), (.t 76)]), []⟩,
 ⟨some 78, none, (.un .not (.t 77)), []⟩])
 (.cond (.t 78) (.exit 4)
 .skip))
 (.reg 0 [0, 1, 2, 3, 4, 5, 6, 7, 8, 9, 10, 11, 12, 13, 14, 15, 16, 17] [[], [], [], [], [3], [], [], [6], [6, 7, 5], [5, 7, 6, 8], [], [], [11, 10], [10, 11, 12], [12, 11, 10, 13, 9, 8, 7, 6, 5, 1, 0], [0, 1, 5, 6, 7, 8, 9, 13, 10, 11, 12, 14], [15, 14, 13, 12, 11, 10, 9, 8, 7, 6, 5, 1, 0, 3, 4, 2], [2, 4, 3, 0, 1, 5, 6, 7, 8, 9, 10, 11, 12, 13, 14, 15, 16]] [⟨some 79, none, (.mv (.t 0)), []⟩,
 ⟨some 80, none, (.mv (.t 9)), []⟩,
 ⟨some 81, none, (.mv (.t 0)), []⟩,
 ⟨some 82, none, (.mv (.t 9)), []⟩,
 ⟨some 83, none, (.bin .sub .num (.t 82) (.c (.int .i64 1))), []⟩,
 ⟨some 84, none, (.mv (.t 0)), []⟩,
 ⟨some 85, none, (.mv (.t 9)), []⟩,
 ⟨some 86, none, (.bin .sub .num (.t 85) (.c (.int .i64 1))), []⟩,
 ⟨some 87, none, (.ia none 1 (.t 84) (.t 86)), []⟩,
 ⟨some 88, none, (.ld none (.t 87)), []⟩,
 ⟨some 89, none, (.mv (.t 0)), []⟩,
 ⟨some 90, none, (.mv (.t 9)), []⟩,
 ⟨some 91, none, (.ia none 1 (.t 89) (.t 90)), []⟩,
 ⟨some 92, none, (.ld none (.t 91)), []⟩,
 ⟨some 93, none, (.ia none 1 (.t 79) (.t 80)), []⟩,
 ⟨none, none, (.st 1 (.t 93) (.t 88)), []⟩,
 ⟨some 94, none, (.ia none 1 (.t 81) (.t 83)), []⟩,
 ⟨none, none, (.st 1 (.t 94) (.t 92)), []⟩])))
 (.reg 0 [] [] [⟨some 66, none, (.mv (.t 9)), []⟩,
 ⟨some 67, none, (.bin .sub .num (.t 66) (.c (.int .i64 1))), []⟩,
 ⟨some 9, none, (.mv (.t 67)), []⟩]))))))
 .skip))
 (.seq (.reg 0 [] [] [⟨some 95, none, (.mv (.t 2)), []⟩,
 ⟨some 96, none, (.mv (.t 7)), []⟩,
 ⟨some 97, none, (.bin .sub .num (.t 95) (.t 96)), []⟩,
 ⟨some 98, none, (.bin .geq .num (.t 97) (.c (.int .i64 2))), []⟩])
 (.cond (.t 98) (.seq (.reg 0 [] [] [⟨some 99, none, (.mv (.t 7)), []⟩,
 ⟨some 100, none, (.bin .add .num (.t 99) (.c (.int .i64 1))), []⟩,
 ⟨some 10, none, (.mv (.t 100)), []⟩])
 (.block 6 (.loop (.seq (.seq (.reg 0 [] [] [⟨some 101, none, (.mv (.t 10)), []⟩,
 ⟨some 102, none, (.mv (.t 2)), []⟩,
 ⟨some 103, none, (.bin .lss .num (.t 101) (.t 102)), []⟩])
 (.cond (.t 103) .skip
 (.exit 6)))
 (.seq (.block 7 (.seq (.seq (.reg 0 [0, 1, 2, 3, 4, 5, 6, 7, 8, 9, 10] [[], [], [1, 0], [0, 1, 2], [], [], [5], [5, 6, 4], [4, 6, 5, 7], [7, 5, 6, 4, 8, 2, 1, 0, 3], [3, 0, 1, 2, 8, 4, 6, 5, 7, 9]] [⟨some 106, none, (.mv (.t 0)), []⟩,
 ⟨some 107, none, (.mv (.t 10)), []⟩,
 ⟨some 108, none, (.ia none 1 (.t 106) (.t 107)), []⟩,
 ⟨some 109, none, (.ld none (.t 108)), []⟩,
 ⟨some 110, none, (.mv (.t 0)), []⟩,
 ⟨some 111, none, (.mv (.t 10)), []⟩,
 ⟨some 112, none, (.bin .sub .num (.t 111) (.c (.int .i64 1))), []⟩,
 ⟨some 113, none, (.ia none 1 (.t 110) (.t 112)), []⟩,
 ⟨some 114, none, (.ld none (.t 113)), []⟩,
 ⟨some 115, none, (.call 151 [(.t 109), (.t 114)]), []⟩,
 ⟨some 116, none, (.un .not (.t 115)), []⟩])
 (.cond (.t 116) (.exit 6)
 .skip))
 (.reg 0 [0, 1, 2, 3, 4, 5, 6, 7, 8, 9, 10, 11, 12, 13, 14, 15, 16, 17] [[], [], [], [], [3], [], [], [6], [6, 7, 5], [5, 7, 6, 8], [], [], [11, 10], [10, 11, 12], [12, 11, 10, 13, 9, 8, 7, 6, 5, 1, 0], [0, 1, 5, 6, 7, 8, 9, 13, 10, 11, 12, 14], [15, 14, 13, 12, 11, 10, 9, 8, 7, 6, 5, 1, 0, 3, 4, 2], [2, 4, 3, 0, 1, 5, 6, 7, 8, 9, 10, 11, 12, 13, 14, 15, 16]] [⟨some 117, none, (.mv (.t 0)), []⟩,
 ⟨some 118, none, (.mv (.t 10)), []⟩,
 ⟨some 119, none, (.mv (.t 0)), []⟩,
 ⟨some 120, none, (.mv (.t 10)), []⟩,
 ⟨some 121, none, (.bin .sub .num (.t 120) (.c (.int .i64 1))), []⟩,
 ⟨some 122, none, (.mv (.t 0)), []⟩,
 ⟨some 123, none, (.mv (.t 10)), []⟩,
 ⟨some 124, none, (.bin .sub .num (.t 123) (.c (.int .i64 1))), []⟩,
 ⟨some 125, none, (.ia none 1 (.t 122) (.t 124)), []⟩,
 ⟨some 126, none, (.ld none (.t 125)), []⟩,
 ⟨some 127, none, (.mv (.t 0)), []⟩,
 ⟨some 128, none, (.mv (.t 10)), []⟩,
 ⟨some 129, none, (.ia none 1 (.t 127) (.t 128)), []⟩,
 ⟨some 130, none, (.ld none (.t 129)), []⟩,
 ⟨some 131, none, (.ia none 1 (.t 117) (.t 118)), []⟩,
 ⟨none, none, (.st 1 (.t 131) (.t 126)), []⟩,
 ⟨some 132, none, (.ia none 1 (.t 119) (.t 121)), []⟩,
 ⟨none, none, (.st 1 (.t 132) (.t 130)), []⟩])))
 (.reg 0 [] [] [⟨some 104, none, (.mv (.t 10)), []⟩,
 ⟨some 105, none, (.bin .add .num (.t 104) (.c (.int .i64 1))), []⟩,
 ⟨some 10, none, (.mv (.t 105)), []⟩]))))))
 .skip))))))))
 (.reg 0 [] [] [⟨some 15, none, (.mv (.t 8)), []⟩,
 ⟨some 16, none, (.bin .add .num (.t 15) (.c (.int .i64 1))), []⟩,
 ⟨some 8, none, (.mv (.t 16)), []⟩]))))))
 (.seq (.reg 0 [] [] [⟨some 6, none, (.mv (.c (.bool false))), []⟩])
 .ret))))
def zf150 : IFun := ⟨133, [(.tmp 6)], zc150⟩
theorem zok150 : okFun Tryz.prog 150 zf150 = true := by kernel_rfl
def zc151 : ICode :=
 (.seq (.reg 0 [] [] [⟨some 4, none, (.mv (.c (.bool false))), []⟩])
 (.seq (.reg 0 [] [] [⟨some 5, none, (.mv (.t 0)), []⟩,
 ⟨some 6, none, (.call 206 [(.t 5)]), []⟩,
 ⟨some 7, none, (.mv (.t 6)), []⟩,
 ⟨some 8, some (7, true), (.mv (.t 1)), []⟩,
 ⟨some 9, some (7, true), (.call 206 [(.t 8)]), []⟩,
 ⟨some 10, some (7, true), (.un .not (.t 9)), []⟩,
 ⟨some 11, none, (.pick (.t 7) (.t 10) (.c (.bool false))), []⟩,
 ⟨some 12, none, (.mv (.t 11)), []⟩,
 ⟨some 13, some (12, false), (.mv (.t 0)), []⟩,
 ⟨some 14, some (12, false), (.mv (.t 1)), []⟩,
 ⟨some 15, some (12, false), (.bin .lss .num (.t 13) (.t 14)), []⟩,
 ⟨some 16, none, (.pick (.t 12) (.c (.bool true)) (.t 15)), []⟩,
 ⟨some 4, none, (.mv (.t 16)), []⟩])
 .ret))
def zf151 : IFun := ⟨17, [(.tmp 4)], zc151⟩
theorem zok151 : okFun Tryz.prog 151 zf151 = true := by kernel_rfl
def zc152 : ICode :=
 (.seq (.reg 0 [] [] [⟨some 8, none, (.mv (.c (.int .i64 0))), []⟩])
 (.seq (.reg 0 [0, 1, 2, 3, 4, 5, 6, 7, 8, 9, 10, 11, 12, 13, 14, 15] [[], [], [], [], [], [], [5, 4], [4, 5, 6], [], [], [9, 8], [8, 9, 10], [10, 9, 8, 11, 7, 6, 5, 4, 1, 0], [0, 1, 4, 5, 6, 7, 11, 8, 9, 10, 12], [13, 12, 11, 10, 9, 8, 7, 6, 5, 4, 1, 0, 3, 2], [2, 3, 0, 1, 4, 5, 6, 7, 8, 9, 10, 11, 12, 13, 14]] [⟨some 11, none, (.mv (.t 0)), []⟩,
 ⟨some 12, none, (.mv (.t 1)), []⟩,
 ⟨some 13, none, (.mv (.t 0)), []⟩,
 ⟨some 14, none, (.mv (.t 3)), []⟩,
 ⟨some 15, none, (.mv (.t 0)), []⟩,
 ⟨some 16, none, (.mv (.t 3)), []⟩,
 ⟨some 17, none, (.ia none 1 (.t 15) (.t 16)), []⟩,
 ⟨some 18, none, (.ld none (.t 17)), []⟩,
 ⟨some 19, none, (.mv (.t 0)), []⟩,
 ⟨some 20, none, (.mv (.t 1)), []⟩,
 ⟨some 21, none, (.ia none 1 (.t 19) (.t 20)), []⟩,
 ⟨some 22, none, (.ld none (.t 21)), []⟩,
 ⟨some 23, none, (.ia none 1 (.t 11) (.t 12)), []⟩,
 ⟨none, none, (.st 1 (.t 23) (.t 18)), []⟩,
 ⟨some 24, none, (.ia none 1 (.t 13) (.t 14)), []⟩,
 ⟨none, none, (.st 1 (.t 24) (.t 22)), []⟩])
 (.seq (.reg 0 [] [] [⟨some 25, none, (.mv (.t 1)), []⟩,
 ⟨some 26, none, (.bin .add .num (.t 25) (.c (.int .i64 1))), []⟩,
 ⟨some 27, none, (.mv (.t 2)), []⟩,
 ⟨some 28, none, (.bin .sub .num (.t 27) (.c (.int .i64 1))), []⟩,
 ⟨some 9, none, (.mv (.t 26)), []⟩,
 ⟨some 10, none, (.mv (.t 28)), []⟩])
 (.seq (.block 0 (.loop (.block 1 (.seq (.block 2 (.loop (.seq (.seq (.reg 0 [0, 1, 2, 3, 4, 5, 6, 7, 8, 9, 10, 11, 12, 13, 14] [[], [], [1, 0], [0, 1, 2], [2, 1, 0, 3], [2, 1, 0, 3], [5, 3, 0, 1, 2, 4], [4, 2, 1, 0, 3, 5, 6], [2, 1, 0, 3], [2, 1, 0, 3], [9, 3, 0, 1, 2, 8], [8, 2, 1, 0, 3, 9, 10], [10, 9, 8, 11, 6, 5, 3, 0, 1, 2, 4, 7], [7, 4, 2, 1, 0, 3, 5, 6, 11, 8, 9, 10, 12], [12, 10, 9, 8, 11, 6, 5, 4, 7, 13, 2, 1, 0, 3]] [⟨some 29, none, (.mv (.t 9)), []⟩,
 ⟨some 30, none, (.mv (.t 10)), []⟩,
 ⟨some 31, none, (.bin .leq .num (.t 29) (.t 30)), []⟩,
 ⟨some 32, none, (.mv (.t 31)), []⟩,
 ⟨some 33, some (32, true), (.mv (.t 0)), []⟩,
 ⟨some 34, some (32, true), (.mv (.t 1)), []⟩,
 ⟨some 35, some (32, true), (.ia none 1 (.t 33) (.t 34)), []⟩,
 ⟨some 36, some (32, true), (.ld none (.t 35)), []⟩,
 ⟨some 37, some (32, true), (.mv (.t 0)), []⟩,
 ⟨some 38, some (32, true), (.mv (.t 9)), []⟩,
 ⟨some 39, some (32, true), (.ia none 1 (.t 37) (.t 38)), []⟩,
 ⟨some 40, some (32, true), (.ld none (.t 39)), []⟩,
 ⟨some 41, some (32, true), (.call 151 [(.t 36), (.t 40)]), []⟩,
 ⟨some 42, some (32, true), (.un .not (.t 41)), []⟩,
 ⟨some 43, none, (.pick (.t 32) (.t 42) (.c (.bool false))), []⟩])
 (.cond (.t 43) .skip
 (.exit 2)))
 (.block 3 (.reg 0 [] [] [⟨some 44, none, (.mv (.t 9)), []⟩,
 ⟨some 45, none, (.bin .add .num (.t 44) (.c (.int .i64 1))), []⟩,
 ⟨some 9, none, (.mv (.t 45)), []⟩])))))
 (.seq (.block 4 (.loop (.seq (.seq (.reg 0 [0, 1, 2, 3, 4, 5, 6, 7, 8, 9, 10, 11, 12, 13] [[], [], [1, 0], [0, 1, 2], [2, 1, 0, 3], [2, 1, 0, 3], [5, 3, 0, 1, 2, 4], [4, 2, 1, 0, 3, 5, 6], [2, 1, 0, 3], [2, 1, 0, 3], [9, 3, 0, 1, 2, 8], [8, 2, 1, 0, 3, 9, 10], [10, 9, 8, 11, 6, 5, 3, 0, 1, 2, 4, 7], [7, 4, 5, 6, 11, 8, 9, 10, 12, 2, 1, 0, 3]] [⟨some 46, none, (.mv (.t 9)), []⟩,
 ⟨some 47, none, (.mv (.t 10)), []⟩,
 ⟨some 48, none, (.bin .leq .num (.t 46) (.t 47)), []⟩,
 ⟨some 49, none, (.mv (.t 48)), []⟩,
 ⟨some 50, some (49, true), (.mv (.t 0)), []⟩,
 ⟨some 51, some (49, true), (.mv (.t 1)), []⟩,
 ⟨some 52, some (49, true), (.ia none 1 (.t 50) (.t 51)), []⟩,
 ⟨some 53, some (49, true), (.ld none (.t 52)), []⟩,
 ⟨some 54, some (49, true), (.mv (.t 0)), []⟩,
 ⟨some 55, some (49, true), (.mv (.t 10)), []⟩,
 ⟨some 56, some (49, true), (.ia none 1 (.t 54) (.t 55)), []⟩,
 ⟨some 57, some (49, true), (.ld none (.t 56)), []⟩,
 ⟨some 58, some (49, true), (.call 151 [(.t 53), (.t 57)]), []⟩,
 ⟨some 59, none, (.pick (.t 49) (.t 58) (.c (.bool false))), []⟩])
 (.cond (.t 59) .skip
 (.exit 4)))
 (.block 5 (.reg 0 [] [] [⟨some 60, none, (.mv (.t 10)), []⟩,
 ⟨some 61, none, (.bin .sub .num (.t 60) (.c (.int .i64 1))), []⟩,
 ⟨some 10, none, (.mv (.t 61)), []⟩])))))
 (.seq (.seq (.reg 0 [] [] [⟨some 62, none, (.mv (.t 9)), []⟩,
 ⟨some 63, none, (.mv (.t 10)), []⟩,
 ⟨some 64, none, (.bin .gtr .num (.t 62) (.t 63)), []⟩])
 (.cond (.t 64) (.exit 0)
 .skip))
 (.seq (.reg 0 [0, 1, 2, 3, 4, 5, 6, 7, 8, 9, 10, 11, 12, 13, 14, 15] [[], [], [], [], [], [], [5, 4], [4, 5, 6], [], [], [9, 8], [8, 9, 10], [10, 9, 8, 11, 7, 6, 5, 4, 1, 0], [0, 1, 4, 5, 6, 7, 11, 8, 9, 10, 12], [13, 12, 11, 10, 9, 8, 7, 6, 5, 4, 1, 0, 3, 2], [2, 3, 0, 1, 4, 5, 6, 7, 8, 9, 10, 11, 12, 13, 14]] [⟨some 65, none, (.mv (.t 0)), []⟩,
 ⟨some 66, none, (.mv (.t 9)), []⟩,
 ⟨some 67, none, (.mv (.t 0)), []⟩,
 ⟨some 68, none, (.mv (.t 10)), []⟩,
 ⟨some 69, none, (.mv (.t 0)), []⟩,
 ⟨some 70, none, (.mv (.t 10)), []⟩,
 ⟨some 71, none, (.ia none 1 (.t 69) (.t 70)), []⟩,
 ⟨some 72, none, (.ld none (.t 71)), []⟩,
 ⟨some 73, none, (.mv (.t 0)), []⟩,
 ⟨some 74, none, (.mv (.t 9)), []⟩,
 ⟨some 75, none, (.ia none 1 (.t 73) (.t 74)), []⟩,
 ⟨some 76, none, (.ld none (.t 75)), []⟩,
 ⟨some 77, none, (.ia none 1 (.t 65) (.t 66)), []⟩,
 ⟨none, none, (.st 1 (.t 77) (.t 72)), []⟩,
 ⟨some 78, none, (.ia none 1 (.t 67) (.t 68)), []⟩,
 ⟨none, none, (.st 1 (.t 78) (.t 76)), []⟩])
 (.seq (.reg 0 [] [] [⟨some 79, none, (.mv (.t 9)), []⟩,
 ⟨some 80, none, (.bin .add .num (.t 79) (.c (.int .i64 1))), []⟩,
 ⟨some 9, none, (.mv (.t 80)), []⟩])
 (.reg 0 [] [] [⟨some 81, none, (.mv (.t 10)), []⟩,
 ⟨some 82, none, (.bin .sub .num (.t 81) (.c (.int .i64 1))), []⟩,
 ⟨some 10, none, (.mv (.t 82)), []⟩])))))))))
 (.seq (.reg 0 [] [] [⟨some 83, none, (.mv (.t 9)), []⟩,
 ⟨some 8, none, (.mv (.t 83)), []⟩])
 .ret)))))
def zf152 : IFun := ⟨84, [(.tmp 8)], zc152⟩
theorem zok152 : okFun Tryz.prog 152 zf152 = true := by kernel_rfl
def zc153 : ICode :=
 (.seq (.reg 0 [] [] [⟨some 8, none, (.mv (.c (.int .i64 0))), []⟩,
 ⟨some 9, none, (.mv (.c (.bool false))), []⟩])
 (.seq (.reg 0 [0, 1, 2, 3, 4, 5, 6, 7, 8, 9, 10, 11, 12, 13, 14, 15] [[], [], [], [], [], [], [5, 4], [4, 5, 6], [], [], [9, 8], [8, 9, 10], [10, 9, 8, 11, 7, 6, 5, 4, 1, 0], [0, 1, 4, 5, 6, 7, 11, 8, 9, 10, 12], [13, 12, 11, 10, 9, 8, 7, 6, 5, 4, 1, 0, 3, 2], [2, 3, 0, 1, 4, 5, 6, 7, 8, 9, 10, 11, 12, 13, 14]] [⟨some 12, none, (.mv (.t 0)), []⟩,
 ⟨some 13, none, (.mv (.t 1)), []⟩,
 ⟨some 14, none, (.mv (.t 0)), []⟩,
 ⟨some 15, none, (.mv (.t 3)), []⟩,
 ⟨some 16, none, (.mv (.t 0)), []⟩,
 ⟨some 17, none, (.mv (.t 3)), []⟩,
 ⟨some 18, none, (.ia none 1 (.t 16) (.t 17)), []⟩,
 ⟨some 19, none, (.ld none (.t 18)), []⟩,
 ⟨some 20, none, (.mv (.t 0)), []⟩,
 ⟨some 21, none, (.mv (.t 1)), []⟩,
 ⟨some 22, none, (.ia none 1 (.t 20) (.t 21)), []⟩,
 ⟨some 23, none, (.ld none (.t 22)), []⟩,
 ⟨some 24, none, (.ia none 1 (.t 12) (.t 13)), []⟩,
 ⟨none, none, (.st 1 (.t 24) (.t 19)), []⟩,
 ⟨some 25, none, (.ia none 1 (.t 14) (.t 15)), []⟩,
 ⟨none, none, (.st 1 (.t 25) (.t 23)), []⟩])
 (.seq (.reg 0 [] [] [⟨some 26, none, (.mv (.t 1)), []⟩,
 ⟨some 27, none, (.bin .add .num (.t 26) (.c (.int .i64 1))), []⟩,
 ⟨some 28, none, (.mv (.t 2)), []⟩,
 ⟨some 29, none, (.bin .sub .num (.t 28) (.c (.int .i64 1))), []⟩,
 ⟨some 10, none, (.mv (.t 27)), []⟩,
 ⟨some 11, none, (.mv (.t 29)), []⟩])
 (.seq (.block 0 (.loop (.seq (.seq (.reg 0 [0, 1, 2, 3, 4, 5, 6, 7, 8, 9, 10, 11, 12, 13] [[], [], [1, 0], [0, 1, 2], [2, 1, 0, 3], [2, 1, 0, 3], [5, 3, 0, 1, 2, 4], [4, 2, 1, 0, 3, 5, 6], [2, 1, 0, 3], [2, 1, 0, 3], [9, 3, 0, 1, 2, 8], [8, 2, 1, 0, 3, 9, 10], [10, 9, 8, 11, 6, 5, 3, 0, 1, 2, 4, 7], [7, 4, 5, 6, 11, 8, 9, 10, 12, 2, 1, 0, 3]] [⟨some 30, none, (.mv (.t 10)), []⟩,
 ⟨some 31, none, (.mv (.t 11)), []⟩,
 ⟨some 32, none, (.bin .leq .num (.t 30) (.t 31)), []⟩,
 ⟨some 33, none, (.mv (.t 32)), []⟩,
 ⟨some 34, some (33, true), (.mv (.t 0)), []⟩,
 ⟨some 35, some (33, true), (.mv (.t 10)), []⟩,
 ⟨some 36, some (33, true), (.ia none 1 (.t 34) (.t 35)), []⟩,
 ⟨some 37, some (33, true), (.ld none (.t 36)), []⟩,
 ⟨some 38, some (33, true), (.mv (.t 0)), []⟩,
 ⟨some 39, some (33, true), (.mv (.t 1)), []⟩,
 ⟨some 40, some (33, true), (.ia none 1 (.t 38) (.t 39)), []⟩,
 ⟨some 41, some (33, true), (.ld none (.t 40)), []⟩,
 ⟨some 42, some (33, true), (.call 151 [(.t 37), (.t 41)]), []⟩,
 ⟨some 43, none, (.pick (.t 33) (.t 42) (.c (.bool false))), []⟩])
 (.cond (.t 43) .skip
 (.exit 0)))
 (.block 1 (.reg 0 [] [] [⟨some 44, none, (.mv (.t 10)), []⟩,
 ⟨some 45, none, (.bin .add .num (.t 44) (.c (.int .i64 1))), []⟩,
 ⟨some 10, none, (.mv (.t 45)), []⟩])))))
 (.seq (.block 2 (.loop (.seq (.seq (.reg 0 [0, 1, 2, 3, 4, 5, 6, 7, 8, 9, 10, 11, 12, 13, 14] [[], [], [1, 0], [0, 1, 2], [2, 1, 0, 3], [2, 1, 0, 3], [5, 3, 0, 1, 2, 4], [4, 2, 1, 0, 3, 5, 6], [2, 1, 0, 3], [2, 1, 0, 3], [9, 3, 0, 1, 2, 8], [8, 2, 1, 0, 3, 9, 10], [10, 9, 8, 11, 6, 5, 3, 0, 1, 2, 4, 7], [7, 4, 2, 1, 0, 3, 5, 6, 11, 8, 9, 10, 12], [12, 10, 9, 8, 11, 6, 5, 4, 7, 13, 2, 1, 0, 3]] [⟨some 46, none, (.mv (.t 10)), []⟩,
 ⟨some 47, none, (.mv (.t 11)), []⟩,
 ⟨some 48, none, (.bin .leq .num (.t 46) (.t 47)), []⟩,
 ⟨some 49, none, (.mv (.t 48)), []⟩,
 ⟨some 50, some (49, true), (.mv (.t 0)), []⟩,
 ⟨some 51, some (49, true), (.mv (.t 11)), []⟩,
 ⟨some 52, some (49, true), (.ia none 1 (.t 50) (.t 51)), []⟩,
 ⟨some 53, some (49, true), (.ld none (.t 52)), []⟩,
 ⟨some 54, some (49, true), (.mv (.t 0)), []⟩,
 ⟨some 55, some (49, true), (.mv (.t 1)), []⟩,
 ⟨some 56, some (49, true), (.ia none 1 (.t 54) (.t 55)), []⟩,
 ⟨some 57, some (49, true), (.ld none (.t 56)), []⟩,
 ⟨some 58, some (49, true), (.call 151 [(.t 53), (.t 57)]), []⟩,
 ⟨some 59, some (49, true), (.un .not (.t 58)), []⟩,
 ⟨some 60, none, (.pick (.t 49) (.t 59) (.c (.bool false))), []⟩])
 (.cond (.t 60) .skip
 (.exit 2)))
 (.block 3 (.reg 0 [] [] [⟨some 61, none, (.mv (.t 11)), []⟩,
 ⟨some 62, none, (.bin .sub .num (.t 61) (.c (.int .i64 1))), []⟩,
 ⟨some 11, none, (.mv (.t 62)), []⟩])))))
 (.seq (.seq (.reg 0 [] [] [⟨some 63, none, (.mv (.t 10)), []⟩,
 ⟨some 64, none, (.mv (.t 11)), []⟩,
 ⟨some 65, none, (.bin .gtr .num (.t 63) (.t 64)), []⟩])
 (.cond (.t 65) (.seq (.reg 0 [0, 1, 2, 3, 4, 5, 6, 7, 8, 9, 10, 11, 12, 13, 14, 15] [[], [], [], [], [], [], [5, 4], [4, 5, 6], [], [], [9, 8], [8, 9, 10], [10, 9, 8, 11, 7, 6, 5, 4, 1, 0], [0, 1, 4, 5, 6, 7, 11, 8, 9, 10, 12], [13, 12, 11, 10, 9, 8, 7, 6, 5, 4, 1, 0, 3, 2], [2, 3, 0, 1, 4, 5, 6, 7, 8, 9, 10, 11, 12, 13, 14]] [⟨some 66, none, (.mv (.t 0)), []⟩,
 ⟨some 67, none, (.mv (.t 11)), []⟩,
 ⟨some 68, none, (.mv (.t 0)), []⟩,
 ⟨some 69, none, (.mv (.t 1)), []⟩,
 ⟨some 70, none, (.mv (.t 0)), []⟩,
 ⟨some 71, none, (.mv (.t 1)), []⟩,
 ⟨some 72, none, (.ia none 1 (.t 70) (.t 71)), []⟩,
 ⟨some 73, none, (.ld none (.t 72)), []⟩,
 ⟨some 74, none, (.mv (.t 0)), []⟩,
 ⟨some 75, none, (.mv (.t 11)), []⟩,
 ⟨some 76, none, (.ia none 1 (.t 74) (.t 75)), []⟩,
 ⟨some 77, none, (.ld none (.t 76)), []⟩,
 ⟨some 78, none, (.ia none 1 (.t 66) (.t 67)), []⟩,
 ⟨none, none, (.st 1 (.t 78) (.t 73)), []⟩,
 ⟨some 79, none, (.ia none 1 (.t 68) (.t 69)), []⟩,
 ⟨none, none, (.st 1 (.t 79) (.t 77)), []⟩])
 (.seq (.reg 0 [] [] [⟨some 80, none, (.mv (.t 11)), []⟩,
 ⟨some 8, none, (.mv (.t 80)), []⟩,
 ⟨some 9, none, (.mv (.c (.bool true))), []⟩])
 .ret))
 .skip))
 (.seq (.reg 0 [0, 1, 2, 3, 4, 5, 6, 7, 8, 9, 10, 11, 12, 13, 14, 15] [[], [], [], [], [], [], [5, 4], [4, 5, 6], [], [], [9, 8], [8, 9, 10], [10, 9, 8, 11, 7, 6, 5, 4, 1, 0], [0, 1, 4, 5, 6, 7, 11, 8, 9, 10, 12], [13, 12, 11, 10, 9, 8, 7, 6, 5, 4, 1, 0, 3, 2], [2, 3, 0, 1, 4, 5, 6, 7, 8, 9, 10, 11, 12, 13, 14]] [⟨some 81, none, (.mv (.t 0)), []⟩,
 ⟨some 82, none, (.mv (.t 10)), []⟩,
 ⟨some 83, none, (.mv (.t 0)), []⟩,
 ⟨some 84, none, (.mv (.t 11)), []⟩,
 ⟨some 85, none, (.mv (.t 0)), []⟩,
 ⟨some 86, none, (.mv (.t 11)), []⟩,
 ⟨some 87, none, (.ia none 1 (.t 85) (.t 86)), []⟩,
 ⟨some 88, none, (.ld none (.t 87)), []⟩,
 ⟨some 89, none, (.mv (.t 0)), []⟩,
 ⟨some 90, none, (.mv (.t 10)), []⟩,
 ⟨some 91, none, (.ia none 1 (.t 89) (.t 90)), []⟩,
 ⟨some 92, none, (.ld none (.t 91)), []⟩,
 ⟨some 93, none, (.ia none 1 (.t 81) (.t 82)), []⟩,
 ⟨none, none, (.st 1 (.t 93) (.t 88)), []⟩,
 ⟨some 94, none, (.ia none 1 (.t 83) (.t 84)), []⟩,
 ⟨none, none, (.st 1 (.t 94) (.t 92)), []⟩])
 (.seq (.reg 0 [] [] [⟨some 95, none, (.mv (.t 10)), []⟩,
 ⟨some 96, none, (.bin .add .num (.t 95) (.c (.int .i64 1))), []⟩,
 ⟨some 10, none, (.mv (.t 96)), []⟩])
 (.seq (.reg 0 [] [] [⟨some 97, none, (.mv (.t 11)), []⟩,
 ⟨some 98, none, (.bin .sub .num (.t 97) (.c (.int .i64 1))), []⟩,
 ⟨some 11, none, (.mv (.t 98)), []⟩])
 (.seq (.block 4 (.loop (.block 5 (.seq (.block 6 (.loop (.seq (.seq (.reg 0 [0, 1, 2, 3, 4, 5, 6, 7, 8, 9, 10, 11, 12, 13] [[], [], [1, 0], [0, 1, 2], [2, 1, 0, 3], [2, 1, 0, 3], [5, 3, 0, 1, 2, 4], [4, 2, 1, 0, 3, 5, 6], [2, 1, 0, 3], [2, 1, 0, 3], [9, 3, 0, 1, 2, 8], [8, 2, 1, 0, 3, 9, 10], [10, 9, 8, 11, 6, 5, 3, 0, 1, 2, 4, 7], [7, 4, 5, 6, 11, 8, 9, 10, 12, 2, 1, 0, 3]] [⟨some 99, none, (.mv (.t 10)), []⟩,
 ⟨some 100, none, (.mv (.t 11)), []⟩,
 ⟨some 101, none, (.bin .leq .num (.t 99) (.t 100)), []⟩,
 ⟨some 102, none, (.mv (.t 101)), []⟩,
 ⟨some 103, some (102, true), (.mv (.t 0)), []⟩,
 ⟨some 104, some (102, true), (.mv (.t 10)), []⟩,
 ⟨some 105, some (102, true), (.ia none 1 (.t 103) (.t 104)), []⟩,
 ⟨some 106, some (102, true), (.ld none (.t 105)), []⟩,
 ⟨some 107, some (102, true), (.mv (.t 0)), []⟩,
 ⟨some 108, some (102, true), (.mv (.t 1)), []⟩,
 ⟨some 109, some (102, true), (.ia none 1 (.t 107) (.t 108)), []⟩,
 ⟨some 110, some (102, true), (.ld none (.t 109)), []⟩,
 ⟨some 111, some (102, true), (.call 151 [(.t 106), (.t 110)]), []⟩,
 ⟨some 112, none, (.pick (.t 102) (.t 111) (.c (.bool false))), []⟩])
 (.cond (.t 112) .skip
 (.exit 6)))
 (.block 7 (.reg 0 [] [] [⟨some 113, none, (.mv (.t 10)), []⟩,
 ⟨some 114, none, (.bin .add .num (.t 113) (.c (.int .i64 1))), []⟩,
 ⟨some 10, none, (.mv (.t 114)), []⟩])))))
 (.seq (.block 8 (.loop (.seq (.seq (.reg 0 [0, 1, 2, 3, 4, 5, 6, 7, 8, 9, 10, 11, 12, 13, 14] [[], [], [1, 0], [0, 1, 2], [2, 1, 0, 3], [2, 1, 0, 3], [5, 3, 0, 1, 2, 4], [4, 2, 1, 0, 3, 5, 6], [2, 1, 0, 3], [2, 1, 0, 3], [9, 3, 0, 1, 2, 8], [8, 2, 1, 0, 3, 9, 10], [10, 9, 8, 11, 6, 5, 3, 0, 1, 2, 4, 7], [7, 4, 2, 1, 0, 3, 5, 6, 11, 8, 9, 10, 12], [12, 10, 9, 8, 11, 6, 5, 4, 7, 13, 2, 1, 0, 3]] [⟨some 115, none, (.mv (.t 10)), []⟩,
 ⟨some 116, none, (.mv (.t 11)), []⟩,
 ⟨some 117, none, (.bin .leq .num (.t 115) (.t 116)), []⟩,
 ⟨some 118, none, (.mv (.t 117)), []⟩,
 ⟨some 119, some (118, true), (.mv (.t 0)), []⟩,
 ⟨some 120, some (118, true), (.mv (.t 11)), []⟩,
 ⟨some 121, some (118, true), (.ia none 1 (.t 119) (.t 120)), []⟩,
 ⟨some 122, some (118, true), (.ld none (.t 121)), []⟩,
 ⟨some 123, some (118, true), (.mv (.t 0)), []⟩,
 ⟨some 124, some (118, true), (.mv (.t 1)), []⟩,
 ⟨some 125, some (118, true), (.ia none 1 (.t 123) (.t 124)), []⟩,
 ⟨some 126, some (118, true), (.ld none (.t 125)), []⟩,
 ⟨some 127, some (118, true), (.call 151 [(.t 122), (.t 126)]), []⟩,
 ⟨some 128, some (118, true), (.un .not (.t 127)), []⟩,
 ⟨some 129, none, (.pick (.t 118) (.t 128) (.c (.bool false))), []⟩])
 (.cond (.t 129) .skip
 (.exit 8)))
 (.block 9 (.reg 0 [] [] [⟨some 130, none, (.mv (.t 11)), []⟩,
 ⟨some 131, none, (.bin .sub .num (.t 130) (.c (.int .i64 1))), []⟩,
 ⟨some 11, none, (.mv (.t 131)), []⟩])))))
 (.seq (.seq (.reg 0 [] [] [⟨some 132, none, (.mv (.t 10)), []⟩,
 ⟨some 133, none, (.mv (.t 11)), []⟩,
 ⟨some 134, none, (.bin .gtr .num (.t 132) (.t 133)), []⟩])
 (.cond (.t 134) (.exit 4)
 .skip))
 (.seq (.reg 0 [0, 1, 2, 3, 4, 5, 6, 7, 8, 9, 10, 11, 12, 13, 14, 15] [[], [], [], [], [], [], [5, 4], [4, 5, 6], [], [], [9, 8], [8, 9, 10], [10, 9, 8, 11, 7, 6, 5, 4, 1, 0], [0, 1, 4, 5, 6, 7, 11, 8, 9, 10, 12], [13, 12, 11, 10, 9, 8, 7, 6, 5, 4, 1, 0, 3, 2], [2, 3, 0, 1, 4, 5, 6, 7, 8, 9, 10, 11, 12, 13, 14]] [⟨some 135, none, (.mv (.t 0)), []⟩,
 ⟨some 136, none, (.mv (.t 10)), []⟩,
 ⟨some 137, none, (.mv (.t 0)), []⟩,
 ⟨some 138, none, (.mv (.t 11)), []⟩,
 ⟨some 139, none, (.mv (.t 0)), []⟩,
 ⟨some 140, none, (.mv (.t 11)), []⟩,
 ⟨some 141, none, (.ia none 1 (.t 139) (.t 140)), []⟩,
 ⟨some 142, none, (.ld none (.t 141)), []⟩,
 ⟨some 143, none, (.mv (.t 0)), []⟩,
 ⟨some 144, none, (.mv (.t 10)), []⟩,
 ⟨some 145, none, (.ia none 1 (.t 143) (.t 144)), []⟩,
 ⟨some 146, none, (.ld none (.t 145)), []⟩,
 ⟨some 147, none, (.ia none 1 (.t 135) (.t 136)), []⟩,
 ⟨none, none, (.st 1 (.t 147) (.t 142)), []⟩,
 ⟨some 148, none, (.ia none 1 (.t 137) (.t 138)), []⟩,
 ⟨none, none, (.st 1 (.t 148) (.t 146)), []⟩])
 (.seq (.reg 0 [] [] [⟨some 149, none, (.mv (.t 10)), []⟩,
 ⟨some 150, none, (.bin .add .num (.t 149) (.c (.int .i64 1))), []⟩,
 ⟨some 10, none, (.mv (.t 150)), []⟩])
 (.reg 0 [] [] [⟨some 151, none, (.mv (.t 11)), []⟩,
 ⟨some 152, none, (.bin .sub .num (.t 151) (.c (.int .i64 1))), []⟩,
 ⟨some 11, none, (.mv (.t 152)), []⟩])))))))))
 (.seq (.reg 0 [0, 1, 2, 3, 4, 5, 6, 7, 8, 9, 10, 11, 12, 13, 14, 15] [[], [], [], [], [], [], [5, 4], [4, 5, 6], [], [], [9, 8], [8, 9, 10], [10, 9, 8, 11, 7, 6, 5, 4, 1, 0], [0, 1, 4, 5, 6, 7, 11, 8, 9, 10, 12], [13, 12, 11, 10, 9, 8, 7, 6, 5, 4, 1, 0, 3, 2], [2, 3, 0, 1, 4, 5, 6, 7, 8, 9, 10, 11, 12, 13, 14]] [⟨some 153, none, (.mv (.t 0)), []⟩,
 ⟨some 154, none, (.mv (.t 11)), []⟩,
 ⟨some 155, none, (.mv (.t 0)), []⟩,
 ⟨some 156, none, (.mv (.t 1)), []⟩,
 ⟨some 157, none, (.mv (.t 0)), []⟩,
 ⟨some 158, none, (.mv (.t 1)), []⟩,
 ⟨some 159, none, (.ia none 1 (.t 157) (.t 158)), []⟩,
 ⟨some 160, none, (.ld none (.t 159)), []⟩,
 ⟨some 161, none, (.mv (.t 0)), []⟩,
 ⟨some 162, none, (.mv (.t 11)), []⟩,
 ⟨some 163, none, (.ia none 1 (.t 161) (.t 162)), []⟩,
 ⟨some 164, none, (.ld none (.t 163)), []⟩,
 ⟨some 165, none, (.ia none 1 (.t 153) (.t 154)), []⟩,
 ⟨none, none, (.st 1 (.t 165) (.t 160)), []⟩,
 ⟨some 166, none, (.ia none 1 (.t 155) (.t 156)), []⟩,
 ⟨none, none, (.st 1 (.t 166) (.t 164)), []⟩])
 (.seq (.reg 0 [] [] [⟨some 167, none, (.mv (.t 11)), []⟩,
 ⟨some 8, none, (.mv (.t 167)), []⟩,
 ⟨some 9, none, (.mv (.c (.bool false))), []⟩])
 .ret))))))))))))
def zf153 : IFun := ⟨168, [(.tmp 8), (.tmp 9)], zc153⟩
theorem zok153 : okFun Tryz.prog 153 zf153 = true := by kernel_rfl
def zc154 : ICode :=
 (.seq (.reg 0 [] [] [⟨some 2, none, (.mv (.c (.int .i64 0))), []⟩])
 (.seq (.seq (.reg 0 [] [] [⟨some 3, none, (.mv (.t 0)), []⟩,
 ⟨some 4, none, (.bin .geq .num (.t 3) (.c (.int .u32 65536))), []⟩])
 (.cond (.t 4) (.seq (.reg 0 [] [] [⟨some 5, none, (.mv (.t 0)), []⟩,
 ⟨some 6, none, (.bin .shr .num (.t 5) (.c (.int .u64 16))), []⟩,
 ⟨some 0, none, (.mv (.t 6)), []⟩])
 (.reg 0 [] [] [⟨some 2, none, (.mv (.c (.int .i64 16))), []⟩]))
 .skip))
 (.seq (.seq (.reg 0 [] [] [⟨some 7, none, (.mv (.t 0)), []⟩,
 ⟨some 8, none, (.bin .geq .num (.t 7) (.c (.int .u32 256))), []⟩])
 (.cond (.t 8) (.seq (.reg 0 [] [] [⟨some 9, none, (.mv (.t 0)), []⟩,
 ⟨some 10, none, (.bin .shr .num (.t 9) (.c (.int .u64 8))), []⟩,
 ⟨some 0, none, (.mv (.t 10)), []⟩])
 (.reg 0 [] [] [⟨some 11, none, (.mv (.t 2)), []⟩,
 ⟨some 12, none, (.bin .add .num (.t 11) (.c (.int .i64 8))), []⟩,
 ⟨some 2, none, (.mv (.t 12)), []⟩]))
 .skip))
 (.seq (.reg 0 [] [] [⟨some 13, none, (.mv (.t 2)), []⟩,
 ⟨some 14, none, (.mv (.t 0)), []⟩,
 ⟨some 15, none, (.cv none (.toInt .u8) (.t 14)), []⟩,
 ⟨some 16, none, (.ix none (.c (.str [0, 1, 2, 2, 3, 3, 3, 3, 4, 4, 4, 4, 4, 4, 4, 4, 5, 5, 5, 5, 5, 5, 5, 5, 5, 5, 5, 5, 5, 5, 5, 5, 6, 6, 6, 6, 6, 6, 6, 6, 6, 6, 6, 6, 6, 6, 6, 6, 6, 6, 6, 6, 6, 6, 6, 6, 6, 6, 6, 6, 6, 6, 6, 6, 7, 7, 7, 7, 7, 7, 7, 7, 7, 7, 7, 7, 7, 7, 7, 7, 7, 7, 7, 7, 7, 7, 7, 7, 7, 7, 7, 7, 7, 7, 7, 7, 7, 7, 7, 7, 7, 7, 7, 7, 7, 7, 7, 7, 7, 7, 7, 7, 7, 7, 7, 7, 7, 7, 7, 7, 7, 7, 7, 7, 7, 7, 7, 7, 8, 8, 8, 8, 8, 8, 8, 8, 8, 8, 8, 8, 8, 8, 8, 8, 8, 8, 8, 8, 8, 8, 8, 8, 8, 8, 8, 8, 8, 8, 8, 8, 8, 8, 8, 8, 8, 8, 8, 8, 8, 8, 8, 8, 8, 8, 8, 8, 8, 8, 8, 8, 8, 8, 8, 8, 8, 8, 8, 8, 8, 8, 8, 8, 8, 8, 8, 8, 8, 8, 8, 8, 8, 8, 8, 8, 8, 8, 8, 8, 8, 8, 8, 8, 8, 8, 8, 8, 8, 8, 8, 8, 8, 8, 8, 8, 8, 8, 8, 8, 8, 8, 8, 8, 8, 8, 8, 8, 8, 8, 8, 8, 8, 8, 8, 8, 8, 8, 8, 8, 8, 8, 8, 8, 8, 8, 8, 8])) (.t 15)), []⟩,
 ⟨some 17, none, (.cv none (.toInt .i64) (.t 16)), []⟩,
 ⟨some 18, none, (.bin .add .num (.t 13) (.t 17)), []⟩,
 ⟨some 2, none, (.mv (.t 18)), []⟩])
 .ret))))
def zf154 : IFun := ⟨19, [(.tmp 2)], zc154⟩
theorem zok154 : okFun Tryz.prog 154 zf154 = true := by kernel_rfl
def zc155 : ICode :=
 (.seq (.reg 0 [] [] [⟨some 2, none, (.mv (.c (.int .i64 0))), []⟩])
 (.seq (.seq (.reg 0 [] [] [⟨some 3, none, (.mv (.t 0)), []⟩,
 ⟨some 4, none, (.bin .geq .num (.t 3) (.c (.int .u64 4294967296))), []⟩])
 (.cond (.t 4) (.seq (.reg 0 [] [] [⟨some 5, none, (.mv (.t 0)), []⟩,
 ⟨some 6, none, (.bin .shr .num (.t 5) (.c (.int .u64 32))), []⟩,
 ⟨some 0, none, (.mv (.t 6)), []⟩])
 (.reg 0 [] [] [⟨some 2, none, (.mv (.c (.int .i64 32))), []⟩]))
 .skip))
 (.seq (.seq (.reg 0 [] [] [⟨some 7, none, (.mv (.t 0)), []⟩,
 ⟨some 8, none, (.bin .geq .num (.t 7) (.c (.int .u64 65536))), []⟩])
 (.cond (.t 8) (.seq (.reg 0 [] [] [⟨some 9, none, (.mv (.t 0)), []⟩,
 ⟨some 10, none, (.bin .shr .num (.t 9) (.c (.int .u64 16))), []⟩,
 ⟨some 0, none, (.mv (.t 10)), []⟩])
 (.reg 0 [] [] [⟨some 11, none, (.mv (.t 2)), []⟩,
 ⟨some 12, none, (.bin .add .num (.t 11) (.c (.int .i64 16))), []⟩,
 ⟨some 2, none, (.mv (.t 12)), []⟩]))
 .skip))
 (.seq (.seq (.reg 0 [] [] [⟨some 13, none, (.mv (.t 0)), []⟩,
 ⟨some 14, none, (.bin .geq .num (.t 13) (.c (.int .u64 256))), []⟩])
 (.cond (.t 14) (.seq (.reg 0 [] [] [⟨some 15, none, (.mv (.t 0)), []⟩,
 ⟨some 16, none, (.bin .shr .num (.t 15) (.c (.int .u64 8))), []⟩,
 ⟨some 0, none, (.mv (.t 16)), []⟩])
 (.reg 0 [] [] [⟨some 17, none, (.mv (.t 2)), []⟩,
 ⟨some 18, none, (.bin .add .num (.t 17) (.c (.int .i64 8))), []⟩,
 ⟨some 2, none, (.mv (.t 18)), []⟩]))
 .skip))
 (.seq (.reg 0 [] [] [⟨some 19, none, (.mv (.t 2)), []⟩,
 ⟨some 20, none, (.mv (.t 0)), []⟩,
 ⟨some 21, none, (.cv none (.toInt .u8) (.t 20)), []⟩,
 ⟨some 22, none, (.ix none (.c (.str [0, 1, 2, 2, 3, 3, 3, 3, 4, 4, 4, 4, 4, 4, 4, 4, 5, 5, 5, 5, 5, 5, 5, 5, 5, 5, 5, 5, 5, 5, 5, 5, 6, 6, 6, 6, 6, 6, 6, 6, 6, 6, 6, 6, 6, 6, 6, 6, 6, 6, 6, 6, 6, 6, 6, 6, 6, 6, 6, 6, 6, 6, 6, 6, 7, 7, 7, 7, 7, 7, 7, 7, 7, 7, 7, 7, 7, 7, 7, 7, 7, 7, 7, 7, 7, 7, 7, 7, 7, 7, 7, 7, 7, 7, 7, 7, 7, 7, 7, 7, 7, 7, 7, 7, 7, 7, 7, 7, 7, 7, 7, 7, 7, 7, 7, 7, 7, 7, 7, 7, 7, 7, 7, 7, 7, 7, 7, 7, 8, 8, 8, 8, 8, 8, 8, 8, 8, 8, 8, 8, 8, 8, 8, 8, 8, 8, 8, 8, 8, 8, 8, 8, 8, 8, 8, 8, 8, 8, 8, 8, 8, 8, 8, 8, 8, 8, 8, 8, 8, 8, 8, 8, 8, 8, 8, 8, 8, 8, 8, 8, 8, 8, 8, 8, 8, 8, 8, 8, 8, 8, 8, 8, 8, 8, 8, 8, 8, 8, 8, 8, 8, 8, 8, 8, 8, 8, 8, 8, 8, 8, 8, 8, 8, 8, 8, 8, 8, 8, 8, 8, 8, 8, 8, 8, 8, 8, 8, 8, 8, 8, 8, 8, 8, 8, 8, 8, 8, 8, 8, 8, 8, 8, 8, 8, 8, 8, 8, 8, 8, 8, 8, 8, 8, 8, 8, 8])) (.t 21)), []⟩,
 ⟨some 23, none, (.cv none (.toInt .i64) (.t 22)), []⟩,
 ⟨some 24, none, (.bin .add .num (.t 19) (.t 23)), []⟩,
 ⟨some 2, none, (.mv (.t 24)), []⟩])
 .ret)))))
def zf155 : IFun := ⟨25, [(.tmp 2)], zc155⟩
theorem zok155 : okFun Tryz.prog 155 zf155 = true := by kernel_rfl
def zc157 : ICode :=
 (.seq (.reg 0 [] [] [⟨some 7, none, (.bx none 46 (.t 3)), []⟩])
 (.seq (.reg 0 [] [] [⟨some 11, none, (.mv (.t 1)), []⟩,
 ⟨some 12, none, (.bin .geq .num (.t 11) (.c (.int .i64 0))), []⟩,
 ⟨some 13, none, (.mv (.t 12)), []⟩,
 ⟨some 14, some (13, true), (.mv (.t 1)), []⟩,
 ⟨some 15, some (13, true), (.mv (.t 0)), []⟩,
 ⟨some 16, some (13, true), (.nilc (.t 15)), []⟩,
 ⟨some 17, some (13, true), (.fa 7 (.t 16)), []⟩,
 ⟨some 18, some (13, true), (.fa 3 (.t 17)), []⟩,
 ⟨some 19, some (13, true), (.ld none (.t 18)), []⟩,
 ⟨some 20, some (13, true), (.len false (.t 19)), []⟩,
 ⟨some 21, some (13, true), (.bin .lss .num (.t 14) (.t 20)), []⟩,
 ⟨some 22, none, (.pick (.t 13) (.t 21) (.c (.bool false))), []⟩,
 ⟨some 23, none, (.call 161 [(.t 22)]), []⟩])
 (.seq (.reg 0 [] [] [⟨some 24, none, (.mv (.t 0)), []⟩,
 ⟨some 25, none, (.nilc (.t 24)), []⟩,
 ⟨some 26, none, (.fa 7 (.t 25)), []⟩,
 ⟨some 27, none, (.fa 3 (.t 26)), []⟩,
 ⟨some 28, none, (.ld none (.t 27)), []⟩,
 ⟨some 29, none, (.mv (.t 1)), []⟩,
 ⟨some 30, none, (.ia none 2 (.t 28) (.t 29)), []⟩,
 ⟨some 31, none, (.fa 0 (.t 30)), []⟩,
 ⟨some 32, none, (.ld none (.t 31)), []⟩,
 ⟨some 33, none, (.len false (.t 32)), []⟩,
 ⟨some 34, none, (.mv (.c (.int .i64 0))), []⟩])
 (.block 0 (.loop (.seq (.reg 0 [] [] [⟨some 35, none, (.bin .lss .num (.t 34) (.t 33)), []⟩])
 (.seq (.cond (.t 35) .skip
 (.exit 0))
 (.seq (.block 1 (.seq (.reg 0 [] [] [⟨some 36, none, (.mv (.t 34)), []⟩,
 ⟨some 37, none, (.ia none 1 (.t 32) (.t 34)), []⟩,
 ⟨some 38, none, (.ld none (.t 37)), []⟩,
 ⟨some 8, none, (.mv (.t 36)), []⟩,
 ⟨some 9, none, (.mv (.t 38)), []⟩])
 (.seq (.seq (.reg 0 [] [] [⟨some 39, none, (.mv (.t 9)), []⟩,
 ⟨some 40, none, (.bin .lss .num (.t 39) (.c (.int .i64 0))), []⟩])
 (.cond (.t 40) (.exit 1)
 .skip))
 (.seq (.reg 0 [] [] [⟨some 41, none, (.mv (.t 0)), []⟩,
 ⟨some 42, none, (.nilc (.t 41)), []⟩,
 ⟨some 43, none, (.fa 11 (.t 42)), []⟩,
 ⟨some 44, none, (.ld none (.t 43)), []⟩,
 ⟨some 45, none, (.mv (.t 8)), []⟩,
 ⟨some 46, none, (.ia none 3 (.t 44) (.t 45)), []⟩,
 ⟨some 47, none, (.ld (some 3) (.t 46)), []⟩,
 ⟨some 10, none, (.al none 148 [(.bool false), .nilsl, (.bool false)]), []⟩,
 ⟨none, none, (.st 3 (.t 10) (.t 47)), []⟩])
 (.seq (.seq (.reg 0 [] [] [⟨some 48, none, (.mv (.t 8)), []⟩,
 ⟨some 49, none, (.mv (.t 2)), []⟩,
 ⟨some 50, none, (.bin .eql .num (.t 48) (.t 49)), []⟩])
 (.cond (.t 50) (.reg 0 [] [] [⟨some 51, none, (.ld (some 2) (.t 7)), []⟩,
 ⟨some 52, none, (.build [(.bool false), .nilsl, (.bool false)] [(0, 2, (.t 51))]), []⟩,
 ⟨none, none, (.st 3 (.t 10) (.t 52)), []⟩])
 .skip))
 (.reg 0 [0, 1, 2, 3, 4, 5, 6, 7, 8, 9, 10, 11, 12, 13, 14, 15, 16] [[], [0], [0, 1], [1, 0, 2], [2, 0, 1, 3], [3, 1, 0, 2, 4], [2, 0, 1, 3], [3, 1, 0, 2, 6], [6, 2, 0, 1, 3, 7], [7, 3, 1, 0, 2, 6, 8], [8, 6, 2, 0, 1, 3, 7, 9], [2, 0, 1, 3], [11, 9, 7, 3, 1, 0, 2, 6, 8, 10], [10, 8, 6, 2, 0, 1, 3, 7, 9, 11, 12], [12, 11, 9, 7, 6, 8, 10, 13, 4, 2, 0, 1, 3, 5], [5, 4, 13, 10, 8, 6, 7, 9, 11, 12, 14, 2, 0, 1, 3], [3, 1, 0, 2, 14, 12, 11, 9, 7, 6, 8, 10, 13, 4, 5, 15]] [⟨some 53, none, (.fa 2 (.t 10)), []⟩,
 ⟨some 54, none, (.ld none (.t 53)), []⟩,
 ⟨some 55, none, (.un .not (.t 54)), []⟩,
 ⟨some 56, none, (.mv (.t 55)), []⟩,
 ⟨some 57, some (56, true), (.fa 0 (.t 10)), []⟩,
 ⟨some 58, some (56, true), (.ld (some 2) (.t 57)), []⟩,
 ⟨some 59, some (56, true), (.mv (.t 0)), []⟩,
 ⟨some 60, some (56, true), (.nilc (.t 59)), []⟩,
 ⟨some 61, some (56, true), (.fa 0 (.t 60)), []⟩,
 ⟨some 62, some (56, true), (.fa 0 (.t 61)), []⟩,
 ⟨some 63, some (56, true), (.ld none (.t 62)), []⟩,
 ⟨some 64, some (56, true), (.mv (.t 9)), []⟩,
 ⟨some 65, some (56, true), (.ia none 2 (.t 63) (.t 64)), []⟩,
 ⟨some 66, some (56, true), (.ld (some 2) (.t 65)), []⟩,
 ⟨some 67, some (56, true), (.call 23 [(.t 58), (.t 66)]), []⟩,
 ⟨some 68, none, (.pick (.t 56) (.t 67) (.c (.bool false))), []⟩,
 ⟨some 69, none, (.call 161 [(.t 68)]), []⟩]))))))
 (.reg 0 [] [] [⟨some 70, none, (.bin .add .num (.t 34) (.c (.int .i64 1))), []⟩,
 ⟨some 34, none, (.mv (.t 70)), []⟩])))))))))
def zf157 : IFun := ⟨71, [], zc157⟩
theorem zok157 : okFun Tryz.prog 157 zf157 = true := by kernel_rfl
def zc158 : ICode :=
 (.reg 0 [] [] [⟨some 4, none, (.mv (.t 0)), []⟩,
 ⟨some 5, none, (.mv (.t 1)), []⟩,
 ⟨some 6, none, (.call 162 [(.t 4), (.t 5)]), []⟩,
 ⟨some 7, none, (.build [(.bool false), .nilsl] [(0, 1, (.c (.bool true)))]), []⟩,
 ⟨some 8, none, (.call 23 [(.t 6), (.t 7)]), []⟩,
 ⟨some 9, none, (.call 161 [(.t 8)]), []⟩])
def zf158 : IFun := ⟨10, [], zc158⟩
theorem zok158 : okFun Tryz.prog 158 zf158 = true := by kernel_rfl
def zc159 : ICode :=
 (.seq (.reg 0 [] [] [⟨some 3, none, (.bx none 55 (.t 1)), []⟩])
 (.seq (.reg 0 [] [] [⟨some 9, none, (.mv (.t 0)), []⟩,
 ⟨some 10, none, (.fa 2 (.t 3)), []⟩,
 ⟨some 11, none, (.ld none (.t 10)), []⟩,
 ⟨some 12, none, (.call 162 [(.t 9), (.t 11)]), []⟩,
 ⟨some 13, none, (.build [(.bool false), .nilsl] [(0, 1, (.c (.bool true)))]), []⟩,
 ⟨some 4, none, (.al none 46 [(.bool false), .nilsl]), []⟩,
 ⟨some 5, none, (.al none 46 [(.bool false), .nilsl]), []⟩,
 ⟨none, none, (.st 2 (.t 4) (.t 12)), []⟩,
 ⟨none, none, (.st 2 (.t 5) (.t 13)), []⟩])
 (.seq (.reg 0 [] [] [⟨some 14, none, (.fa 6 (.t 3)), []⟩,
 ⟨some 15, none, (.ld none (.t 14)), []⟩,
 ⟨some 16, none, (.len false (.t 15)), []⟩,
 ⟨some 17, none, (.bin .rem .num (.t 16) (.c (.int .i64 2))), []⟩,
 ⟨some 18, none, (.bin .eql .num (.t 17) (.c (.int .i64 0))), []⟩,
 ⟨some 19, none, (.mv (.t 18)), []⟩,
 ⟨some 20, some (19, true), (.fa 7 (.t 3)), []⟩,
 ⟨some 21, some (19, true), (.ld none (.t 20)), []⟩,
 ⟨some 22, some (19, true), (.len false (.t 21)), []⟩,
 ⟨some 23, some (19, true), (.bin .rem .num (.t 22) (.c (.int .i64 2))), []⟩,
 ⟨some 24, some (19, true), (.bin .eql .num (.t 23) (.c (.int .i64 0))), []⟩,
 ⟨some 25, none, (.pick (.t 19) (.t 24) (.c (.bool false))), []⟩,
 ⟨some 26, none, (.call 161 [(.t 25)]), []⟩])
 (.seq (.seq (.reg 0 [] [] [⟨some 6, none, (.mv (.c (.int .i64 0))), []⟩])
 (.block 0 (.loop (.seq (.seq (.reg 0 [] [] [⟨some 27, none, (.mv (.t 6)), []⟩,
 ⟨some 28, none, (.fa 6 (.t 3)), []⟩,
 ⟨some 29, none, (.ld none (.t 28)), []⟩,
 ⟨some 30, none, (.len false (.t 29)), []⟩,
 ⟨some 31, none, (.bin .lss .num (.t 27) (.t 30)), []⟩])
 (.cond (.t 31) .skip
 (.exit 0)))
 (.seq (.block 1 (.seq (.reg 0 [0, 1, 2, 3, 4, 5, 6, 7, 8, 9, 10, 11, 12, 13, 14, 15, 16, 17, 18, 19, 20, 21, 22, 23, 24, 25, 26, 27, 28, 29, 30] [[], [0], [0, 1], [1, 0, 2], [2, 0, 1, 3], [1, 0, 2], [2, 0, 1, 5], [5, 6, 3, 1, 0, 2, 4], [4, 2, 0, 1, 3, 6, 5, 7], [1, 0, 2], [2, 0, 1, 9], [1, 0, 2], [11, 9, 1, 0, 2, 10], [10, 2, 0, 1, 9, 11, 12], [12, 11, 9, 10, 13, 7, 5, 6, 3, 1, 0, 2, 4, 8], [8, 4, 3, 6, 5, 7, 13, 10, 9, 11, 12, 14, 1, 0, 2], [2, 0, 1, 14, 12, 11, 9, 10, 13, 7, 5, 6, 3, 4, 8, 15], [15, 8, 4, 3, 6, 5, 7, 13, 10, 9, 11, 12, 14, 1, 0, 2, 16], [16, 2, 0, 1, 14, 12, 11, 9, 10, 13, 7, 5, 6, 3, 4, 8, 15, 17], [15, 8, 4, 3, 6, 5, 7, 13, 10, 9, 11, 12, 14, 1, 0, 2, 16], [19, 17, 15, 8, 4, 3, 6, 5, 7, 13, 10, 9, 11, 12, 14, 1, 0, 2, 16, 18], [18, 16, 2, 0, 1, 14, 12, 11, 9, 10, 13, 7, 5, 6, 3, 4, 8, 15, 17, 19, 20], [15, 8, 4, 3, 6, 5, 7, 13, 10, 9, 11, 12, 14, 1, 0, 2, 16], [16, 2, 0, 1, 14, 12, 11, 9, 10, 13, 7, 5, 6, 3, 4, 8, 15, 22], [15, 8, 4, 3, 6, 5, 7, 13, 10, 9, 11, 12, 14, 1, 0, 2, 16], [24, 22, 15, 8, 4, 3, 6, 5, 7, 13, 10, 9, 11, 12, 14, 1, 0, 2, 16, 23], [23, 16, 2, 0, 1, 14, 12, 11, 9, 10, 13, 7, 5, 6, 3, 4, 8, 15, 22, 24, 25], [25, 24, 22, 15, 8, 4, 3, 6, 5, 7, 13, 10, 9, 11, 12, 14, 1, 0, 2, 16, 23, 26], [26, 23, 22, 24, 25, 27, 20, 19, 17, 15, 8, 4, 3, 6, 5, 7, 13, 10, 9, 11, 12, 14, 1, 0, 2, 16, 18, 21], [21, 18, 17, 19, 20, 27, 25, 24, 22, 23, 26, 28, 15, 8, 4, 3, 6, 5, 7, 13, 10, 9, 11, 12, 14, 1, 0, 2, 16], [16, 2, 0, 1, 14, 12, 11, 9, 10, 13, 7, 5, 6, 3, 4, 8, 15, 28, 26, 23, 22, 24, 25, 27, 20, 19, 17, 18, 21, 29]] [⟨some 34, none, (.mv (.t 6)), []⟩,
 ⟨some 35, none, (.bin .eql .num (.t 34) (.c (.int .i64 0))), []⟩,
 ⟨some 36, none, (.mv (.t 35)), []⟩,
 ⟨some 37, some (36, false), (.fa 6 (.t 3)), []⟩,
 ⟨some 38, some (36, false), (.ld none (.t 37)), []⟩,
 ⟨some 39, some (36, false), (.mv (.t 6)), []⟩,
 ⟨some 40, some (36, false), (.bin .sub .num (.t 39) (.c (.int .i64 2))), []⟩,
 ⟨some 41, some (36, false), (.ia none 1 (.t 38) (.t 40)), []⟩,
 ⟨some 42, some (36, false), (.ld none (.t 41)), []⟩,
 ⟨some 43, some (36, false), (.fa 6 (.t 3)), []⟩,
 ⟨some 44, some (36, false), (.ld none (.t 43)), []⟩,
 ⟨some 45, some (36, false), (.mv (.t 6)), []⟩,
 ⟨some 46, some (36, false), (.ia none 1 (.t 44) (.t 45)), []⟩,
 ⟨some 47, some (36, false), (.ld none (.t 46)), []⟩,
 ⟨some 48, some (36, false), (.bin .lss .num (.t 42) (.t 47)), []⟩,
 ⟨some 49, none, (.pick (.t 36) (.c (.bool true)) (.t 48)), []⟩,
 ⟨some 50, none, (.mv (.t 49)), []⟩,
 ⟨some 51, some (50, true), (.fa 6 (.t 3)), []⟩,
 ⟨some 52, some (50, true), (.ld none (.t 51)), []⟩,
 ⟨some 53, some (50, true), (.mv (.t 6)), []⟩,
 ⟨some 54, some (50, true), (.ia none 1 (.t 52) (.t 53)), []⟩,
 ⟨some 55, some (50, true), (.ld none (.t 54)), []⟩,
 ⟨some 56, some (50, true), (.fa 6 (.t 3)), []⟩,
 ⟨some 57, some (50, true), (.ld none (.t 56)), []⟩,
 ⟨some 58, some (50, true), (.mv (.t 6)), []⟩,
 ⟨some 59, some (50, true), (.ia none 1 (.t 57) (.t 58)), []⟩,
 ⟨some 60, some (50, true), (.ld none (.t 59)), []⟩,
 ⟨(some 61), (some (50, true)), (.call 163 [(.t 60)]), [⟨(some (50, true)), (.ld none (.t 51)), 52⟩, ⟨(some (50, true)), (.ld none (.t 54)), 55⟩]⟩,
 ⟨some 62, some (50, true), (.bin .eql .num (.t 55) (.t 61)), []⟩,
 ⟨some 63, none, (.pick (.t 50) (.t 62) (.c (.bool false))), []⟩,
 ⟨some 64, none, (.call 161 [(.t 63)]), []⟩])
 (.reg 0 [0, 1, 2, 3, 4, 5, 6, 7, 8, 9, 10] [[], [], [1], [], [3], [3, 4, 1, 2], [2, 1, 4, 3, 5], [], [7], [], [9, 7, 8, 5, 3, 4, 1, 2, 6, 0]] [⟨some 65, none, (.mv (.t 0)), []⟩,
 ⟨some 66, none, (.fa 6 (.t 3)), []⟩,
 ⟨some 67, none, (.ld none (.t 66)), []⟩,
 ⟨some 68, none, (.mv (.t 6)), []⟩,
 ⟨some 69, none, (.bin .add .num (.t 68) (.c (.int .i64 1))), []⟩,
 ⟨some 70, none, (.ia none 1 (.t 67) (.t 69)), []⟩,
 ⟨some 71, none, (.ld none (.t 70)), []⟩,
 ⟨some 72, none, (.fa 2 (.t 3)), []⟩,
 ⟨some 73, none, (.ld none (.t 72)), []⟩,
 ⟨some 74, none, (.ld (some 2) (.t 5)), []⟩,
 ⟨some 75, none, (.call 157 [(.t 65), (.t 71), (.t 73), (.t 74)]), []⟩])))
 (.reg 0 [] [] [⟨some 32, none, (.mv (.t 6)), []⟩,
 ⟨some 33, none, (.bin .add .num (.t 32) (.c (.int .i64 2))), []⟩,
 ⟨some 6, none, (.mv (.t 33)), []⟩]))))))
 (.seq (.seq (.reg 0 [] [] [⟨some 76, none, (.fa 3 (.t 3)), []⟩,
 ⟨some 77, none, (.ld none (.t 76)), []⟩,
 ⟨some 78, none, (.bin .neq .num (.t 77) (.c (.int .i64 (-1)))), []⟩])
 (.cond (.t 78) (.reg 0 [] [] [⟨some 79, none, (.mv (.t 0)), []⟩,
 ⟨some 80, none, (.fa 3 (.t 3)), []⟩,
 ⟨some 81, none, (.ld none (.t 80)), []⟩,
 ⟨some 82, none, (.fa 2 (.t 3)), []⟩,
 ⟨some 83, none, (.ld none (.t 82)), []⟩,
 ⟨some 84, none, (.ld (some 2) (.t 5)), []⟩,
 ⟨some 85, none, (.call 157 [(.t 79), (.t 81), (.t 83), (.t 84)]), []⟩])
 .skip))
 (.seq (.reg 0 [] [] [⟨some 7, none, (.mv (.c .nilsl)), []⟩])
 (.seq (.seq (.reg 0 [] [] [⟨some 8, none, (.mv (.c (.int .i64 0))), []⟩])
 (.block 2 (.loop (.seq (.seq (.reg 0 [] [] [⟨some 86, none, (.mv (.t 8)), []⟩,
 ⟨some 87, none, (.fa 7 (.t 3)), []⟩,
 ⟨some 88, none, (.ld none (.t 87)), []⟩,
 ⟨some 89, none, (.len false (.t 88)), []⟩,
 ⟨some 90, none, (.bin .lss .num (.t 86) (.t 89)), []⟩])
 (.cond (.t 90) .skip
 (.exit 2)))
 (.seq (.block 3 (.seq (.reg 0 [0, 1, 2, 3, 4, 5, 6, 7, 8, 9, 10, 11, 12, 13, 14, 15, 16, 17, 18, 19, 20, 21, 22, 23, 24, 25, 26, 27, 28, 29, 30, 31, 32, 33, 34, 35, 36, 37, 38] [[], [0], [], [2, 0, 1], [1, 0, 2, 3], [3, 2, 0, 1, 4], [4, 1, 0, 2, 3, 5], [5, 3, 2, 0, 1, 4, 6], [6, 4, 1, 0, 2, 3, 5, 7], [5, 3, 2, 0, 1, 4, 6], [9, 7, 5, 3, 2, 0, 1, 4, 6, 8], [8, 6, 4, 1, 0, 2, 3, 5, 7, 9, 10], [5, 3, 2, 0, 1, 4, 6], [6, 4, 1, 0, 2, 3, 5, 12], [12, 5, 3, 2, 0, 1, 4, 6, 13], [13, 6, 4, 1, 0, 2, 3, 5, 12, 14], [14, 12, 5, 3, 2, 0, 1, 4, 6, 13, 15], [15, 13, 6, 4, 1, 0, 2, 3, 5, 12, 14, 16], [16, 14, 12, 13, 15, 17, 10, 9, 7, 5, 3, 2, 0, 1, 4, 6, 8, 11], [11, 8, 7, 9, 10, 17, 15, 13, 12, 14, 16, 18, 5, 3, 2, 0, 1, 4, 6], [6, 4, 1, 0, 2, 3, 5, 18, 16, 14, 12, 13, 15, 17, 10, 9, 7, 8, 11, 19], [19, 11, 8, 7, 9, 10, 17, 15, 13, 12, 14, 16, 18, 5, 3, 2, 0, 1, 4, 6, 20], [20, 6, 4, 1, 0, 2, 3, 5, 18, 16, 14, 12, 13, 15, 17, 10, 9, 7, 8, 11, 19, 21], [21, 19, 11, 8, 7, 9, 10, 17, 15, 13, 12, 14, 16, 18, 5, 3, 2, 0, 1, 4, 6, 20, 22], [22, 20, 6, 4, 1, 0, 2, 3, 5, 18, 16, 14, 12, 13, 15, 17, 10, 9, 7, 8, 11, 19, 21, 23], [23, 21, 19, 11, 8, 7, 9, 10, 17, 15, 13, 12, 14, 16, 18, 5, 3, 2, 0, 1, 4, 6, 20, 22, 24], [22, 20, 6, 4, 1, 0, 2, 3, 5, 18, 16, 14, 12, 13, 15, 17, 10, 9, 7, 8, 11, 19, 21, 23], [23, 21, 19, 11, 8, 7, 9, 10, 17, 15, 13, 12, 14, 16, 18, 5, 3, 2, 0, 1, 4, 6, 20, 22, 26], [26, 27, 24, 22, 20, 6, 4, 1, 0, 2, 3, 5, 18, 16, 14, 12, 13, 15, 17, 10, 9, 7, 8, 11, 19, 21, 23, 25], [25, 23, 21, 19, 11, 8, 7, 9, 10, 17, 15, 13, 12, 14, 16, 18, 5, 3, 2, 0, 1, 4, 6, 20, 22, 24, 27, 26, 28], [22, 20, 6, 4, 1, 0, 2, 3, 5, 18, 16, 14, 12, 13, 15, 17, 10, 9, 7, 8, 11, 19, 21, 23], [23, 21, 19, 11, 8, 7, 9, 10, 17, 15, 13, 12, 14, 16, 18, 5, 3, 2, 0, 1, 4, 6, 20, 22, 30], [22, 20, 6, 4, 1, 0, 2, 3, 5, 18, 16, 14, 12, 13, 15, 17, 10, 9, 7, 8, 11, 19, 21, 23], [32, 30, 22, 20, 6, 4, 1, 0, 2, 3, 5, 18, 16, 14, 12, 13, 15, 17, 10, 9, 7, 8, 11, 19, 21, 23, 31], [31, 23, 21, 19, 11, 8, 7, 9, 10, 17, 15, 13, 12, 14, 16, 18, 5, 3, 2, 0, 1, 4, 6, 20, 22, 30, 32, 33], [33, 32, 30, 31, 34, 28, 26, 27, 24, 22, 20, 6, 4, 1, 0, 2, 3, 5, 18, 16, 14, 12, 13, 15, 17, 10, 9, 7, 8, 11, 19, 21, 23, 25, 29], [29, 25, 24, 27, 26, 28, 34, 31, 30, 32, 33, 35, 22, 20, 6, 4, 1, 0, 2, 3, 5, 18, 16, 14, 12, 13, 15, 17, 10, 9, 7, 8, 11, 19, 21, 23], [23, 21, 22, 35, 33, 32, 30, 31, 34, 28, 26, 27, 24, 25, 29, 36, 19, 11, 8, 7, 9, 10, 17, 15, 13, 12, 14, 16, 18, 5, 3, 2, 0, 1, 4, 6, 20], [20, 6, 4, 1, 0, 2, 3, 5, 18, 16, 14, 12, 13, 15, 17, 10, 9, 7, 8, 11, 19, 36, 29, 25, 24, 27, 26, 28, 34, 31, 30, 32, 33, 35, 22, 21, 23, 37]] [⟨some 93, none, (.fa 7 (.t 3)), []⟩,
 ⟨some 94, none, (.ld none (.t 93)), []⟩,
 ⟨some 95, none, (.mv (.t 8)), []⟩,
 ⟨some 96, none, (.ia none 1 (.t 94) (.t 95)), []⟩,
 ⟨some 97, none, (.ld none (.t 96)), []⟩,
 ⟨some 98, none, (.bin .geq .num (.t 97) (.c (.int .i64 0))), []⟩,
 ⟨some 99, none, (.mv (.t 98)), []⟩,
 ⟨some 100, some (99, true), (.fa 7 (.t 3)), []⟩,
 ⟨some 101, some (99, true), (.ld none (.t 100)), []⟩,
 ⟨some 102, some (99, true), (.mv (.t 8)), []⟩,
 ⟨some 103, some (99, true), (.ia none 1 (.t 101) (.t 102)), []⟩,
 ⟨some 104, some (99, true), (.ld none (.t 103)), []⟩,
 ⟨some 105, some (99, true), (.mv (.t 0)), []⟩,
 ⟨some 106, some (99, true), (.nilc (.t 105)), []⟩,
 ⟨some 107, some (99, true), (.fa 0 (.t 106)), []⟩,
 ⟨some 108, some (99, true), (.fa 1 (.t 107)), []⟩,
 ⟨some 109, some (99, true), (.ld none (.t 108)), []⟩,
 ⟨some 110, some (99, true), (.len false (.t 109)), []⟩,
 ⟨some 111, some (99, true), (.bin .lss .num (.t 104) (.t 110)), []⟩,
 ⟨some 112, none, (.pick (.t 99) (.t 111) (.c (.bool false))), []⟩,
 ⟨some 113, none, (.mv (.t 112)), []⟩,
 ⟨some 114, some (113, true), (.mv (.t 8)), []⟩,
 ⟨some 115, some (113, true), (.bin .eql .num (.t 114) (.c (.int .i64 0))), []⟩,
 ⟨some 116, some (113, true), (.mv (.t 115)), []⟩,
 ⟨some 117, some (116, false), (.fa 7 (.t 3)), []⟩,
 ⟨some 118, some (116, false), (.ld none (.t 117)), []⟩,
 ⟨some 119, some (116, false), (.mv (.t 8)), []⟩,
 ⟨some 120, some (116, false), (.bin .sub .num (.t 119) (.c (.int .i64 2))), []⟩,
 ⟨some 121, some (116, false), (.ia none 1 (.t 118) (.t 120)), []⟩,
 ⟨some 122, some (116, false), (.ld none (.t 121)), []⟩,
 ⟨some 123, some (116, false), (.fa 7 (.t 3)), []⟩,
 ⟨some 124, some (116, false), (.ld none (.t 123)), []⟩,
 ⟨some 125, some (116, false), (.mv (.t 8)), []⟩,
 ⟨some 126, some (116, false), (.ia none 1 (.t 124) (.t 125)), []⟩,
 ⟨some 127, some (116, false), (.ld none (.t 126)), []⟩,
 ⟨some 128, some (116, false), (.bin .lss .num (.t 122) (.t 127)), []⟩,
 ⟨some 129, some (113, true), (.pick (.t 116) (.c (.bool true)) (.t 128)), []⟩,
 ⟨some 130, none, (.pick (.t 113) (.t 129) (.c (.bool false))), []⟩,
 ⟨some 131, none, (.call 161 [(.t 130)]), []⟩])
 (.seq (.reg 0 [0, 1, 2, 3, 4, 5, 6, 7, 8, 9, 10, 11, 12, 13, 14, 15] [[], [], [1], [], [3], [3, 4, 1, 2], [2, 1, 4, 3, 5], [], [7], [], [9], [], [11, 9, 10], [10, 9, 11, 12], [12, 11, 9, 10, 13], [13, 10, 9, 11, 12, 14, 7, 8, 5, 3, 4, 1, 2, 6, 0]] [⟨some 132, none, (.mv (.t 0)), []⟩,
 ⟨some 133, none, (.fa 7 (.t 3)), []⟩,
 ⟨some 134, none, (.ld none (.t 133)), []⟩,
 ⟨some 135, none, (.mv (.t 8)), []⟩,
 ⟨some 136, none, (.bin .add .num (.t 135) (.c (.int .i64 1))), []⟩,
 ⟨some 137, none, (.ia none 1 (.t 134) (.t 136)), []⟩,
 ⟨some 138, none, (.ld none (.t 137)), []⟩,
 ⟨some 139, none, (.fa 2 (.t 3)), []⟩,
 ⟨some 140, none, (.ld none (.t 139)), []⟩,
 ⟨some 141, none, (.fa 7 (.t 3)), []⟩,
 ⟨some 142, none, (.ld none (.t 141)), []⟩,
 ⟨some 143, none, (.mv (.t 8)), []⟩,
 ⟨some 144, none, (.ia none 1 (.t 142) (.t 143)), []⟩,
 ⟨some 145, none, (.ld none (.t 144)), []⟩,
 ⟨(some 146), none, (.call 166 [(.t 145)]), [⟨none, (.ld none (.t 133)), 134⟩, ⟨none, (.ld none (.t 137)), 138⟩, ⟨none, (.ld none (.t 139)), 140⟩]⟩,
 ⟨some 147, none, (.call 157 [(.t 132), (.t 138), (.t 140), (.t 146)]), []⟩])
 (.reg 0 [] [] [⟨some 148, none, (.mv (.t 7)), []⟩,
 ⟨some 149, none, (.fa 7 (.t 3)), []⟩,
 ⟨some 150, none, (.ld none (.t 149)), []⟩,
 ⟨some 151, none, (.mv (.t 8)), []⟩,
 ⟨some 152, none, (.ia none 1 (.t 150) (.t 151)), []⟩,
 ⟨some 153, none, (.ld none (.t 152)), []⟩,
 ⟨some 154, none, (.mksl none 3 [(.int .i64 0)] 1 [(0, 1, (.t 153))]), []⟩,
 ⟨some 155, none, (.app 3 1 8 [(.int .i64 0)] (.t 148) (.t 154)), []⟩,
 ⟨some 7, none, (.mv (.t 155)), []⟩]))))
 (.reg 0 [] [] [⟨some 91, none, (.mv (.t 8)), []⟩,
 ⟨some 92, none, (.bin .add .num (.t 91) (.c (.int .i64 2))), []⟩,
 ⟨some 8, none, (.mv (.t 92)), []⟩]))))))
 (.reg 0 [] [] [⟨some 156, none, (.fa 1 (.t 4)), []⟩,
 ⟨some 157, none, (.ld none (.t 156)), []⟩,
 ⟨some 158, none, (.build [(.bool false), .nilsl] [(1, 1, (.t 157))]), []⟩,
 ⟨some 159, none, (.mv (.t 7)), []⟩,
 ⟨some 160, none, (.build [(.bool false), .nilsl] [(1, 1, (.t 159))]), []⟩,
 ⟨some 161, none, (.call 23 [(.t 158), (.t 160)]), []⟩,
 ⟨some 162, none, (.mv (.t 161)), []⟩,
 ⟨some 163, some (162, true), (.fa 0 (.t 4)), []⟩,
 ⟨some 164, some (162, true), (.ld none (.t 163)), []⟩,
 ⟨some 165, some (162, true), (.un .not (.t 164)), []⟩,
 ⟨some 166, some (162, true), (.mv (.t 165)), []⟩,
 ⟨some 167, some (166, false), (.fa 3 (.t 3)), []⟩,
 ⟨some 168, some (166, false), (.ld none (.t 167)), []⟩,
 ⟨some 169, some (166, false), (.bin .neq .num (.t 168) (.c (.int .i64 (-1)))), []⟩,
 ⟨some 170, some (162, true), (.pick (.t 166) (.c (.bool true)) (.t 169)), []⟩,
 ⟨some 171, none, (.pick (.t 162) (.t 170) (.c (.bool false))), []⟩,
 ⟨some 172, none, (.call 161 [(.t 171)]), []⟩]))))))))
def zf159 : IFun := ⟨173, [], zc159⟩
theorem zok159 : okFun Tryz.prog 159 zf159 = true := by kernel_rfl
def zc160 : ICode :=
 (.seq (.reg 0 [] [] [⟨some 3, none, (.bx none 55 (.t 1)), []⟩,
 ⟨some 4, none, (.al none 39 [.nilsl, (.int .i64 0), (.int .i64 0), .nilsl]), []⟩])
 (.seq (.reg 0 [0, 1, 2, 3, 4, 5, 6, 7, 8, 9, 10, 11, 12, 13, 14] [[], [0], [0, 1], [1, 0, 2], [2, 0, 1, 3], [3, 1, 0, 2, 4], [2, 0, 1, 3], [3, 1, 0, 2, 6], [6, 2, 0, 1, 3, 7], [7, 3, 1, 0, 2, 6, 8], [8, 6, 2, 0, 1, 3, 7, 9], [9, 7, 3, 1, 0, 2, 6, 8, 10], [10, 8, 6, 7, 9, 11, 4, 2, 0, 1, 3, 5], [5, 4, 11, 9, 7, 6, 8, 10, 12, 2, 0, 1, 3], [3, 1, 0, 2, 12, 10, 8, 6, 7, 9, 11, 4, 5, 13]] [⟨some 6, none, (.fa 2 (.t 3)), []⟩,
 ⟨some 7, none, (.ld none (.t 6)), []⟩,
 ⟨some 8, none, (.bin .geq .num (.t 7) (.c (.int .i64 0))), []⟩,
 ⟨some 9, none, (.mv (.t 8)), []⟩,
 ⟨some 10, some (9, true), (.fa 2 (.t 3)), []⟩,
 ⟨some 11, some (9, true), (.ld none (.t 10)), []⟩,
 ⟨some 12, some (9, true), (.mv (.t 0)), []⟩,
 ⟨some 13, some (9, true), (.nilc (.t 12)), []⟩,
 ⟨some 14, some (9, true), (.fa 0 (.t 13)), []⟩,
 ⟨some 15, some (9, true), (.fa 4 (.t 14)), []⟩,
 ⟨some 16, some (9, true), (.ld none (.t 15)), []⟩,
 ⟨some 17, some (9, true), (.len false (.t 16)), []⟩,
 ⟨some 18, some (9, true), (.bin .lss .num (.t 11) (.t 17)), []⟩,
 ⟨some 19, none, (.pick (.t 9) (.t 18) (.c (.bool false))), []⟩,
 ⟨some 20, none, (.call 161 [(.t 19)]), []⟩])
 (.seq (.reg 1 [0, 1, 2, 3, 4, 5, 6, 7, 8, 9, 10] [[], [0], [0, 1], [1, 0, 2], [2, 0, 1, 3], [], [5], [5, 6, 3, 1, 0, 2, 4], [4, 2, 0, 1, 3, 6, 5, 7], [], [7, 5, 6, 3, 1, 0, 2, 4, 8, 9]] [⟨some 21, none, (.mv (.t 0)), []⟩,
 ⟨some 22, none, (.nilc (.t 21)), []⟩,
 ⟨some 23, none, (.fa 0 (.t 22)), []⟩,
 ⟨some 24, none, (.fa 4 (.t 23)), []⟩,
 ⟨some 25, none, (.ld none (.t 24)), []⟩,
 ⟨some 26, none, (.fa 2 (.t 3)), []⟩,
 ⟨some 27, none, (.ld none (.t 26)), []⟩,
 ⟨some 28, none, (.ia none 4 (.t 25) (.t 27)), []⟩,
 ⟨some 29, none, (.ld (some 4) (.t 28)), []⟩,
 ⟨some 5, none, (.al (some 0) 39 [.nilsl, (.int .i64 0), (.int .i64 0), .nilsl]), []⟩,
 ⟨none, none, (.st 4 (.t 5) (.t 29)), []⟩])
 (.seq (.reg 0 [] [] [⟨some 30, none, (.mv (.t 0)), []⟩,
 ⟨some 31, none, (.fa 6 (.t 3)), []⟩,
 ⟨some 32, none, (.ld none (.t 31)), []⟩,
 ⟨some 33, none, (.fa 0 (.t 5)), []⟩,
 ⟨some 34, none, (.ld none (.t 33)), []⟩,
 ⟨some 35, none, (.call 169 [(.t 30), (.t 32), (.t 34)]), []⟩])
 (.seq (.reg 0 [] [] [⟨some 36, none, (.ld (some 4) (.t 5)), []⟩,
 ⟨none, none, (.st 4 (.t 4) (.t 36)), []⟩])
 .ret)))))
def zf160 : IFun := ⟨37, [(.cell 4 (some 4))], zc160⟩
theorem zok160 : okFun Tryz.prog 160 zf160 = true := by kernel_rfl
def zc162 : ICode :=
 (.seq (.reg 0 [] [] [⟨some 4, none, (.al none 46 [(.bool false), .nilsl]), []⟩])
 (.seq (.reg 0 [] [] [⟨some 5, none, (.mv (.t 1)), []⟩,
 ⟨some 6, none, (.bin .geq .num (.t 5) (.c (.int .i64 0))), []⟩,
 ⟨some 7, none, (.mv (.t 6)), []⟩,
 ⟨some 8, some (7, true), (.mv (.t 1)), []⟩,
 ⟨some 9, some (7, true), (.mv (.t 0)), []⟩,
 ⟨some 10, some (7, true), (.nilc (.t 9)), []⟩,
 ⟨some 11, some (7, true), (.fa 11 (.t 10)), []⟩,
 ⟨some 12, some (7, true), (.ld none (.t 11)), []⟩,
 ⟨some 13, some (7, true), (.len false (.t 12)), []⟩,
 ⟨some 14, some (7, true), (.bin .lss .num (.t 8) (.t 13)), []⟩,
 ⟨some 15, none, (.pick (.t 7) (.t 14) (.c (.bool false))), []⟩,
 ⟨some 16, none, (.mv (.t 15)), []⟩,
 ⟨some 17, some (16, true), (.mv (.t 0)), []⟩,
 ⟨some 18, some (16, true), (.nilc (.t 17)), []⟩,
 ⟨some 19, some (16, true), (.fa 11 (.t 18)), []⟩,
 ⟨some 20, some (16, true), (.ld none (.t 19)), []⟩,
 ⟨some 21, some (16, true), (.mv (.t 1)), []⟩,
 ⟨some 22, some (16, true), (.ia none 3 (.t 20) (.t 21)), []⟩,
 ⟨some 23, some (16, true), (.fa 2 (.t 22)), []⟩,
 ⟨some 24, some (16, true), (.ld none (.t 23)), []⟩,
 ⟨some 25, some (16, true), (.un .not (.t 24)), []⟩,
 ⟨some 26, none, (.pick (.t 16) (.t 25) (.c (.bool false))), []⟩,
 ⟨some 27, none, (.call 161 [(.t 26)]), []⟩])
 (.seq (.reg 0 [] [] [⟨some 28, none, (.mv (.t 0)), []⟩,
 ⟨some 29, none, (.nilc (.t 28)), []⟩,
 ⟨some 30, none, (.fa 11 (.t 29)), []⟩,
 ⟨some 31, none, (.ld none (.t 30)), []⟩,
 ⟨some 32, none, (.mv (.t 1)), []⟩,
 ⟨some 33, none, (.ia none 3 (.t 31) (.t 32)), []⟩,
 ⟨some 34, none, (.fa 0 (.t 33)), []⟩,
 ⟨some 35, none, (.ld (some 2) (.t 34)), []⟩,
 ⟨none, none, (.st 2 (.t 4) (.t 35)), []⟩])
 .ret)))
def zf162 : IFun := ⟨36, [(.cell 4 (some 2))], zc162⟩
theorem zok162 : okFun Tryz.prog 162 zf162 = true := by kernel_rfl
def zc163 : ICode :=
 (.seq (.reg 0 [] [] [⟨some 2, none, (.mv (.c (.int .i64 0))), []⟩])
 (.seq (.reg 0 [] [] [⟨some 3, none, (.mv (.t 0)), []⟩,
 ⟨some 4, none, (.bin .shl .num (.t 3) (.c (.int .u64 1))), []⟩,
 ⟨some 5, none, (.bin .shr .num (.t 4) (.c (.int .u64 1))), []⟩,
 ⟨some 2, none, (.mv (.t 5)), []⟩])
 .ret))
def zf163 : IFun := ⟨6, [(.tmp 2)], zc163⟩
theorem zok163 : okFun Tryz.prog 163 zf163 = true := by kernel_rfl
def zc164 : ICode :=
 (.seq (.reg 0 [] [] [⟨some 5, none, (.bx none 46 (.t 2)), []⟩])
 (.seq (.reg 0 [] [] [⟨some 6, none, (.mv (.t 1)), []⟩,
 ⟨some 7, none, (.bin .geq .num (.t 6) (.c (.int .i64 0))), []⟩,
 ⟨some 8, none, (.mv (.t 7)), []⟩,
 ⟨some 9, some (8, true), (.mv (.t 1)), []⟩,
 ⟨some 10, some (8, true), (.mv (.t 0)), []⟩,
 ⟨some 11, some (8, true), (.nilc (.t 10)), []⟩,
 ⟨some 12, some (8, true), (.fa 11 (.t 11)), []⟩,
 ⟨some 13, some (8, true), (.ld none (.t 12)), []⟩,
 ⟨some 14, some (8, true), (.len false (.t 13)), []⟩,
 ⟨some 15, some (8, true), (.bin .lss .num (.t 9) (.t 14)), []⟩,
 ⟨some 16, none, (.pick (.t 8) (.t 15) (.c (.bool false))), []⟩,
 ⟨some 17, none, (.call 161 [(.t 16)]), []⟩])
 (.reg 0 [0, 1, 2, 3, 4, 5, 6, 7, 8] [[], [0], [0, 1], [1, 0, 2], [], [], [5], [6, 5, 4, 2, 0, 1, 3], [3, 1, 0, 2, 4, 5, 6, 7]] [⟨some 18, none, (.mv (.t 0)), []⟩,
 ⟨some 19, none, (.nilc (.t 18)), []⟩,
 ⟨some 20, none, (.fa 11 (.t 19)), []⟩,
 ⟨some 21, none, (.ld none (.t 20)), []⟩,
 ⟨some 22, none, (.mv (.t 1)), []⟩,
 ⟨some 23, none, (.ld (some 2) (.t 5)), []⟩,
 ⟨some 24, none, (.build [(.bool false), .nilsl, (.bool false)] [(0, 2, (.t 23))]), []⟩,
 ⟨some 25, none, (.ia none 3 (.t 21) (.t 22)), []⟩,
 ⟨none, none, (.st 3 (.t 25) (.t 24)), []⟩])))
def zf164 : IFun := ⟨26, [], zc164⟩
theorem zok164 : okFun Tryz.prog 164 zf164 = true := by kernel_rfl
def zc165 : ICode :=
 (.seq (.reg 0 [] [] [⟨some 8, none, (.mv (.t 1)), []⟩,
 ⟨some 9, none, (.mv (.t 0)), []⟩,
 ⟨some 10, none, (.nilc (.t 9)), []⟩,
 ⟨some 11, none, (.fa 11 (.t 10)), []⟩,
 ⟨some 12, none, (.ld none (.t 11)), []⟩,
 ⟨some 13, none, (.len false (.t 12)), []⟩,
 ⟨some 14, none, (.call 73 [(.t 8), (.t 13)]), []⟩,
 ⟨some 15, none, (.call 161 [(.t 14)]), []⟩])
 (.seq (.reg 0 [] [] [⟨some 16, none, (.mv (.t 0)), []⟩,
 ⟨some 17, none, (.nilc (.t 16)), []⟩,
 ⟨some 18, none, (.fa 11 (.t 17)), []⟩,
 ⟨some 19, none, (.ld none (.t 18)), []⟩,
 ⟨some 20, none, (.len false (.t 19)), []⟩,
 ⟨some 21, none, (.mks none 148 [(.bool false), .nilsl, (.bool false)] 40 (.t 20) (.t 20)), []⟩,
 ⟨some 4, none, (.mv (.t 21)), []⟩])
 (.seq (.seq (.reg 0 [] [] [⟨some 22, none, (.mv (.t 4)), []⟩,
 ⟨some 23, none, (.len false (.t 22)), []⟩,
 ⟨some 24, none, (.mv (.c (.int .i64 0))), []⟩])
 (.block 0 (.loop (.seq (.reg 0 [] [] [⟨some 25, none, (.bin .lss .num (.t 24) (.t 23)), []⟩])
 (.seq (.cond (.t 25) .skip
 (.exit 0))
 (.seq (.block 1 (.seq (.reg 0 [] [] [⟨some 26, none, (.mv (.t 24)), []⟩,
 ⟨some 5, none, (.mv (.t 26)), []⟩])
 (.reg 0 [] [] [⟨some 27, none, (.mv (.t 4)), []⟩,
 ⟨some 28, none, (.mv (.t 5)), []⟩,
 ⟨some 29, none, (.ia none 3 (.t 27) (.t 28)), []⟩,
 ⟨some 30, none, (.fa 2 (.t 29)), []⟩,
 ⟨none, none, (.st 1 (.t 30) (.c (.bool true))), []⟩])))
 (.reg 0 [] [] [⟨some 31, none, (.bin .add .num (.t 24) (.c (.int .i64 1))), []⟩,
 ⟨some 24, none, (.mv (.t 31)), []⟩])))))))
 (.seq (.seq (.reg 0 [] [] [⟨some 32, none, (.mv (.t 1)), []⟩,
 ⟨some 33, none, (.len false (.t 32)), []⟩,
 ⟨some 34, none, (.mv (.c (.int .i64 0))), []⟩])
 (.block 2 (.loop (.seq (.reg 0 [] [] [⟨some 35, none, (.bin .lss .num (.t 34) (.t 33)), []⟩])
 (.seq (.cond (.t 35) .skip
 (.exit 2))
 (.seq (.block 3 (.seq (.reg 0 [] [] [⟨some 36, none, (.ia none 1 (.t 32) (.t 34)), []⟩,
 ⟨some 37, none, (.ld none (.t 36)), []⟩,
 ⟨some 7, none, (.mv (.t 37)), []⟩])
 (.seq (.reg 0 [] [] [⟨some 38, none, (.mv (.t 0)), []⟩,
 ⟨some 39, none, (.mv (.t 7)), []⟩,
 ⟨some 40, none, (.call 162 [(.t 38), (.t 39)]), []⟩])
 (.reg 0 [] [] [⟨some 41, none, (.mv (.t 4)), []⟩,
 ⟨some 42, none, (.mv (.t 7)), []⟩,
 ⟨some 43, none, (.mv (.t 0)), []⟩,
 ⟨some 44, none, (.nilc (.t 43)), []⟩,
 ⟨some 45, none, (.fa 11 (.t 44)), []⟩,
 ⟨some 46, none, (.ld none (.t 45)), []⟩,
 ⟨some 47, none, (.mv (.t 7)), []⟩,
 ⟨some 48, none, (.ia none 3 (.t 46) (.t 47)), []⟩,
 ⟨some 49, none, (.ld (some 3) (.t 48)), []⟩,
 ⟨some 50, none, (.ia none 3 (.t 41) (.t 42)), []⟩,
 ⟨none, none, (.st 3 (.t 50) (.t 49)), []⟩]))))
 (.reg 0 [] [] [⟨some 51, none, (.bin .add .num (.t 34) (.c (.int .i64 1))), []⟩,
 ⟨some 34, none, (.mv (.t 51)), []⟩])))))))
 (.reg 0 [] [] [⟨some 52, none, (.mv (.t 0)), []⟩,
 ⟨some 53, none, (.mv (.t 4)), []⟩,
 ⟨some 54, none, (.nilc (.t 52)), []⟩,
 ⟨some 55, none, (.fa 11 (.t 54)), []⟩,
 ⟨none, none, (.st 1 (.t 55) (.t 53)), []⟩])))))
def zf165 : IFun := ⟨56, [], zc165⟩
theorem zok165 : okFun Tryz.prog 165 zf165 = true := by kernel_rfl
def zc166 : ICode :=
 (.seq (.reg 0 [] [] [⟨some 2, none, (.al none 46 [(.bool false), .nilsl]), []⟩])
 (.seq (.reg 0 [] [] [⟨some 3, none, (.mv (.t 0)), []⟩,
 ⟨some 4, none, (.mksl none 3 [(.int .i64 0)] 1 [(0, 1, (.t 3))]), []⟩,
 ⟨some 5, none, (.build [(.bool false), .nilsl] [(1, 1, (.t 4))]), []⟩,
 ⟨none, none, (.st 2 (.t 2) (.t 5)), []⟩])
 .ret))
def zf166 : IFun := ⟨6, [(.cell 2 (some 2))], zc166⟩
theorem zok166 : okFun Tryz.prog 166 zf166 = true := by kernel_rfl
def zc167 : ICode :=
 (.seq (.reg 0 [] [] [⟨some 3, none, (.bx none 55 (.t 1)), []⟩])
 (.seq (.reg 0 [] [] [⟨some 5, none, (.mv (.t 0)), []⟩,
 ⟨some 6, none, (.fa 2 (.t 3)), []⟩,
 ⟨some 7, none, (.ld none (.t 6)), []⟩,
 ⟨some 8, none, (.mksl none 3 [(.int .i64 0)] 1 [(0, 1, (.c (.int .i64 3)))]), []⟩,
 ⟨some 9, none, (.call 172 [(.t 5), (.t 7), (.t 8)]), []⟩])
 (.seq (.reg 0 [] [] [⟨some 10, none, (.build [(.bool false), .nilsl] [(0, 1, (.c (.bool true)))]), []⟩,
 ⟨some 4, none, (.al none 46 [(.bool false), .nilsl]), []⟩,
 ⟨none, none, (.st 2 (.t 4) (.t 10)), []⟩])
 (.seq (.seq (.reg 0 [] [] [⟨some 11, none, (.fa 0 (.t 3)), []⟩,
 ⟨some 12, none, (.ld none (.t 11)), []⟩,
 ⟨some 13, none, (.bin .eql .num (.t 12) (.c (.int .i64 12))), []⟩])
 (.cond (.t 13) (.reg 0 [] [] [⟨some 14, none, (.mv (.t 0)), []⟩,
 ⟨some 15, none, (.fa 3 (.t 3)), []⟩,
 ⟨some 16, none, (.ld none (.t 15)), []⟩,
 ⟨some 17, none, (.call 158 [(.t 14), (.t 16)]), []⟩])
 (.reg 0 [] [] [⟨some 18, none, (.mv (.t 0)), []⟩,
 ⟨some 19, none, (.fa 3 (.t 3)), []⟩,
 ⟨some 20, none, (.ld none (.t 19)), []⟩,
 ⟨some 21, none, (.mksl none 3 [(.int .i64 0)] 1 [(0, 1, (.c (.int .i64 3)))]), []⟩,
 ⟨some 22, none, (.call 172 [(.t 18), (.t 20), (.t 21)]), []⟩])))
 (.seq (.seq (.reg 0 [] [] [⟨some 23, none, (.fa 0 (.t 3)), []⟩,
 ⟨some 24, none, (.ld none (.t 23)), []⟩,
 ⟨some 25, none, (.bin .eql .num (.t 24) (.c (.int .i64 13))), []⟩])
 (.cond (.t 25) (.seq (.reg 0 [] [] [⟨some 26, none, (.mv (.t 0)), []⟩,
 ⟨some 27, none, (.fa 8 (.t 3)), []⟩,
 ⟨some 28, none, (.ld none (.t 27)), []⟩,
 ⟨some 29, none, (.call 165 [(.t 26), (.t 28)]), []⟩])
 (.reg 0 [] [] [⟨some 30, none, (.call 166 [(.c (.int .i64 0))]), []⟩,
 ⟨none, none, (.st 2 (.t 4) (.t 30)), []⟩]))
 .skip))
 (.reg 0 [] [] [⟨some 31, none, (.mv (.t 0)), []⟩,
 ⟨some 32, none, (.fa 1 (.t 3)), []⟩,
 ⟨some 33, none, (.ld none (.t 32)), []⟩,
 ⟨some 34, none, (.ld (some 2) (.t 4)), []⟩,
 ⟨some 35, none, (.call 164 [(.t 31), (.t 33), (.t 34)]), []⟩]))))))
def zf167 : IFun := ⟨36, [], zc167⟩
theorem zok167 : okFun Tryz.prog 167 zf167 = true := by kernel_rfl
def zc168 : ICode :=
 (.seq (.reg 0 [] [] [⟨some 6, none, (.al none 61 [(.int .i64 0), .nilsl, (.str [])]), []⟩])
 (.seq (.reg 0 [] [] [⟨some 7, none, (.mv (.t 1)), []⟩,
 ⟨some 8, none, (.bin .geq .num (.t 7) (.c (.int .i64 0))), []⟩,
 ⟨some 9, none, (.mv (.t 8)), []⟩,
 ⟨some 10, some (9, true), (.mv (.t 1)), []⟩,
 ⟨some 11, some (9, true), (.mv (.t 0)), []⟩,
 ⟨some 12, some (9, true), (.nilc (.t 11)), []⟩,
 ⟨some 13, some (9, true), (.fa 0 (.t 12)), []⟩,
 ⟨some 14, some (9, true), (.fa 1 (.t 13)), []⟩,
 ⟨some 15, some (9, true), (.ld none (.t 14)), []⟩,
 ⟨some 16, some (9, true), (.len false (.t 15)), []⟩,
 ⟨some 17, some (9, true), (.bin .lss .num (.t 10) (.t 16)), []⟩,
 ⟨some 18, none, (.pick (.t 9) (.t 17) (.c (.bool false))), []⟩,
 ⟨some 19, none, (.mv (.t 18)), []⟩,
 ⟨some 20, some (19, true), (.mv (.t 0)), []⟩,
 ⟨some 21, some (19, true), (.nilc (.t 20)), []⟩,
 ⟨some 22, some (19, true), (.fa 0 (.t 21)), []⟩,
 ⟨some 23, some (19, true), (.fa 1 (.t 22)), []⟩,
 ⟨some 24, some (19, true), (.ld none (.t 23)), []⟩,
 ⟨some 25, some (19, true), (.mv (.t 1)), []⟩,
 ⟨some 26, some (19, true), (.ia none 3 (.t 24) (.t 25)), []⟩,
 ⟨some 27, some (19, true), (.fa 0 (.t 26)), []⟩,
 ⟨some 28, some (19, true), (.ld none (.t 27)), []⟩,
 ⟨some 29, some (19, true), (.mv (.t 2)), []⟩,
 ⟨some 30, some (19, true), (.bin .eql .num (.t 28) (.t 29)), []⟩,
 ⟨some 31, none, (.pick (.t 19) (.t 30) (.c (.bool false))), []⟩,
 ⟨some 32, none, (.call 161 [(.t 31)]), []⟩])
 (.seq (.reg 0 [] [] [⟨some 33, none, (.mv (.t 0)), []⟩,
 ⟨some 34, none, (.nilc (.t 33)), []⟩,
 ⟨some 35, none, (.fa 0 (.t 34)), []⟩,
 ⟨some 36, none, (.fa 1 (.t 35)), []⟩,
 ⟨some 37, none, (.ld none (.t 36)), []⟩,
 ⟨some 38, none, (.mv (.t 1)), []⟩,
 ⟨some 39, none, (.ia none 3 (.t 37) (.t 38)), []⟩,
 ⟨some 40, none, (.ld (some 3) (.t 39)), []⟩,
 ⟨none, none, (.st 3 (.t 6) (.t 40)), []⟩])
 .ret)))
def zf168 : IFun := ⟨41, [(.cell 6 (some 3))], zc168⟩
theorem zok168 : okFun Tryz.prog 168 zf168 = true := by kernel_rfl
def zc169 : ICode :=
 (.seq (.reg 0 [] [] [⟨some 8, none, (.mv (.t 1)), []⟩,
 ⟨some 9, none, (.len false (.t 8)), []⟩,
 ⟨some 10, none, (.mv (.t 2)), []⟩,
 ⟨some 11, none, (.len false (.t 10)), []⟩,
 ⟨some 12, none, (.bin .eql .num (.t 9) (.t 11)), []⟩,
 ⟨some 13, none, (.call 161 [(.t 12)]), []⟩])
 (.seq (.reg 0 [] [] [⟨some 14, none, (.mv (.t 1)), []⟩,
 ⟨some 15, none, (.len false (.t 14)), []⟩,
 ⟨some 16, none, (.mv (.c (.int .i64 0))), []⟩])
 (.block 0 (.loop (.seq (.reg 0 [] [] [⟨some 17, none, (.bin .lss .num (.t 16) (.t 15)), []⟩])
 (.seq (.cond (.t 17) .skip
 (.exit 0))
 (.seq (.block 1 (.seq (.reg 0 [] [] [⟨some 18, none, (.mv (.t 16)), []⟩,
 ⟨some 19, none, (.ia none 1 (.t 14) (.t 16)), []⟩,
 ⟨some 20, none, (.ld none (.t 19)), []⟩,
 ⟨some 6, none, (.mv (.t 18)), []⟩,
 ⟨some 7, none, (.mv (.t 20)), []⟩])
 (.reg 1 [0, 1, 2, 3, 4, 5, 6, 7, 8, 9, 10, 11, 12, 13, 14] [[], [], [], [2], [2, 3], [3, 2, 4], [4, 2, 3, 5], [], [], [8, 7], [7, 8, 9], [9, 8, 7, 10, 5, 3, 2, 4, 6], [6, 4, 2, 3, 5, 10, 7, 8, 9, 11], [11, 9, 8, 7, 10, 5, 3, 2, 4, 6, 12], [12, 6, 4, 2, 3, 5, 10, 7, 8, 9, 11, 13, 1, 0]] [⟨some 21, none, (.mv (.t 0)), []⟩,
 ⟨some 22, none, (.mv (.t 7)), []⟩,
 ⟨some 23, none, (.mv (.t 0)), []⟩,
 ⟨some 24, none, (.nilc (.t 23)), []⟩,
 ⟨some 25, none, (.fa 0 (.t 24)), []⟩,
 ⟨some 26, none, (.fa 0 (.t 25)), []⟩,
 ⟨some 27, none, (.ld none (.t 26)), []⟩,
 ⟨some 28, none, (.mv (.t 2)), []⟩,
 ⟨some 29, none, (.mv (.t 6)), []⟩,
 ⟨some 30, none, (.ia none 1 (.t 28) (.t 29)), []⟩,
 ⟨some 31, none, (.ld none (.t 30)), []⟩,
 ⟨some 32, none, (.ia none 2 (.t 27) (.t 31)), []⟩,
 ⟨some 33, none, (.ld (some 2) (.t 32)), []⟩,
 ⟨some 34, none, (.mksl (some 0) 46 [(.bool false), .nilsl] 1 [(0, 2, (.t 33))]), []⟩,
 ⟨some 35, none, (.call 173 [(.t 21), (.t 22), (.t 34)]), []⟩])))
 (.reg 0 [] [] [⟨some 36, none, (.bin .add .num (.t 16) (.c (.int .i64 1))), []⟩,
 ⟨some 16, none, (.mv (.t 36)), []⟩]))))))))
def zf169 : IFun := ⟨37, [], zc169⟩
theorem zok169 : okFun Tryz.prog 169 zf169 = true := by kernel_rfl
def zc170 : ICode :=
 (.seq (.reg 0 [] [] [⟨some 2, none, (.al none 46 [(.bool false), .nilsl]), []⟩])
 (.seq (.seq (.reg 0 [] [] [⟨some 5, none, (.mv (.t 0)), []⟩,
 ⟨some 6, none, (.len false (.t 5)), []⟩,
 ⟨some 7, none, (.mv (.c (.int .i64 0))), []⟩])
 (.block 0 (.loop (.seq (.reg 0 [] [] [⟨some 8, none, (.bin .lss .num (.t 7) (.t 6)), []⟩])
 (.seq (.cond (.t 8) .skip
 (.exit 0))
 (.seq (.block 1 (.seq (.reg 0 [] [] [⟨some 9, none, (.ia none 2 (.t 5) (.t 7)), []⟩,
 ⟨some 10, none, (.ld (some 2) (.t 9)), []⟩,
 ⟨some 4, none, (.al none 46 [(.bool false), .nilsl]), []⟩,
 ⟨none, none, (.st 2 (.t 4) (.t 10)), []⟩])
 (.reg 0 [] [] [⟨some 11, none, (.ld (some 2) (.t 2)), []⟩,
 ⟨some 12, none, (.ld (some 2) (.t 4)), []⟩,
 ⟨some 13, none, (.call 21 [(.t 11), (.t 12)]), []⟩,
 ⟨none, none, (.st 2 (.t 2) (.t 13)), []⟩])))
 (.reg 0 [] [] [⟨some 14, none, (.bin .add .num (.t 7) (.c (.int .i64 1))), []⟩,
 ⟨some 7, none, (.mv (.t 14)), []⟩])))))))
 (.seq (.reg 0 [] [] [⟨some 15, none, (.ld (some 2) (.t 2)), []⟩,
 ⟨none, none, (.st 2 (.t 2) (.t 15)), []⟩])
 .ret)))
def zf170 : IFun := ⟨16, [(.cell 2 (some 2))], zc170⟩
theorem zok170 : okFun Tryz.prog 170 zf170 = true := by kernel_rfl
def zc171 : ICode :=
 (.seq (.reg 0 [] [] [⟨some 6, none, (.mv (.c .nilsl)), []⟩])
 (.seq (.seq (.reg 0 [] [] [⟨some 10, none, (.mv (.t 1)), []⟩,
 ⟨some 11, none, (.len false (.t 10)), []⟩,
 ⟨some 12, none, (.mv (.c (.int .i64 0))), []⟩])
 (.block 0 (.loop (.seq (.reg 0 [] [] [⟨some 13, none, (.bin .lss .num (.t 12) (.t 11)), []⟩])
 (.seq (.cond (.t 13) .skip
 (.exit 0))
 (.seq (.block 1 (.seq (.reg 0 [] [] [⟨some 14, none, (.ia none 1 (.t 10) (.t 12)), []⟩,
 ⟨some 15, none, (.ld none (.t 14)), []⟩,
 ⟨some 8, none, (.mv (.t 15)), []⟩])
 (.seq (.reg 0 [] [] [⟨some 16, none, (.mv (.t 0)), []⟩,
 ⟨some 17, none, (.nilc (.t 16)), []⟩,
 ⟨some 18, none, (.fa 0 (.t 17)), []⟩,
 ⟨some 19, none, (.fa 1 (.t 18)), []⟩,
 ⟨some 20, none, (.ld none (.t 19)), []⟩,
 ⟨some 21, none, (.mv (.t 8)), []⟩,
 ⟨some 22, none, (.ia none 3 (.t 20) (.t 21)), []⟩,
 ⟨some 23, none, (.fa 1 (.t 22)), []⟩,
 ⟨some 24, none, (.ld none (.t 23)), []⟩,
 ⟨some 9, none, (.mv (.t 24)), []⟩])
 (.seq (.reg 0 [] [] [⟨some 25, none, (.mv (.t 2)), []⟩,
 ⟨some 26, none, (.bin .geq .num (.t 25) (.c (.int .i64 0))), []⟩,
 ⟨some 27, none, (.mv (.t 26)), []⟩,
 ⟨some 28, some (27, true), (.mv (.t 2)), []⟩,
 ⟨some 29, some (27, true), (.mv (.t 9)), []⟩,
 ⟨some 30, some (27, true), (.len false (.t 29)), []⟩,
 ⟨some 31, some (27, true), (.bin .lss .num (.t 28) (.t 30)), []⟩,
 ⟨some 32, none, (.pick (.t 27) (.t 31) (.c (.bool false))), []⟩,
 ⟨some 33, none, (.call 161 [(.t 32)]), []⟩])
 (.reg 1 [0, 1, 2, 3, 4, 5, 6, 7, 8, 9, 10, 11, 12, 13, 14] [[], [], [1], [1, 2], [2, 1, 3], [3, 1, 2, 4], [], [], [7, 6], [6, 7, 8], [8, 7, 6, 9, 4, 2, 1, 3, 5], [5, 3, 1, 2, 4, 9, 6, 7, 8, 10], [10, 8, 7, 6, 9, 4, 2, 1, 3, 5, 11], [11, 5, 3, 1, 2, 4, 9, 6, 7, 8, 10, 12, 0], [0, 12, 10, 8, 7, 6, 9, 4, 2, 1, 3, 5, 11, 13]] [⟨some 34, none, (.mv (.t 6)), []⟩,
 ⟨some 35, none, (.mv (.t 0)), []⟩,
 ⟨some 36, none, (.nilc (.t 35)), []⟩,
 ⟨some 37, none, (.fa 0 (.t 36)), []⟩,
 ⟨some 38, none, (.fa 0 (.t 37)), []⟩,
 ⟨some 39, none, (.ld none (.t 38)), []⟩,
 ⟨some 40, none, (.mv (.t 9)), []⟩,
 ⟨some 41, none, (.mv (.t 2)), []⟩,
 ⟨some 42, none, (.ia none 1 (.t 40) (.t 41)), []⟩,
 ⟨some 43, none, (.ld none (.t 42)), []⟩,
 ⟨some 44, none, (.ia none 2 (.t 39) (.t 43)), []⟩,
 ⟨some 45, none, (.ld (some 2) (.t 44)), []⟩,
 ⟨some 46, none, (.mksl (some 0) 46 [(.bool false), .nilsl] 1 [(0, 2, (.t 45))]), []⟩,
 ⟨some 47, none, (.app 46 2 32 [(.bool false), .nilsl] (.t 34) (.t 46)), []⟩,
 ⟨some 6, none, (.mv (.t 47)), []⟩])))))
 (.reg 0 [] [] [⟨some 48, none, (.bin .add .num (.t 12) (.c (.int .i64 1))), []⟩,
 ⟨some 12, none, (.mv (.t 48)), []⟩])))))))
 (.seq (.reg 0 [] [] [⟨some 49, none, (.mv (.t 6)), []⟩,
 ⟨some 6, none, (.mv (.t 49)), []⟩])
 .ret)))
def zf171 : IFun := ⟨50, [(.tmp 6)], zc171⟩
theorem zok171 : okFun Tryz.prog 171 zf171 = true := by kernel_rfl
def zc172 : ICode :=
 (.seq (.reg 0 [] [] [⟨some 6, none, (.mv (.c .nilsl)), []⟩])
 (.seq (.reg 0 [] [] [⟨some 10, none, (.mv (.t 0)), []⟩,
 ⟨some 11, none, (.mv (.t 1)), []⟩,
 ⟨some 12, none, (.call 162 [(.t 10), (.t 11)]), []⟩,
 ⟨some 7, none, (.al none 46 [(.bool false), .nilsl]), []⟩,
 ⟨none, none, (.st 2 (.t 7) (.t 12)), []⟩])
 (.seq (.reg 0 [] [] [⟨some 13, none, (.fa 0 (.t 7)), []⟩,
 ⟨some 14, none, (.ld none (.t 13)), []⟩,
 ⟨some 15, none, (.un .not (.t 14)), []⟩,
 ⟨some 16, none, (.mv (.t 15)), []⟩,
 ⟨some 17, some (16, true), (.fa 1 (.t 7)), []⟩,
 ⟨some 18, some (16, true), (.ld none (.t 17)), []⟩,
 ⟨some 19, some (16, true), (.len false (.t 18)), []⟩,
 ⟨some 20, some (16, true), (.bin .gtr .num (.t 19) (.c (.int .i64 0))), []⟩,
 ⟨some 21, none, (.pick (.t 16) (.t 20) (.c (.bool false))), []⟩,
 ⟨some 22, none, (.call 161 [(.t 21)]), []⟩])
 (.seq (.seq (.reg 0 [] [] [⟨some 23, none, (.fa 1 (.t 7)), []⟩,
 ⟨some 24, none, (.ld none (.t 23)), []⟩,
 ⟨some 25, none, (.len false (.t 24)), []⟩,
 ⟨some 26, none, (.mv (.c (.int .i64 0))), []⟩])
 (.block 0 (.loop (.seq (.reg 0 [] [] [⟨some 27, none, (.bin .lss .num (.t 26) (.t 25)), []⟩])
 (.seq (.cond (.t 27) .skip
 (.exit 0))
 (.seq (.block 1 (.seq (.reg 0 [] [] [⟨some 28, none, (.ia none 1 (.t 24) (.t 26)), []⟩,
 ⟨some 29, none, (.ld none (.t 28)), []⟩,
 ⟨some 9, none, (.mv (.t 29)), []⟩])
 (.reg 0 [] [] [⟨some 30, none, (.mv (.t 2)), []⟩,
 ⟨some 31, none, (.mv (.t 0)), []⟩,
 ⟨some 32, none, (.nilc (.t 31)), []⟩,
 ⟨some 33, none, (.fa 0 (.t 32)), []⟩,
 ⟨some 34, none, (.fa 1 (.t 33)), []⟩,
 ⟨some 35, none, (.ld none (.t 34)), []⟩,
 ⟨some 36, none, (.mv (.t 9)), []⟩,
 ⟨some 37, none, (.ia none 3 (.t 35) (.t 36)), []⟩,
 ⟨some 38, none, (.fa 0 (.t 37)), []⟩,
 ⟨some 39, none, (.ld none (.t 38)), []⟩,
 ⟨some 40, none, (.call 69 [(.t 30), (.t 39)]), []⟩,
 ⟨some 41, none, (.call 161 [(.t 40)]), []⟩])))
 (.reg 0 [] [] [⟨some 42, none, (.bin .add .num (.t 26) (.c (.int .i64 1))), []⟩,
 ⟨some 26, none, (.mv (.t 42)), []⟩])))))))
 (.seq (.reg 0 [] [] [⟨some 43, none, (.fa 1 (.t 7)), []⟩,
 ⟨some 44, none, (.ld none (.t 43)), []⟩,
 ⟨some 6, none, (.mv (.t 44)), []⟩])
 .ret)))))
def zf172 : IFun := ⟨45, [(.tmp 6)], zc172⟩
theorem zok172 : okFun Tryz.prog 172 zf172 = true := by kernel_rfl
def zc173 : ICode :=
 (.seq (.reg 0 [] [] [⟨some 9, none, (.mv (.t 0)), []⟩,
 ⟨some 10, none, (.mv (.t 1)), []⟩,
 ⟨some 11, none, (.call 162 [(.t 9), (.t 10)]), []⟩,
 ⟨some 6, none, (.al none 46 [(.bool false), .nilsl]), []⟩,
 ⟨none, none, (.st 2 (.t 6) (.t 11)), []⟩])
 (.seq (.reg 0 [] [] [⟨some 12, none, (.mv (.t 2)), []⟩,
 ⟨some 13, none, (.len false (.t 12)), []⟩,
 ⟨some 14, none, (.mv (.c (.int .i64 0))), []⟩])
 (.block 0 (.loop (.seq (.reg 0 [] [] [⟨some 15, none, (.bin .lss .num (.t 14) (.t 13)), []⟩])
 (.seq (.cond (.t 15) .skip
 (.exit 0))
 (.seq (.block 1 (.seq (.reg 0 [] [] [⟨some 16, none, (.ia none 2 (.t 12) (.t 14)), []⟩,
 ⟨some 17, none, (.ld (some 2) (.t 16)), []⟩,
 ⟨some 8, none, (.al none 46 [(.bool false), .nilsl]), []⟩,
 ⟨none, none, (.st 2 (.t 8) (.t 17)), []⟩])
 (.reg 0 [] [] [⟨some 18, none, (.ld (some 2) (.t 6)), []⟩,
 ⟨some 19, none, (.ld (some 2) (.t 8)), []⟩,
 ⟨some 20, none, (.call 23 [(.t 18), (.t 19)]), []⟩,
 ⟨some 21, none, (.call 161 [(.t 20)]), []⟩])))
 (.reg 0 [] [] [⟨some 22, none, (.bin .add .num (.t 14) (.c (.int .i64 1))), []⟩,
 ⟨some 14, none, (.mv (.t 22)), []⟩]))))))))
def zf173 : IFun := ⟨23, [], zc173⟩
theorem zok173 : okFun Tryz.prog 173 zf173 = true := by kernel_rfl
def zc174 : ICode :=
 (.seq (.reg 0 [] [] [⟨some 3, none, (.bx none 55 (.t 1)), []⟩])
 (.seq (.reg 0 [] [] [⟨some 5, none, (.mv (.t 0)), []⟩,
 ⟨some 6, none, (.ld (some 9) (.t 3)), []⟩,
 ⟨some 7, none, (.call 160 [(.t 5), (.t 6)]), []⟩,
 ⟨some 4, none, (.al none 39 [.nilsl, (.int .i64 0), (.int .i64 0), .nilsl]), []⟩,
 ⟨none, none, (.st 4 (.t 4) (.t 7)), []⟩])
 (.seq (.reg 0 [] [] [⟨some 8, none, (.mv (.t 0)), []⟩,
 ⟨some 9, none, (.fa 8 (.t 3)), []⟩,
 ⟨some 10, none, (.ld none (.t 9)), []⟩,
 ⟨some 11, none, (.call 165 [(.t 8), (.t 10)]), []⟩])
 (.seq (.seq (.reg 0 [] [] [⟨some 12, none, (.fa 3 (.t 3)), []⟩,
 ⟨some 13, none, (.ld none (.t 12)), []⟩,
 ⟨some 14, none, (.bin .eql .num (.t 13) (.c (.int .i64 (-1)))), []⟩])
 (.cond (.t 14) (.reg 0 [] [] [⟨some 15, none, (.fa 4 (.t 3)), []⟩,
 ⟨some 16, none, (.ld none (.t 15)), []⟩,
 ⟨some 17, none, (.bin .eql .num (.t 16) (.c (.int .i64 0))), []⟩,
 ⟨some 18, none, (.call 161 [(.t 17)]), []⟩])
 (.seq (.reg 0 [0, 1, 2, 3, 4, 5, 6, 7, 8, 9, 10, 11, 12, 13] [[], [0], [0, 1], [1, 0, 2], [2, 0, 1, 3], [3, 1, 0, 2, 4], [2, 0, 1, 3], [3, 1, 0, 2, 6], [6, 2, 0, 1, 3, 7], [7, 3, 1, 0, 2, 6, 8], [8, 6, 2, 0, 1, 3, 7, 9], [9, 7, 6, 8, 10, 4, 2, 0, 1, 3, 5], [5, 4, 10, 8, 6, 7, 9, 11, 2, 0, 1, 3], [3, 1, 0, 2, 11, 9, 7, 6, 8, 10, 4, 5, 12]] [⟨some 19, none, (.fa 4 (.t 3)), []⟩,
 ⟨some 20, none, (.ld none (.t 19)), []⟩,
 ⟨some 21, none, (.bin .geq .num (.t 20) (.c (.int .i64 0))), []⟩,
 ⟨some 22, none, (.mv (.t 21)), []⟩,
 ⟨some 23, some (22, true), (.fa 4 (.t 3)), []⟩,
 ⟨some 24, some (22, true), (.ld none (.t 23)), []⟩,
 ⟨some 25, some (22, true), (.mv (.t 0)), []⟩,
 ⟨some 26, some (22, true), (.nilc (.t 25)), []⟩,
 ⟨some 27, some (22, true), (.fa 11 (.t 26)), []⟩,
 ⟨some 28, some (22, true), (.ld none (.t 27)), []⟩,
 ⟨some 29, some (22, true), (.len false (.t 28)), []⟩,
 ⟨some 30, some (22, true), (.bin .lss .num (.t 24) (.t 29)), []⟩,
 ⟨some 31, none, (.pick (.t 22) (.t 30) (.c (.bool false))), []⟩,
 ⟨some 32, none, (.call 161 [(.t 31)]), []⟩])
 (.reg 0 [0, 1, 2, 3, 4, 5, 6, 7, 8, 9, 10, 11, 12, 13, 14, 15, 16, 17] [[], [], [1], [], [3], [], [5], [5, 6], [6, 5, 7], [7, 5, 6, 8], [], [10], [10, 11], [11, 10, 12], [12, 10, 11, 13], [13, 11, 10, 12, 14, 8, 6, 5, 7, 9], [9, 7, 5, 6, 8, 14, 12, 10, 11, 13, 15], [15, 13, 11, 10, 12, 14, 8, 6, 5, 7, 9, 16, 3, 4, 1, 2, 0]] [⟨some 33, none, (.mv (.t 0)), []⟩,
 ⟨some 34, none, (.fa 3 (.t 3)), []⟩,
 ⟨some 35, none, (.ld none (.t 34)), []⟩,
 ⟨some 36, none, (.fa 4 (.t 3)), []⟩,
 ⟨some 37, none, (.ld none (.t 36)), []⟩,
 ⟨some 38, none, (.mv (.t 0)), []⟩,
 ⟨some 39, none, (.nilc (.t 38)), []⟩,
 ⟨some 40, none, (.fa 0 (.t 39)), []⟩,
 ⟨some 41, none, (.fa 0 (.t 40)), []⟩,
 ⟨some 42, none, (.ld none (.t 41)), []⟩,
 ⟨some 43, none, (.mv (.t 0)), []⟩,
 ⟨some 44, none, (.nilc (.t 43)), []⟩,
 ⟨some 45, none, (.fa 0 (.t 44)), []⟩,
 ⟨some 46, none, (.fa 6 (.t 45)), []⟩,
 ⟨some 47, none, (.ld none (.t 46)), []⟩,
 ⟨some 48, none, (.ia none 2 (.t 42) (.t 47)), []⟩,
 ⟨some 49, none, (.ld (some 2) (.t 48)), []⟩,
 ⟨some 50, none, (.call 157 [(.t 33), (.t 35), (.t 37), (.t 49)]), []⟩]))))
 (.reg 0 [0, 1, 2, 3, 4, 5, 6, 7, 8, 9, 10, 11, 12] [[], [], [1], [], [3], [3, 4], [4, 3, 5], [5, 3, 4, 6], [], [8], [8, 9, 6, 4, 3, 5, 7], [7, 5, 3, 4, 6, 9, 8, 10], [10, 8, 9, 6, 4, 3, 5, 7, 11, 1, 2, 0]] [⟨some 51, none, (.mv (.t 0)), []⟩,
 ⟨some 52, none, (.fa 1 (.t 3)), []⟩,
 ⟨some 53, none, (.ld none (.t 52)), []⟩,
 ⟨some 54, none, (.mv (.t 0)), []⟩,
 ⟨some 55, none, (.nilc (.t 54)), []⟩,
 ⟨some 56, none, (.fa 0 (.t 55)), []⟩,
 ⟨some 57, none, (.fa 0 (.t 56)), []⟩,
 ⟨some 58, none, (.ld none (.t 57)), []⟩,
 ⟨some 59, none, (.fa 1 (.t 4)), []⟩,
 ⟨some 60, none, (.ld none (.t 59)), []⟩,
 ⟨some 61, none, (.ia none 2 (.t 58) (.t 60)), []⟩,
 ⟨some 62, none, (.ld (some 2) (.t 61)), []⟩,
 ⟨some 63, none, (.call 164 [(.t 51), (.t 53), (.t 62)]), []⟩])))))
def zf174 : IFun := ⟨64, [], zc174⟩
theorem zok174 : okFun Tryz.prog 174 zf174 = true := by kernel_rfl
def zc184 : ICode :=
 (.seq (.reg 0 [] [] [⟨some 4, none, (.mv (.c (.bool false))), []⟩])
 (.seq (.reg 0 [] [] [⟨some 5, none, (.mv (.t 0)), []⟩,
 ⟨some 6, none, (.mv (.t 1)), []⟩,
 ⟨some 7, none, (.call 213 [(.t 5), (.t 6)]), []⟩,
 ⟨some 8, none, (.bin .geq .num (.t 7) (.c (.int .i64 0))), []⟩,
 ⟨some 4, none, (.mv (.t 8)), []⟩])
 .ret))
def zf184 : IFun := ⟨9, [(.tmp 4)], zc184⟩
theorem zok184 : okFun Tryz.prog 184 zf184 = true := by kernel_rfl
def zc185 : ICode :=
 (.seq (.reg 0 [] [] [⟨some 3, none, (.mv (.c (.bool false))), []⟩])
 (.seq (.reg 0 [] [] [⟨some 4, none, (.mv (.t 0)), []⟩,
 ⟨some 5, none, (.len false (.t 4)), []⟩,
 ⟨some 6, none, (.ld none (.t 1)), []⟩,
 ⟨some 7, none, (.bin .gtr .num (.t 5) (.t 6)), []⟩,
 ⟨some 3, none, (.mv (.t 7)), []⟩])
 .ret))
def zf185 : IFun := ⟨8, [(.tmp 3)], zc185⟩
theorem zok185 : okFun Tryz.prog 185 zf185 = true := by kernel_rfl
def zc186 : ICode :=
 (.seq (.reg 0 [] [] [⟨some 4, none, (.mv (.c (.bool false))), []⟩])
 (.seq (.reg 0 [] [] [⟨some 5, none, (.mv (.t 0)), []⟩,
 ⟨some 6, none, (.mv (.t 1)), []⟩,
 ⟨some 7, none, (.call 214 [(.t 5), (.t 6)]), []⟩,
 ⟨some 8, none, (.bin .geq .num (.t 7) (.c (.int .i64 0))), []⟩,
 ⟨some 4, none, (.mv (.t 8)), []⟩])
 .ret))
def zf186 : IFun := ⟨9, [(.tmp 4)], zc186⟩
theorem zok186 : okFun Tryz.prog 186 zf186 = true := by kernel_rfl
def zc187 : ICode :=
 (.seq (.reg 0 [] [] [⟨some 3, none, (.mv (.c (.bool false))), []⟩])
 (.seq (.reg 0 [] [] [⟨some 4, none, (.mv (.t 0)), []⟩,
 ⟨some 5, none, (.len false (.t 4)), []⟩,
 ⟨some 6, none, (.ld none (.t 1)), []⟩,
 ⟨some 7, none, (.bin .gtr .num (.t 5) (.t 6)), []⟩,
 ⟨some 3, none, (.mv (.t 7)), []⟩])
 .ret))
def zf187 : IFun := ⟨8, [(.tmp 3)], zc187⟩
theorem zok187 : okFun Tryz.prog 187 zf187 = true := by kernel_rfl
def zc188 : ICode :=
 (.seq (.reg 0 [] [] [⟨some 4, none, (.mv (.c (.bool false))), []⟩])
 (.seq (.reg 0 [] [] [⟨some 5, none, (.mv (.t 0)), []⟩,
 ⟨some 6, none, (.mv (.t 1)), []⟩,
 ⟨some 7, none, (.call 215 [(.t 5), (.t 6)]), []⟩,
 ⟨some 8, none, (.bin .geq .num (.t 7) (.c (.int .i64 0))), []⟩,
 ⟨some 4, none, (.mv (.t 8)), []⟩])
 .ret))
def zf188 : IFun := ⟨9, [(.tmp 4)], zc188⟩
theorem zok188 : okFun Tryz.prog 188 zf188 = true := by kernel_rfl
def zc189 : ICode :=
 (.seq (.reg 0 [] [] [⟨some 3, none, (.mv (.c (.bool false))), []⟩])
 (.seq (.reg 0 [] [] [⟨some 4, none, (.mv (.t 0)), []⟩,
 ⟨some 5, none, (.len false (.t 4)), []⟩,
 ⟨some 6, none, (.ld none (.t 1)), []⟩,
 ⟨some 7, none, (.bin .gtr .num (.t 5) (.t 6)), []⟩,
 ⟨some 3, none, (.mv (.t 7)), []⟩])
 .ret))
def zf189 : IFun := ⟨8, [(.tmp 3)], zc189⟩
theorem zok189 : okFun Tryz.prog 189 zf189 = true := by kernel_rfl
def zc190 : ICode :=
 (.seq (.reg 0 [] [] [⟨some 4, none, (.mv (.c (.bool false))), []⟩])
 (.seq (.reg 0 [] [] [⟨some 5, none, (.mv (.t 0)), []⟩,
 ⟨some 6, none, (.mv (.t 1)), []⟩,
 ⟨some 7, none, (.call 216 [(.t 5), (.t 6)]), []⟩,
 ⟨some 8, none, (.bin .geq .num (.t 7) (.c (.int .i64 0))), []⟩,
 ⟨some 4, none, (.mv (.t 8)), []⟩])
 .ret))
def zf190 : IFun := ⟨9, [(.tmp 4)], zc190⟩
theorem zok190 : okFun Tryz.prog 190 zf190 = true := by kernel_rfl
def zc191 : ICode :=
 (.seq (.reg 0 [] [] [⟨some 3, none, (.mv (.c (.bool false))), []⟩])
 (.seq (.reg 0 [] [] [⟨some 4, none, (.mv (.t 0)), []⟩,
 ⟨some 5, none, (.len false (.t 4)), []⟩,
 ⟨some 6, none, (.ld none (.t 1)), []⟩,
 ⟨some 7, none, (.bin .gtr .num (.t 5) (.t 6)), []⟩,
 ⟨some 3, none, (.mv (.t 7)), []⟩])
 .ret))
def zf191 : IFun := ⟨8, [(.tmp 3)], zc191⟩
theorem zok191 : okFun Tryz.prog 191 zf191 = true := by kernel_rfl
def zc192 : ICode :=
 (.seq (.reg 0 [] [] [⟨some 4, none, (.mv (.c (.bool false))), []⟩])
 (.seq (.reg 0 [] [] [⟨some 5, none, (.mv (.t 0)), []⟩,
 ⟨some 6, none, (.mv (.t 1)), []⟩,
 ⟨some 7, none, (.call 217 [(.t 5), (.t 6)]), []⟩,
 ⟨some 8, none, (.bin .geq .num (.t 7) (.c (.int .i64 0))), []⟩,
 ⟨some 4, none, (.mv (.t 8)), []⟩])
 .ret))
def zf192 : IFun := ⟨9, [(.tmp 4)], zc192⟩
theorem zok192 : okFun Tryz.prog 192 zf192 = true := by kernel_rfl
def zc193 : ICode :=
 (.seq (.reg 0 [] [] [⟨some 2, none, (.mv (.c (.bool false))), []⟩])
 (.seq (.reg 0 [] [] [⟨some 3, none, (.mv (.t 0)), []⟩,
 ⟨some 4, none, (.len true (.t 3)), []⟩,
 ⟨some 5, none, (.bin .gtr .num (.t 4) (.c (.int .i64 16384))), []⟩,
 ⟨some 2, none, (.mv (.t 5)), []⟩])
 .ret))
def zf193 : IFun := ⟨6, [(.tmp 2)], zc193⟩
theorem zok193 : okFun Tryz.prog 193 zf193 = true := by kernel_rfl
def zc194 : ICode :=
 (.seq (.reg 0 [] [] [⟨some 4, none, (.mv (.c (.bool false))), []⟩])
 (.seq (.reg 0 [] [] [⟨some 5, none, (.mv (.t 0)), []⟩,
 ⟨some 6, none, (.mv (.t 1)), []⟩,
 ⟨some 7, none, (.call 218 [(.t 5), (.t 6)]), []⟩,
 ⟨some 8, none, (.bin .geq .num (.t 7) (.c (.int .i64 0))), []⟩,
 ⟨some 4, none, (.mv (.t 8)), []⟩])
 .ret))
def zf194 : IFun := ⟨9, [(.tmp 4)], zc194⟩
theorem zok194 : okFun Tryz.prog 194 zf194 = true := by kernel_rfl
def zc195 : ICode :=
 (.seq (.reg 0 [] [] [⟨some 3, none, (.mv (.c (.bool false))), []⟩])
 (.seq (.reg 0 [] [] [⟨some 4, none, (.mv (.t 0)), []⟩,
 ⟨some 5, none, (.len false (.t 4)), []⟩,
 ⟨some 6, none, (.ld none (.t 1)), []⟩,
 ⟨some 7, none, (.bin .gtr .num (.t 5) (.t 6)), []⟩,
 ⟨some 3, none, (.mv (.t 7)), []⟩])
 .ret))
def zf195 : IFun := ⟨8, [(.tmp 3)], zc195⟩
theorem zok195 : okFun Tryz.prog 195 zf195 = true := by kernel_rfl
def zc196 : ICode :=
 (.seq (.reg 0 [] [] [⟨some 4, none, (.mv (.c (.bool false))), []⟩])
 (.seq (.reg 0 [] [] [⟨some 5, none, (.mv (.t 0)), []⟩,
 ⟨some 6, none, (.mv (.t 1)), []⟩,
 ⟨some 7, none, (.call 219 [(.t 5), (.t 6)]), []⟩,
 ⟨some 8, none, (.bin .geq .num (.t 7) (.c (.int .i64 0))), []⟩,
 ⟨some 4, none, (.mv (.t 8)), []⟩])
 .ret))
def zf196 : IFun := ⟨9, [(.tmp 4)], zc196⟩
theorem zok196 : okFun Tryz.prog 196 zf196 = true := by kernel_rfl
def zc197 : ICode :=
 (.seq (.reg 0 [] [] [⟨some 3, none, (.mv (.c (.bool false))), []⟩])
 (.seq (.reg 0 [] [] [⟨some 4, none, (.mv (.t 0)), []⟩,
 ⟨some 5, none, (.len false (.t 4)), []⟩,
 ⟨some 6, none, (.ld none (.t 1)), []⟩,
 ⟨some 7, none, (.bin .gtr .num (.t 5) (.t 6)), []⟩,
 ⟨some 3, none, (.mv (.t 7)), []⟩])
 .ret))
def zf197 : IFun := ⟨8, [(.tmp 3)], zc197⟩
theorem zok197 : okFun Tryz.prog 197 zf197 = true := by kernel_rfl
def zc201 : ICode :=
 (.seq (.reg 0 [] [] [⟨some 10, none, (.mv (.t 1)), []⟩,
 ⟨some 8, none, (.mv (.t 10)), []⟩])
 (.block 0 (.loop (.block 1 (.seq (.reg 0 [] [] [⟨some 11, none, (.mv (.t 8)), []⟩,
 ⟨some 12, none, (.bin .mul .num (.c (.int .i64 2)) (.t 11)), []⟩,
 ⟨some 13, none, (.bin .add .num (.t 12) (.c (.int .i64 1))), []⟩,
 ⟨some 9, none, (.mv (.t 13)), []⟩])
 (.seq (.seq (.reg 0 [] [] [⟨some 14, none, (.mv (.t 9)), []⟩,
 ⟨some 15, none, (.mv (.t 2)), []⟩,
 ⟨some 16, none, (.bin .geq .num (.t 14) (.t 15)), []⟩])
 (.cond (.t 16) (.exit 0)
 .skip))
 (.seq (.seq (.reg 0 [0, 1, 2, 3, 4, 5, 6, 7, 8, 9, 10, 11, 12, 13, 14, 15, 16, 17, 18, 19] [[], [0], [], [2, 0, 1], [1, 0, 2, 3], [3, 2, 0, 1, 4], [3, 2, 0, 1, 4], [3, 2, 0, 1, 4], [7, 4, 1, 0, 2, 3, 6], [6, 7, 8, 4, 1, 0, 2, 3, 5], [5, 3, 2, 0, 1, 4, 8, 7, 6, 9], [3, 2, 0, 1, 4], [3, 2, 0, 1, 4], [3, 2, 0, 1, 4], [13, 4, 1, 0, 2, 3, 12], [12, 3, 2, 0, 1, 4, 13, 14], [14, 13, 12, 15, 4, 1, 0, 2, 3, 11], [11, 3, 2, 0, 1, 4, 15, 12, 13, 14, 16], [16, 14, 13, 12, 15, 11, 17, 9, 6, 7, 8, 4, 1, 0, 2, 3, 5, 10], [10, 5, 8, 7, 6, 9, 17, 11, 15, 12, 13, 14, 16, 18, 3, 2, 0, 1, 4]] [⟨some 17, none, (.mv (.t 9)), []⟩,
 ⟨some 18, none, (.bin .add .num (.t 17) (.c (.int .i64 1))), []⟩,
 ⟨some 19, none, (.mv (.t 2)), []⟩,
 ⟨some 20, none, (.bin .lss .num (.t 18) (.t 19)), []⟩,
 ⟨some 21, none, (.mv (.t 20)), []⟩,
 ⟨some 22, some (21, true), (.mv (.t 0)), []⟩,
 ⟨some 23, some (21, true), (.mv (.t 3)), []⟩,
 ⟨some 24, some (21, true), (.mv (.t 9)), []⟩,
 ⟨some 25, some (21, true), (.bin .add .num (.t 23) (.t 24)), []⟩,
 ⟨some 26, some (21, true), (.ia none 1 (.t 22) (.t 25)), []⟩,
 ⟨some 27, some (21, true), (.ld none (.t 26)), []⟩,
 ⟨some 28, some (21, true), (.mv (.t 0)), []⟩,
 ⟨some 29, some (21, true), (.mv (.t 3)), []⟩,
 ⟨some 30, some (21, true), (.mv (.t 9)), []⟩,
 ⟨some 31, some (21, true), (.bin .add .num (.t 29) (.t 30)), []⟩,
 ⟨some 32, some (21, true), (.bin .add .num (.t 31) (.c (.int .i64 1))), []⟩,
 ⟨some 33, some (21, true), (.ia none 1 (.t 28) (.t 32)), []⟩,
 ⟨some 34, some (21, true), (.ld none (.t 33)), []⟩,
 ⟨some 35, some (21, true), (.call 151 [(.t 27), (.t 34)]), []⟩,
 ⟨some 36, none, (.pick (.t 21) (.t 35) (.c (.bool false))), []⟩])
 (.cond (.t 36) (.reg 0 [] [] [⟨some 37, none, (.mv (.t 9)), []⟩,
 ⟨some 38, none, (.bin .add .num (.t 37) (.c (.int .i64 1))), []⟩,
 ⟨some 9, none, (.mv (.t 38)), []⟩])
 .skip))
 (.seq (.seq (.reg 0 [0, 1, 2, 3, 4, 5, 6, 7, 8, 9, 10, 11, 12, 13] [[], [], [], [2, 1], [1, 2, 3, 0], [0, 3, 2, 1, 4], [], [], [], [8, 7], [7, 8, 9, 6], [6, 9, 8, 7, 10], [10, 7, 8, 9, 6, 11, 4, 1, 2, 3, 0, 5], [5, 0, 3, 2, 1, 4, 11, 6, 9, 8, 7, 10, 12]] [⟨some 39, none, (.mv (.t 0)), []⟩,
 ⟨some 40, none, (.mv (.t 3)), []⟩,
 ⟨some 41, none, (.mv (.t 8)), []⟩,
 ⟨some 42, none, (.bin .add .num (.t 40) (.t 41)), []⟩,
 ⟨some 43, none, (.ia none 1 (.t 39) (.t 42)), []⟩,
 ⟨some 44, none, (.ld none (.t 43)), []⟩,
 ⟨some 45, none, (.mv (.t 0)), []⟩,
 ⟨some 46, none, (.mv (.t 3)), []⟩,
 ⟨some 47, none, (.mv (.t 9)), []⟩,
 ⟨some 48, none, (.bin .add .num (.t 46) (.t 47)), []⟩,
 ⟨some 49, none, (.ia none 1 (.t 45) (.t 48)), []⟩,
 ⟨some 50, none, (.ld none (.t 49)), []⟩,
 ⟨some 51, none, (.call 151 [(.t 44), (.t 50)]), []⟩,
 ⟨some 52, none, (.un .not (.t 51)), []⟩])
 (.cond (.t 52) .ret
 .skip))
 (.seq (.reg 0 [0, 1, 2, 3, 4, 5, 6, 7, 8, 9, 10, 11, 12, 13, 14, 15, 16, 17, 18, 19, 20, 21, 22, 23] [[], [], [], [2, 1], [], [], [], [6, 5], [], [], [], [10, 9], [9, 10, 11, 8], [8, 11, 10, 9, 12], [], [], [], [16, 15], [15, 16, 17, 14], [14, 17, 16, 15, 18], [18, 15, 16, 17, 14, 19, 13, 12, 11, 10, 9, 8, 1, 2, 3, 0], [0, 3, 2, 1, 8, 9, 10, 11, 12, 13, 19, 14, 17, 16, 15, 18, 20], [21, 20, 19, 18, 17, 16, 15, 14, 13, 12, 11, 10, 9, 8, 3, 2, 1, 0, 5, 6, 7, 4], [4, 7, 6, 5, 0, 1, 2, 3, 8, 9, 10, 11, 12, 13, 14, 15, 16, 17, 18, 19, 20, 21, 22]] [⟨some 53, none, (.mv (.t 0)), []⟩,
 ⟨some 54, none, (.mv (.t 3)), []⟩,
 ⟨some 55, none, (.mv (.t 8)), []⟩,
 ⟨some 56, none, (.bin .add .num (.t 54) (.t 55)), []⟩,
 ⟨some 57, none, (.mv (.t 0)), []⟩,
 ⟨some 58, none, (.mv (.t 3)), []⟩,
 ⟨some 59, none, (.mv (.t 9)), []⟩,
 ⟨some 60, none, (.bin .add .num (.t 58) (.t 59)), []⟩,
 ⟨some 61, none, (.mv (.t 0)), []⟩,
 ⟨some 62, none, (.mv (.t 3)), []⟩,
 ⟨some 63, none, (.mv (.t 9)), []⟩,
 ⟨some 64, none, (.bin .add .num (.t 62) (.t 63)), []⟩,
 ⟨some 65, none, (.ia none 1 (.t 61) (.t 64)), []⟩,
 ⟨some 66, none, (.ld none (.t 65)), []⟩,
 ⟨some 67, none, (.mv (.t 0)), []⟩,
 ⟨some 68, none, (.mv (.t 3)), []⟩,
 ⟨some 69, none, (.mv (.t 8)), []⟩,
 ⟨some 70, none, (.bin .add .num (.t 68) (.t 69)), []⟩,
 ⟨some 71, none, (.ia none 1 (.t 67) (.t 70)), []⟩,
 ⟨some 72, none, (.ld none (.t 71)), []⟩,
 ⟨some 73, none, (.ia none 1 (.t 53) (.t 56)), []⟩,
 ⟨none, none, (.st 1 (.t 73) (.t 66)), []⟩,
 ⟨some 74, none, (.ia none 1 (.t 57) (.t 60)), []⟩,
 ⟨none, none, (.st 1 (.t 74) (.t 72)), []⟩])
 (.reg 0 [] [] [⟨some 75, none, (.mv (.t 9)), []⟩,
 ⟨some 8, none, (.mv (.t 75)), []⟩]))))))))))
def zf201 : IFun := ⟨76, [], zc201⟩
theorem zok201 : okFun Tryz.prog 201 zf201 = true := by kernel_rfl
def zc202 : ICode :=
 (.seq (.reg 0 [] [] [⟨some 2, none, (.mv (.c (.int .u64 0))), []⟩])
 (.seq (.reg 0 [] [] [⟨some 3, none, (.mv (.t 0)), []⟩,
 ⟨some 4, none, (.cv none (.toInt .u64) (.t 3)), []⟩,
 ⟨some 5, none, (.call 115 [(.t 4)]), []⟩,
 ⟨some 6, none, (.bin .shl .num (.c (.int .u64 1)) (.t 5)), []⟩,
 ⟨some 2, none, (.mv (.t 6)), []⟩])
 .ret))
def zf202 : IFun := ⟨7, [(.tmp 2)], zc202⟩
theorem zok202 : okFun Tryz.prog 202 zf202 = true := by kernel_rfl
def zc203 : ICode :=
 (.seq (.reg 0 [] [] [⟨some 2, none, (.mv (.c (.int .u64 0))), []⟩])
 (.seq (.reg 0 [0, 1, 2, 3, 4, 5, 6, 7, 8, 9] [[], [0], [0, 1], [], [3], [3, 4], [4, 3, 5], [5, 3, 4, 6, 1, 0, 2], [7, 6, 5, 4, 3, 2, 1, 0], [0, 1, 2, 3, 4, 5, 6, 7, 8]] [⟨some 3, none, (.mv (.t 0)), []⟩,
 ⟨some 4, none, (.nilc (.t 3)), []⟩,
 ⟨some 5, none, (.ld none (.t 4)), []⟩,
 ⟨some 6, none, (.mv (.t 0)), []⟩,
 ⟨some 7, none, (.nilc (.t 6)), []⟩,
 ⟨some 8, none, (.ld none (.t 7)), []⟩,
 ⟨some 9, none, (.bin .shl .num (.t 8) (.c (.int .u64 13))), []⟩,
 ⟨some 10, none, (.bin .xor .num (.t 5) (.t 9)), []⟩,
 ⟨some 11, none, (.nilc (.t 3)), []⟩,
 ⟨none, none, (.st 1 (.t 11) (.t 10)), []⟩])
 (.seq (.reg 0 [0, 1, 2, 3, 4, 5, 6, 7, 8, 9] [[], [0], [0, 1], [], [3], [3, 4], [4, 3, 5], [5, 3, 4, 6, 1, 0, 2], [7, 6, 5, 4, 3, 2, 1, 0], [0, 1, 2, 3, 4, 5, 6, 7, 8]] [⟨some 12, none, (.mv (.t 0)), []⟩,
 ⟨some 13, none, (.nilc (.t 12)), []⟩,
 ⟨some 14, none, (.ld none (.t 13)), []⟩,
 ⟨some 15, none, (.mv (.t 0)), []⟩,
 ⟨some 16, none, (.nilc (.t 15)), []⟩,
 ⟨some 17, none, (.ld none (.t 16)), []⟩,
 ⟨some 18, none, (.bin .shr .num (.t 17) (.c (.int .u64 7))), []⟩,
 ⟨some 19, none, (.bin .xor .num (.t 14) (.t 18)), []⟩,
 ⟨some 20, none, (.nilc (.t 12)), []⟩,
 ⟨none, none, (.st 1 (.t 20) (.t 19)), []⟩])
 (.seq (.reg 0 [0, 1, 2, 3, 4, 5, 6, 7, 8, 9] [[], [0], [0, 1], [], [3], [3, 4], [4, 3, 5], [5, 3, 4, 6, 1, 0, 2], [7, 6, 5, 4, 3, 2, 1, 0], [0, 1, 2, 3, 4, 5, 6, 7, 8]] [⟨some 21, none, (.mv (.t 0)), []⟩,
 ⟨some 22, none, (.nilc (.t 21)), []⟩,
 ⟨some 23, none, (.ld none (.t 22)), []⟩,
 ⟨some 24, none, (.mv (.t 0)), []⟩,
 ⟨some 25, none, (.nilc (.t 24)), []⟩,
 ⟨some 26, none, (.ld none (.t 25)), []⟩,
 ⟨some 27, none, (.bin .shl .num (.t 26) (.c (.int .u64 17))), []⟩,
 ⟨some 28, none, (.bin .xor .num (.t 23) (.t 27)), []⟩,
 ⟨some 29, none, (.nilc (.t 21)), []⟩,
 ⟨none, none, (.st 1 (.t 29) (.t 28)), []⟩])
 (.seq (.reg 0 [] [] [⟨some 30, none, (.mv (.t 0)), []⟩,
 ⟨some 31, none, (.nilc (.t 30)), []⟩,
 ⟨some 32, none, (.ld none (.t 31)), []⟩,
 ⟨some 2, none, (.mv (.t 32)), []⟩])
 .ret)))))
def zf203 : IFun := ⟨33, [(.tmp 2)], zc203⟩
theorem zok203 : okFun Tryz.prog 203 zf203 = true := by kernel_rfl
def zc204 : ICode :=
 (.seq (.reg 0 [] [] [⟨some 6, none, (.mv (.c (.int .i64 0))), []⟩])
 (.seq (.reg 0 [] [] [⟨some 7, none, (.mv (.t 0)), []⟩,
 ⟨some 8, none, (.mv (.t 1)), []⟩,
 ⟨some 9, none, (.bin .sub .num (.t 8) (.c (.int .i64 1))), []⟩,
 ⟨some 10, none, (.mv (.t 1)), []⟩,
 ⟨some 11, none, (.mv (.t 1)), []⟩,
 ⟨some 12, none, (.bin .add .num (.t 11) (.c (.int .i64 1))), []⟩,
 ⟨some 13, none, (.mv (.t 2)), []⟩,
 ⟨some 14, none, (.call 205 [(.t 7), (.t 9), (.t 10), (.t 12), (.t 13)]), []⟩,
 ⟨some 6, none, (.mv (.t 14)), []⟩])
 .ret))
def zf204 : IFun := ⟨15, [(.tmp 6)], zc204⟩
theorem zok204 : okFun Tryz.prog 204 zf204 = true := by kernel_rfl
def zc205 : ICode :=
 (.seq (.reg 0 [] [] [⟨some 10, none, (.mv (.c (.int .i64 0))), []⟩])
 (.seq (.reg 0 [] [] [⟨some 12, none, (.mv (.t 0)), []⟩,
 ⟨some 13, none, (.mv (.t 1)), []⟩,
 ⟨some 14, none, (.mv (.t 2)), []⟩,
 ⟨some 15, none, (.mv (.t 4)), []⟩,
 ⟨some 16, none, (.call 220 [(.t 12), (.t 13), (.t 14), (.t 15)]), []⟩,
 ⟨some 11, none, (.mv (.t 16)), []⟩,
 ⟨some 17, none, (.ext (.t 11) 0), []⟩,
 ⟨some 18, none, (.ext (.t 11) 1), []⟩,
 ⟨some 1, none, (.mv (.t 17)), []⟩,
 ⟨some 2, none, (.mv (.t 18)), []⟩])
 (.seq (.reg 0 [] [] [⟨some 20, none, (.mv (.t 0)), []⟩,
 ⟨some 21, none, (.mv (.t 2)), []⟩,
 ⟨some 22, none, (.mv (.t 3)), []⟩,
 ⟨some 23, none, (.mv (.t 4)), []⟩,
 ⟨some 24, none, (.call 220 [(.t 20), (.t 21), (.t 22), (.t 23)]), []⟩,
 ⟨some 19, none, (.mv (.t 24)), []⟩,
 ⟨some 25, none, (.ext (.t 19) 0), []⟩,
 ⟨some 26, none, (.ext (.t 19) 1), []⟩,
 ⟨some 2, none, (.mv (.t 25)), []⟩,
 ⟨some 3, none, (.mv (.t 26)), []⟩])
 (.seq (.reg 0 [] [] [⟨some 28, none, (.mv (.t 0)), []⟩,
 ⟨some 29, none, (.mv (.t 1)), []⟩,
 ⟨some 30, none, (.mv (.t 2)), []⟩,
 ⟨some 31, none, (.mv (.t 4)), []⟩,
 ⟨some 32, none, (.call 220 [(.t 28), (.t 29), (.t 30), (.t 31)]), []⟩,
 ⟨some 27, none, (.mv (.t 32)), []⟩,
 ⟨some 33, none, (.ext (.t 27) 0), []⟩,
 ⟨some 34, none, (.ext (.t 27) 1), []⟩,
 ⟨some 1, none, (.mv (.t 33)), []⟩,
 ⟨some 2, none, (.mv (.t 34)), []⟩])
 (.seq (.reg 0 [] [] [⟨some 35, none, (.mv (.t 2)), []⟩,
 ⟨some 10, none, (.mv (.t 35)), []⟩])
 .ret)))))
def zf205 : IFun := ⟨36, [(.tmp 10)], zc205⟩
theorem zok205 : okFun Tryz.prog 205 zf205 = true := by kernel_rfl
def zc206 : ICode :=
 (.seq (.reg 0 [] [] [⟨some 2, none, (.mv (.c (.bool false))), []⟩])
 (.seq (.reg 0 [] [] [⟨some 3, none, (.mv (.t 0)), []⟩,
 ⟨some 4, none, (.mv (.t 0)), []⟩,
 ⟨some 5, none, (.bin .neq .num (.t 3) (.t 4)), []⟩,
 ⟨some 2, none, (.mv (.t 5)), []⟩])
 .ret))
def zf206 : IFun := ⟨6, [(.tmp 2)], zc206⟩
theorem zok206 : okFun Tryz.prog 206 zf206 = true := by kernel_rfl
def zc213 : ICode :=
 (.seq (.reg 0 [] [] [⟨some 4, none, (.mv (.c (.int .i64 0))), []⟩])
 (.seq (.seq (.reg 0 [] [] [⟨some 6, none, (.mv (.t 0)), []⟩,
 ⟨some 7, none, (.len false (.t 6)), []⟩,
 ⟨some 8, none, (.mv (.c (.int .i64 0))), []⟩])
 (.block 0 (.loop (.seq (.reg 0 [] [] [⟨some 9, none, (.bin .lss .num (.t 8) (.t 7)), []⟩])
 (.seq (.cond (.t 9) .skip
 (.exit 0))
 (.seq (.block 1 (.seq (.reg 0 [] [] [⟨some 10, none, (.mv (.t 8)), []⟩,
 ⟨some 5, none, (.mv (.t 10)), []⟩])
 (.seq (.reg 0 [] [] [⟨some 11, none, (.mv (.t 1)), []⟩,
 ⟨some 12, none, (.mv (.t 0)), []⟩,
 ⟨some 13, none, (.mv (.t 5)), []⟩,
 ⟨some 14, none, (.ia none 1 (.t 12) (.t 13)), []⟩,
 ⟨some 15, none, (.ld none (.t 14)), []⟩,
 ⟨some 16, none, (.callv (.t 11) [(.t 15)]), []⟩])
 (.cond (.t 16) (.seq (.reg 0 [] [] [⟨some 17, none, (.mv (.t 5)), []⟩,
 ⟨some 4, none, (.mv (.t 17)), []⟩])
 .ret)
 .skip))))
 (.reg 0 [] [] [⟨some 18, none, (.bin .add .num (.t 8) (.c (.int .i64 1))), []⟩,
 ⟨some 8, none, (.mv (.t 18)), []⟩])))))))
 (.seq (.reg 0 [] [] [⟨some 4, none, (.mv (.c (.int .i64 (-1)))), []⟩])
 .ret)))
def zf213 : IFun := ⟨19, [(.tmp 4)], zc213⟩
theorem zok213 : okFun Tryz.prog 213 zf213 = true := by kernel_rfl
def zc214 : ICode :=
 (.seq (.reg 0 [] [] [⟨some 4, none, (.mv (.c (.int .i64 0))), []⟩])
 (.seq (.seq (.reg 0 [] [] [⟨some 6, none, (.mv (.t 0)), []⟩,
 ⟨some 7, none, (.len false (.t 6)), []⟩,
 ⟨some 8, none, (.mv (.c (.int .i64 0))), []⟩])
 (.block 0 (.loop (.seq (.reg 0 [] [] [⟨some 9, none, (.bin .lss .num (.t 8) (.t 7)), []⟩])
 (.seq (.cond (.t 9) .skip
 (.exit 0))
 (.seq (.block 1 (.seq (.reg 0 [] [] [⟨some 10, none, (.mv (.t 8)), []⟩,
 ⟨some 5, none, (.mv (.t 10)), []⟩])
 (.seq (.reg 0 [] [] [⟨some 11, none, (.mv (.t 1)), []⟩,
 ⟨some 12, none, (.mv (.t 0)), []⟩,
 ⟨some 13, none, (.mv (.t 5)), []⟩,
 ⟨some 14, none, (.ia none 1 (.t 12) (.t 13)), []⟩,
 ⟨some 15, none, (.ld none (.t 14)), []⟩,
 ⟨some 16, none, (.callv (.t 11) [(.t 15)]), []⟩])
 (.cond (.t 16) (.seq (.reg 0 [] [] [⟨some 17, none, (.mv (.t 5)), []⟩,
 ⟨some 4, none, (.mv (.t 17)), []⟩])
 .ret)
 .skip))))
 (.reg 0 [] [] [⟨some 18, none, (.bin .add .num (.t 8) (.c (.int .i64 1))), []⟩,
 ⟨some 8, none, (.mv (.t 18)), []⟩])))))))
 (.seq (.reg 0 [] [] [⟨some 4, none, (.mv (.c (.int .i64 (-1)))), []⟩])
 .ret)))
def zf214 : IFun := ⟨19, [(.tmp 4)], zc214⟩
theorem zok214 : okFun Tryz.prog 214 zf214 = true := by kernel_rfl
def zc215 : ICode :=
 (.seq (.reg 0 [] [] [⟨some 4, none, (.mv (.c (.int .i64 0))), []⟩])
 (.seq (.seq (.reg 0 [] [] [⟨some 6, none, (.mv (.t 0)), []⟩,
 ⟨some 7, none, (.len false (.t 6)), []⟩,
 ⟨some 8, none, (.mv (.c (.int .i64 0))), []⟩])
 (.block 0 (.loop (.seq (.reg 0 [] [] [⟨some 9, none, (.bin .lss .num (.t 8) (.t 7)), []⟩])
 (.seq (.cond (.t 9) .skip
 (.exit 0))
 (.seq (.block 1 (.seq (.reg 0 [] [] [⟨some 10, none, (.mv (.t 8)), []⟩,
 ⟨some 5, none, (.mv (.t 10)), []⟩])
 (.seq (.reg 0 [] [] [⟨some 11, none, (.mv (.t 1)), []⟩,
 ⟨some 12, none, (.mv (.t 0)), []⟩,
 ⟨some 13, none, (.mv (.t 5)), []⟩,
 ⟨some 14, none, (.ia none 1 (.t 12) (.t 13)), []⟩,
 ⟨some 15, none, (.ld none (.t 14)), []⟩,
 ⟨some 16, none, (.callv (.t 11) [(.t 15)]), []⟩])
 (.cond (.t 16) (.seq (.reg 0 [] [] [⟨some 17, none, (.mv (.t 5)), []⟩,
 ⟨some 4, none, (.mv (.t 17)), []⟩])
 .ret)
 .skip))))
 (.reg 0 [] [] [⟨some 18, none, (.bin .add .num (.t 8) (.c (.int .i64 1))), []⟩,
 ⟨some 8, none, (.mv (.t 18)), []⟩])))))))
 (.seq (.reg 0 [] [] [⟨some 4, none, (.mv (.c (.int .i64 (-1)))), []⟩])
 .ret)))
def zf215 : IFun := ⟨19, [(.tmp 4)], zc215⟩
theorem zok215 : okFun Tryz.prog 215 zf215 = true := by kernel_rfl
def zc216 : ICode :=
 (.seq (.reg 0 [] [] [⟨some 4, none, (.mv (.c (.int .i64 0))), []⟩])
 (.seq (.seq (.reg 0 [] [] [⟨some 6, none, (.mv (.t 0)), []⟩,
 ⟨some 7, none, (.len false (.t 6)), []⟩,
 ⟨some 8, none, (.mv (.c (.int .i64 0))), []⟩])
 (.block 0 (.loop (.seq (.reg 0 [] [] [⟨some 9, none, (.bin .lss .num (.t 8) (.t 7)), []⟩])
 (.seq (.cond (.t 9) .skip
 (.exit 0))
 (.seq (.block 1 (.seq (.reg 0 [] [] [⟨some 10, none, (.mv (.t 8)), []⟩,
 ⟨some 5, none, (.mv (.t 10)), []⟩])
 (.seq (.reg 0 [] [] [⟨some 11, none, (.mv (.t 1)), []⟩,
 ⟨some 12, none, (.mv (.t 0)), []⟩,
 ⟨some 13, none, (.mv (.t 5)), []⟩,
 ⟨some 14, none, (.ia none 1 (.t 12) (.t 13)), []⟩,
 ⟨some 15, none, (.ld none (.t 14)), []⟩,
 ⟨some 16, none, (.callv (.t 11) [(.t 15)]), []⟩])
 (.cond (.t 16) (.seq (.reg 0 [] [] [⟨some 17, none, (.mv (.t 5)), []⟩,
 ⟨some 4, none, (.mv (.t 17)), []⟩])
 .ret)
 .skip))))
 (.reg 0 [] [] [⟨some 18, none, (.bin .add .num (.t 8) (.c (.int .i64 1))), []⟩,
 ⟨some 8, none, (.mv (.t 18)), []⟩])))))))
 (.seq (.reg 0 [] [] [⟨some 4, none, (.mv (.c (.int .i64 (-1)))), []⟩])
 .ret)))
def zf216 : IFun := ⟨19, [(.tmp 4)], zc216⟩
theorem zok216 : okFun Tryz.prog 216 zf216 = true := by kernel_rfl
def zc217 : ICode :=
 (.seq (.reg 0 [] [] [⟨some 4, none, (.mv (.c (.int .i64 0))), []⟩])
 (.seq (.seq (.reg 0 [] [] [⟨some 6, none, (.mv (.t 0)), []⟩,
 ⟨some 7, none, (.len false (.t 6)), []⟩,
 ⟨some 8, none, (.mv (.c (.int .i64 0))), []⟩])
 (.block 0 (.loop (.seq (.reg 0 [] [] [⟨some 9, none, (.bin .lss .num (.t 8) (.t 7)), []⟩])
 (.seq (.cond (.t 9) .skip
 (.exit 0))
 (.seq (.block 1 (.seq (.reg 0 [] [] [⟨some 10, none, (.mv (.t 8)), []⟩,
 ⟨some 5, none, (.mv (.t 10)), []⟩])
 (.seq (.reg 0 [] [] [⟨some 11, none, (.mv (.t 1)), []⟩,
 ⟨some 12, none, (.mv (.t 0)), []⟩,
 ⟨some 13, none, (.mv (.t 5)), []⟩,
 ⟨some 14, none, (.ia none 1 (.t 12) (.t 13)), []⟩,
 ⟨some 15, none, (.ld none (.t 14)), []⟩,
 ⟨some 16, none, (.callv (.t 11) [(.t 15)]), []⟩])
 (.cond (.t 16) (.seq (.reg 0 [] [] [⟨some 17, none, (.mv (.t 5)), []⟩,
 ⟨some 4, none, (.mv (.t 17)), []⟩])
 .ret)
 .skip))))
 (.reg 0 [] [] [⟨some 18, none, (.bin .add .num (.t 8) (.c (.int .i64 1))), []⟩,
 ⟨some 8, none, (.mv (.t 18)), []⟩])))))))
 (.seq (.reg 0 [] [] [⟨some 4, none, (.mv (.c (.int .i64 (-1)))), []⟩])
 .ret)))
def zf217 : IFun := ⟨19, [(.tmp 4)], zc217⟩
theorem zok217 : okFun Tryz.prog 217 zf217 = true := by kernel_rfl
def zc218 : ICode :=
 (.seq (.reg 0 [] [] [⟨some 4, none, (.mv (.c (.int .i64 0))), []⟩])
 (.seq (.seq (.reg 0 [] [] [⟨some 6, none, (.mv (.t 0)), []⟩,
 ⟨some 7, none, (.len false (.t 6)), []⟩,
 ⟨some 8, none, (.mv (.c (.int .i64 0))), []⟩])
 (.block 0 (.loop (.seq (.reg 0 [] [] [⟨some 9, none, (.bin .lss .num (.t 8) (.t 7)), []⟩])
 (.seq (.cond (.t 9) .skip
 (.exit 0))
 (.seq (.block 1 (.seq (.reg 0 [] [] [⟨some 10, none, (.mv (.t 8)), []⟩,
 ⟨some 5, none, (.mv (.t 10)), []⟩])
 (.seq (.reg 0 [] [] [⟨some 11, none, (.mv (.t 1)), []⟩,
 ⟨some 12, none, (.mv (.t 0)), []⟩,
 ⟨some 13, none, (.mv (.t 5)), []⟩,
 ⟨some 14, none, (.ia none 1 (.t 12) (.t 13)), []⟩,
 ⟨some 15, none, (.ld none (.t 14)), []⟩,
 ⟨some 16, none, (.callv (.t 11) [(.t 15)]), []⟩])
 (.cond (.t 16) (.seq (.reg 0 [] [] [⟨some 17, none, (.mv (.t 5)), []⟩,
 ⟨some 4, none, (.mv (.t 17)), []⟩])
 .ret)
 .skip))))
 (.reg 0 [] [] [⟨some 18, none, (.bin .add .num (.t 8) (.c (.int .i64 1))), []⟩,
 ⟨some 8, none, (.mv (.t 18)), []⟩])))))))
 (.seq (.reg 0 [] [] [⟨some 4, none, (.mv (.c (.int .i64 (-1)))), []⟩])
 .ret)))
def zf218 : IFun := ⟨19, [(.tmp 4)], zc218⟩
theorem zok218 : okFun Tryz.prog 218 zf218 = true := by kernel_rfl
def zc219 : ICode :=
 (.seq (.reg 0 [] [] [⟨some 4, none, (.mv (.c (.int .i64 0))), []⟩])
 (.seq (.seq (.reg 0 [] [] [⟨some 6, none, (.mv (.t 0)), []⟩,
 ⟨some 7, none, (.len false (.t 6)), []⟩,
 ⟨some 8, none, (.mv (.c (.int .i64 0))), []⟩])
 (.block 0 (.loop (.seq (.reg 0 [] [] [⟨some 9, none, (.bin .lss .num (.t 8) (.t 7)), []⟩])
 (.seq (.cond (.t 9) .skip
 (.exit 0))
 (.seq (.block 1 (.seq (.reg 0 [] [] [⟨some 10, none, (.mv (.t 8)), []⟩,
 ⟨some 5, none, (.mv (.t 10)), []⟩])
 (.seq (.reg 0 [] [] [⟨some 11, none, (.mv (.t 1)), []⟩,
 ⟨some 12, none, (.mv (.t 0)), []⟩,
 ⟨some 13, none, (.mv (.t 5)), []⟩,
 ⟨some 14, none, (.ia none 1 (.t 12) (.t 13)), []⟩,
 ⟨some 15, none, (.ld none (.t 14)), []⟩,
 ⟨some 16, none, (.callv (.t 11) [(.t 15)]), []⟩])
 (.cond (.t 16) (.seq (.reg 0 [] [] [⟨some 17, none, (.mv (.t 5)), []⟩,
 ⟨some 4, none, (.mv (.t 17)), []⟩])
 .ret)
 .skip))))
 (.reg 0 [] [] [⟨some 18, none, (.bin .add .num (.t 8) (.c (.int .i64 1))), []⟩,
 ⟨some 8, none, (.mv (.t 18)), []⟩])))))))
 (.seq (.reg 0 [] [] [⟨some 4, none, (.mv (.c (.int .i64 (-1)))), []⟩])
 .ret)))
def zf219 : IFun := ⟨19, [(.tmp 4)], zc219⟩
theorem zok219 : okFun Tryz.prog 219 zf219 = true := by kernel_rfl
def zc220 : ICode :=
 (.seq (.reg 0 [] [] [⟨some 8, none, (.mv (.c (.int .i64 0))), []⟩,
 ⟨some 9, none, (.mv (.c (.int .i64 0))), []⟩])
 (.seq (.seq (.reg 0 [0, 1, 2, 3, 4, 5, 6, 7, 8] [[], [], [1, 0], [0, 1, 2], [], [], [5, 4], [4, 5, 6], [6, 5, 4, 7, 2, 1, 0, 3]] [⟨some 10, none, (.mv (.t 0)), []⟩,
 ⟨some 11, none, (.mv (.t 2)), []⟩,
 ⟨some 12, none, (.ia none 1 (.t 10) (.t 11)), []⟩,
 ⟨some 13, none, (.ld none (.t 12)), []⟩,
 ⟨some 14, none, (.mv (.t 0)), []⟩,
 ⟨some 15, none, (.mv (.t 1)), []⟩,
 ⟨some 16, none, (.ia none 1 (.t 14) (.t 15)), []⟩,
 ⟨some 17, none, (.ld none (.t 16)), []⟩,
 ⟨some 18, none, (.call 151 [(.t 13), (.t 17)]), []⟩])
 (.cond (.t 18) (.seq (.reg 0 [] [] [⟨some 19, none, (.mv (.t 3)), []⟩,
 ⟨some 20, none, (.nilc (.t 19)), []⟩,
 ⟨some 21, none, (.ld none (.t 20)), []⟩,
 ⟨some 22, none, (.bin .add .num (.t 21) (.c (.int .i64 1))), []⟩,
 ⟨some 23, none, (.nilc (.t 19)), []⟩,
 ⟨none, none, (.st 1 (.t 23) (.t 22)), []⟩])
 (.seq (.reg 0 [] [] [⟨some 24, none, (.mv (.t 2)), []⟩,
 ⟨some 25, none, (.mv (.t 1)), []⟩,
 ⟨some 8, none, (.mv (.t 24)), []⟩,
 ⟨some 9, none, (.mv (.t 25)), []⟩])
 .ret))
 .skip))
 (.seq (.reg 0 [] [] [⟨some 26, none, (.mv (.t 1)), []⟩,
 ⟨some 27, none, (.mv (.t 2)), []⟩,
 ⟨some 8, none, (.mv (.t 26)), []⟩,
 ⟨some 9, none, (.mv (.t 27)), []⟩])
 .ret)))
def zf220 : IFun := ⟨28, [(.tmp 8), (.tmp 9)], zc220⟩
theorem zok220 : okFun Tryz.prog 220 zf220 = true := by kernel_rfl
def tabT : Tr := (.node 147 zf147 (.node 78 zf78 (.node 63 zf63 (.node 27 zf27 (.node 21 zf21 (.node 10 zf10 (.node 9 zf9 .nil .nil) (.node 11 zf11 .nil .nil)) (.node 26 zf26 (.node 23 zf23 .nil .nil) .nil)) (.node 43 zf43 (.node 30 zf30 (.node 29 zf29 .nil .nil) (.node 33 zf33 .nil .nil)) (.node 60 zf60 (.node 59 zf59 .nil .nil) .nil))) (.node 72 zf72 (.node 68 zf68 (.node 65 zf65 (.node 64 zf64 .nil .nil) (.node 67 zf67 .nil .nil)) (.node 70 zf70 (.node 69 zf69 .nil .nil) .nil)) (.node 75 zf75 (.node 74 zf74 (.node 73 zf73 .nil .nil) .nil) (.node 77 zf77 (.node 76 zf76 .nil .nil) .nil)))) (.node 122 zf122 (.node 114 zf114 (.node 109 zf109 (.node 88 zf88 (.node 87 zf87 .nil .nil) (.node 89 zf89 .nil .nil)) (.node 113 zf113 (.node 110 zf110 .nil .nil) .nil)) (.node 118 zf118 (.node 116 zf116 (.node 115 zf115 .nil .nil) (.node 117 zf117 .nil .nil)) (.node 121 zf121 (.node 120 zf120 .nil .nil) .nil))) (.node 136 zf136 (.node 133 zf133 (.node 127 zf127 (.node 126 zf126 .nil .nil) (.node 132 zf132 .nil .nil)) (.node 135 zf135 (.node 134 zf134 .nil .nil) .nil)) (.node 139 zf139 (.node 138 zf138 (.node 137 zf137 .nil .nil) .nil) (.node 146 zf146 (.node 145 zf145 .nil .nil) .nil))))) (.node 185 zf185 (.node 163 zf163 (.node 154 zf154 (.node 151 zf151 (.node 149 zf149 (.node 148 zf148 .nil .nil) (.node 150 zf150 .nil .nil)) (.node 153 zf153 (.node 152 zf152 .nil .nil) .nil)) (.node 159 zf159 (.node 157 zf157 (.node 155 zf155 .nil .nil) (.node 158 zf158 .nil .nil)) (.node 162 zf162 (.node 160 zf160 .nil .nil) .nil))) (.node 170 zf170 (.node 167 zf167 (.node 165 zf165 (.node 164 zf164 .nil .nil) (.node 166 zf166 .nil .nil)) (.node 169 zf169 (.node 168 zf168 .nil .nil) .nil)) (.node 173 zf173 (.node 172 zf172 (.node 171 zf171 .nil .nil) .nil) (.node 184 zf184 (.node 174 zf174 .nil .nil) .nil)))) (.node 202 zf202 (.node 192 zf192 (.node 189 zf189 (.node 187 zf187 (.node 186 zf186 .nil .nil) (.node 188 zf188 .nil .nil)) (.node 191 zf191 (.node 190 zf190 .nil .nil) .nil)) (.node 196 zf196 (.node 194 zf194 (.node 193 zf193 .nil .nil) (.node 195 zf195 .nil .nil)) (.node 201 zf201 (.node 197 zf197 .nil .nil) .nil))) (.node 215 zf215 (.node 206 zf206 (.node 204 zf204 (.node 203 zf203 .nil .nil) (.node 205 zf205 .nil .nil)) (.node 214 zf214 (.node 213 zf213 .nil .nil) .nil)) (.node 218 zf218 (.node 217 zf217 (.node 216 zf216 .nil .nil) .nil) (.node 220 zf220 (.node 219 zf219 .nil .nil) .nil))))))
def tabQ (f : Nat) : Option IFun := tabT.look f
theorem okTabT : okTr Tryz.prog tabT := ⟨zok147, ⟨zok78, ⟨zok63, ⟨zok27, ⟨zok21, ⟨zok10, ⟨zok9, trivial, trivial⟩, ⟨zok11, trivial, trivial⟩⟩, ⟨zok26, ⟨zok23, trivial, trivial⟩, trivial⟩⟩, ⟨zok43, ⟨zok30, ⟨zok29, trivial, trivial⟩, ⟨zok33, trivial, trivial⟩⟩, ⟨zok60, ⟨zok59, trivial, trivial⟩, trivial⟩⟩⟩, ⟨zok72, ⟨zok68, ⟨zok65, ⟨zok64, trivial, trivial⟩, ⟨zok67, trivial, trivial⟩⟩, ⟨zok70, ⟨zok69, trivial, trivial⟩, trivial⟩⟩, ⟨zok75, ⟨zok74, ⟨zok73, trivial, trivial⟩, trivial⟩, ⟨zok77, ⟨zok76, trivial, trivial⟩, trivial⟩⟩⟩⟩, ⟨zok122, ⟨zok114, ⟨zok109, ⟨zok88, ⟨zok87, trivial, trivial⟩, ⟨zok89, trivial, trivial⟩⟩, ⟨zok113, ⟨zok110, trivial, trivial⟩, trivial⟩⟩, ⟨zok118, ⟨zok116, ⟨zok115, trivial, trivial⟩, ⟨zok117, trivial, trivial⟩⟩, ⟨zok121, ⟨zok120, trivial, trivial⟩, trivial⟩⟩⟩, ⟨zok136, ⟨zok133, ⟨zok127, ⟨zok126, trivial, trivial⟩, ⟨zok132, trivial, trivial⟩⟩, ⟨zok135, ⟨zok134, trivial, trivial⟩, trivial⟩⟩, ⟨zok139, ⟨zok138, ⟨zok137, trivial, trivial⟩, trivial⟩, ⟨zok146, ⟨zok145, trivial, trivial⟩, trivial⟩⟩⟩⟩⟩, ⟨zok185, ⟨zok163, ⟨zok154, ⟨zok151, ⟨zok149, ⟨zok148, trivial, trivial⟩, ⟨zok150, trivial, trivial⟩⟩, ⟨zok153, ⟨zok152, trivial, trivial⟩, trivial⟩⟩, ⟨zok159, ⟨zok157, ⟨zok155, trivial, trivial⟩, ⟨zok158, trivial, trivial⟩⟩, ⟨zok162, ⟨zok160, trivial, trivial⟩, trivial⟩⟩⟩, ⟨zok170, ⟨zok167, ⟨zok165, ⟨zok164, trivial, trivial⟩, ⟨zok166, trivial, trivial⟩⟩, ⟨zok169, ⟨zok168, trivial, trivial⟩, trivial⟩⟩, ⟨zok173, ⟨zok172, ⟨zok171, trivial, trivial⟩, trivial⟩, ⟨zok184, ⟨zok174, trivial, trivial⟩, trivial⟩⟩⟩⟩, ⟨zok202, ⟨zok192, ⟨zok189, ⟨zok187, ⟨zok186, trivial, trivial⟩, ⟨zok188, trivial, trivial⟩⟩, ⟨zok191, ⟨zok190, trivial, trivial⟩, trivial⟩⟩, ⟨zok196, ⟨zok194, ⟨zok193, trivial, trivial⟩, ⟨zok195, trivial, trivial⟩⟩, ⟨zok201, ⟨zok197, trivial, trivial⟩, trivial⟩⟩⟩, ⟨zok215, ⟨zok206, ⟨zok204, ⟨zok203, trivial, trivial⟩, ⟨zok205, trivial, trivial⟩⟩, ⟨zok214, ⟨zok213, trivial, trivial⟩, trivial⟩⟩, ⟨zok218, ⟨zok217, ⟨zok216, trivial, trivial⟩, trivial⟩, ⟨zok220, ⟨zok219, trivial, trivial⟩, trivial⟩⟩⟩⟩⟩⟩
theorem htabQ : ∀ f i, tabQ f = some i → okFun Tryz.prog f i = true := okTr_look okTabT
theorem hmixQ : Tryz.prog.follows .mixedOrders = true := by kernel_rfl
end Go.Proofs.YtdljelicbnjfjaaGreat.X
