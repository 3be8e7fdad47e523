import Derived.Test.YtelejhggpkfdoaaKA
namespace Go.Proofs.Ytelejhggpkfdoaa.SX
set_option linter.unusedVariables false
set_option maxRecDepth 100000
open Go.RowKit Go.Proofs
theorem t186 : runFn cfg (an0) (drawE cfg) Try.f186 [] [aI 0, aI 1] (stG [none, none] 0 [] 0 0 []) =
  (some (.br (.le (.c 0) (.v 1)) (.ret [(.c (.bool (.lt (.v 1) (.v 0))))] []) (.ret [(.c (.bool (.c false)))] []))) := by decide +kernel
theorem call186 : Callable Try.prog 186 := callable_of Try.func186 (by decide +kernel) (by decide +kernel)
theorem t200 : runFn cfg (an0) (drawE cfg) Try.f200 [] [aI 0] (stG [none] 0 [] 0 0 []) =
  (some (.br (.eq (.v 0) (.c 3)) (.ret [(.c (.bool (.c true)))] []) (.br (.eq (.v 0) (.c 5)) (.ret [(.c (.bool (.c true)))] []) (.br (.eq (.v 0) (.c 7)) (.ret [(.c (.bool (.c true)))] []) (.br (.eq (.v 0) (.c 11)) (.ret [(.c (.bool (.c true)))] []) (.br (.eq (.v 0) (.c 13)) (.ret [(.c (.bool (.c true)))] []) (.br (.eq (.v 0) (.c 17)) (.ret [(.c (.bool (.c true)))] []) (.br (.eq (.v 0) (.c 19)) (.ret [(.c (.bool (.c true)))] []) (.br (.eq (.v 0) (.c 23)) (.ret [(.c (.bool (.c true)))] []) (.br (.eq (.v 0) (.c 29)) (.ret [(.c (.bool (.c true)))] []) (.br (.eq (.v 0) (.c 31)) (.ret [(.c (.bool (.c true)))] []) (.ret [(.c (.bool (.c false)))] [])))))))))))) := by decide +kernel
theorem call200 : Callable Try.prog 200 := callable_of Try.func200 (by decide +kernel) (by decide +kernel)
theorem t207 : runFn cfg (an0) (drawE cfg) Try.f207 [] [aI 0, aI 1, aI 2] (stG [none, none, none] 0 [] 0 0 []) =
  (some (.br (.le (.v 1) (.v 0)) (.ret [(.c (.bool (.le (.v 0) (.v 2))))] []) (.ret [(.c (.bool (.c false)))] []))) := by decide +kernel
theorem call207 : Callable Try.prog 207 := callable_of Try.func207 (by decide +kernel) (by decide +kernel)
theorem t335 : runFn cfg (lp [(3, some (2,31), -1)]) (drawE cfg) Try.f335 [] [aI 0] (stG [none] 0 [] 0 0 []) =
  (some (.callD (.fc 207) [(.c (.int .i64 (.v 0))), (.c (.int .i64 (.c 3))), (.c (.int .i64 (.c 31)))] [.bool] [] [] (.br (.not (.v 0)) (.ret [(.c (.bool (.c false)))] []) (.loop [(.c 2)] [] [] [] [(some (2, 31))] [] [] (.br (.le (.mul (.v 1) (.v 1)) (.v 0)) (.br (.eq (.rem (.v 0) (.v 1)) (.c 0)) (.ret [(.c (.bool (.c false)))] []) (.again 0 [(.add (.v 1) (.c 1))] [] [] [])) (.ret [(.c (.bool (.c true)))] [])))))) := by decide +kernel
theorem call335 : Callable Try.prog 335 := callable_of Try.func335 (by decide +kernel) (by decide +kernel)
theorem t171 : runFn cfg (lp [(9, some (0,1048576), -1)]) (drawE cfg) Try.f171 [] [aI 0, .c (.sl 0)] (stG [prm] 0 [(none, 1048576)] 0 0 [.isl 0 2 .i64 1 false]) =
  (some (.loop [(.c 0)] [] [] [] [(some (0, 1048576))] [] [] (.br (.lt (.v 1) (.sl 0)) (.callD (.fc 186) [(.c (.int .i64 (.v 0))), (.c (.int .i64 (.sg 0 (.v 1))))] [.bool] [] [] (.br (.not (.v 0)) (.ret [(.c (.bool (.c false)))] []) (.again 0 [(.add (.v 1) (.c 1))] [] [] []))) (.ret [(.c (.bool (.c true)))] [])))) := by decide +kernel
theorem call171 : Callable Try.prog 171 := callable_of Try.func171 (by decide +kernel) (by decide +kernel)
theorem t167 : runFn cfg (lp [(5, some (0,1048576), -1)]) (drawE cfg) Try.f167 [] [aI 0, .c (.sl 0)] (stG [none] 0 [(none, 1048576)] 0 0 [.isl 0 2 .i64 1 false]) =
  (some (.callD (.fc 335) [(.c (.int .i64 (.v 0)))] [.bool] [] [] (.br (.not (.v 0)) (.ret [(.c (.int .i64 (.c 1)))] []) (.loop [(.c 0)] [] [] [] [(some (0, 1048576))] [] [] (.br (.lt (.v 1) (.sl 0)) (.need (.le (.c (-9223372036854775808)) (.sub (.v 0) (.c 1))) (.need (.le (.sub (.v 0) (.c 1)) (.c 9223372036854775807)) (.callD (.fc 207) [(.c (.int .i64 (.sg 0 (.v 1)))), (.c (.int .i64 (.c 0))), (.c (.int .i64 (.sub (.v 0) (.c 1))))] [.bool] [] [] (.br (.not (.v 1)) (.ret [(.c (.int .i64 (.c 2)))] []) (.again 0 [(.add (.v 1) (.c 1))] [] [] []))))) (.ret [(.c (.int .i64 (.c 0)))] [])))))) := by decide +kernel
theorem call167 : Callable Try.prog 167 := callable_of Try.func167 (by decide +kernel) (by decide +kernel)
theorem t169 : runFn cfg (an0) (drawE cfg) Try.f169 [] [aI 0, .c (.fn 0)] (stG [none] 0 [] 0 1 []) =
  (some (.callD (.fc 200) [(.c (.int .i64 (.v 0)))] [.bool] [] [] (.br (.not (.v 0)) (.ret [(.c (.int .i64 (.c 1)))] []) (.callD (.fn 0) [] [.bool] [] [] (.br (.not (.v 1)) (.ret [(.c (.int .i64 (.c 2)))] []) (.ret [(.c (.int .i64 (.c 0)))] [])))))) := by decide +kernel
theorem call169 : Callable Try.prog 169 := callable_of Try.func169 (by decide +kernel) (by decide +kernel)
theorem t296 : runFn cfg (lp [(5, some (0,30), -1), (6, some (0,30), -1), (7, some (0,30), -1)]) (drawE cfg) Try.f296 [] [aI 0, aI 1] (stG [none, prm] 0 [] 0 0 []) =
  (some (.callD (.fc 176) [(.c (.int .i64 (.v 0))), (.c (.int .i64 (.v 1)))] [(.int .i64)] [(some (0, 30))] [] (.loop [(.c 1), (.v 2), (.sub (.v 1) (.c 2))] [] [] [] [(some (0, 30)), (some (0, 30)), (some (0, 30))] [] [] (.br (.lt (.c 0) (.v 5)) (.br (.eq (.rem (.v 5) (.c 2)) (.c 1)) (.again 0 [(.rem (.mul (.v 3) (.v 4)) (.v 1)), (.rem (.mul (.v 4) (.v 4)) (.v 1)), (.quo (.v 5) (.c 2))] [] [] []) (.again 0 [(.v 3), (.rem (.mul (.v 4) (.v 4)) (.v 1)), (.quo (.v 5) (.c 2))] [] [] [])) (.ret [(.c (.int .i64 (.v 3)))] []))))) := by decide +kernel
theorem call296 : Callable Try.prog 296 := callable_of Try.func296 (by decide +kernel) (by decide +kernel)
theorem t172 : runFn cfg (an0) (drawE cfg) Try.f172 [] [aI 0, .a [.int .i64 (.v 1), .int .i64 (.v 2), .int .i64 (.v 3), .int .i64 (.v 4), .int .i64 (.v 5), .int .i64 (.v 6)]] (stG [prm, none, none, none, none, none, none] 0 [] 0 0 []) =
  (some (.blk (.blk (.callD (.fc 182) [(.c (.int .i64 (.v 0))), (.c (.int .i64 (.v 1)))] [(.int .i64)] [(some (0, 30))] [] (.callD (.fc 182) [(.c (.int .i64 (.v 0))), (.c (.int .i64 (.v 2)))] [(.int .i64)] [(some (0, 30))] [] (.br (.eq (.v 7) (.c 0)) (.callD (.fc 182) [(.c (.int .i64 (.v 0))), (.c (.int .i64 (.v 3)))] [(.int .i64)] [(some (0, 30))] [] (.br (.eq (.v 8) (.c 0)) (.callD (.fc 182) [(.c (.int .i64 (.v 0))), (.c (.int .i64 (.v 4)))] [(.int .i64)] [(some (0, 30))] [] (.br (.eq (.v 9) (.c 0)) (.callD (.fc 182) [(.c (.int .i64 (.v 0))), (.c (.int .i64 (.v 5)))] [(.int .i64)] [(some (0, 30))] [] (.callD (.fc 182) [(.c (.int .i64 (.v 0))), (.c (.int .i64 (.v 6)))] [(.int .i64)] [(some (0, 30))] [] (.ret [(.a [(.int .i64 (.c 0)), (.int .i64 (.c 0)), (.int .i64 (.c 0)), (.int .i64 (.c 0)), (.int .i64 (.c 0)), (.int .i64 (.c 0))]), (.c (.bool (.c false)))] []))) (.callD (.fc 182) [(.c (.int .i64 (.v 0))), (.c (.int .i64 (.v 5)))] [(.int .i64)] [(some (0, 30))] [] (.callD (.fc 182) [(.c (.int .i64 (.v 0))), (.c (.int .i64 (.v 6)))] [(.int .i64)] [(some (0, 30))] [] (.blk (.callD (.fc 294) [(.c (.int .i64 (.v 0))), (.c (.int .i64 (.v 7))), (.c (.int .i64 (.v 9)))] [(.int .i64)] [(some (0, 30))] [] (.callD (.fc 294) [(.c (.int .i64 (.v 0))), (.c (.int .i64 (.v 8))), (.c (.int .i64 (.v 9)))] [(.int .i64)] [(some (0, 30))] [] (.callD (.fc 294) [(.c (.int .i64 (.v 0))), (.c (.int .i64 (.v 9))), (.c (.int .i64 (.v 9)))] [(.int .i64)] [(some (0, 30))] [] (.callD (.fc 294) [(.c (.int .i64 (.v 0))), (.c (.int .i64 (.v 10))), (.c (.int .i64 (.v 9)))] [(.int .i64)] [(some (0, 30))] [] (.callD (.fc 294) [(.c (.int .i64 (.v 0))), (.c (.int .i64 (.v 11))), (.c (.int .i64 (.v 9)))] [(.int .i64)] [(some (0, 30))] [] (.callD (.fc 294) [(.c (.int .i64 (.v 0))), (.c (.int .i64 (.v 12))), (.c (.int .i64 (.v 9)))] [(.int .i64)] [(some (0, 30))] [] (.ret [(.a [(.int .i64 (.v 13)), (.int .i64 (.v 14)), (.int .i64 (.v 15)), (.int .i64 (.v 16)), (.int .i64 (.v 17)), (.int .i64 (.v 18))]), (.c (.bool (.c true)))] [])))))))))))) (.callD (.fc 182) [(.c (.int .i64 (.v 0))), (.c (.int .i64 (.v 4)))] [(.int .i64)] [(some (0, 30))] [] (.callD (.fc 182) [(.c (.int .i64 (.v 0))), (.c (.int .i64 (.v 5)))] [(.int .i64)] [(some (0, 30))] [] (.callD (.fc 182) [(.c (.int .i64 (.v 0))), (.c (.int .i64 (.v 6)))] [(.int .i64)] [(some (0, 30))] [] (.blk (.callD (.fc 294) [(.c (.int .i64 (.v 0))), (.c (.int .i64 (.v 7))), (.c (.int .i64 (.v 8)))] [(.int .i64)] [(some (0, 30))] [] (.callD (.fc 294) [(.c (.int .i64 (.v 0))), (.c (.int .i64 (.v 8))), (.c (.int .i64 (.v 8)))] [(.int .i64)] [(some (0, 30))] [] (.callD (.fc 294) [(.c (.int .i64 (.v 0))), (.c (.int .i64 (.v 9))), (.c (.int .i64 (.v 8)))] [(.int .i64)] [(some (0, 30))] [] (.callD (.fc 294) [(.c (.int .i64 (.v 0))), (.c (.int .i64 (.v 10))), (.c (.int .i64 (.v 8)))] [(.int .i64)] [(some (0, 30))] [] (.callD (.fc 294) [(.c (.int .i64 (.v 0))), (.c (.int .i64 (.v 11))), (.c (.int .i64 (.v 8)))] [(.int .i64)] [(some (0, 30))] [] (.callD (.fc 294) [(.c (.int .i64 (.v 0))), (.c (.int .i64 (.v 12))), (.c (.int .i64 (.v 8)))] [(.int .i64)] [(some (0, 30))] [] (.ret [(.a [(.int .i64 (.v 13)), (.int .i64 (.v 14)), (.int .i64 (.v 15)), (.int .i64 (.v 16)), (.int .i64 (.v 17)), (.int .i64 (.v 18))]), (.c (.bool (.c true)))] []))))))))))))) (.callD (.fc 182) [(.c (.int .i64 (.v 0))), (.c (.int .i64 (.v 3)))] [(.int .i64)] [(some (0, 30))] [] (.callD (.fc 182) [(.c (.int .i64 (.v 0))), (.c (.int .i64 (.v 4)))] [(.int .i64)] [(some (0, 30))] [] (.callD (.fc 182) [(.c (.int .i64 (.v 0))), (.c (.int .i64 (.v 5)))] [(.int .i64)] [(some (0, 30))] [] (.callD (.fc 182) [(.c (.int .i64 (.v 0))), (.c (.int .i64 (.v 6)))] [(.int .i64)] [(some (0, 30))] [] (.blk (.callD (.fc 294) [(.c (.int .i64 (.v 0))), (.c (.int .i64 (.v 7))), (.c (.int .i64 (.v 7)))] [(.int .i64)] [(some (0, 30))] [] (.callD (.fc 294) [(.c (.int .i64 (.v 0))), (.c (.int .i64 (.v 8))), (.c (.int .i64 (.v 7)))] [(.int .i64)] [(some (0, 30))] [] (.callD (.fc 294) [(.c (.int .i64 (.v 0))), (.c (.int .i64 (.v 9))), (.c (.int .i64 (.v 7)))] [(.int .i64)] [(some (0, 30))] [] (.callD (.fc 294) [(.c (.int .i64 (.v 0))), (.c (.int .i64 (.v 10))), (.c (.int .i64 (.v 7)))] [(.int .i64)] [(some (0, 30))] [] (.callD (.fc 294) [(.c (.int .i64 (.v 0))), (.c (.int .i64 (.v 11))), (.c (.int .i64 (.v 7)))] [(.int .i64)] [(some (0, 30))] [] (.callD (.fc 294) [(.c (.int .i64 (.v 0))), (.c (.int .i64 (.v 12))), (.c (.int .i64 (.v 7)))] [(.int .i64)] [(some (0, 30))] [] (.ret [(.a [(.int .i64 (.v 13)), (.int .i64 (.v 14)), (.int .i64 (.v 15)), (.int .i64 (.v 16)), (.int .i64 (.v 17)), (.int .i64 (.v 18))]), (.c (.bool (.c true)))] [])))))))))))))))))) := by decide +kernel
theorem call172 : Callable Try.prog 172 := callable_of Try.func172 (by decide +kernel) (by decide +kernel)
theorem t168 : runFn cfg (an0) (drawE cfg) Try.f168 [] [aI 0, .c (.sl 0)] (stG [prm] 0 [(none, 1048576)] 0 0 [.isl 0 2 .i64 1 false]) =
  (some (.blk (.blk (.need (.lt (.c 0) (.sl 0)) (.callD (.fc 176) [(.c (.int .i64 (.sg 0 (.c 0)))), (.c (.int .i64 (.v 0)))] [(.int .i64)] [(some (0, 30))] [] (.br (.eq (.v 1) (.c 0)) (.need (.lt (.c 1) (.sl 0)) (.callD (.fc 176) [(.c (.int .i64 (.sg 0 (.c 1)))), (.c (.int .i64 (.v 0)))] [(.int .i64)] [(some (0, 30))] [] (.br (.eq (.v 2) (.c 0)) (.need (.lt (.c 2) (.sl 0)) (.callD (.fc 176) [(.c (.int .i64 (.sg 0 (.c 2)))), (.c (.int .i64 (.v 0)))] [(.int .i64)] [(some (0, 30))] [] (.br (.eq (.v 3) (.c 0)) (.ret [(.a [(.int .i64 (.c 0)), (.int .i64 (.c 0)), (.int .i64 (.c 0)), (.int .i64 (.c 0)), (.int .i64 (.c 0)), (.int .i64 (.c 0))]), (.c (.bool (.c false)))] []) (.callD (.fc 296) [(.c (.int .i64 (.v 3))), (.c (.int .i64 (.v 0)))] [(.int .i64)] [(some (0, 30))] [] (.callD (.fc 176) [(.c (.int .i64 (.mul (.rem (.sg 0 (.c 0)) (.v 0)) (.v 4)))), (.c (.int .i64 (.v 0)))] [(.int .i64)] [(some (0, 30))] [] (.callD (.fc 176) [(.c (.int .i64 (.mul (.rem (.sg 0 (.c 1)) (.v 0)) (.v 4)))), (.c (.int .i64 (.v 0)))] [(.int .i64)] [(some (0, 30))] [] (.callD (.fc 176) [(.c (.int .i64 (.mul (.rem (.sg 0 (.c 2)) (.v 0)) (.v 4)))), (.c (.int .i64 (.v 0)))] [(.int .i64)] [(some (0, 30))] [] (.need (.lt (.c 3) (.sl 0)) (.callD (.fc 176) [(.c (.int .i64 (.mul (.rem (.sg 0 (.c 3)) (.v 0)) (.v 4)))), (.c (.int .i64 (.v 0)))] [(.int .i64)] [(some (0, 30))] [] (.need (.lt (.c 4) (.sl 0)) (.callD (.fc 176) [(.c (.int .i64 (.mul (.rem (.sg 0 (.c 4)) (.v 0)) (.v 4)))), (.c (.int .i64 (.v 0)))] [(.int .i64)] [(some (0, 30))] [] (.need (.lt (.c 5) (.sl 0)) (.callD (.fc 176) [(.c (.int .i64 (.mul (.rem (.sg 0 (.c 5)) (.v 0)) (.v 4)))), (.c (.int .i64 (.v 0)))] [(.int .i64)] [(some (0, 30))] [] (.ret [(.a [(.int .i64 (.v 5)), (.int .i64 (.v 6)), (.int .i64 (.v 7)), (.int .i64 (.v 8)), (.int .i64 (.v 9)), (.int .i64 (.v 10))]), (.c (.bool (.c true)))] [])))))))))))))) (.callD (.fc 296) [(.c (.int .i64 (.v 2))), (.c (.int .i64 (.v 0)))] [(.int .i64)] [(some (0, 30))] [] (.callD (.fc 176) [(.c (.int .i64 (.mul (.rem (.sg 0 (.c 0)) (.v 0)) (.v 3)))), (.c (.int .i64 (.v 0)))] [(.int .i64)] [(some (0, 30))] [] (.callD (.fc 176) [(.c (.int .i64 (.mul (.rem (.sg 0 (.c 1)) (.v 0)) (.v 3)))), (.c (.int .i64 (.v 0)))] [(.int .i64)] [(some (0, 30))] [] (.need (.lt (.c 2) (.sl 0)) (.callD (.fc 176) [(.c (.int .i64 (.mul (.rem (.sg 0 (.c 2)) (.v 0)) (.v 3)))), (.c (.int .i64 (.v 0)))] [(.int .i64)] [(some (0, 30))] [] (.need (.lt (.c 3) (.sl 0)) (.callD (.fc 176) [(.c (.int .i64 (.mul (.rem (.sg 0 (.c 3)) (.v 0)) (.v 3)))), (.c (.int .i64 (.v 0)))] [(.int .i64)] [(some (0, 30))] [] (.need (.lt (.c 4) (.sl 0)) (.callD (.fc 176) [(.c (.int .i64 (.mul (.rem (.sg 0 (.c 4)) (.v 0)) (.v 3)))), (.c (.int .i64 (.v 0)))] [(.int .i64)] [(some (0, 30))] [] (.need (.lt (.c 5) (.sl 0)) (.callD (.fc 176) [(.c (.int .i64 (.mul (.rem (.sg 0 (.c 5)) (.v 0)) (.v 3)))), (.c (.int .i64 (.v 0)))] [(.int .i64)] [(some (0, 30))] [] (.ret [(.a [(.int .i64 (.v 4)), (.int .i64 (.v 5)), (.int .i64 (.v 6)), (.int .i64 (.v 7)), (.int .i64 (.v 8)), (.int .i64 (.v 9))]), (.c (.bool (.c true)))] []))))))))))))))) (.callD (.fc 296) [(.c (.int .i64 (.v 1))), (.c (.int .i64 (.v 0)))] [(.int .i64)] [(some (0, 30))] [] (.callD (.fc 176) [(.c (.int .i64 (.mul (.rem (.sg 0 (.c 0)) (.v 0)) (.v 2)))), (.c (.int .i64 (.v 0)))] [(.int .i64)] [(some (0, 30))] [] (.need (.lt (.c 1) (.sl 0)) (.callD (.fc 176) [(.c (.int .i64 (.mul (.rem (.sg 0 (.c 1)) (.v 0)) (.v 2)))), (.c (.int .i64 (.v 0)))] [(.int .i64)] [(some (0, 30))] [] (.need (.lt (.c 2) (.sl 0)) (.callD (.fc 176) [(.c (.int .i64 (.mul (.rem (.sg 0 (.c 2)) (.v 0)) (.v 2)))), (.c (.int .i64 (.v 0)))] [(.int .i64)] [(some (0, 30))] [] (.need (.lt (.c 3) (.sl 0)) (.callD (.fc 176) [(.c (.int .i64 (.mul (.rem (.sg 0 (.c 3)) (.v 0)) (.v 2)))), (.c (.int .i64 (.v 0)))] [(.int .i64)] [(some (0, 30))] [] (.need (.lt (.c 4) (.sl 0)) (.callD (.fc 176) [(.c (.int .i64 (.mul (.rem (.sg 0 (.c 4)) (.v 0)) (.v 2)))), (.c (.int .i64 (.v 0)))] [(.int .i64)] [(some (0, 30))] [] (.need (.lt (.c 5) (.sl 0)) (.callD (.fc 176) [(.c (.int .i64 (.mul (.rem (.sg 0 (.c 5)) (.v 0)) (.v 2)))), (.c (.int .i64 (.v 0)))] [(.int .i64)] [(some (0, 30))] [] (.ret [(.a [(.int .i64 (.v 3)), (.int .i64 (.v 4)), (.int .i64 (.v 5)), (.int .i64 (.v 6)), (.int .i64 (.v 7)), (.int .i64 (.v 8))]), (.c (.bool (.c true)))] []))))))))))))))))))) := by decide +kernel
theorem call168 : Callable Try.prog 168 := callable_of Try.func168 (by decide +kernel) (by decide +kernel)
theorem t170 : runFn cfg (an0) (drawE cfg) Try.f170 [] [.c (.ptr 0 0), .c (.ptr 1 0)] (stG [prm] 0 [(none, 1048576)] 2 0 [.isl 0 2 .i64 1 false, .blk 0 22 [.sl 0] false, .blk 1 2 [.int .i64 (.v 0)] false]) =
  (some (.br (.eq (.sl 0) (.c 6)) (.callD (.fc 171) [(.c (.int .i64 (.v 0))), (.c (.sl 0))] [.bool] [] [(.isl 0 2 .i64 1 false), (.blk 0 22 [(.sl 0)] false), (.blk 1 2 [(.int .i64 (.v 0))] false)] (.ret [(.c (.bool (.v 0)))] [])) (.ret [(.c (.bool (.c false)))] []))) := by decide +kernel
theorem call170 : Callable Try.prog 170 := callable_of Try.func170 (by decide +kernel) (by decide +kernel)
theorem t16 : runFn cfg (an0) (drawE cfg) Try.f16 [] [aI 0, .c (.sl 0)] (stG [none] 0 [(none, 1048576)] 0 0 [.isl 0 2 .i64 1 false]) =
  (some (.blk (.blk (.blk (.clo 170 [(.c (.ptr 1 0)), (.c (.ptr 0 0))] (.callD (.fc 169) [(.c (.int .i64 (.v 0))), (.c (.fn 0))] [(.int .i64)] [none] [(.blk 2 24 [(.int .i64 (.c 0)), (.int .i64 (.c 0)), (.int .i64 (.c 0)), (.int .i64 (.c 0)), (.int .i64 (.c 0)), (.int .i64 (.c 0))] true), (.blk 1 22 [(.sl 0)] true), (.blk 0 2 [(.int .i64 (.v 0))] true), (.isl 0 2 .i64 1 false)] (.br (.not (.eq (.v 1) (.c 0))) (.ret [(.a [(.int .i64 (.c 0)), (.int .i64 (.c 0)), (.int .i64 (.c 0)), (.int .i64 (.c 0)), (.int .i64 (.c 0)), (.int .i64 (.c 0))]), (.c (.int .i64 (.v 1)))] []) (.need (.le (.c 6) (.sl 0)) (.callD (.fc 172) [(.c (.int .i64 (.v 0))), (.a [(.int .i64 (.sg 0 (.c 0))), (.int .i64 (.sg 0 (.c 1))), (.int .i64 (.sg 0 (.c 2))), (.int .i64 (.sg 0 (.c 3))), (.int .i64 (.sg 0 (.c 4))), (.int .i64 (.sg 0 (.c 5)))])] [(.agg [.i64, .i64, .i64, .i64, .i64, .i64]), .bool] [none, none, none, none, none, none] [] (.blk (.br (.not (.v 0)) (.ret [(.a [(.int .i64 (.c 0)), (.int .i64 (.c 0)), (.int .i64 (.c 0)), (.int .i64 (.c 0)), (.int .i64 (.c 0)), (.int .i64 (.c 0))]), (.c (.int .i64 (.c 5)))] []) (.ret [(.a [(.int .i64 (.v 2)), (.int .i64 (.v 3)), (.int .i64 (.v 4)), (.int .i64 (.v 5)), (.int .i64 (.v 6)), (.int .i64 (.v 7))]), (.c (.int .i64 (.c 0)))] [])))))))))))) := by decide +kernel
theorem call16 : Callable Try.prog 16 := callable_of Try.func16 (by decide +kernel) (by decide +kernel)
theorem t14 : runFn cfg (an0) (drawE cfg) Try.f14 [] [aI 0, .c (.sl 0)] (stG [none] 0 [(none, 1048576)] 0 0 [.isl 0 2 .i64 1 false]) =
  (some (.blk (.callD (.fc 167) [(.c (.int .i64 (.v 0))), (.c (.sl 0))] [(.int .i64)] [none] [(.blk 0 24 [(.int .i64 (.c 0)), (.int .i64 (.c 0)), (.int .i64 (.c 0)), (.int .i64 (.c 0)), (.int .i64 (.c 0)), (.int .i64 (.c 0))] true), (.isl 0 2 .i64 1 false)] (.br (.eq (.v 1) (.c 0)) (.br (.not (.eq (.sl 0) (.c 6))) (.ret [(.a [(.int .i64 (.c 0)), (.int .i64 (.c 0)), (.int .i64 (.c 0)), (.int .i64 (.c 0)), (.int .i64 (.c 0)), (.int .i64 (.c 0))]), (.c (.int .i64 (.c 2)))] []) (.callD (.fc 168) [(.c (.int .i64 (.v 0))), (.c (.sl 0))] [(.agg [.i64, .i64, .i64, .i64, .i64, .i64]), .bool] [none, none, none, none, none, none] [(.blk 0 24 [(.int .i64 (.c 0)), (.int .i64 (.c 0)), (.int .i64 (.c 0)), (.int .i64 (.c 0)), (.int .i64 (.c 0)), (.int .i64 (.c 0))] true), (.isl 0 2 .i64 1 false)] (.blk (.br (.not (.v 0)) (.ret [(.a [(.int .i64 (.c 0)), (.int .i64 (.c 0)), (.int .i64 (.c 0)), (.int .i64 (.c 0)), (.int .i64 (.c 0)), (.int .i64 (.c 0))]), (.c (.int .i64 (.c 5)))] []) (.ret [(.a [(.int .i64 (.v 2)), (.int .i64 (.v 3)), (.int .i64 (.v 4)), (.int .i64 (.v 5)), (.int .i64 (.v 6)), (.int .i64 (.v 7))]), (.c (.int .i64 (.c 0)))] []))))) (.ret [(.a [(.int .i64 (.c 0)), (.int .i64 (.c 0)), (.int .i64 (.c 0)), (.int .i64 (.c 0)), (.int .i64 (.c 0)), (.int .i64 (.c 0))]), (.c (.int .i64 (.v 1)))] []))))) := by decide +kernel
theorem call14 : Callable Try.prog 14 := callable_of Try.func14 (by decide +kernel) (by decide +kernel)
theorem t15 : runFn cfg (lp [(4, some (0,1048576), -1), (3, none, 1048576)]) (drawE cfg) Try.f15 [] [.c (.sl 0)] (stG [] 0 [(none, 1048576)] 0 0 [.isl 0 2 .i64 1 false]) =
  (some (.fs (.sl 0) (.rep (.sl 0) 1) (.loop [(.c 0)] [] [1] [] [(some (0, 1048576))] [(none, 1048576)] [] (.br (.lt (.v 0) (.sl 0)) (.need (.lt (.v 0) (.sl 2)) (.set 2 (.v 0) [(.sg 0 (.v 0))] (.again 0 [(.add (.v 0) (.c 1))] [] [3] []))) (.ret [(.c (.sl 2))] []))))) := by decide +kernel
theorem call15 : Callable Try.prog 15 := callable_of Try.func15 (by decide +kernel) (by decide +kernel)
theorem t17 : runFn cfg (an0) (drawE cfg) Try.f17 [] [.a [.int .i64 (.v 0), .int .i64 (.v 1), .int .i64 (.v 2), .int .i64 (.v 3), .int .i64 (.v 4), .int .i64 (.v 5)], .a [.int .i64 (.v 6), .int .i64 (.v 7), .int .i64 (.v 8), .int .i64 (.v 9), .int .i64 (.v 10), .int .i64 (.v 11)]] (stG [none, none, none, none, none, none, none, none, none, none, none, none] 0 [] 0 0 []) =
  (some (.blk (.blk (.br (.not (.eq (.v 0) (.v 6))) (.ret [(.c (.bool (.c false)))] []) (.br (.not (.eq (.v 1) (.v 7))) (.ret [(.c (.bool (.c false)))] []) (.br (.not (.eq (.v 2) (.v 8))) (.ret [(.c (.bool (.c false)))] []) (.br (.not (.eq (.v 3) (.v 9))) (.ret [(.c (.bool (.c false)))] []) (.br (.not (.eq (.v 4) (.v 10))) (.ret [(.c (.bool (.c false)))] []) (.br (.not (.eq (.v 5) (.v 11))) (.ret [(.c (.bool (.c false)))] []) (.ret [(.c (.bool (.c true)))] [])))))))))) := by decide +kernel
theorem call17 : Callable Try.prog 17 := callable_of Try.func17 (by decide +kernel) (by decide +kernel)
theorem t18 : runFn cfg (lp [(5, some (0,1048576), -1)]) (drawE cfg) Try.f18 [] [.c (.sl 0), .c (.sl 1)] (stG [] 0 [(none, 1048576), (none, 1048576)] 0 0 [.isl 0 2 .i64 1 false, .isl 1 2 .i64 1 false]) =
  (some (.br (.not (.eq (.sl 0) (.sl 1))) (.ret [(.c (.bool (.c false)))] []) (.loop [(.c 0)] [] [] [] [(some (0, 1048576))] [] [] (.br (.lt (.v 0) (.sl 0)) (.need (.lt (.v 0) (.sl 1)) (.br (.not (.eq (.sg 0 (.v 0)) (.sg 1 (.v 0)))) (.ret [(.c (.bool (.c false)))] []) (.again 0 [(.add (.v 0) (.c 1))] [] [] []))) (.ret [(.c (.bool (.c true)))] []))))) := by decide +kernel
theorem call18 : Callable Try.prog 18 := callable_of Try.func18 (by decide +kernel) (by decide +kernel)
end Go.Proofs.Ytelejhggpkfdoaa.SX

namespace Go.Proofs.Ytelejhggpkfdoaa.SX
set_option linter.unusedVariables false
set_option linter.unusedSimpArgs false
open Go.RowKit Go.Proofs

theorem isNumber_at (p x : Int) (w : World) : RetAt 186 #[.int .i64 p, .int .i64 x] w (.bool (decide (0 ≤ x ∧ x < p))) := by
  have K := ret_of (E := ⟨[p, x], [], [], [], [], []⟩) (w := w) (r := .bool (decide (0 ≤ x ∧ x < p))) t186 Try.func186 (by decide +kernel) (shs := [.bool]) (by decide +kernel) (eokI rfl ⟨trivial, trivial, trivial⟩) HOK.nil
  refine K ⟨fun h => ?_, fun h => ?_⟩
  · have h : 0 ≤ x := h
    show Value.bool (decide (x < p)) = _
    simp [h]
  · have h : ¬ 0 ≤ x := h
    show Value.bool false = _
    simp [h]

theorem isField_at (p : Int) (w : World) : RetAt 200 #[.int .i64 p] w (.bool (decide (Fld p))) := by
  have K := ret_of (E := ⟨[p], [], [], [], [], []⟩) (w := w) (r := .bool (decide (Fld p))) t200 Try.func200 (by decide +kernel) (shs := [.bool]) (by decide +kernel) (eokI rfl ⟨trivial, trivial⟩) HOK.nil
  refine K ⟨fun h => ?_, fun h1 => ⟨fun h => ?_, fun h2 => ⟨fun h => ?_, fun h3 => ⟨fun h => ?_, fun h4 => ⟨fun h => ?_, fun h5 => ⟨fun h => ?_, fun h6 => ⟨fun h => ?_, fun h7 => ⟨fun h => ?_, fun h8 => ⟨fun h => ?_, fun h9 => ⟨fun h => ?_, fun h10 => ?_⟩⟩⟩⟩⟩⟩⟩⟩⟩⟩
  any_goals
    have h : p = _ := h
    simp only [IE.den] at h
    show Value.bool true = _
    rw [decide_eq_true (show Fld p by rw [h]; decide)]
  have h1 : ¬ p = 3 := h1
  have h2 : ¬ p = 5 := h2
  have h3 : ¬ p = 7 := h3
  have h4 : ¬ p = 11 := h4
  have h5 : ¬ p = 13 := h5
  have h6 : ¬ p = 17 := h6
  have h7 : ¬ p = 19 := h7
  have h8 : ¬ p = 23 := h8
  have h9 : ¬ p = 29 := h9
  have h10 : ¬ p = 31 := h10
  show Value.bool false = _
  rw [decide_eq_false (show ¬ Fld p by unfold Fld; omega)]

theorem in_at (n l h : Int) (w : World) : RetAt 207 #[.int .i64 n, .int .i64 l, .int .i64 h] w (.bool (decide (l ≤ n ∧ n ≤ h))) := by
  have K := ret_of (E := ⟨[n, l, h], [], [], [], [], []⟩) (w := w) (r := .bool (decide (l ≤ n ∧ n ≤ h))) t207 Try.func207 (by decide +kernel) (shs := [.bool]) (by decide +kernel) (eokI rfl ⟨trivial, trivial, trivial, trivial⟩) HOK.nil
  refine K ⟨fun h1 => ?_, fun h1 => ?_⟩
  · have h1 : l ≤ n := h1
    show Value.bool (decide (n ≤ h)) = _
    simp [h1]
  · have h1 : ¬ l ≤ n := h1
    show Value.bool false = _
    simp [h1]

theorem fld_fin : ∀ p ∈ List.range 32, 3 ≤ p → ∀ d ∈ List.range 32, 2 ≤ d → (d * d ≤ p → p % d = 0 → ¬ Fld (p : Int)) ∧ (p < d * d → (∀ y ∈ List.range d, 2 ≤ y → p % y ≠ 0) → Fld (p : Int)) := by decide +kernel

theorem field_at (p : Int) (w : World) : RetAt 335 #[.int .i64 p] w (.bool (decide (Fld p))) := by
  have K := ret_of (E := ⟨[p], [], [], [], [], []⟩) (w := w) (r := .bool (decide (Fld p))) t335 Try.func335 (by decide +kernel) (shs := [.bool]) (by decide +kernel) (eokI rfl ⟨trivial, trivial⟩) HOK.nil
  refine K (callB rfl (decide (3 ≤ p ∧ p ≤ 31)) (fun w _ _ _ => in_at p 3 31 w) call207 ⟨fun h1 => ?_, fun h1 => ?_⟩)
  · have h1 : ¬ decide (3 ≤ p ∧ p ≤ 31) = true := h1
    rw [decide_eq_true_eq] at h1
    show Value.bool false = _
    rw [decide_eq_false (fun h => h1 ⟨h.ge, h.le⟩)]
  · have h1 : ¬ ¬ decide (3 ≤ p ∧ p ≤ 31) = true := h1
    rw [decide_eq_true_eq, Classical.not_not] at h1
    have hpn : ((p.toNat : Nat) : Int) = p := by omega
    refine loopN (fun xs => ∀ y : Nat, 2 ≤ y → (y : Int) < xs.getD 0 0 → p.toNat % y ≠ 0) (fun xs => (31 - xs.getD 0 0).toNat) ⟨by simp [IE.den, inIv], trivial⟩ (by intro y g1 g2; simp [IE.den] at g2; omega) ?_
    intro xs hl hb hI
    obtain ⟨d, rfl⟩ := list1 hl
    have hb1 : 2 ≤ d ∧ d ≤ 31 := hb.1
    have hdn : ((d.toNat : Nat) : Int) = d := by omega
    have hF := fld_fin p.toNat (by rw [List.mem_range]; omega) (by omega) d.toNat (by rw [List.mem_range]; omega) (by omega)
    have hsq : ((d.toNat * d.toNat : Nat) : Int) = d * d := by rw [Int.natCast_mul, hdn]
    rw [hpn] at hF
    refine ⟨fun hc => ⟨fun he => ?_, fun he => ?_⟩, fun hc => ?_⟩
    · have hc : d * d ≤ p := hc
      have he : p.tmod d = 0 := he
      rw [Int.tmod_eq_emod_of_nonneg (by omega)] at he
      show Value.bool false = _
      rw [decide_eq_false (hF.1 (by omega) (by
        have : ((p.toNat % d.toNat : Nat) : Int) = 0 := by rw [Int.natCast_emod, hpn, hdn]; exact he
        omega))]
    · have hc : d * d ≤ p := hc
      have he : ¬ p.tmod d = 0 := he
      rw [Int.tmod_eq_emod_of_nonneg (by omega)] at he
      have hd6 : d ≤ 30 := by
        refine Classical.byContradiction fun h => ?_
        have : d = 31 := by omega
        subst this; omega
      refine den_again rfl ⟨⟨show 2 ≤ d + 1 by omega, show d + 1 ≤ 31 by omega⟩, trivial⟩ ?_ (by show (31 - (d+1)).toNat < (31 - d).toNat; omega)
      intro y g1 g2
      have g2 : (y : Int) < d + 1 := g2
      rcases Int.lt_or_eq_of_le (show (y : Int) ≤ d by omega) with h | h
      · exact hI y g1 h
      · intro h3
        apply he
        have : ((p.toNat % y : Nat) : Int) = 0 := by rw [h3]; rfl
        rw [Int.natCast_emod, hpn, h] at this; exact this
    · have hc : ¬ d * d ≤ p := hc
      show Value.bool true = _
      rw [decide_eq_true (hF.2 (by omega) fun y hy g => hI y g (show (y : Int) < d by rw [List.mem_range] at hy; omega))]

/-- all in range -/
def areN (p : Int) (xs : List Int) : Bool := xs.all fun x => decide (0 ≤ x ∧ x < p)

/-- a borrowed slice of numbers, alone -/
theorem hok1 {B : Nat} {S : List Nat} {w : World} {s : Sl} {i : List Int} {b : List Bool} {n : List Nat} {T : TypeId} {z : Nat} (h : Reads w .i64 z s) : HOK B S [.isl 0 T .i64 z false] ⟨i, b, n, [s], [], []⟩ w :=
  HOK.rd (by simp [It.own]) (by
    intro it hi
    simp only [List.mem_singleton] at hi; subst hi; exact h)

theorem areN_false {p : Int} {xs : List Int} {j : Nat} (hj : j < xs.length) (h : ¬ (0 ≤ xs.getD j 0 ∧ xs.getD j 0 < p)) : areN p xs = false := by
  unfold areN
  rw [List.all_eq_false]
  refine ⟨xs.getD j 0, ?_, by simpa using h⟩
  rw [List.getD_eq_getElem?_getD, List.getElem?_eq_getElem hj]
  exact List.getElem_mem _
theorem areN_true {p : Int} {xs : List Int} (h : ∀ j, j < xs.length → 0 ≤ xs.getD j 0 ∧ xs.getD j 0 < p) : areN p xs = true := by
  unfold areN
  rw [List.all_eq_true]
  intro x hx
  obtain ⟨j, hj, rfl⟩ := List.getElem_of_mem hx
  have := h j hj
  rw [List.getD_eq_getElem?_getD, List.getElem?_eq_getElem hj] at this
  simpa using this

theorem areNumbers_at {p : Int} (hp : Fld p) {s : Sl} {w : World} (hs : Reads w .i64 1 s) (hn : s.n ≤ 1048576) : RetAt 171 #[.int .i64 p, s.val] w (.bool (areN p s.xs)) := by
  have K := ret_of (E := ⟨[p], [], [], [s], [], []⟩) (w := w) (r := .bool (areN p s.xs)) t171 Try.func171 (by decide +kernel) (shs := [.bool]) (by decide +kernel)
    (eokG rfl ⟨⟨hp.ge, hp.le⟩, trivial⟩ rfl ⟨⟨fun _ _ => trivial, fun _ => by omega⟩, trivial⟩ (by simp [iv0]) rfl rfl rfl) (hok1 hs)
  have hlen : s.xs.length = s.n := by have := hs.len; omega
  refine K (loopN (fun xs => ∀ j : Nat, (j : Int) < xs.getD 0 0 → 0 ≤ s.xs.getD j 0 ∧ s.xs.getD j 0 < p) (fun xs => (1048577 - xs.getD 0 0).toNat) ⟨by simp [IE.den, inIv], trivial⟩ (by intro y g; simp [IE.den] at g; omega) ?_)
  intro xs hl hb hI
  obtain ⟨i, rfl⟩ := list1 hl
  have hb1 : 0 ≤ i ∧ i ≤ 1048576 := hb.1
  refine ⟨fun hc => ?_, fun hc => ?_⟩
  · have hc : i < (s.n : Int) := hc
    refine callB rfl (decide (0 ≤ s.xs.getD i.toNat 0 ∧ s.xs.getD i.toNat 0 < p)) (fun w _ _ _ => isNumber_at p _ w) call186 ⟨fun h1 => ?_, fun h1 => ?_⟩
    · have h1 : ¬ decide (0 ≤ s.xs.getD i.toNat 0 ∧ s.xs.getD i.toNat 0 < p) = true := h1
      rw [decide_eq_true_eq] at h1
      show Value.bool false = _
      rw [areN_false (by omega) h1]
    · have h1 : ¬ ¬ decide (0 ≤ s.xs.getD i.toNat 0 ∧ s.xs.getD i.toNat 0 < p) = true := h1
      rw [decide_eq_true_eq, Classical.not_not] at h1
      refine den_again rfl ⟨⟨show 0 ≤ i + 1 by omega, show i + 1 ≤ 1048576 by omega⟩, trivial⟩ ?_ (by show (1048577 - (i+1)).toNat < (1048577 - i).toNat; omega)
      intro j g
      have g : (j : Int) < i + 1 := g
      rcases Int.lt_or_eq_of_le (show (j : Int) ≤ i by omega) with h | h
      · exact hI j h
      · rw [show j = i.toNat by omega]; exact h1
  · have hc : ¬ i < (s.n : Int) := hc
    show Value.bool true = _
    rw [areN_true fun j hj => hI j (show (j : Int) < i by omega)]

theorem numbers_at (p : Int) {s : Sl} {w : World} (hs : Reads w .i64 1 s) (hn : s.n ≤ 1048576) : RetAt 167 #[.int .i64 p, s.val] w (.int .i64 (if Fld p then if areN p s.xs = true then 0 else 2 else 1)) := by
  have K := ret_of (E := ⟨[p], [], [], [s], [], []⟩) (w := w) (r := .int .i64 (if Fld p then if areN p s.xs = true then 0 else 2 else 1)) t167 Try.func167 (by decide +kernel) (shs := [.int .i64]) (by decide +kernel)
    (eokG rfl ⟨trivial, trivial⟩ rfl ⟨⟨fun _ _ => trivial, fun _ => by omega⟩, trivial⟩ (by simp [iv0]) rfl rfl rfl) (hok1 hs)
  have hlen : s.xs.length = s.n := by have := hs.len; omega
  refine K (callB rfl (decide (Fld p)) (fun w _ _ _ => field_at p w) call335 ⟨fun h1 => ?_, fun h1 => ?_⟩)
  · have h1 : ¬ decide (Fld p) = true := h1
    rw [decide_eq_true_eq] at h1
    show Value.int .i64 1 = _
    rw [if_neg h1]
  · have h1 : ¬ ¬ decide (Fld p) = true := h1
    rw [decide_eq_true_eq, Classical.not_not] at h1
    have g1 := h1.ge
    have g2 := h1.le
    rw [if_pos h1]
    refine loopN (fun xs => ∀ j : Nat, (j : Int) < xs.getD 0 0 → 0 ≤ s.xs.getD j 0 ∧ s.xs.getD j 0 < p) (fun xs => (1048577 - xs.getD 0 0).toNat) ⟨by simp [IE.den, inIv], trivial⟩ (by intro y g; simp [IE.den] at g; omega) ?_
    intro xs hl hb hI
    obtain ⟨i, rfl⟩ := list1 hl
    have hb1 : 0 ≤ i ∧ i ≤ 1048576 := hb.1
    refine ⟨fun hc => ⟨show (-9223372036854775808 : Int) ≤ p - 1 by omega, fun _ => ⟨show p - 1 ≤ (9223372036854775807 : Int) by omega, fun _ => ?_⟩⟩, fun hc => ?_⟩
    · have hc : i < (s.n : Int) := hc
      refine callB rfl (decide (0 ≤ s.xs.getD i.toNat 0 ∧ s.xs.getD i.toNat 0 ≤ p - 1)) (fun w _ _ _ => in_at _ 0 (p - 1) w) call207 ⟨fun h1 => ?_, fun h1 => ?_⟩
      · have h1 : ¬ decide (0 ≤ s.xs.getD i.toNat 0 ∧ s.xs.getD i.toNat 0 ≤ p - 1) = true := h1
        rw [decide_eq_true_eq] at h1
        show Value.int .i64 2 = _
        rw [areN_false (j := i.toNat) (by omega) (by omega)]; rfl
      · have h1 : ¬ ¬ decide (0 ≤ s.xs.getD i.toNat 0 ∧ s.xs.getD i.toNat 0 ≤ p - 1) = true := h1
        rw [decide_eq_true_eq, Classical.not_not] at h1
        refine den_again rfl ⟨⟨show 0 ≤ i + 1 by omega, show i + 1 ≤ 1048576 by omega⟩, trivial⟩ ?_ (by show (1048577 - (i+1)).toNat < (1048577 - i).toNat; omega)
        intro j g
        have g : (j : Int) < i + 1 := g
        rcases Int.lt_or_eq_of_le (show (j : Int) ≤ i by omega) with h | h
        · exact hI j h
        · rw [show j = i.toNat by omega]; omega
    · have hc : ¬ i < (s.n : Int) := hc
      show Value.int .i64 0 = _
      rw [areN_true fun j hj => hI j (show (j : Int) < i by omega)]; rfl
end Go.Proofs.Ytelejhggpkfdoaa.SX

namespace Go.Proofs.Ytelejhggpkfdoaa.SX
set_option linter.unusedVariables false
set_option linter.unusedSimpArgs false
open Go.RowKit Go.Proofs

theorem asked_at (p : Int) (c : Clo) (b : Bool) (w : World) (hcl : Fld p → Callable Try.prog c.g) (hc : Fld p → ∀ w', Below w.heap.size w w' → RetAt c.g c.caps w' (.bool b)) :
    RetAt 169 #[.int .i64 p, c.val] w (.int .i64 (if Fld p then if b = true then 0 else 2 else 1)) := by
  have K := ret_of (E := ⟨[p], [], [], [], [], [c]⟩) (w := w) (r := .int .i64 (if Fld p then if b = true then 0 else 2 else 1)) t169 Try.func169 (by decide +kernel) (shs := [.int .i64]) (by decide +kernel)
    (eokG rfl ⟨trivial, trivial⟩ rfl trivial (by simp) rfl rfl rfl) HOK.nil
  refine K (callB rfl (decide (Fld p)) (fun w _ _ _ => isField_at p w) call200 ⟨fun h1 => ?_, fun h1 => ?_⟩)
  · have h1 : ¬ decide (Fld p) = true := h1
    rw [decide_eq_true_eq] at h1
    show Value.int .i64 1 = _
    rw [if_neg h1]
  · have h1 : ¬ ¬ decide (Fld p) = true := h1
    rw [decide_eq_true_eq, Classical.not_not] at h1
    rw [if_pos h1]
    refine callB_fn rfl b (fun w' _ _ hk => ?_) (hcl h1) ⟨fun h2 => ?_, fun h2 => ?_⟩
    · have := hc h1 w' hk.below
      show RetAt c.g (#[] ++ c.caps) w' _
      rw [Array.empty_append]; exact this
    · have h2 : ¬ b = true := h2
      show Value.int .i64 2 = _
      rw [if_neg h2]
    · have h2 : ¬ ¬ b = true := h2
      rw [Classical.not_not] at h2
      show Value.int .i64 0 = _
      rw [if_pos h2]

theorem powmod (x p : Int) (n : Nat) : (x % p) ^ n % p = x ^ n % p := by
  induction n with
  | zero => simp
  | succ n ih => rw [Int.pow_succ, Int.pow_succ, Int.mul_emod, ih, Int.emod_emod, ← Int.mul_emod]

theorem Inv_pow {p a : Int} (hp : Fld p) : Inv p a = (a % p) ^ (p - 2).toNat % p := by
  obtain ⟨m1, m2⟩ := hp.mem
  obtain ⟨e1, e2⟩ := emod_toNat (a := a) hp
  have := hp.ge
  unfold Inv InvN
  rw [Int.natCast_emod, Int.natCast_pow, e1, m2, show p.toNat - 2 = (p - 2).toNat by omega]

theorem pow_step {p o b : Int} {n : Nat} : (o * b % p) * (b * b % p) ^ n % p = o * b ^ (2 * n + 1) % p := by
  rw [Int.mul_emod, Int.emod_emod, powmod, ← Int.mul_emod, Int.mul_pow, Int.pow_succ, Int.pow_mul, Int.pow_succ, Int.pow_succ, Int.pow_zero, Int.one_mul, Int.mul_pow]
  congr 1; grind
theorem pow_step' {p o b : Int} {n : Nat} : o * (b * b % p) ^ n % p = o * b ^ (2 * n) % p := by
  rw [Int.mul_emod, powmod, ← Int.mul_emod, Int.mul_pow, Int.pow_mul, Int.pow_succ, Int.pow_succ, Int.pow_zero, Int.one_mul, Int.mul_pow]

theorem linv_at {p a : Int} (hp : Fld p) (w : World) : RetAt 296 #[.int .i64 a, .int .i64 p] w (.int .i64 (Inv p a)) := by
  have K := ret_of (E := ⟨[a, p], [], [], [], [], []⟩) (w := w) (r := .int .i64 (Inv p a)) t296 Try.func296 (by decide +kernel) (shs := [.int .i64]) (by decide +kernel) (eokI rfl ⟨trivial, ⟨hp.ge, hp.le⟩, trivial⟩) HOK.nil
  have g1 := hp.ge
  have g2 := hp.le
  refine K (den_mod rfl hp.ge hp.le fun y hy h1 h2 => ?_)
  have hy : y = a % p := hy
  have hyp : y < p := by rw [hy]; exact Int.emod_lt_of_pos _ (by omega)
  refine loopN (fun xs => 0 ≤ xs.getD 0 0 ∧ xs.getD 0 0 < p ∧ 0 ≤ xs.getD 1 0 ∧ xs.getD 1 0 < p ∧ 0 ≤ xs.getD 2 0 ∧ xs.getD 0 0 * xs.getD 1 0 ^ (xs.getD 2 0).toNat % p = Inv p a) (fun xs => (xs.getD 2 0).toNat)
    ⟨⟨show (0 : Int) ≤ 1 by omega, show (1 : Int) ≤ 30 by omega⟩, ⟨h1, h2⟩, ⟨show 0 ≤ p - 2 by omega, show p - 2 ≤ 30 by omega⟩, trivial⟩ ?_ ?_
  · refine ⟨show (0 : Int) ≤ 1 by omega, show (1 : Int) < p by omega, h1, hyp, show 0 ≤ p - 2 by omega, ?_⟩
    show 1 * y ^ (p - 2).toNat % p = _
    rw [Inv_pow hp, Int.one_mul, hy]
  · intro xs hl hb hI
    obtain ⟨o, b, k, rfl⟩ := list3 hl
    obtain ⟨i1, i2, i3, i4, i5, i6⟩ := hI
    have i1 : 0 ≤ o := i1
    have i2 : o < p := i2
    have i3 : 0 ≤ b := i3
    have i4 : b < p := i4
    have i5 : 0 ≤ k := i5
    have i6 : o * b ^ k.toNat % p = Inv p a := i6
    have hk30 : k ≤ 30 := hb.2.2.1.2
    have q1 : 0 ≤ o * b := Int.mul_nonneg i1 i3
    have q2 : 0 ≤ b * b := Int.mul_nonneg i3 i3
    have e1 : (o * b).tmod p = o * b % p := Int.tmod_eq_emod_of_nonneg q1
    have e2 : (b * b).tmod p = b * b % p := Int.tmod_eq_emod_of_nonneg q2
    have e3 : k.tdiv 2 = k / 2 := Int.tdiv_eq_ediv_of_nonneg i5
    have e4 : k.tmod 2 = k % 2 := Int.tmod_eq_emod_of_nonneg i5
    have r1 := mod_bds (o * b) hp.ge hp.le
    have r2 := mod_bds (b * b) hp.ge hp.le
    have r1' := Int.emod_lt_of_pos (o * b) (b := p) (by omega)
    have r2' := Int.emod_lt_of_pos (b * b) (b := p) (by omega)
    refine ⟨fun hc => ⟨fun he => ?_, fun he => ?_⟩, fun hc => ?_⟩
    · have hc : 0 < k := hc
      have he : k.tmod 2 = 1 := he
      rw [e4] at he
      refine den_again rfl ?_ ?_ ?_
      · show inIvs _ [(o * b).tmod p, (b * b).tmod p, k.tdiv 2]
        rw [e1, e2, e3]
        exact ⟨r1, r2, ⟨by omega, by omega⟩, trivial⟩
      · show 0 ≤ (o * b).tmod p ∧ (o * b).tmod p < p ∧ 0 ≤ (b * b).tmod p ∧ (b * b).tmod p < p ∧ 0 ≤ k.tdiv 2 ∧ (o * b).tmod p * (b * b).tmod p ^ (k.tdiv 2).toNat % p = Inv p a
        rw [e1, e2, e3]
        refine ⟨r1.1, r1', r2.1, r2', by omega, ?_⟩
        rw [pow_step, show 2 * (k / 2).toNat + 1 = k.toNat by omega]; exact i6
      · show (k.tdiv 2).toNat < k.toNat
        rw [e3]; omega
    · have hc : 0 < k := hc
      have he : ¬ k.tmod 2 = 1 := he
      rw [e4] at he
      refine den_again rfl ?_ ?_ ?_
      · show inIvs _ [o, (b * b).tmod p, k.tdiv 2]
        rw [e2, e3]
        exact ⟨⟨i1, by omega⟩, r2, ⟨by omega, by omega⟩, trivial⟩
      · show 0 ≤ o ∧ o < p ∧ 0 ≤ (b * b).tmod p ∧ (b * b).tmod p < p ∧ 0 ≤ k.tdiv 2 ∧ o * (b * b).tmod p ^ (k.tdiv 2).toNat % p = Inv p a
        rw [e2, e3]
        refine ⟨i1, i2, r2.1, r2', by omega, ?_⟩
        rw [pow_step', show 2 * (k / 2).toNat = k.toNat by omega]; exact i6
      · show (k.tdiv 2).toNat < k.toNat
        rw [e3]; omega
    · have hc : ¬ 0 < k := hc
      show Value.int .i64 o = _
      have : k = 0 := by omega
      subst this
      rw [← i6]
      simp only [Int.toNat_zero, Int.pow_zero, Int.mul_one]
      rw [show o % p = o from Int.emod_eq_of_lt i1 i2]
section
variable {Γ : Ctx} {H : List Hd} {E : Env}
theorem den_linv (hP : Γ.P = Try.prog) {pe ae : IE} {h : List It} {k : T} (hp : Fld (pe.den E)) (hk : ∀ y, y = Inv (pe.den E) (ae.den E) → 0 ≤ y → y ≤ 30 → k.den Γ H (E.ext [y] [] [] [])) :
    (T.callD (.fc 296) [.c (.int .i64 ae), .c (.int .i64 pe)] [.int .i64] [some (0, 30)] h k).den Γ H E := by
  have hb := Inv_bds (ae.den E) hp
  have := hp.le
  exact callI hP (Inv (pe.den E) (ae.den E)) (fun w _ _ _ => linv_at hp w) call296 ⟨hb.1, show _ ≤ 30 by omega⟩ (hk _ rfl hb.1 (by omega))
end
theorem tmod_mul (a b p : Int) : (a.tmod p * b) % p = (a % p * b) % p := by
  rw [Int.mul_emod, Int.tmod_eq_emod, Int.mul_emod (a % p)]
  split
  · simp
  · rw [Int.sub_emod, Int.emod_emod]
    have : ((p.natAbs : Nat) : Int) % p = 0 := by
      rcases Int.natAbs_eq p with h | h
      · rw [show ((p.natAbs : Nat) : Int) = p by omega]; simp
      · rw [show ((p.natAbs : Nat) : Int) = -p by omega]; simp
    rw [this]; simp
end Go.Proofs.Ytelejhggpkfdoaa.SX

namespace Go.Proofs.Ytelejhggpkfdoaa.SX
set_option linter.unusedVariables false
set_option linter.unusedSimpArgs false
open Go.RowKit Go.Proofs

def aggV (l : List Int) : Value := .agg (l.map (Value.int .i64)).toArray
/-- the first of three numbers that is not 0 -/
def firstOf (p a b c : Int) : Int := if a % p = 0 then if b % p = 0 then c % p else b % p else a % p
def mkC (p : Int) (l : List Int) : List Int :=
  let by' := firstOf p (l.getD 0 0) (l.getD 1 0) (l.getD 2 0)
  if by' = 0 then [0, 0, 0, 0, 0, 0] else l.map fun n => Div p (n % p) by'
def okC (p : Int) (l : List Int) : Bool := decide (firstOf p (l.getD 0 0) (l.getD 1 0) (l.getD 2 0) ≠ 0)

theorem makeConic_at {p : Int} (hp : Fld p) (a b c d e f : Int) (w : World) :
    RetAt 172 #[.int .i64 p, aggV [a, b, c, d, e, f]] w (.tuple #[aggV (mkC p [a, b, c, d, e, f]), .bool (okC p [a, b, c, d, e, f])]) := by
  have K := ret_of (E := ⟨[p, a, b, c, d, e, f], [], [], [], [], []⟩) (w := w) (r := .tuple #[aggV (mkC p [a, b, c, d, e, f]), .bool (okC p [a, b, c, d, e, f])]) t172 Try.func172 (by decide +kernel) (shs := [.agg [.i64, .i64, .i64, .i64, .i64, .i64], .bool]) (by decide +kernel)
    (eokI rfl ⟨⟨hp.ge, hp.le⟩, trivial, trivial, trivial, trivial, trivial, trivial, trivial⟩) HOK.nil
  have hge := hp.ge
  refine K ?_
  intro b1
  show T.den _ _ _ ⟨[p, a, b, c, d, e, f], [], [b1], [], [], []⟩
  intro b2
  show T.den _ _ _ ⟨[p, a, b, c, d, e, f], [], [b1, b2], [], [], []⟩
  refine den_rest rfl hp.ge hp.le fun y3 e3 l3 u3 => ?_
  replace e3 : y3 = a % p := e3
  show T.den _ _ _ ⟨[p, a, b, c, d, e, f, y3], [], [b1, b2], [], [], []⟩
  refine den_rest rfl hp.ge hp.le fun y4 e4 l4 u4 => ?_
  replace e4 : y4 = b % p := e4
  show T.den _ _ _ ⟨[p, a, b, c, d, e, f, y3, y4], [], [b1, b2], [], [], []⟩
  refine ⟨fun c5 => ?_, fun c5 => ?_⟩
  · replace c5 : y3 = 0 := c5
    refine den_rest rfl hp.ge hp.le fun y6 e6 l6 u6 => ?_
    replace e6 : y6 = c % p := e6
    show T.den _ _ _ ⟨[p, a, b, c, d, e, f, y3, y4, y6], [], [b1, b2], [], [], []⟩
    refine ⟨fun c7 => ?_, fun c7 => ?_⟩
    · replace c7 : y4 = 0 := c7
      refine den_rest rfl hp.ge hp.le fun y8 e8 l8 u8 => ?_
      replace e8 : y8 = d % p := e8
      show T.den _ _ _ ⟨[p, a, b, c, d, e, f, y3, y4, y6, y8], [], [b1, b2], [], [], []⟩
      refine ⟨fun c9 => ?_, fun c9 => ?_⟩
      · replace c9 : y6 = 0 := c9
        refine den_rest rfl hp.ge hp.le fun y10 e10 l10 u10 => ?_
        replace e10 : y10 = e % p := e10
        show T.den _ _ _ ⟨[p, a, b, c, d, e, f, y3, y4, y6, y8, y10], [], [b1, b2], [], [], []⟩
        refine den_rest rfl hp.ge hp.le fun y11 e11 l11 u11 => ?_
        replace e11 : y11 = f % p := e11
        show T.den _ _ _ ⟨[p, a, b, c, d, e, f, y3, y4, y6, y8, y10, y11], [], [b1, b2], [], [], []⟩
        show (.tuple #[.agg #[.int .i64 0, .int .i64 0, .int .i64 0, .int .i64 0, .int .i64 0, .int .i64 0], .bool false] : Value) = _
        subst e3 e4 e6 e8 e10 e11
        simp only [mkC, okC, firstOf, aggV, List.getD_cons_zero, List.getD_cons_succ, if_pos c5, if_pos c7, if_pos c9]
        simp [*]
      · replace c9 : ¬ (y6 = 0) := c9
        refine den_rest rfl hp.ge hp.le fun y12 e12 l12 u12 => ?_
        replace e12 : y12 = e % p := e12
        show T.den _ _ _ ⟨[p, a, b, c, d, e, f, y3, y4, y6, y8, y12], [], [b1, b2], [], [], []⟩
        refine den_rest rfl hp.ge hp.le fun y13 e13 l13 u13 => ?_
        replace e13 : y13 = f % p := e13
        show T.den _ _ _ ⟨[p, a, b, c, d, e, f, y3, y4, y6, y8, y12, y13], [], [b1, b2], [], [], []⟩
        intro b14
        show T.den _ _ _ ⟨[p, a, b, c, d, e, f, y3, y4, y6, y8, y12, y13], [], [b1, b2, b14], [], [], []⟩
        refine den_divide30 rfl hp l3 u3 l6 u6 fun y15 e15 l15 u15 => ?_
        replace e15 : y15 = Div p y3 y6 := e15
        show T.den _ _ _ ⟨[p, a, b, c, d, e, f, y3, y4, y6, y8, y12, y13, y15], [], [b1, b2, b14], [], [], []⟩
        refine den_divide30 rfl hp l4 u4 l6 u6 fun y16 e16 l16 u16 => ?_
        replace e16 : y16 = Div p y4 y6 := e16
        show T.den _ _ _ ⟨[p, a, b, c, d, e, f, y3, y4, y6, y8, y12, y13, y15, y16], [], [b1, b2, b14], [], [], []⟩
        refine den_divide30 rfl hp l6 u6 l6 u6 fun y17 e17 l17 u17 => ?_
        replace e17 : y17 = Div p y6 y6 := e17
        show T.den _ _ _ ⟨[p, a, b, c, d, e, f, y3, y4, y6, y8, y12, y13, y15, y16, y17], [], [b1, b2, b14], [], [], []⟩
        refine den_divide30 rfl hp l8 u8 l6 u6 fun y18 e18 l18 u18 => ?_
        replace e18 : y18 = Div p y8 y6 := e18
        show T.den _ _ _ ⟨[p, a, b, c, d, e, f, y3, y4, y6, y8, y12, y13, y15, y16, y17, y18], [], [b1, b2, b14], [], [], []⟩
        refine den_divide30 rfl hp l12 u12 l6 u6 fun y19 e19 l19 u19 => ?_
        replace e19 : y19 = Div p y12 y6 := e19
        show T.den _ _ _ ⟨[p, a, b, c, d, e, f, y3, y4, y6, y8, y12, y13, y15, y16, y17, y18, y19], [], [b1, b2, b14], [], [], []⟩
        refine den_divide30 rfl hp l13 u13 l6 u6 fun y20 e20 l20 u20 => ?_
        replace e20 : y20 = Div p y13 y6 := e20
        show T.den _ _ _ ⟨[p, a, b, c, d, e, f, y3, y4, y6, y8, y12, y13, y15, y16, y17, y18, y19, y20], [], [b1, b2, b14], [], [], []⟩
        show (.tuple #[.agg #[.int .i64 y15, .int .i64 y16, .int .i64 y17, .int .i64 y18, .int .i64 y19, .int .i64 y20], .bool true] : Value) = _
        subst e3 e4 e6 e8 e12 e13 e15 e16 e17 e18 e19 e20
        simp only [mkC, okC, firstOf, aggV, List.getD_cons_zero, List.getD_cons_succ, if_pos c5, if_pos c7, if_neg c9]
        simp [*]
    · replace c7 : ¬ (y4 = 0) := c7
      refine den_rest rfl hp.ge hp.le fun y21 e21 l21 u21 => ?_
      replace e21 : y21 = d % p := e21
      show T.den _ _ _ ⟨[p, a, b, c, d, e, f, y3, y4, y6, y21], [], [b1, b2], [], [], []⟩
      refine den_rest rfl hp.ge hp.le fun y22 e22 l22 u22 => ?_
      replace e22 : y22 = e % p := e22
      show T.den _ _ _ ⟨[p, a, b, c, d, e, f, y3, y4, y6, y21, y22], [], [b1, b2], [], [], []⟩
      refine den_rest rfl hp.ge hp.le fun y23 e23 l23 u23 => ?_
      replace e23 : y23 = f % p := e23
      show T.den _ _ _ ⟨[p, a, b, c, d, e, f, y3, y4, y6, y21, y22, y23], [], [b1, b2], [], [], []⟩
      intro b24
      show T.den _ _ _ ⟨[p, a, b, c, d, e, f, y3, y4, y6, y21, y22, y23], [], [b1, b2, b24], [], [], []⟩
      refine den_divide30 rfl hp l3 u3 l4 u4 fun y25 e25 l25 u25 => ?_
      replace e25 : y25 = Div p y3 y4 := e25
      show T.den _ _ _ ⟨[p, a, b, c, d, e, f, y3, y4, y6, y21, y22, y23, y25], [], [b1, b2, b24], [], [], []⟩
      refine den_divide30 rfl hp l4 u4 l4 u4 fun y26 e26 l26 u26 => ?_
      replace e26 : y26 = Div p y4 y4 := e26
      show T.den _ _ _ ⟨[p, a, b, c, d, e, f, y3, y4, y6, y21, y22, y23, y25, y26], [], [b1, b2, b24], [], [], []⟩
      refine den_divide30 rfl hp l6 u6 l4 u4 fun y27 e27 l27 u27 => ?_
      replace e27 : y27 = Div p y6 y4 := e27
      show T.den _ _ _ ⟨[p, a, b, c, d, e, f, y3, y4, y6, y21, y22, y23, y25, y26, y27], [], [b1, b2, b24], [], [], []⟩
      refine den_divide30 rfl hp l21 u21 l4 u4 fun y28 e28 l28 u28 => ?_
      replace e28 : y28 = Div p y21 y4 := e28
      show T.den _ _ _ ⟨[p, a, b, c, d, e, f, y3, y4, y6, y21, y22, y23, y25, y26, y27, y28], [], [b1, b2, b24], [], [], []⟩
      refine den_divide30 rfl hp l22 u22 l4 u4 fun y29 e29 l29 u29 => ?_
      replace e29 : y29 = Div p y22 y4 := e29
      show T.den _ _ _ ⟨[p, a, b, c, d, e, f, y3, y4, y6, y21, y22, y23, y25, y26, y27, y28, y29], [], [b1, b2, b24], [], [], []⟩
      refine den_divide30 rfl hp l23 u23 l4 u4 fun y30 e30 l30 u30 => ?_
      replace e30 : y30 = Div p y23 y4 := e30
      show T.den _ _ _ ⟨[p, a, b, c, d, e, f, y3, y4, y6, y21, y22, y23, y25, y26, y27, y28, y29, y30], [], [b1, b2, b24], [], [], []⟩
      show (.tuple #[.agg #[.int .i64 y25, .int .i64 y26, .int .i64 y27, .int .i64 y28, .int .i64 y29, .int .i64 y30], .bool true] : Value) = _
      subst e3 e4 e6 e21 e22 e23 e25 e26 e27 e28 e29 e30
      simp only [mkC, okC, firstOf, aggV, List.getD_cons_zero, List.getD_cons_succ, if_pos c5, if_neg c7]
      simp [*]
  · replace c5 : ¬ (y3 = 0) := c5
    refine den_rest rfl hp.ge hp.le fun y31 e31 l31 u31 => ?_
    replace e31 : y31 = c % p := e31
    show T.den _ _ _ ⟨[p, a, b, c, d, e, f, y3, y4, y31], [], [b1, b2], [], [], []⟩
    refine den_rest rfl hp.ge hp.le fun y32 e32 l32 u32 => ?_
    replace e32 : y32 = d % p := e32
    show T.den _ _ _ ⟨[p, a, b, c, d, e, f, y3, y4, y31, y32], [], [b1, b2], [], [], []⟩
    refine den_rest rfl hp.ge hp.le fun y33 e33 l33 u33 => ?_
    replace e33 : y33 = e % p := e33
    show T.den _ _ _ ⟨[p, a, b, c, d, e, f, y3, y4, y31, y32, y33], [], [b1, b2], [], [], []⟩
    refine den_rest rfl hp.ge hp.le fun y34 e34 l34 u34 => ?_
    replace e34 : y34 = f % p := e34
    show T.den _ _ _ ⟨[p, a, b, c, d, e, f, y3, y4, y31, y32, y33, y34], [], [b1, b2], [], [], []⟩
    intro b35
    show T.den _ _ _ ⟨[p, a, b, c, d, e, f, y3, y4, y31, y32, y33, y34], [], [b1, b2, b35], [], [], []⟩
    refine den_divide30 rfl hp l3 u3 l3 u3 fun y36 e36 l36 u36 => ?_
    replace e36 : y36 = Div p y3 y3 := e36
    show T.den _ _ _ ⟨[p, a, b, c, d, e, f, y3, y4, y31, y32, y33, y34, y36], [], [b1, b2, b35], [], [], []⟩
    refine den_divide30 rfl hp l4 u4 l3 u3 fun y37 e37 l37 u37 => ?_
    replace e37 : y37 = Div p y4 y3 := e37
    show T.den _ _ _ ⟨[p, a, b, c, d, e, f, y3, y4, y31, y32, y33, y34, y36, y37], [], [b1, b2, b35], [], [], []⟩
    refine den_divide30 rfl hp l31 u31 l3 u3 fun y38 e38 l38 u38 => ?_
    replace e38 : y38 = Div p y31 y3 := e38
    show T.den _ _ _ ⟨[p, a, b, c, d, e, f, y3, y4, y31, y32, y33, y34, y36, y37, y38], [], [b1, b2, b35], [], [], []⟩
    refine den_divide30 rfl hp l32 u32 l3 u3 fun y39 e39 l39 u39 => ?_
    replace e39 : y39 = Div p y32 y3 := e39
    show T.den _ _ _ ⟨[p, a, b, c, d, e, f, y3, y4, y31, y32, y33, y34, y36, y37, y38, y39], [], [b1, b2, b35], [], [], []⟩
    refine den_divide30 rfl hp l33 u33 l3 u3 fun y40 e40 l40 u40 => ?_
    replace e40 : y40 = Div p y33 y3 := e40
    show T.den _ _ _ ⟨[p, a, b, c, d, e, f, y3, y4, y31, y32, y33, y34, y36, y37, y38, y39, y40], [], [b1, b2, b35], [], [], []⟩
    refine den_divide30 rfl hp l34 u34 l3 u3 fun y41 e41 l41 u41 => ?_
    replace e41 : y41 = Div p y34 y3 := e41
    show T.den _ _ _ ⟨[p, a, b, c, d, e, f, y3, y4, y31, y32, y33, y34, y36, y37, y38, y39, y40, y41], [], [b1, b2, b35], [], [], []⟩
    show (.tuple #[.agg #[.int .i64 y36, .int .i64 y37, .int .i64 y38, .int .i64 y39, .int .i64 y40, .int .i64 y41], .bool true] : Value) = _
    subst e3 e4 e31 e32 e33 e34 e36 e37 e38 e39 e40 e41
    simp only [mkC, okC, firstOf, aggV, List.getD_cons_zero, List.getD_cons_succ, if_neg c5]
    simp [*]

theorem made_at {p : Int} (hp : Fld p) {sa : Option Addr} {sc : Nat} {a b c d e f : Int} {w : World} (hs : Reads w .i64 1 ⟨sa, 6, sc, [a, b, c, d, e, f]⟩) :
    RetAt 168 #[.int .i64 p, (⟨sa, 6, sc, [a, b, c, d, e, f]⟩ : Sl).val] w (.tuple #[aggV (mkC p [a, b, c, d, e, f]), .bool (okC p [a, b, c, d, e, f])]) := by
  have K := ret_of (E := ⟨[p], [], [], [⟨sa, 6, sc, [a, b, c, d, e, f]⟩], [], []⟩) (w := w) (r := .tuple #[aggV (mkC p [a, b, c, d, e, f]), .bool (okC p [a, b, c, d, e, f])]) t168 Try.func168 (by decide +kernel) (shs := [.agg [.i64, .i64, .i64, .i64, .i64, .i64], .bool]) (by decide +kernel)
    (eokG rfl ⟨⟨hp.ge, hp.le⟩, trivial⟩ rfl ⟨⟨fun _ _ => trivial, fun _ => by show (6 : Int) ≤ 1048576; omega⟩, trivial⟩ (by simp [iv0]) rfl rfl rfl) (hok1 hs)
  have hge := hp.ge
  refine K ?_
  intro b1
  show T.den _ _ _ ⟨[p], [], [b1], [⟨sa, 6, sc, [a, b, c, d, e, f]⟩], [], []⟩
  intro b2
  show T.den _ _ _ ⟨[p], [], [b1, b2], [⟨sa, 6, sc, [a, b, c, d, e, f]⟩], [], []⟩
  refine ⟨show 0 < (6 : Int) by omega, fun n3 => ?_⟩
  replace n3 : 0 < (6 : Int) := n3
  refine den_mod rfl hp.ge hp.le fun y4 e4 l4 u4 => ?_
  replace e4 : y4 = a % p := e4
  show T.den _ _ _ ⟨[p, y4], [], [b1, b2], [⟨sa, 6, sc, [a, b, c, d, e, f]⟩], [], []⟩
  refine ⟨fun c5 => ?_, fun c5 => ?_⟩
  · replace c5 : y4 = 0 := c5
    refine ⟨show 1 < (6 : Int) by omega, fun n6 => ?_⟩
    replace n6 : 1 < (6 : Int) := n6
    refine den_mod rfl hp.ge hp.le fun y7 e7 l7 u7 => ?_
    replace e7 : y7 = b % p := e7
    show T.den _ _ _ ⟨[p, y4, y7], [], [b1, b2], [⟨sa, 6, sc, [a, b, c, d, e, f]⟩], [], []⟩
    refine ⟨fun c8 => ?_, fun c8 => ?_⟩
    · replace c8 : y7 = 0 := c8
      refine ⟨show 2 < (6 : Int) by omega, fun n9 => ?_⟩
      replace n9 : 2 < (6 : Int) := n9
      refine den_mod rfl hp.ge hp.le fun y10 e10 l10 u10 => ?_
      replace e10 : y10 = c % p := e10
      show T.den _ _ _ ⟨[p, y4, y7, y10], [], [b1, b2], [⟨sa, 6, sc, [a, b, c, d, e, f]⟩], [], []⟩
      refine ⟨fun c11 => ?_, fun c11 => ?_⟩
      · replace c11 : y10 = 0 := c11
        show (.tuple #[.agg #[.int .i64 0, .int .i64 0, .int .i64 0, .int .i64 0, .int .i64 0, .int .i64 0], .bool false] : Value) = _
        subst e4 e7 e10
        simp only [mkC, okC, firstOf, aggV, List.getD_cons_zero, List.getD_cons_succ, if_pos c5, if_pos c8, if_pos c11]
        simp [*, tmod_mul, Div]
      · replace c11 : ¬ (y10 = 0) := c11
        refine den_linv rfl hp fun y12 e12 l12 u12 => ?_
        replace e12 : y12 = Inv p y10 := e12
        show T.den _ _ _ ⟨[p, y4, y7, y10, y12], [], [b1, b2], [⟨sa, 6, sc, [a, b, c, d, e, f]⟩], [], []⟩
        refine den_mod rfl hp.ge hp.le fun y13 e13 l13 u13 => ?_
        replace e13 : y13 = ((Int.tmod a p) * y12) % p := e13
        show T.den _ _ _ ⟨[p, y4, y7, y10, y12, y13], [], [b1, b2], [⟨sa, 6, sc, [a, b, c, d, e, f]⟩], [], []⟩
        refine den_mod rfl hp.ge hp.le fun y14 e14 l14 u14 => ?_
        replace e14 : y14 = ((Int.tmod b p) * y12) % p := e14
        show T.den _ _ _ ⟨[p, y4, y7, y10, y12, y13, y14], [], [b1, b2], [⟨sa, 6, sc, [a, b, c, d, e, f]⟩], [], []⟩
        refine den_mod rfl hp.ge hp.le fun y15 e15 l15 u15 => ?_
        replace e15 : y15 = ((Int.tmod c p) * y12) % p := e15
        show T.den _ _ _ ⟨[p, y4, y7, y10, y12, y13, y14, y15], [], [b1, b2], [⟨sa, 6, sc, [a, b, c, d, e, f]⟩], [], []⟩
        refine ⟨show 3 < (6 : Int) by omega, fun n16 => ?_⟩
        replace n16 : 3 < (6 : Int) := n16
        refine den_mod rfl hp.ge hp.le fun y17 e17 l17 u17 => ?_
        replace e17 : y17 = ((Int.tmod d p) * y12) % p := e17
        show T.den _ _ _ ⟨[p, y4, y7, y10, y12, y13, y14, y15, y17], [], [b1, b2], [⟨sa, 6, sc, [a, b, c, d, e, f]⟩], [], []⟩
        refine ⟨show 4 < (6 : Int) by omega, fun n18 => ?_⟩
        replace n18 : 4 < (6 : Int) := n18
        refine den_mod rfl hp.ge hp.le fun y19 e19 l19 u19 => ?_
        replace e19 : y19 = ((Int.tmod e p) * y12) % p := e19
        show T.den _ _ _ ⟨[p, y4, y7, y10, y12, y13, y14, y15, y17, y19], [], [b1, b2], [⟨sa, 6, sc, [a, b, c, d, e, f]⟩], [], []⟩
        refine ⟨show 5 < (6 : Int) by omega, fun n20 => ?_⟩
        replace n20 : 5 < (6 : Int) := n20
        refine den_mod rfl hp.ge hp.le fun y21 e21 l21 u21 => ?_
        replace e21 : y21 = ((Int.tmod f p) * y12) % p := e21
        show T.den _ _ _ ⟨[p, y4, y7, y10, y12, y13, y14, y15, y17, y19, y21], [], [b1, b2], [⟨sa, 6, sc, [a, b, c, d, e, f]⟩], [], []⟩
        show (.tuple #[.agg #[.int .i64 y13, .int .i64 y14, .int .i64 y15, .int .i64 y17, .int .i64 y19, .int .i64 y21], .bool true] : Value) = _
        subst e4 e7 e10 e12 e13 e14 e15 e17 e19 e21
        simp only [mkC, okC, firstOf, aggV, List.getD_cons_zero, List.getD_cons_succ, if_pos c5, if_pos c8, if_neg c11]
        simp [*, tmod_mul, Div]
    · replace c8 : ¬ (y7 = 0) := c8
      refine den_linv rfl hp fun y22 e22 l22 u22 => ?_
      replace e22 : y22 = Inv p y7 := e22
      show T.den _ _ _ ⟨[p, y4, y7, y22], [], [b1, b2], [⟨sa, 6, sc, [a, b, c, d, e, f]⟩], [], []⟩
      refine den_mod rfl hp.ge hp.le fun y23 e23 l23 u23 => ?_
      replace e23 : y23 = ((Int.tmod a p) * y22) % p := e23
      show T.den _ _ _ ⟨[p, y4, y7, y22, y23], [], [b1, b2], [⟨sa, 6, sc, [a, b, c, d, e, f]⟩], [], []⟩
      refine den_mod rfl hp.ge hp.le fun y24 e24 l24 u24 => ?_
      replace e24 : y24 = ((Int.tmod b p) * y22) % p := e24
      show T.den _ _ _ ⟨[p, y4, y7, y22, y23, y24], [], [b1, b2], [⟨sa, 6, sc, [a, b, c, d, e, f]⟩], [], []⟩
      refine ⟨show 2 < (6 : Int) by omega, fun n25 => ?_⟩
      replace n25 : 2 < (6 : Int) := n25
      refine den_mod rfl hp.ge hp.le fun y26 e26 l26 u26 => ?_
      replace e26 : y26 = ((Int.tmod c p) * y22) % p := e26
      show T.den _ _ _ ⟨[p, y4, y7, y22, y23, y24, y26], [], [b1, b2], [⟨sa, 6, sc, [a, b, c, d, e, f]⟩], [], []⟩
      refine ⟨show 3 < (6 : Int) by omega, fun n27 => ?_⟩
      replace n27 : 3 < (6 : Int) := n27
      refine den_mod rfl hp.ge hp.le fun y28 e28 l28 u28 => ?_
      replace e28 : y28 = ((Int.tmod d p) * y22) % p := e28
      show T.den _ _ _ ⟨[p, y4, y7, y22, y23, y24, y26, y28], [], [b1, b2], [⟨sa, 6, sc, [a, b, c, d, e, f]⟩], [], []⟩
      refine ⟨show 4 < (6 : Int) by omega, fun n29 => ?_⟩
      replace n29 : 4 < (6 : Int) := n29
      refine den_mod rfl hp.ge hp.le fun y30 e30 l30 u30 => ?_
      replace e30 : y30 = ((Int.tmod e p) * y22) % p := e30
      show T.den _ _ _ ⟨[p, y4, y7, y22, y23, y24, y26, y28, y30], [], [b1, b2], [⟨sa, 6, sc, [a, b, c, d, e, f]⟩], [], []⟩
      refine ⟨show 5 < (6 : Int) by omega, fun n31 => ?_⟩
      replace n31 : 5 < (6 : Int) := n31
      refine den_mod rfl hp.ge hp.le fun y32 e32 l32 u32 => ?_
      replace e32 : y32 = ((Int.tmod f p) * y22) % p := e32
      show T.den _ _ _ ⟨[p, y4, y7, y22, y23, y24, y26, y28, y30, y32], [], [b1, b2], [⟨sa, 6, sc, [a, b, c, d, e, f]⟩], [], []⟩
      show (.tuple #[.agg #[.int .i64 y23, .int .i64 y24, .int .i64 y26, .int .i64 y28, .int .i64 y30, .int .i64 y32], .bool true] : Value) = _
      subst e4 e7 e22 e23 e24 e26 e28 e30 e32
      simp only [mkC, okC, firstOf, aggV, List.getD_cons_zero, List.getD_cons_succ, if_pos c5, if_neg c8]
      simp [*, tmod_mul, Div]
  · replace c5 : ¬ (y4 = 0) := c5
    refine den_linv rfl hp fun y33 e33 l33 u33 => ?_
    replace e33 : y33 = Inv p y4 := e33
    show T.den _ _ _ ⟨[p, y4, y33], [], [b1, b2], [⟨sa, 6, sc, [a, b, c, d, e, f]⟩], [], []⟩
    refine den_mod rfl hp.ge hp.le fun y34 e34 l34 u34 => ?_
    replace e34 : y34 = ((Int.tmod a p) * y33) % p := e34
    show T.den _ _ _ ⟨[p, y4, y33, y34], [], [b1, b2], [⟨sa, 6, sc, [a, b, c, d, e, f]⟩], [], []⟩
    refine ⟨show 1 < (6 : Int) by omega, fun n35 => ?_⟩
    replace n35 : 1 < (6 : Int) := n35
    refine den_mod rfl hp.ge hp.le fun y36 e36 l36 u36 => ?_
    replace e36 : y36 = ((Int.tmod b p) * y33) % p := e36
    show T.den _ _ _ ⟨[p, y4, y33, y34, y36], [], [b1, b2], [⟨sa, 6, sc, [a, b, c, d, e, f]⟩], [], []⟩
    refine ⟨show 2 < (6 : Int) by omega, fun n37 => ?_⟩
    replace n37 : 2 < (6 : Int) := n37
    refine den_mod rfl hp.ge hp.le fun y38 e38 l38 u38 => ?_
    replace e38 : y38 = ((Int.tmod c p) * y33) % p := e38
    show T.den _ _ _ ⟨[p, y4, y33, y34, y36, y38], [], [b1, b2], [⟨sa, 6, sc, [a, b, c, d, e, f]⟩], [], []⟩
    refine ⟨show 3 < (6 : Int) by omega, fun n39 => ?_⟩
    replace n39 : 3 < (6 : Int) := n39
    refine den_mod rfl hp.ge hp.le fun y40 e40 l40 u40 => ?_
    replace e40 : y40 = ((Int.tmod d p) * y33) % p := e40
    show T.den _ _ _ ⟨[p, y4, y33, y34, y36, y38, y40], [], [b1, b2], [⟨sa, 6, sc, [a, b, c, d, e, f]⟩], [], []⟩
    refine ⟨show 4 < (6 : Int) by omega, fun n41 => ?_⟩
    replace n41 : 4 < (6 : Int) := n41
    refine den_mod rfl hp.ge hp.le fun y42 e42 l42 u42 => ?_
    replace e42 : y42 = ((Int.tmod e p) * y33) % p := e42
    show T.den _ _ _ ⟨[p, y4, y33, y34, y36, y38, y40, y42], [], [b1, b2], [⟨sa, 6, sc, [a, b, c, d, e, f]⟩], [], []⟩
    refine ⟨show 5 < (6 : Int) by omega, fun n43 => ?_⟩
    replace n43 : 5 < (6 : Int) := n43
    refine den_mod rfl hp.ge hp.le fun y44 e44 l44 u44 => ?_
    replace e44 : y44 = ((Int.tmod f p) * y33) % p := e44
    show T.den _ _ _ ⟨[p, y4, y33, y34, y36, y38, y40, y42, y44], [], [b1, b2], [⟨sa, 6, sc, [a, b, c, d, e, f]⟩], [], []⟩
    show (.tuple #[.agg #[.int .i64 y34, .int .i64 y36, .int .i64 y38, .int .i64 y40, .int .i64 y42, .int .i64 y44], .bool true] : Value) = _
    subst e4 e33 e34 e36 e38 e40 e42 e44
    simp only [mkC, okC, firstOf, aggV, List.getD_cons_zero, List.getD_cons_succ, if_neg c5]
    simp [*, tmod_mul, Div]
end Go.Proofs.Ytelejhggpkfdoaa.SX

namespace Go.Proofs.Ytelejhggpkfdoaa.SX
set_option linter.unusedVariables false
set_option linter.unusedSimpArgs false
open Go.RowKit Go.Proofs

theorem list6 {α : Type} {l : List α} (h : l.length = 6) : ∃ a b c d e f, l = [a, b, c, d, e, f] := by
  match l, h with
  | [a, b, c, d, e, f], _ => exact ⟨a, b, c, d, e, f, rfl⟩
theorem mkC_len (p a b c d e f : Int) : (mkC p [a, b, c, d, e, f]).length = 6 := by
  simp only [mkC]; split <;> simp

def codeC (p : Int) (xs : List Int) : Int := if Fld p then if xs.length = 6 ∧ areN p xs = true then if okC p xs = true then 0 else 5 else 2 else 1
def outC (p : Int) (xs : List Int) : List Int := if codeC p xs = 0 then mkC p xs else [0, 0, 0, 0, 0, 0]
def resC (p : Int) (xs : List Int) : Value := .tuple #[aggV (outC p xs), .int .i64 (codeC p xs)]

theorem resC_zero {p : Int} {xs : List Int} {c : Int} (h : codeC p xs = c) (hc : c ≠ 0) : resC p xs = .tuple #[.agg #[.int .i64 0, .int .i64 0, .int .i64 0, .int .i64 0, .int .i64 0, .int .i64 0], .int .i64 c] := by
  unfold resC outC
  rw [h, if_neg hc]; rfl

theorem conicOf1_at {p : Int} (hp : Fld p) {s : Sl} {b0 b1 : Nat} {w : World} (hs : Reads w .i64 1 s) (hn : s.n ≤ 1048576) (h1 : w.heap[b1]? = some (.cells #[s.val] 22 (0, 0))) (h0 : w.heap[b0]? = some (.cells #[.int .i64 p] 2 (0, 0))) :
    RetAt 170 #[.pointer (some ⟨b1, 0, none⟩), .pointer (some ⟨b0, 0, none⟩)] w (.bool (decide (s.n = 6) && areN p s.xs)) := by
  have K := ret_of (E := ⟨[p], [], [b1, b0], [s], [], []⟩) (w := w) (r := .bool (decide (s.n = 6) && areN p s.xs)) t170 Try.func170 (by decide +kernel) (shs := [.bool]) (by decide +kernel)
    (eokG rfl ⟨⟨hp.ge, hp.le⟩, trivial⟩ rfl ⟨⟨fun _ _ => trivial, fun _ => by omega⟩, trivial⟩ (by simp [iv0]) rfl rfl rfl)
    (HOK.rd (by simp [stG, It.own]) (by
      intro it hi
      simp only [stG, List.mem_cons, List.not_mem_nil, or_false] at hi
      rcases hi with rfl | rfl | rfl
      · exact hs
      · exact h1
      · exact h0))
  refine K ⟨fun c => ?_, fun c => ?_⟩
  · have c : (s.n : Int) = 6 := c
    refine callB rfl (areN p s.xs) (fun w h _ _ => areNumbers_at hp (h.holds _ (List.mem_cons_self ..)) hn) call171 ?_
    show Value.bool (areN p s.xs) = _
    rw [decide_eq_true (show s.n = 6 by omega), Bool.true_and]
  · have c : ¬ (s.n : Int) = 6 := c
    show Value.bool false = _
    rw [decide_eq_false (show ¬ s.n = 6 by omega), Bool.false_and]

theorem conicOf_at (p : Int) {s : Sl} {w : World} (hs : Reads w .i64 1 s) (hn : s.n ≤ 1048576) : RetAt 16 #[.int .i64 p, s.val] w (resC p s.xs) := by
  have K := ret_of (E := ⟨[p], [], [], [s], [], []⟩) (w := w) (r := resC p s.xs) t16 Try.func16 (by decide +kernel) (shs := [.agg [.i64, .i64, .i64, .i64, .i64, .i64], .int .i64]) (by decide +kernel)
    (eokG rfl ⟨trivial, trivial⟩ rfl ⟨⟨fun _ _ => trivial, fun _ => by omega⟩, trivial⟩ (by simp [iv0]) rfl rfl rfl) (hok1 hs)
  have hlen : s.xs.length = s.n := by have := hs.len; omega
  refine K fun b0 b1 b2 => ?_
  let c : Clo := ⟨170, #[.pointer (some ⟨b1, 0, none⟩), .pointer (some ⟨b0, 0, none⟩)]⟩
  show T.den _ _ _ ⟨[p], [], [b0, b1, b2], [s], [], [c]⟩
  refine callI rfl (if Fld p then if (decide (s.n = 6) && areN p s.xs) = true then 0 else 2 else 1) (fun w h _ _ => asked_at p c (decide (s.n = 6) && areN p s.xs) w (fun _ => call170) fun hp w' hb => ?_) call169 trivial ?_
  · have q1 := h.holds _ (List.mem_cons_of_mem _ (List.mem_cons_self ..))
    have q0 := h.holds _ (List.mem_cons_of_mem _ (List.mem_cons_of_mem _ (List.mem_cons_self ..)))
    have qs := It.reads (h.holds (.isl 0 2 .i64 1 false) (by simp))
    replace q1 : w.heap[b1]? = some (.cells #[s.val] 22 (0, 0)) := q1
    replace q0 : w.heap[b0]? = some (.cells #[.int .i64 p] 2 (0, 0)) := q0
    replace qs : Reads w .i64 1 s := qs
    exact conicOf1_at hp (qs.below hb) hn (by rw [hb.block b1 (Array.getElem?_eq_some_iff.1 q1).1]; exact q1) (by rw [hb.block b0 (Array.getElem?_eq_some_iff.1 q0).1]; exact q0)
  · generalize hcode : (if Fld p then if (decide (s.n = 6) && areN p s.xs) = true then (0 : Int) else 2 else 1) = code
    show T.den _ _ _ ⟨[p, code], [], [b0, b1, b2], [s], [], [c]⟩
    refine ⟨fun c1 => ?_, fun c1 => ?_⟩
    · have c1 : ¬ code = 0 := c1
      show Value.tuple #[.agg #[.int .i64 0, .int .i64 0, .int .i64 0, .int .i64 0, .int .i64 0, .int .i64 0], .int .i64 code] = _
      refine (resC_zero ?_ c1).symm
      rw [← hcode]; unfold codeC
      split
      · simp only [Bool.and_eq_true, decide_eq_true_eq, hlen]
        split
        · rename_i h1 h2
          exfalso; apply c1; rw [← hcode, if_pos h1, if_pos (by simpa using h2)]
        · rfl
      · rfl
    · have c1 : ¬ ¬ code = 0 := c1
      have c1 : code = 0 := Classical.not_not.1 c1
      have hp : Fld p := by
        refine Classical.byContradiction fun h => ?_
        rw [if_neg h] at hcode; omega
      rw [if_pos hp] at hcode
      have h6 : s.n = 6 ∧ areN p s.xs = true := by
        refine Classical.byContradiction fun h => ?_
        rw [if_neg (by simpa using h)] at hcode; omega
      refine ⟨show (6 : Int) ≤ (s.n : Int) by omega, fun _ => ?_⟩
      obtain ⟨sa, sn, sc, sxs⟩ := s
      obtain ⟨h6, har⟩ := h6
      simp only at h6 hlen har; subst h6
      obtain ⟨x1, x2, x3, x4, x5, x6, rfl⟩ := list6 hlen
      obtain ⟨m1, m2, m3, m4, m5, m6, hm⟩ := list6 (mkC_len p x1 x2 x3 x4 x5 x6)
      refine callD_at rfl [m1, m2, m3, m4, m5, m6] [okC p [x1, x2, x3, x4, x5, x6]] (fun w _ _ _ => makeConic_at hp x1 x2 x3 x4 x5 x6 w) call172 rfl rfl ⟨trivial, trivial, trivial, trivial, trivial, trivial, trivial⟩ (by rw [hm]; rfl) fun b3 => ⟨fun c2 => ?_, fun c2 => ?_⟩
      · replace c2 : ¬ okC p [x1, x2, x3, x4, x5, x6] = true := c2
        refine (resC_zero ?_ (show (5 : Int) ≠ 0 by decide)).symm
        unfold codeC
        rw [if_pos hp, if_pos ⟨by simp, har⟩, if_neg c2]
      · replace c2 : ¬ ¬ okC p [x1, x2, x3, x4, x5, x6] = true := c2
        replace c2 := Classical.not_not.1 c2
        show Value.tuple #[.agg #[.int .i64 m1, .int .i64 m2, .int .i64 m3, .int .i64 m4, .int .i64 m5, .int .i64 m6], .int .i64 0] = _
        have hz : codeC p [x1, x2, x3, x4, x5, x6] = 0 := by
          unfold codeC
          rw [if_pos hp, if_pos ⟨by simp, har⟩, if_pos c2]
        unfold resC outC
        rw [hz, if_pos rfl, hm]; rfl

theorem specConicOf_at (p : Int) {s : Sl} {w : World} (hs : Reads w .i64 1 s) (hn : s.n ≤ 1048576) : RetAt 14 #[.int .i64 p, s.val] w (resC p s.xs) := by
  have K := ret_of (E := ⟨[p], [], [], [s], [], []⟩) (w := w) (r := resC p s.xs) t14 Try.func14 (by decide +kernel) (shs := [.agg [.i64, .i64, .i64, .i64, .i64, .i64], .int .i64]) (by decide +kernel)
    (eokG rfl ⟨trivial, trivial⟩ rfl ⟨⟨fun _ _ => trivial, fun _ => by omega⟩, trivial⟩ (by simp [iv0]) rfl rfl rfl) (hok1 hs)
  have hlen : s.xs.length = s.n := by have := hs.len; omega
  refine K fun b0 => ?_
  refine callI rfl (if Fld p then if areN p s.xs = true then 0 else 2 else 1) (fun w h _ _ => numbers_at p (h.holds (.isl 0 2 .i64 1 false) (by simp)) hn) call167 trivial ?_
  generalize hcode : (if Fld p then if areN p s.xs = true then (0 : Int) else 2 else 1) = code
  show T.den _ _ _ ⟨[p, code], [], [b0], [s], [], []⟩
  refine ⟨fun c1 => ⟨fun c2 => ?_, fun c2 => ?_⟩, fun c1 => ?_⟩
  · have c1 : code = 0 := c1
    have c2 : ¬ (s.n : Int) = 6 := c2
    have hp : Fld p := by
      refine Classical.byContradiction fun h => ?_
      rw [if_neg h] at hcode; omega
    refine (resC_zero ?_ (show (2 : Int) ≠ 0 by decide)).symm
    unfold codeC
    rw [if_pos hp, if_neg (by rw [hlen]; omega)]
  · have c1 : code = 0 := c1
    have c2 : ¬ ¬ (s.n : Int) = 6 := c2
    have h6 : s.n = 6 := by omega
    have hp : Fld p := by
      refine Classical.byContradiction fun h => ?_
      rw [if_neg h] at hcode; omega
    rw [if_pos hp] at hcode
    have har : areN p s.xs = true := by
      refine Classical.byContradiction fun h => ?_
      rw [if_neg h] at hcode; omega
    obtain ⟨sa, sn, sc, sxs⟩ := s
    simp only at h6 hlen har; subst h6
    obtain ⟨x1, x2, x3, x4, x5, x6, rfl⟩ := list6 hlen
    obtain ⟨m1, m2, m3, m4, m5, m6, hm⟩ := list6 (mkC_len p x1 x2 x3 x4 x5 x6)
    refine callD_at rfl [m1, m2, m3, m4, m5, m6] [okC p [x1, x2, x3, x4, x5, x6]] (fun w h _ _ => made_at hp (h.holds (.isl 0 2 .i64 1 false) (by simp))) call168 rfl rfl ⟨trivial, trivial, trivial, trivial, trivial, trivial, trivial⟩ (by rw [hm]; rfl) fun b3 => ⟨fun c2 => ?_, fun c2 => ?_⟩
    · replace c2 : ¬ okC p [x1, x2, x3, x4, x5, x6] = true := c2
      refine (resC_zero ?_ (show (5 : Int) ≠ 0 by decide)).symm
      unfold codeC
      rw [if_pos hp, if_pos ⟨by simp, har⟩, if_neg c2]
    · replace c2 : ¬ ¬ okC p [x1, x2, x3, x4, x5, x6] = true := c2
      replace c2 := Classical.not_not.1 c2
      show Value.tuple #[.agg #[.int .i64 m1, .int .i64 m2, .int .i64 m3, .int .i64 m4, .int .i64 m5, .int .i64 m6], .int .i64 0] = _
      have hz : codeC p [x1, x2, x3, x4, x5, x6] = 0 := by
        unfold codeC
        rw [if_pos hp, if_pos ⟨by simp, har⟩, if_pos c2]
      unfold resC outC
      rw [hz, if_pos rfl, hm]; rfl
  · have c1 : ¬ code = 0 := c1
    refine (resC_zero ?_ c1).symm
    rw [← hcode]; unfold codeC
    split
    · split
      · rename_i h1 h2
        split
        · exfalso; apply c1; rw [← hcode, if_pos h1, if_pos h2.2]
        · exfalso; apply c1; rw [← hcode, if_pos h1, if_pos h2.2]
      · rename_i h1 h2
        split
        · exfalso; apply c1; rw [← hcode, if_pos h1]; simp [*]
        · rfl
    · rfl
end Go.Proofs.Ytelejhggpkfdoaa.SX

namespace Go.Proofs.Ytelejhggpkfdoaa.SX
set_option linter.unusedVariables false
set_option maxRecDepth 100000
open Go.RowKit Go.Proofs
theorem t3 : runFn cfg (an0) (drawE cfg) Try.f3 [] [aI 0, .c (.sl 0)] (stG [none] 0 [(none, -1)] 0 0 [.isl 0 2 .i64 1 false]) =
  (some (.br (.lt (.c 1048576) (.sl 0)) (.ret [(.c (.bool (.c true)))] []) (.callG (.fc 15) [(.c (.sl 0))] [(.sl 2 .i64 1)] [] [] [(none, 1048576)] [] [(.isl 0 2 .i64 1 false)] (.callD (.fc 14) [(.c (.int .i64 (.v 0))), (.c (.sl 1))] [(.agg [.i64, .i64, .i64, .i64, .i64, .i64]), (.int .i64)] [none, none, none, none, none, none, none] [(.isl 1 2 .i64 1 true), (.isl 0 2 .i64 1 false)] (.blk (.callG (.fc 15) [(.c (.sl 0))] [(.sl 2 .i64 1)] [] [] [(none, 1048576)] [] [(.blk 0 24 [(.int .i64 (.v 1)), (.int .i64 (.v 2)), (.int .i64 (.v 3)), (.int .i64 (.v 4)), (.int .i64 (.v 5)), (.int .i64 (.v 6))] true), (.isl 1 2 .i64 1 true), (.isl 0 2 .i64 1 false)] (.callD (.fc 16) [(.c (.int .i64 (.v 0))), (.c (.sl 2))] [(.agg [.i64, .i64, .i64, .i64, .i64, .i64]), (.int .i64)] [none, none, none, none, none, none, none] [(.isl 2 2 .i64 1 true), (.blk 0 24 [(.int .i64 (.v 1)), (.int .i64 (.v 2)), (.int .i64 (.v 3)), (.int .i64 (.v 4)), (.int .i64 (.v 5)), (.int .i64 (.v 6))] true), (.isl 1 2 .i64 1 true), (.isl 0 2 .i64 1 false)] (.blk (.callD (.fc 17) [(.a [(.int .i64 (.v 8)), (.int .i64 (.v 9)), (.int .i64 (.v 10)), (.int .i64 (.v 11)), (.int .i64 (.v 12)), (.int .i64 (.v 13))]), (.a [(.int .i64 (.v 1)), (.int .i64 (.v 2)), (.int .i64 (.v 3)), (.int .i64 (.v 4)), (.int .i64 (.v 5)), (.int .i64 (.v 6))])] [.bool] [] [] (.br (.not (.v 0)) (.ret [(.c (.bool (.c false)))] []) (.br (.not (.eq (.v 14) (.v 7))) (.ret [(.c (.bool (.c false)))] []) (.callG (.fc 15) [(.c (.sl 0))] [(.sl 2 .i64 1)] [] [] [(none, 1048576)] [] [(.blk 1 24 [(.int .i64 (.v 8)), (.int .i64 (.v 9)), (.int .i64 (.v 10)), (.int .i64 (.v 11)), (.int .i64 (.v 12)), (.int .i64 (.v 13))] true), (.isl 2 2 .i64 1 true), (.blk 0 24 [(.int .i64 (.v 1)), (.int .i64 (.v 2)), (.int .i64 (.v 3)), (.int .i64 (.v 4)), (.int .i64 (.v 5)), (.int .i64 (.v 6))] true), (.isl 1 2 .i64 1 true), (.isl 0 2 .i64 1 false)] (.callD (.fc 18) [(.c (.sl 2)), (.c (.sl 3))] [.bool] [] [(.isl 3 2 .i64 1 true), (.blk 1 24 [(.int .i64 (.v 8)), (.int .i64 (.v 9)), (.int .i64 (.v 10)), (.int .i64 (.v 11)), (.int .i64 (.v 12)), (.int .i64 (.v 13))] true), (.isl 2 2 .i64 1 true), (.blk 0 24 [(.int .i64 (.v 1)), (.int .i64 (.v 2)), (.int .i64 (.v 3)), (.int .i64 (.v 4)), (.int .i64 (.v 5)), (.int .i64 (.v 6))] true), (.isl 1 2 .i64 1 true), (.isl 0 2 .i64 1 false)] (.br (.not (.v 1)) (.ret [(.c (.bool (.c false)))] []) (.ret [(.c (.bool (.c true)))] []))))))))))))))) := by decide +kernel
theorem call3 : Callable Try.prog 3 := callable_of Try.func3 (by decide +kernel) (by decide +kernel)
end Go.Proofs.Ytelejhggpkfdoaa.SX

namespace Go.Proofs.Ytelejhggpkfdoaa.SX
set_option linter.unusedVariables false
set_option linter.unusedSimpArgs false
open Go.RowKit Go.Proofs

theorem toInts_at {s : Sl} {w : World} (hs : Reads w .i64 1 s) (hn : s.n ≤ 1048576) : RetS 15 #[s.val] w 2 1 fun q => q.xs = s.xs ∧ q.n = s.n := by
  have K := rets_of (T' := 2) (z := 1) (E := ⟨[], [], [], [s], [], []⟩) (w := w) (Q := fun q => q.xs = s.xs ∧ q.n = s.n) t15 Try.func15 (by decide +kernel) (by decide +kernel)
    (eokG rfl trivial rfl ⟨⟨fun _ _ => trivial, fun _ => by omega⟩, trivial⟩ (by simp [iv0]) rfl rfl rfl) (hok1 hs)
  have hlen : s.xs.length = s.n := by have := hs.len; omega
  refine K fun s' hn' hx' => ?_
  have hn' : s'.n = s.n := by have : s'.n = (s.n : Int).toNat := hn'; omega
  have hx' : s'.xs = List.replicate (s.n : Int).toNat 0 := by
    have : s'.xs = List.replicate ((s.n : Int).toNat * 1) 0 := hx'
    rw [Nat.mul_one] at this; exact this
  show T.den _ _ _ ⟨[], [], [], [s, s'], [], []⟩
  refine ⟨fun is _ ss _ => ∃ i q, is = [i] ∧ ss = [q] ∧ q.n = s.n ∧ q.xs.length = s.n ∧ ∀ j : Nat, (j : Int) < i → q.xs.getD j 0 = s.xs.getD j 0, fun is _ _ _ => (1048577 - is.getD 0 0).toNat,
    ⟨⟨by simp [IE.den, inIv], trivial⟩, ⟨⟨fun _ _ => trivial, fun _ => show (s'.n : Int) ≤ 1048576 by omega⟩, trivial⟩, trivial, 0, s', rfl, rfl, hn', by rw [hx']; simp, fun j hj => by omega⟩, ?_⟩
  intro is bs ss ts l1 l2 l3 l4 b1 b2 b3 hI
  obtain ⟨i, q, rfl, rfl, q1, q2, q3⟩ := hI
  have hi : 0 ≤ i ∧ i ≤ 1048576 := b1.1
  obtain rfl : bs = [] := List.eq_nil_of_length_eq_zero l2
  obtain rfl : ts = [] := List.eq_nil_of_length_eq_zero l4
  refine ⟨fun c => ?_, fun c => ?_⟩
  · have c : i < (s.n : Int) := c
    refine ⟨show i < (q.n : Int) by omega, fun _ => ?_⟩
    refine ⟨⟨⟨⟨show 0 ≤ i + 1 by omega, show i + 1 ≤ 1048576 by omega⟩, trivial⟩, ⟨⟨fun _ _ => trivial, fun _ => show (q.n : Int) ≤ 1048576 by omega⟩, trivial⟩, trivial, i + 1, { q with xs := q.xs.set i.toNat (s.xs.getD i.toNat 0) }, rfl, rfl, q1, by simp [q2], ?_⟩, ?_⟩
    · intro j hj
      show (q.xs.set i.toNat (s.xs.getD i.toNat 0)).getD j 0 = _
      rw [List.getD_eq_getElem?_getD, List.getElem?_set]
      by_cases h : i.toNat = j
      · subst h
        rw [if_pos rfl, if_pos (by omega)]; rfl
      · rw [if_neg h, ← List.getD_eq_getElem?_getD]
        exact q3 j (by omega)
    · show (1048577 - (i + 1)).toNat < (1048577 - i).toNat
      omega
  · have c : ¬ i < (s.n : Int) := c
    refine ⟨q, rfl, rfl, ?_, q1⟩
    apply List.ext_getElem (by omega)
    intro j h1 h2
    have := q3 j (by omega)
    rw [List.getD_eq_getElem?_getD, List.getD_eq_getElem?_getD, List.getElem?_eq_getElem h1, List.getElem?_eq_getElem h2] at this
    exact this

theorem eqConic_at (a b c d e f a' b' c' d' e' f' : Int) (w : World) (h : [a, b, c, d, e, f] = [a', b', c', d', e', f']) : RetAt 17 #[aggV [a, b, c, d, e, f], aggV [a', b', c', d', e', f']] w (.bool true) := by
  have K := ret_of (E := ⟨[a, b, c, d, e, f, a', b', c', d', e', f'], [], [], [], [], []⟩) (w := w) (r := .bool true) t17 Try.func17 (by decide +kernel) (shs := [.bool]) (by decide +kernel) (eokI rfl ⟨trivial, trivial, trivial, trivial, trivial, trivial, trivial, trivial, trivial, trivial, trivial, trivial, trivial⟩) HOK.nil
  simp only [List.cons.injEq, and_true] at h
  obtain ⟨h1, h2, h3, h4, h5, h6⟩ := h
  exact K fun _ _ => ⟨fun c => (c h1).elim, fun _ => ⟨fun c => (c h2).elim, fun _ => ⟨fun c => (c h3).elim, fun _ => ⟨fun c => (c h4).elim, fun _ => ⟨fun c => (c h5).elim, fun _ => ⟨fun c => (c h6).elim, fun _ => rfl⟩⟩⟩⟩⟩⟩

theorem hok2 {B : Nat} {S : List Nat} {w : World} {s q : Sl} {i : List Int} {b : List Bool} {n : List Nat} {T T' : TypeId} {z z' : Nat} (h : Reads w .i64 z s) (h' : Reads w .i64 z' q) : HOK B S [.isl 0 T .i64 z false, .isl 1 T' .i64 z' false] ⟨i, b, n, [s, q], [], []⟩ w :=
  HOK.rd (by simp [It.own]) (by
    intro it hi
    simp only [List.mem_cons, List.not_mem_nil, or_false] at hi
    rcases hi with rfl | rfl
    · exact h
    · exact h')

theorem eqInts_at {s q : Sl} {w : World} (hs : Reads w .i64 1 s) (hq : Reads w .i64 1 q) (hn : s.n ≤ 1048576) (hx : s.xs = q.xs) : RetAt 18 #[s.val, q.val] w (.bool true) := by
  have l1 : s.xs.length = s.n := by have := hs.len; omega
  have l2 : q.xs.length = q.n := by have := hq.len; omega
  have l3 : s.n = q.n := by rw [← l1, hx, l2]
  have K := ret_of (E := ⟨[], [], [], [s, q], [], []⟩) (w := w) (r := .bool true) t18 Try.func18 (by decide +kernel) (shs := [.bool]) (by decide +kernel)
    (eokG rfl trivial rfl ⟨⟨fun _ _ => trivial, fun _ => by omega⟩, ⟨fun _ _ => trivial, fun _ => by omega⟩, trivial⟩ (by simp [iv0]) rfl rfl rfl) (hok2 hs hq)
  refine K ⟨fun c => ?_, fun c => ?_⟩
  · have c : ¬ (s.n : Int) = (q.n : Int) := c
    omega
  · refine loopN (fun _ => True) (fun xs => (1048577 - xs.getD 0 0).toNat) ⟨by simp [IE.den, inIv], trivial⟩ trivial ?_
    intro xs hl hb _
    obtain ⟨i, rfl⟩ := list1 hl
    have hb1 : 0 ≤ i ∧ i ≤ 1048576 := hb.1
    refine ⟨fun c => ⟨?_, fun _ => ⟨fun c' => ?_, fun _ => ?_⟩⟩, fun _ => rfl⟩
    · have c : i < (s.n : Int) := c
      show i < (q.n : Int); omega
    · have c' : ¬ s.xs.getD i.toNat 0 = q.xs.getD i.toNat 0 := c'
      rw [hx] at c'; exact (c' rfl).elim
    · have c : i < (s.n : Int) := c
      exact den_again rfl ⟨⟨show 0 ≤ i + 1 by omega, show i + 1 ≤ 1048576 by omega⟩, trivial⟩ trivial (by show (1048577 - (i+1)).toNat < (1048577 - i).toNat; omega)

theorem codeC_zero {p : Int} {xs : List Int} (h : codeC p xs = 0) : Fld p ∧ xs.length = 6 ∧ areN p xs = true := by
  unfold codeC at h
  split at h
  · rename_i h1
    split at h
    · rename_i h2; exact ⟨h1, h2⟩
    · omega
  · omega
theorem outC_len (p : Int) (xs : List Int) : (outC p xs).length = 6 := by
  by_cases h : codeC p xs = 0
  · unfold outC
    rw [if_pos h]
    obtain ⟨a, b, c, d, e, f, rfl⟩ := list6 (codeC_zero h).2.1
    exact mkC_len ..
  · unfold outC; rw [if_neg h]; rfl

/-- a readable slice of the heap -/
theorem HOK.get {B : Nat} {S : List Nat} {h : List It} {E : Env} {w : World} (hh : HOK B S h E w) (j : Nat) (q : Sl) {T : TypeId} {k : IntKind} {z : Nat} (o : Bool) (hm : It.isl j T k z o ∈ h) (e : E.s.getD j nilSl = q) : Reads w k z q := by
  subst e; exact It.reads (hh.holds _ hm)

theorem law3_at (p : Int) {s : Sl} {w : World} (hs : Reads w .i64 1 s) : RetAt 3 #[.int .i64 p, s.val] w (.bool true) := by
  have K := ret_of (E := ⟨[p], [], [], [s], [], []⟩) (w := w) (r := .bool true) t3 Try.func3 (by decide +kernel) (shs := [.bool]) (by decide +kernel)
    (eokG rfl ⟨trivial, trivial⟩ rfl ⟨⟨fun _ _ => trivial, fun h => absurd h (by decide)⟩, trivial⟩ (by simp [iv0]) rfl rfl rfl) (hok1 hs)
  refine K ⟨fun _ => rfl, fun c => ?_⟩
  have c : ¬ (1048576 : Int) < (s.n : Int) := c
  have hn : s.n ≤ 1048576 := by omega
  obtain ⟨m1, m2, m3, m4, m5, m6, hm⟩ := list6 (outC_len p s.xs)
  have bd : ∀ q : Sl, q.xs = s.xs ∧ q.n = s.n → inIvS [(none, 1048576)] [q] := fun q hq => ⟨⟨fun _ _ => trivial, fun _ => show (q.n : Int) ≤ 1048576 by omega⟩, trivial⟩
  refine callS (Q := fun q => q.xs = s.xs ∧ q.n = s.n) rfl (fun w h _ _ => toInts_at (h.get 0 s (T := 2) false (by simp) rfl) hn) call15 bd fun q1 hq1 => ?_
  show T.den _ _ _ ⟨[p], [], [], [s, q1], [], []⟩
  refine callD_at rfl [m1, m2, m3, m4, m5, m6, codeC p s.xs] [] (fun w h _ _ => specConicOf_at p (s := q1) (h.get 1 q1 (T := 2) true (by simp) rfl) (by omega)) call14 rfl rfl ⟨trivial, trivial, trivial, trivial, trivial, trivial, trivial, trivial⟩ (by unfold resC; rw [hq1.1, hm]; rfl) fun b0 => ?_
  show T.den _ _ _ ⟨[p, m1, m2, m3, m4, m5, m6, codeC p s.xs], [], [b0], [s, q1], [], []⟩
  refine callS (Q := fun q => q.xs = s.xs ∧ q.n = s.n) rfl (fun w h _ _ => toInts_at (h.get 0 s (T := 2) false (by simp) rfl) hn) call15 bd fun q2 hq2 => ?_
  show T.den _ _ _ ⟨[p, m1, m2, m3, m4, m5, m6, codeC p s.xs], [], [b0], [s, q1, q2], [], []⟩
  refine callD_at rfl [m1, m2, m3, m4, m5, m6, codeC p s.xs] [] (fun w h _ _ => conicOf_at p (s := q2) (h.get 2 q2 (T := 2) true (by simp) rfl) (by omega)) call16 rfl rfl ⟨trivial, trivial, trivial, trivial, trivial, trivial, trivial, trivial⟩ (by unfold resC; rw [hq2.1, hm]; rfl) fun b1 => ?_
  show T.den _ _ _ ⟨[p, m1, m2, m3, m4, m5, m6, codeC p s.xs, m1, m2, m3, m4, m5, m6, codeC p s.xs], [], [b0, b1], [s, q1, q2], [], []⟩
  refine callB rfl true (fun w _ _ _ => eqConic_at m1 m2 m3 m4 m5 m6 m1 m2 m3 m4 m5 m6 w rfl) call17 ⟨fun c => (c rfl).elim, fun _ => ⟨fun c => (c rfl).elim, fun _ => ?_⟩⟩
  show T.den _ _ _ ⟨[p, m1, m2, m3, m4, m5, m6, codeC p s.xs, m1, m2, m3, m4, m5, m6, codeC p s.xs], [true], [b0, b1], [s, q1, q2], [], []⟩
  refine callS (Q := fun q => q.xs = s.xs ∧ q.n = s.n) rfl (fun w h _ _ => toInts_at (h.get 0 s (T := 2) false (by simp) rfl) hn) call15 bd fun q3 hq3 => ?_
  show T.den _ _ _ ⟨[p, m1, m2, m3, m4, m5, m6, codeC p s.xs, m1, m2, m3, m4, m5, m6, codeC p s.xs], [true], [b0, b1], [s, q1, q2, q3], [], []⟩
  exact callB rfl true (fun w h _ _ => eqInts_at (s := q2) (q := q3) (h.get 2 q2 (T := 2) true (by simp) rfl) (h.get 3 q3 (T := 2) true (by simp) rfl) (by omega) (by rw [hq2.1, hq3.1])) call18 ⟨fun c => (c rfl).elim, fun _ => rfl⟩
end Go.Proofs.Ytelejhggpkfdoaa.SX

