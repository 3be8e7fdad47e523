/- part of a proof: no condition of its own -/
import Derived.Test.YtelejhggpkfdoaaEVA
import Derived.Test.YtelejhggpkfdoaaProg
namespace Go.Proofs.Ytelejhggpkfdoaa.SX
set_option linter.unusedVariables false
open Go.RowKit Go.Proofs

def md0 : CallMode := { det := true, hv := false, bi := [], bs := [], bt := [] }
def mdI (bi : List Iv) : CallMode := { det := true, hv := false, bi := bi, bs := [], bt := [] }
def mdS (bi : List Iv) (bs : List (Iv × Int)) : CallMode := { det := false, hv := false, bi := bi, bs := bs, bt := [] }
def mdH (bi : List Iv) : CallMode := { det := false, hv := true, bi := bi, bs := [], bt := [] }
def mdT : FuncId → CallMode
  | 182 => mdI [some (0, 30)]
  | 176 => mdI [some (0, 30)]
  | 181 => mdI [some (0, 30)]
  | 296 => mdI [some (0, 30)]
  | 294 => mdI [some (0, 30)]
  | 249 => mdH [none, some (0, 4096), none]
  | 230 => mdH [none, some (0, 4096), none]
  | 206 => mdH [none, some (0, 4096), none]
  | 199 => mdH [some (3, 31), some (0, 4096), none]
  | 198 => mdH [none, some (0, 4096), none]
  | 362 => mdS [] [(some (0, 30), 2002)]
  | 196 => mdI [some (0, 30)]
  | 187 => mdI [some (0, 2000), some (0, 2000)]
  | 192 => mdS [] [(some (0, 30), 32)]
  | 30 => mdS [] [(some (0, 30), 32)]
  | 34 => mdS [] [(some (0, 2000), 2000), (none, 2000)]
  | 363 => mdS [] [(some (0, 30), 32)]
  | 203 => mdS [] [(some (0, 30), 300)]
  | 41 => mdS [] [(some (0, 30), 300)]
  | 190 => mdI [some (0, 30)]
  | 188 => mdI [some (1, 2000)]
  | 45 => mdS [] [(some (0, 30), 32)]
  | 35 => mdS [] [(some (0, 2000), 2000), (none, 2000)]
  | 43 => mdS [] [(some (0, 30), 300)]
  | _ => md0
def mdP : FuncId → Option PMode
  | 197 => some ⟨250, [none, some .i64, some .u64], [some (0, 0), none]⟩
  | _ => none
def eqnT : TypeId → Option Nat := fun _ => none
noncomputable def cfg : CfgX := { P := Try.prog, eqn := eqnT, mode := mdT, modeP := mdP }
theorem cfg_ok : cfg.toCfg.OK := ⟨fun t n h => by simp [cfg, eqnT] at h, fun t n h => by simp [cfg, eqnT] at h⟩
theorem callable_of {f : FuncId} {fn : Func} (hf : Try.prog.funcs[f]? = some fn) (hn : (fn.name == "runtime.NumGoroutine") = false) (hb : fn.body.isNone = false) : Callable Try.prog f := by
  intro args w
  simp only [callFunc, Sem.run_bind, run_program, Result.andThen_ok, hf, hn, hb, Bool.false_eq_true, ↓reduceIte, Sem.run_pure]
end Go.Proofs.Ytelejhggpkfdoaa.SX

namespace Go.Proofs.Ytelejhggpkfdoaa.SX
set_option linter.unusedVariables false
set_option maxRecDepth 100000
open Go.RowKit Go.Proofs
/-- impl.rest -/
def T182 : T := (.ret [(.c (.int .i64 (.rem (.add (.rem (.v 1) (.v 0)) (.v 0)) (.v 0))))] [])
def F182 : FT := ⟨.nrm, [.c (.int .i64 (some (3, 31))), .c (.int .i64 (none))], [], 0, [(.int .i64)], T182⟩
theorem ok182 : FTOK cfg 182 F182 := ⟨callable_of Try.func182 (by decide +kernel) (by decide +kernel), by decide +kernel, Try.f182, fun _ => .unroll 12, Try.func182, by decide +kernel, ⟨by decide +kernel, by decide +kernel⟩⟩
/-- spec.l01Mod -/
def T176 : T := (.ret [(.c (.int .i64 (.rem (.add (.rem (.v 0) (.v 1)) (.v 1)) (.v 1))))] [])
def F176 : FT := ⟨.nrm, [.c (.int .i64 (none)), .c (.int .i64 (some (3, 31)))], [], 0, [(.int .i64)], T176⟩
theorem ok176 : FTOK cfg 176 F176 := ⟨callable_of Try.func176 (by decide +kernel) (by decide +kernel), by decide +kernel, Try.f176, fun _ => .unroll 12, Try.func176, by decide +kernel, ⟨by decide +kernel, by decide +kernel⟩⟩
/-- impl.IsField -/
def T200 : T := (.br (.eq (.v 0) (.c 3)) (.ret [(.c (.bool (.c true)))] []) (.br (.eq (.v 0) (.c 5)) (.ret [(.c (.bool (.c true)))] []) (.br (.eq (.v 0) (.c 7)) (.ret [(.c (.bool (.c true)))] []) (.br (.eq (.v 0) (.c 11)) (.ret [(.c (.bool (.c true)))] []) (.br (.eq (.v 0) (.c 13)) (.ret [(.c (.bool (.c true)))] []) (.br (.eq (.v 0) (.c 17)) (.ret [(.c (.bool (.c true)))] []) (.br (.eq (.v 0) (.c 19)) (.ret [(.c (.bool (.c true)))] []) (.br (.eq (.v 0) (.c 23)) (.ret [(.c (.bool (.c true)))] []) (.br (.eq (.v 0) (.c 29)) (.ret [(.c (.bool (.c true)))] []) (.br (.eq (.v 0) (.c 31)) (.ret [(.c (.bool (.c true)))] []) (.ret [(.c (.bool (.c false)))] [])))))))))))
def F200 : FT := ⟨.nrm, [.c (.int .i64 (none))], [], 0, [.bool], T200⟩
theorem ok200 : FTOK cfg 200 F200 := ⟨callable_of Try.func200 (by decide +kernel) (by decide +kernel), by decide +kernel, Try.f200, fun _ => .unroll 12, Try.func200, by decide +kernel, ⟨by decide +kernel, by decide +kernel⟩⟩
/-- impl.isNumber -/
def T186 : T := (.br (.le (.c 0) (.v 1)) (.ret [(.c (.bool (.lt (.v 1) (.v 0))))] []) (.ret [(.c (.bool (.c false)))] []))
def F186 : FT := ⟨.nrm, [.c (.int .i64 (none)), .c (.int .i64 (none))], [], 0, [.bool], T186⟩
theorem ok186 : FTOK cfg 186 F186 := ⟨callable_of Try.func186 (by decide +kernel) (by decide +kernel), by decide +kernel, Try.f186, fun _ => .unroll 12, Try.func186, by decide +kernel, ⟨by decide +kernel, by decide +kernel⟩⟩
/-- spec.l01In -/
def T207 : T := (.br (.le (.v 1) (.v 0)) (.ret [(.c (.bool (.le (.v 0) (.v 2))))] []) (.ret [(.c (.bool (.c false)))] []))
def F207 : FT := ⟨.nrm, [.c (.int .i64 (none)), .c (.int .i64 (none)), .c (.int .i64 (none))], [], 0, [.bool], T207⟩
theorem ok207 : FTOK cfg 207 F207 := ⟨callable_of Try.func207 (by decide +kernel) (by decide +kernel), by decide +kernel, Try.f207, fun _ => .unroll 12, Try.func207, by decide +kernel, ⟨by decide +kernel, by decide +kernel⟩⟩
/-- impl.isIndex -/
def T195 : T := (.br (.le (.c 0) (.v 0)) (.ret [(.c (.bool (.le (.v 0) (.c 1000))))] []) (.ret [(.c (.bool (.c false)))] []))
def F195 : FT := ⟨.nrm, [.c (.int .i64 (none))], [], 0, [.bool], T195⟩
theorem ok195 : FTOK cfg 195 F195 := ⟨callable_of Try.func195 (by decide +kernel) (by decide +kernel), by decide +kernel, Try.f195, fun _ => .unroll 12, Try.func195, by decide +kernel, ⟨by decide +kernel, by decide +kernel⟩⟩
/-- spec.l01Field -/
def T335 : T := (.callD (.fc 207) [(.c (.int .i64 (.v 0))), (.c (.int .i64 (.c 3))), (.c (.int .i64 (.c 31)))] [.bool] [] [] (.br (.not (.v 0)) (.ret [(.c (.bool (.c false)))] []) (.loop [(.c 2)] [] [] [] [(some (2, 31))] [] [] (.br (.le (.mul (.v 1) (.v 1)) (.v 0)) (.br (.eq (.rem (.v 0) (.v 1)) (.c 0)) (.ret [(.c (.bool (.c false)))] []) (.again 0 [(.add (.v 1) (.c 1))] [] [] [])) (.ret [(.c (.bool (.c true)))] [])))))
def F335 : FT := ⟨.nrm, [.c (.int .i64 (none))], [], 0, [.bool], T335⟩
theorem ok335 : FTOK cfg 335 F335 := ⟨callable_of Try.func335 (by decide +kernel) (by decide +kernel), by decide +kernel, Try.f335, fun r => if r = 4 then .inv ⟨[(3, some (2, 31), -1)], []⟩ else .unroll 12, Try.func335, by decide +kernel, ⟨by decide +kernel, by decide +kernel⟩⟩
/-- impl.asked -/
def T169 : T := (.callD (.fc 200) [(.c (.int .i64 (.v 0)))] [.bool] [] [] (.br (.not (.v 0)) (.ret [(.c (.int .i64 (.c 1)))] []) (.callD (.fn 0) [] [.bool] [] [] (.br (.not (.v 1)) (.ret [(.c (.int .i64 (.c 2)))] []) (.ret [(.c (.int .i64 (.c 0)))] [])))))
def F169 : FT := ⟨.nrm, [.c (.int .i64 (none)), .c .fn], [], 0, [(.int .i64)], T169⟩
theorem ok169 : FTOK cfg 169 F169 := ⟨callable_of Try.func169 (by decide +kernel) (by decide +kernel), by decide +kernel, Try.f169, fun _ => .unroll 12, Try.func169, by decide +kernel, ⟨by decide +kernel, by decide +kernel⟩⟩
/-- impl.areNumbers -/
def T171 : T := (.loop [(.c 0)] [] [] [] [(some (0, 1048576))] [] [] (.br (.lt (.v 1) (.sl 0)) (.callD (.fc 186) [(.c (.int .i64 (.v 0))), (.c (.int .i64 (.sg 0 (.v 1))))] [.bool] [] [] (.br (.not (.v 0)) (.ret [(.c (.bool (.c false)))] []) (.again 0 [(.add (.v 1) (.c 1))] [] [] []))) (.ret [(.c (.bool (.c true)))] [])))
def F171 : FT := ⟨.nrm, [.c (.int .i64 (some (3, 31))), .c (.sl 2 .i64 1 (none) (1048576))], [], 0, [.bool], T171⟩
theorem ok171 : FTOK cfg 171 F171 := ⟨callable_of Try.func171 (by decide +kernel) (by decide +kernel), by decide +kernel, Try.f171, fun r => if r = 2 then .inv ⟨[(9, some (0, 1048576), -1)], []⟩ else .unroll 12, Try.func171, by decide +kernel, ⟨by decide +kernel, by decide +kernel⟩⟩
/-- spec.l01Numbers -/
def T167 : T := (.callD (.fc 335) [(.c (.int .i64 (.v 0)))] [.bool] [] [] (.br (.not (.v 0)) (.ret [(.c (.int .i64 (.c 1)))] []) (.loop [(.c 0)] [] [] [] [(some (0, 1048576))] [] [] (.br (.lt (.v 1) (.sl 0)) (.need (.le (.c (-9223372036854775808)) (.sub (.v 0) (.c 1))) (.need (.le (.sub (.v 0) (.c 1)) (.c 9223372036854775807)) (.callD (.fc 207) [(.c (.int .i64 (.sg 0 (.v 1)))), (.c (.int .i64 (.c 0))), (.c (.int .i64 (.sub (.v 0) (.c 1))))] [.bool] [] [] (.br (.not (.v 1)) (.ret [(.c (.int .i64 (.c 2)))] []) (.again 0 [(.add (.v 1) (.c 1))] [] [] []))))) (.ret [(.c (.int .i64 (.c 0)))] [])))))
def F167 : FT := ⟨.nrm, [.c (.int .i64 (none)), .c (.sl 2 .i64 1 (none) (1048576))], [], 0, [(.int .i64)], T167⟩
theorem ok167 : FTOK cfg 167 F167 := ⟨callable_of Try.func167 (by decide +kernel) (by decide +kernel), by decide +kernel, Try.f167, fun r => if r = 4 then .inv ⟨[(5, some (0, 1048576), -1)], []⟩ else .unroll 12, Try.func167, by decide +kernel, ⟨by decide +kernel, by decide +kernel⟩⟩
/-- impl.inverse -/
def T181 : T := (.loop [(.c 1)] [] [] [] [(some (1, 31))] [] [] (.br (.lt (.v 2) (.v 0)) (.br (.eq (.rem (.mul (.v 1) (.v 2)) (.v 0)) (.c 1)) (.ret [(.c (.int .i64 (.v 2)))] []) (.again 0 [(.add (.v 2) (.c 1))] [] [] [])) (.ret [(.c (.int .i64 (.c 0)))] [])))
def F181 : FT := ⟨.nrm, [.c (.int .i64 (some (3, 31))), .c (.int .i64 (some (0, 1000000000)))], [], 0, [(.int .i64)], T181⟩
theorem ok181 : FTOK cfg 181 F181 := ⟨callable_of Try.func181 (by decide +kernel) (by decide +kernel), by decide +kernel, Try.f181, fun r => if r = 2 then .inv ⟨[(5, some (1, 31), -1)], []⟩ else .unroll 12, Try.func181, by decide +kernel, ⟨by decide +kernel, by decide +kernel⟩⟩
/-- spec.l01Inverse -/
def T296 : T := (.callD (.fc 176) [(.c (.int .i64 (.v 0))), (.c (.int .i64 (.v 1)))] [(.int .i64)] [(some (0, 30))] [] (.loop [(.c 1), (.v 2), (.sub (.v 1) (.c 2))] [] [] [] [(some (0, 30)), (some (0, 30)), (some (0, 30))] [] [] (.br (.lt (.c 0) (.v 5)) (.br (.eq (.rem (.v 5) (.c 2)) (.c 1)) (.again 0 [(.rem (.mul (.v 3) (.v 4)) (.v 1)), (.rem (.mul (.v 4) (.v 4)) (.v 1)), (.quo (.v 5) (.c 2))] [] [] []) (.again 0 [(.v 3), (.rem (.mul (.v 4) (.v 4)) (.v 1)), (.quo (.v 5) (.c 2))] [] [] [])) (.ret [(.c (.int .i64 (.v 3)))] []))))
def F296 : FT := ⟨.nrm, [.c (.int .i64 (none)), .c (.int .i64 (some (3, 31)))], [], 0, [(.int .i64)], T296⟩
theorem ok296 : FTOK cfg 296 F296 := ⟨callable_of Try.func296 (by decide +kernel) (by decide +kernel), by decide +kernel, Try.f296, fun r => if r = 3 then .inv ⟨[(5, some (0, 30), -1), (6, some (0, 30), -1), (7, some (0, 30), -1)], []⟩ else .unroll 12, Try.func296, by decide +kernel, ⟨by decide +kernel, by decide +kernel⟩⟩
/-- impl.divide -/
def T294 : T := (.callD (.fc 181) [(.c (.int .i64 (.v 0))), (.c (.int .i64 (.v 2)))] [(.int .i64)] [(some (0, 30))] [] (.callD (.fc 182) [(.c (.int .i64 (.v 0))), (.c (.int .i64 (.mul (.v 1) (.v 3))))] [(.int .i64)] [(some (0, 30))] [] (.ret [(.c (.int .i64 (.v 4)))] [])))
def F294 : FT := ⟨.nrm, [.c (.int .i64 (some (3, 31))), .c (.int .i64 (some (-1000000000000, 1000000000000))), .c (.int .i64 (some (0, 1000000000)))], [], 0, [(.int .i64)], T294⟩
theorem ok294 : FTOK cfg 294 F294 := ⟨callable_of Try.func294 (by decide +kernel) (by decide +kernel), by decide +kernel, Try.f294, fun _ => .unroll 12, Try.func294, by decide +kernel, ⟨by decide +kernel, by decide +kernel⟩⟩
end Go.Proofs.Ytelejhggpkfdoaa.SX

namespace Go.Proofs.Ytelejhggpkfdoaa.SX
set_option linter.unusedVariables false
set_option maxRecDepth 100000
open Go.RowKit Go.Proofs
/-- laws.big -/
def T24 : T := (.ret [(.c (.bool (.lt (.c 4096) (.sl 0))))] [])
def F24 : FT := ⟨.nrm, [.c (.sl 5 .u8 1 (none) (-1))], [], 0, [.bool], T24⟩
theorem ok24 : FTOK cfg 24 F24 := ⟨callable_of Try.func24 (by decide +kernel) (by decide +kernel), by decide +kernel, Try.f24, fun _ => .unroll 12, Try.func24, by decide +kernel, ⟨by decide +kernel, by decide +kernel⟩⟩
/-- spec.l01From -/
def T197 : T := (.blk (.loop [(.c 0), (.c 0), (.add (.c 13701) (.sl 0))] [] [] [] [(some (0, 4096)), none, none] [] [] (.br (.lt (.v 0) (.sl 0)) (.br (.lt (.v 0) (.c 4096)) (.again 0 [(.add (.v 0) (.c 1)), (.v 1), (.wr .u64 (.add (.wr .u64 (.add (.wr .u64 (.mul (.v 2) (.c 1099511628211))) (.sg 0 (.v 0)))) (.c 199)))] [] [] []) (.ret [(.c (.ptr 0 0))] [[(.sl 0), (.int .i64 (.v 1)), (.int .u64 (.v 2))]])) (.ret [(.c (.ptr 0 0))] [[(.sl 0), (.int .i64 (.v 1)), (.int .u64 (.v 2))]]))))
def F197 : FT := ⟨.new, [.c (.sl 5 .u8 1 (some (0, 255)) (4096))], [], 250, [], T197⟩
theorem ok197 : FTOK cfg 197 F197 := ⟨callable_of Try.func197 (by decide +kernel) (by decide +kernel), by decide +kernel, Try.f197, fun r => if r = 3 then .inv ⟨[(4, some (0, 4096), -1)], [(0, none)]⟩ else .unroll 12, Try.func197, by decide +kernel, (show runFnP cfg (fun r => if r = 3 then .inv ⟨[(4, some (0, 4096), -1)], [(0, none)]⟩ else .unroll 12) (drawE cfg) Try.f197 250 (F197).args (F197).st = some T197 from by decide +kernel)⟩
/-- spec.l01Next -/
def T249 : T := (.br (.lt (.v 2) (.c 1)) (.ret [(.c (.int .i64 (.c 0)))] [[(.sl 0), (.int .i64 (.v 0)), (.int .u64 (.v 1))]]) (.br (.lt (.v 0) (.sl 0)) (.need (.le (.c (-9223372036854775808)) (.add (.wr .i64 (.bit .and .u64 (.bit .shr .u64 (.wr .u64 (.add (.wr .u64 (.mul (.v 1) (.c 6364136223846793005))) (.c 1442695040888963407))) (.c 33)) (.c 16777215))) (.sg 0 (.v 0)))) (.need (.le (.add (.wr .i64 (.bit .and .u64 (.bit .shr .u64 (.wr .u64 (.add (.wr .u64 (.mul (.v 1) (.c 6364136223846793005))) (.c 1442695040888963407))) (.c 33)) (.c 16777215))) (.sg 0 (.v 0))) (.c 9223372036854775807)) (.need (.not (.eq (.v 2) (.c 0))) (.ret [(.c (.int .i64 (.rem (.add (.wr .i64 (.bit .and .u64 (.bit .shr .u64 (.wr .u64 (.add (.wr .u64 (.mul (.v 1) (.c 6364136223846793005))) (.c 1442695040888963407))) (.c 33)) (.c 16777215))) (.sg 0 (.v 0))) (.v 2))))] [[(.sl 0), (.int .i64 (.add (.v 0) (.c 1))), (.int .u64 (.wr .u64 (.add (.wr .u64 (.mul (.v 1) (.c 6364136223846793005))) (.c 1442695040888963407))))]])))) (.need (.not (.eq (.v 2) (.c 0))) (.ret [(.c (.int .i64 (.rem (.wr .i64 (.bit .and .u64 (.bit .shr .u64 (.wr .u64 (.add (.wr .u64 (.mul (.v 1) (.c 6364136223846793005))) (.c 1442695040888963407))) (.c 33)) (.c 16777215))) (.v 2))))] [[(.sl 0), (.int .i64 (.v 0)), (.int .u64 (.wr .u64 (.add (.wr .u64 (.mul (.v 1) (.c 6364136223846793005))) (.c 1442695040888963407))))]]))))
def F249 : FT := ⟨.chg, [.c (.int .i64 (none))], [(.sl 5 .u8 1 (some (0, 255)) (4096)), (.int .i64 (some (0, 4096))), (.int .u64 (none))], 250, [(.int .i64)], T249⟩
theorem ok249 : FTOK cfg 249 F249 := ⟨callable_of Try.func249 (by decide +kernel) (by decide +kernel), by decide +kernel, Try.f249, fun _ => .unroll 12, Try.func249, by decide +kernel, ⟨by decide +kernel, by decide +kernel⟩⟩
/-- spec.l01Pick -/
def T230 : T := (.callG (.fc 249) [(.c (.ptr 0 0)), (.c (.int .i64 (.sl 1)))] [(.int .i64)] [(.blk 0 250 [(.sl 0), (.int .i64 (.v 3)), (.int .u64 (.v 4))] true)] [none, (some (0, 4096)), none] [] [] [(.blk 0 250 [(.sl 0), (.int .i64 (.v 0)), (.int .u64 (.v 1))] true), (.isl 1 2 .i64 1 false), (.isl 0 5 .u8 1 false)] (.need (.le (.c 0) (.v 2)) (.need (.lt (.v 2) (.sl 1)) (.ret [(.c (.int .i64 (.sg 1 (.v 2))))] [[(.sl 0), (.int .i64 (.v 3)), (.int .u64 (.v 4))]]))))
def F230 : FT := ⟨.chg, [.c (.sl 2 .i64 1 (none) (64))], [(.sl 5 .u8 1 (some (0, 255)) (4096)), (.int .i64 (some (0, 4096))), (.int .u64 (none))], 250, [(.int .i64)], T230⟩
theorem ok230 : FTOK cfg 230 F230 := ⟨callable_of Try.func230 (by decide +kernel) (by decide +kernel), by decide +kernel, Try.f230, fun _ => .unroll 12, Try.func230, by decide +kernel, ⟨by decide +kernel, by decide +kernel⟩⟩
/-- spec.l01Near -/
def T206 : T := (.callG (.fc 249) [(.c (.ptr 0 0)), (.c (.int .i64 (.c 14)))] [(.int .i64)] [(.blk 0 250 [(.sl 0), (.int .i64 (.v 4)), (.int .u64 (.v 5))] true)] [none, (some (0, 4096)), none] [] [] [(.blk 0 250 [(.sl 0), (.int .i64 (.v 0)), (.int .u64 (.v 1))] true), (.isl 0 5 .u8 1 false)] (.br (.eq (.v 3) (.c 0)) (.fs (.c 4) (.lit [(.c (-1)), (.add (.v 2) (.c 1)), (.c 1099511627776), (.c (-4611686018427387904))]) (.callG (.fc 230) [(.c (.ptr 0 0)), (.c (.sl 1))] [(.int .i64)] [(.blk 0 250 [(.sl 0), (.int .i64 (.v 7)), (.int .u64 (.v 8))] true)] [none, (some (0, 4096)), none] [] [] [(.isl 1 2 .i64 1 true), (.blk 0 250 [(.sl 0), (.int .i64 (.v 4)), (.int .u64 (.v 5))] true), (.isl 0 5 .u8 1 false)] (.ret [(.c (.int .i64 (.v 6)))] [[(.sl 0), (.int .i64 (.v 7)), (.int .u64 (.v 8))]]))) (.callG (.fc 249) [(.c (.ptr 0 0)), (.c (.int .i64 (.add (.v 2) (.c 1))))] [(.int .i64)] [(.blk 0 250 [(.sl 0), (.int .i64 (.v 7)), (.int .u64 (.v 8))] true)] [none, (some (0, 4096)), none] [] [] [(.blk 0 250 [(.sl 0), (.int .i64 (.v 4)), (.int .u64 (.v 5))] true), (.isl 0 5 .u8 1 false)] (.ret [(.c (.int .i64 (.v 6)))] [[(.sl 0), (.int .i64 (.v 7)), (.int .u64 (.v 8))]]))))
def F206 : FT := ⟨.chg, [.c (.int .i64 (some (0, 1000)))], [(.sl 5 .u8 1 (some (0, 255)) (4096)), (.int .i64 (some (0, 4096))), (.int .u64 (none))], 250, [(.int .i64)], T206⟩
theorem ok206 : FTOK cfg 206 F206 := ⟨callable_of Try.func206 (by decide +kernel) (by decide +kernel), by decide +kernel, Try.f206, fun _ => .unroll 12, Try.func206, by decide +kernel, ⟨by decide +kernel, by decide +kernel⟩⟩
/-- spec.l01DrawField -/
def T199 : T := (.fs (.c 13) (.lit [(.c 3), (.c 5), (.c 5), (.c 7), (.c 7), (.c 11), (.c 13), (.c 13), (.c 17), (.c 19), (.c 23), (.c 29), (.c 31)]) (.callG (.fc 230) [(.c (.ptr 0 0)), (.c (.sl 1))] [(.int .i64)] [(.blk 0 250 [(.sl 0), (.int .i64 (.v 3)), (.int .u64 (.v 4))] true)] [none, (some (0, 4096)), none] [] [] [(.isl 1 2 .i64 1 true), (.blk 0 250 [(.sl 0), (.int .i64 (.v 0)), (.int .u64 (.v 1))] true), (.isl 0 5 .u8 1 false)] (.ret [(.c (.int .i64 (.v 2)))] [[(.sl 0), (.int .i64 (.v 3)), (.int .u64 (.v 4))]])))
def F199 : FT := ⟨.chg, [], [(.sl 5 .u8 1 (some (0, 255)) (4096)), (.int .i64 (some (0, 4096))), (.int .u64 (none))], 250, [(.int .i64)], T199⟩
theorem ok199 : FTOK cfg 199 F199 := ⟨callable_of Try.func199 (by decide +kernel) (by decide +kernel), by decide +kernel, Try.f199, fun _ => .unroll 12, Try.func199, by decide +kernel, ⟨by decide +kernel, by decide +kernel⟩⟩
/-- spec.l01BadField -/
def T198 : T := (.callG (.fc 249) [(.c (.ptr 0 0)), (.c (.int .i64 (.c 40)))] [(.int .i64)] [(.blk 0 250 [(.sl 0), (.int .i64 (.v 4)), (.int .u64 (.v 5))] true)] [none, (some (0, 4096)), none] [] [] [(.blk 0 250 [(.sl 0), (.int .i64 (.v 0)), (.int .u64 (.v 1))] true), (.isl 0 5 .u8 1 false)] (.br (.eq (.v 3) (.c 0)) (.fs (.c 8) (.lit [(.c 2), (.c 1), (.c 0), (.c (-3)), (.c 9), (.c 15), (.c 37), (.c 1099511627776)]) (.callG (.fc 230) [(.c (.ptr 0 0)), (.c (.sl 1))] [(.int .i64)] [(.blk 0 250 [(.sl 0), (.int .i64 (.v 7)), (.int .u64 (.v 8))] true)] [none, (some (0, 4096)), none] [] [] [(.isl 1 2 .i64 1 true), (.blk 0 250 [(.sl 0), (.int .i64 (.v 4)), (.int .u64 (.v 5))] true), (.isl 0 5 .u8 1 false)] (.ret [(.c (.int .i64 (.v 6)))] [[(.sl 0), (.int .i64 (.v 7)), (.int .u64 (.v 8))]]))) (.ret [(.c (.int .i64 (.v 2)))] [[(.sl 0), (.int .i64 (.v 4)), (.int .u64 (.v 5))]])))
def F198 : FT := ⟨.chg, [.c (.int .i64 (none))], [(.sl 5 .u8 1 (some (0, 255)) (4096)), (.int .i64 (some (0, 4096))), (.int .u64 (none))], 250, [(.int .i64)], T198⟩
theorem ok198 : FTOK cfg 198 F198 := ⟨callable_of Try.func198 (by decide +kernel) (by decide +kernel), by decide +kernel, Try.f198, fun _ => .unroll 12, Try.func198, by decide +kernel, ⟨by decide +kernel, by decide +kernel⟩⟩
/-- spec.l01One -/
def T184 : T := (.callP 197 [(.c (.sl 0))] 250 [(.sl 0), (.int .i64 (.v 0)), (.int .u64 (.v 1))] [(some (0, 0)), none] [(.isl 0 5 .u8 1 false)] (.blk (.callG (.fc 199) [(.c (.ptr 0 0))] [(.int .i64)] [(.blk 0 250 [(.sl 0), (.int .i64 (.v 3)), (.int .u64 (.v 4))] true)] [(some (3, 31)), (some (0, 4096)), none] [] [] [(.blk 0 250 [(.sl 0), (.int .i64 (.v 0)), (.int .u64 (.v 1))] true), (.isl 0 5 .u8 1 false)] (.callG (.fc 206) [(.c (.ptr 0 0)), (.c (.int .i64 (.sub (.v 2) (.c 1))))] [(.int .i64)] [(.blk 0 250 [(.sl 0), (.int .i64 (.v 6)), (.int .u64 (.v 7))] true)] [none, (some (0, 4096)), none] [] [] [(.blk 0 250 [(.sl 0), (.int .i64 (.v 3)), (.int .u64 (.v 4))] true), (.isl 0 5 .u8 1 false)] (.callG (.fc 198) [(.c (.ptr 0 0)), (.c (.int .i64 (.v 2)))] [(.int .i64)] [(.blk 0 250 [(.sl 0), (.int .i64 (.v 9)), (.int .u64 (.v 10))] true)] [none, (some (0, 4096)), none] [] [] [(.blk 0 250 [(.sl 0), (.int .i64 (.v 6)), (.int .u64 (.v 7))] true), (.isl 0 5 .u8 1 false)] (.ret [(.c (.int .i64 (.v 8))), (.c (.int .i64 (.v 5)))] []))))))
def F184 : FT := ⟨.nrm, [.c (.sl 5 .u8 1 (some (0, 255)) (4096))], [], 0, [(.int .i64), (.int .i64)], T184⟩
theorem ok184 : FTOK cfg 184 F184 := ⟨callable_of Try.func184 (by decide +kernel) (by decide +kernel), by decide +kernel, Try.f184, fun _ => .unroll 12, Try.func184, by decide +kernel, ⟨by decide +kernel, by decide +kernel⟩⟩
/-- spec.l05Draw -/
def T201 : T := (.callP 197 [(.c (.sl 0))] 250 [(.sl 0), (.int .i64 (.v 0)), (.int .u64 (.v 1))] [(some (0, 0)), none] [(.isl 0 5 .u8 1 false)] (.blk (.callG (.fc 199) [(.c (.ptr 0 0))] [(.int .i64)] [(.blk 0 250 [(.sl 0), (.int .i64 (.v 3)), (.int .u64 (.v 4))] true)] [(some (3, 31)), (some (0, 4096)), none] [] [] [(.blk 0 250 [(.sl 0), (.int .i64 (.v 0)), (.int .u64 (.v 1))] true), (.isl 0 5 .u8 1 false)] (.callG (.fc 206) [(.c (.ptr 0 0)), (.c (.int .i64 (.c 40)))] [(.int .i64)] [(.blk 0 250 [(.sl 0), (.int .i64 (.v 6)), (.int .u64 (.v 7))] true)] [none, (some (0, 4096)), none] [] [] [(.blk 0 250 [(.sl 0), (.int .i64 (.v 3)), (.int .u64 (.v 4))] true), (.isl 0 5 .u8 1 false)] (.fs (.c 15) (.lit [(.c 0), (.c 1), (.c 2), (.c 3), (.c 4), (.c 5), (.c 6), (.c 7), (.c 12), (.sub (.v 2) (.c 1)), (.v 2), (.add (.v 2) (.c 1)), (.v 5), (.c 1000), (.c 1001)]) (.callG (.fc 230) [(.c (.ptr 0 0)), (.c (.sl 1))] [(.int .i64)] [(.blk 0 250 [(.sl 0), (.int .i64 (.v 9)), (.int .u64 (.v 10))] true)] [none, (some (0, 4096)), none] [] [] [(.isl 1 2 .i64 1 true), (.blk 0 250 [(.sl 0), (.int .i64 (.v 6)), (.int .u64 (.v 7))] true), (.isl 0 5 .u8 1 false)] (.callG (.fc 206) [(.c (.ptr 0 0)), (.c (.int .i64 (.sub (.v 2) (.c 1))))] [(.int .i64)] [(.blk 0 250 [(.sl 0), (.int .i64 (.v 12)), (.int .u64 (.v 13))] true)] [none, (some (0, 4096)), none] [] [] [(.isl 1 2 .i64 1 true), (.blk 0 250 [(.sl 0), (.int .i64 (.v 9)), (.int .u64 (.v 10))] true), (.isl 0 5 .u8 1 false)] (.callG (.fc 198) [(.c (.ptr 0 0)), (.c (.int .i64 (.v 2)))] [(.int .i64)] [(.blk 0 250 [(.sl 0), (.int .i64 (.v 15)), (.int .u64 (.v 16))] true)] [none, (some (0, 4096)), none] [] [] [(.isl 1 2 .i64 1 true), (.blk 0 250 [(.sl 0), (.int .i64 (.v 12)), (.int .u64 (.v 13))] true), (.isl 0 5 .u8 1 false)] (.ret [(.c (.int .i64 (.v 14))), (.c (.int .i64 (.v 8))), (.c (.int .i64 (.v 11)))] [])))))))))
def F201 : FT := ⟨.nrm, [.c (.sl 5 .u8 1 (some (0, 255)) (4096))], [], 0, [(.int .i64), (.int .i64), (.int .i64)], T201⟩
theorem ok201 : FTOK cfg 201 F201 := ⟨callable_of Try.func201 (by decide +kernel) (by decide +kernel), by decide +kernel, Try.f201, fun _ => .unroll 12, Try.func201, by decide +kernel, ⟨by decide +kernel, by decide +kernel⟩⟩
/-- spec.DrawOrderOfSpread -/
def T25 : T := (.callD (.fc 184) [(.c (.sl 0))] [(.int .i64), (.int .i64)] [none, none] [(.isl 0 5 .u8 1 false)] (.ret [(.c (.int .i64 (.v 0))), (.c (.int .i64 (.v 1)))] []))
def F25 : FT := ⟨.nrm, [.c (.sl 5 .u8 1 (some (0, 255)) (4096))], [], 0, [(.int .i64), (.int .i64)], T25⟩
theorem ok25 : FTOK cfg 25 F25 := ⟨callable_of Try.func25 (by decide +kernel) (by decide +kernel), by decide +kernel, Try.f25, fun _ => .unroll 12, Try.func25, by decide +kernel, ⟨by decide +kernel, by decide +kernel⟩⟩
/-- spec.DrawOrdersOf -/
def T33 : T := (.callP 197 [(.c (.sl 0))] 250 [(.sl 0), (.int .i64 (.v 0)), (.int .u64 (.v 1))] [(some (0, 0)), none] [(.isl 0 5 .u8 1 false)] (.blk (.callG (.fc 199) [(.c (.ptr 0 0))] [(.int .i64)] [(.blk 0 250 [(.sl 0), (.int .i64 (.v 3)), (.int .u64 (.v 4))] true)] [(some (3, 31)), (some (0, 4096)), none] [] [] [(.blk 0 250 [(.sl 0), (.int .i64 (.v 0)), (.int .u64 (.v 1))] true), (.isl 0 5 .u8 1 false)] (.callG (.fc 198) [(.c (.ptr 0 0)), (.c (.int .i64 (.v 2)))] [(.int .i64)] [(.blk 0 250 [(.sl 0), (.int .i64 (.v 6)), (.int .u64 (.v 7))] true)] [none, (some (0, 4096)), none] [] [] [(.blk 0 250 [(.sl 0), (.int .i64 (.v 3)), (.int .u64 (.v 4))] true), (.isl 0 5 .u8 1 false)] (.ret [(.c (.int .i64 (.v 5)))] [])))))
def F33 : FT := ⟨.nrm, [.c (.sl 5 .u8 1 (some (0, 255)) (4096))], [], 0, [(.int .i64)], T33⟩
theorem ok33 : FTOK cfg 33 F33 := ⟨callable_of Try.func33 (by decide +kernel) (by decide +kernel), by decide +kernel, Try.f33, fun _ => .unroll 12, Try.func33, by decide +kernel, ⟨by decide +kernel, by decide +kernel⟩⟩
/-- spec.DrawWalkRound -/
def T38 : T := (.callD (.fc 201) [(.c (.sl 0))] [(.int .i64), (.int .i64), (.int .i64)] [none, none, none] [(.isl 0 5 .u8 1 false)] (.ret [(.c (.int .i64 (.v 0))), (.c (.int .i64 (.v 1))), (.c (.int .i64 (.v 2)))] []))
def F38 : FT := ⟨.nrm, [.c (.sl 5 .u8 1 (some (0, 255)) (4096))], [], 0, [(.int .i64), (.int .i64), (.int .i64)], T38⟩
theorem ok38 : FTOK cfg 38 F38 := ⟨callable_of Try.func38 (by decide +kernel) (by decide +kernel), by decide +kernel, Try.f38, fun _ => .unroll 12, Try.func38, by decide +kernel, ⟨by decide +kernel, by decide +kernel⟩⟩
/-- spec.DrawWalkOf -/
def T42 : T := (.callD (.fc 201) [(.c (.sl 0))] [(.int .i64), (.int .i64), (.int .i64)] [none, none, none] [(.isl 0 5 .u8 1 false)] (.callP 197 [(.c (.sl 0))] 250 [(.sl 0), (.int .i64 (.v 3)), (.int .u64 (.v 4))] [(some (0, 0)), none] [(.isl 0 5 .u8 1 false)] (.blk (.callG (.fc 206) [(.c (.ptr 0 0)), (.c (.int .i64 (.c 100)))] [(.int .i64)] [(.blk 0 250 [(.sl 0), (.int .i64 (.v 6)), (.int .u64 (.v 7))] true)] [none, (some (0, 4096)), none] [] [] [(.blk 0 250 [(.sl 0), (.int .i64 (.v 3)), (.int .u64 (.v 4))] true), (.isl 0 5 .u8 1 false)] (.ret [(.c (.int .i64 (.v 0))), (.c (.int .i64 (.v 1))), (.c (.int .i64 (.v 2))), (.c (.int .i64 (.v 5)))] [])))))
def F42 : FT := ⟨.nrm, [.c (.sl 5 .u8 1 (some (0, 255)) (4096))], [], 0, [(.int .i64), (.int .i64), (.int .i64), (.int .i64)], T42⟩
theorem ok42 : FTOK cfg 42 F42 := ⟨callable_of Try.func42 (by decide +kernel) (by decide +kernel), by decide +kernel, Try.f42, fun _ => .unroll 12, Try.func42, by decide +kernel, ⟨by decide +kernel, by decide +kernel⟩⟩
/-- spec.DrawSpreadsOfOrder -/
def T44 : T := (.callD (.fc 201) [(.c (.sl 0))] [(.int .i64), (.int .i64), (.int .i64)] [none, none, none] [(.isl 0 5 .u8 1 false)] (.ret [(.c (.int .i64 (.v 0))), (.c (.int .i64 (.v 1)))] []))
def F44 : FT := ⟨.nrm, [.c (.sl 5 .u8 1 (some (0, 255)) (4096))], [], 0, [(.int .i64), (.int .i64)], T44⟩
theorem ok44 : FTOK cfg 44 F44 := ⟨callable_of Try.func44 (by decide +kernel) (by decide +kernel), by decide +kernel, Try.f44, fun _ => .unroll 12, Try.func44, by decide +kernel, ⟨by decide +kernel, by decide +kernel⟩⟩
end Go.Proofs.Ytelejhggpkfdoaa.SX

namespace Go.Proofs.Ytelejhggpkfdoaa.SX
set_option linter.unusedVariables false
set_option maxRecDepth 100000
open Go.RowKit Go.Proofs
/-- impl.spreads -/
def T362 : T := (.fs (.c 2) (.lit [(.c 0), (.v 2)]) (.loop [(.c 1)] [] [0] [] [(some (1, 2001))] [((some (0, 30)), (-1))] [] (.br (.lt (.v 3) (.v 1)) (.need (.lt (.v 3) (.sl 1)) (.need (.lt (.sub (.v 3) (.c 1)) (.sl 1)) (.callD (.fc 182) [(.c (.int .i64 (.v 0))), (.c (.int .i64 (.add (.sub (.mul (.mul (.c 2) (.sub (.c 1) (.mul (.c 2) (.v 2)))) (.sg 1 (.v 3))) (.sg 1 (.sub (.v 3) (.c 1)))) (.mul (.c 2) (.v 2)))))] [(.int .i64)] [(some (0, 30))] [] (.fs (.c 1) (.lit [(.v 4)]) (.need (.le (.add (.sl 1) (.sl 2)) (.c 1000000000000)) (.fs (.add (.sl 1) (.sl 2)) (.app 1 2) (.again 0 [(.add (.v 3) (.c 1))] [] [3] []))))))) (.ret [(.c (.sl 1))] []))))
def F362 : FT := ⟨.nrm, [.c (.int .i64 (some (3, 31))), .c (.int .i64 (some (0, 2000))), .c (.int .i64 (some (0, 30)))], [], 0, [(.sl 2 .i64 1)], T362⟩
theorem ok362 : FTOK cfg 362 F362 := ⟨callable_of Try.func362 (by decide +kernel) (by decide +kernel), by decide +kernel, Try.f362, fun r => if r = 3 then .inv ⟨[(7, some (0, 30), -1), (8, some (1, 2001), -1)], []⟩ else .unroll 12, Try.func362, by decide +kernel, ⟨by decide +kernel, by decide +kernel⟩⟩
/-- impl.spreadOf -/
def T196 : T := (.callG (.fc 362) [(.c (.int .i64 (.v 0))), (.c (.int .i64 (.v 1))), (.c (.int .i64 (.v 2)))] [(.sl 2 .i64 1)] [] [] [((some (0, 30)), 2002)] [] [] (.need (.lt (.v 1) (.sl 0)) (.ret [(.c (.int .i64 (.sg 0 (.v 1))))] [])))
def F196 : FT := ⟨.nrm, [.c (.int .i64 (some (3, 31))), .c (.int .i64 (some (0, 1001))), .c (.int .i64 (some (0, 30)))], [], 0, [(.int .i64)], T196⟩
theorem ok196 : FTOK cfg 196 F196 := ⟨callable_of Try.func196 (by decide +kernel) (by decide +kernel), by decide +kernel, Try.f196, fun _ => .unroll 12, Try.func196, by decide +kernel, ⟨by decide +kernel, by decide +kernel⟩⟩
/-- impl.orderOf -/
def T187 : T := (.callG (.fc 362) [(.c (.int .i64 (.v 0))), (.c (.int .i64 (.add (.mul (.mul (.c 2) (.v 0)) (.v 0)) (.c 2)))), (.c (.int .i64 (.v 1)))] [(.sl 2 .i64 1)] [] [] [((some (0, 30)), 2002)] [] [] (.loop [(.c 0), (.c 1)] [] [] [] [(some (0, 2000)), (some (1, 2001))] [] [] (.br (.lt (.add (.v 3) (.c 1)) (.sl 0)) (.need (.lt (.v 3) (.sl 0)) (.br (.not (.eq (.sg 0 (.v 3)) (.c 0))) (.again 0 [(.v 2), (.add (.v 3) (.c 1))] [] [] []) (.br (.eq (.v 2) (.c 0)) (.br (.eq (.sg 0 (.add (.v 3) (.c 1))) (.v 1)) (.ret [(.c (.int .i64 (.v 3))), (.c (.int .i64 (.v 3)))] []) (.again 0 [(.v 3), (.add (.v 3) (.c 1))] [] [] [])) (.br (.eq (.sg 0 (.add (.v 3) (.c 1))) (.v 1)) (.ret [(.c (.int .i64 (.v 2))), (.c (.int .i64 (.v 3)))] []) (.again 0 [(.v 2), (.add (.v 3) (.c 1))] [] [] []))))) (.ret [(.c (.int .i64 (.v 2))), (.c (.int .i64 (.c 0)))] []))))
def F187 : FT := ⟨.nrm, [.c (.int .i64 (some (3, 31))), .c (.int .i64 (some (0, 30)))], [], 0, [(.int .i64), (.int .i64)], T187⟩
theorem ok187 : FTOK cfg 187 F187 := ⟨callable_of Try.func187 (by decide +kernel) (by decide +kernel), by decide +kernel, Try.f187, fun r => if r = 4 then .inv ⟨[(7, some (0, 2000), -1), (8, some (1, 2001), -1)], []⟩ else .unroll 12, Try.func187, by decide +kernel, ⟨by decide +kernel, by decide +kernel⟩⟩
/-- impl.OrderOfSpread$1 -/
def T185 : T := (.callD (.fc 186) [(.c (.int .i64 (.v 0))), (.c (.int .i64 (.v 1)))] [.bool] [] [] (.ret [(.c (.bool (.v 0)))] []))
def F185 : FT := ⟨.nrm, [.ref 2 [(.int .i64 (some (3, 31)))], .ref 2 [(.int .i64 (none))]], [], 0, [.bool], T185⟩
theorem ok185 : FTOK cfg 185 F185 := ⟨callable_of Try.func185 (by decide +kernel) (by decide +kernel), by decide +kernel, Try.f185, fun _ => .unroll 12, Try.func185, by decide +kernel, ⟨by decide +kernel, by decide +kernel⟩⟩
/-- impl.PeriodOfSpread$1 -/
def T189 : T := (.callD (.fc 186) [(.c (.int .i64 (.v 0))), (.c (.int .i64 (.v 1)))] [.bool] [] [] (.ret [(.c (.bool (.v 0)))] []))
def F189 : FT := ⟨.nrm, [.ref 2 [(.int .i64 (some (3, 31)))], .ref 2 [(.int .i64 (none))]], [], 0, [.bool], T189⟩
theorem ok189 : FTOK cfg 189 F189 := ⟨callable_of Try.func189 (by decide +kernel) (by decide +kernel), by decide +kernel, Try.f189, fun _ => .unroll 12, Try.func189, by decide +kernel, ⟨by decide +kernel, by decide +kernel⟩⟩
/-- impl.OrderOfSpread -/
def T26 : T := (.blk (.blk (.clo 185 [(.c (.ptr 0 0)), (.c (.ptr 1 0))] (.callD (.fc 169) [(.c (.int .i64 (.v 0))), (.c (.fn 0))] [(.int .i64)] [none] [(.blk 1 2 [(.int .i64 (.v 1))] true), (.blk 0 2 [(.int .i64 (.v 0))] true)] (.br (.not (.eq (.v 2) (.c 0))) (.ret [(.c (.int .i64 (.c 0))), (.c (.int .i64 (.v 2)))] []) (.callD (.fc 187) [(.c (.int .i64 (.v 0))), (.c (.int .i64 (.v 1)))] [(.int .i64), (.int .i64)] [(some (0, 2000)), (some (0, 2000))] [] (.ret [(.c (.int .i64 (.v 3))), (.c (.int .i64 (.c 0)))] [])))))))
def F26 : FT := ⟨.nrm, [.c (.int .i64 (none)), .c (.int .i64 (none))], [], 0, [(.int .i64), (.int .i64)], T26⟩
theorem ok26 : FTOK cfg 26 F26 := ⟨callable_of Try.func26 (by decide +kernel) (by decide +kernel), by decide +kernel, Try.f26, fun _ => .unroll 12, Try.func26, by decide +kernel, ⟨by decide +kernel, by decide +kernel⟩⟩
/-- impl.PeriodOfSpread -/
def T28 : T := (.blk (.blk (.clo 189 [(.c (.ptr 0 0)), (.c (.ptr 1 0))] (.callD (.fc 169) [(.c (.int .i64 (.v 0))), (.c (.fn 0))] [(.int .i64)] [none] [(.blk 1 2 [(.int .i64 (.v 1))] true), (.blk 0 2 [(.int .i64 (.v 0))] true)] (.br (.not (.eq (.v 2) (.c 0))) (.ret [(.c (.int .i64 (.c 0))), (.c (.int .i64 (.v 2)))] []) (.callD (.fc 187) [(.c (.int .i64 (.v 0))), (.c (.int .i64 (.v 1)))] [(.int .i64), (.int .i64)] [(some (0, 2000)), (some (0, 2000))] [] (.ret [(.c (.int .i64 (.v 4))), (.c (.int .i64 (.c 0)))] [])))))))
def F28 : FT := ⟨.nrm, [.c (.int .i64 (none)), .c (.int .i64 (none))], [], 0, [(.int .i64), (.int .i64)], T28⟩
theorem ok28 : FTOK cfg 28 F28 := ⟨callable_of Try.func28 (by decide +kernel) (by decide +kernel), by decide +kernel, Try.f28, fun _ => .unroll 12, Try.func28, by decide +kernel, ⟨by decide +kernel, by decide +kernel⟩⟩
/-- impl.SpreadsOfOrder$1 -/
def T191 : T := (.br (.le (.c 1) (.v 0)) (.ret [(.c (.bool (.le (.v 0) (.c 1000))))] []) (.ret [(.c (.bool (.c false)))] []))
def F191 : FT := ⟨.nrm, [.ref 2 [(.int .i64 (none))]], [], 0, [.bool], T191⟩
theorem ok191 : FTOK cfg 191 F191 := ⟨callable_of Try.func191 (by decide +kernel) (by decide +kernel), by decide +kernel, Try.f191, fun _ => .unroll 12, Try.func191, by decide +kernel, ⟨by decide +kernel, by decide +kernel⟩⟩
/-- impl.SpreadsOfOrder$2 -/
def T193 : T := (.callD (.fc 187) [(.c (.int .i64 (.v 1))), (.c (.int .i64 (.v 0)))] [(.int .i64), (.int .i64)] [(some (0, 2000)), (some (0, 2000))] [] (.ret [(.c (.bool (.eq (.v 3) (.v 2))))] []))
def F193 : FT := ⟨.nrm, [.c (.int .i64 (some (0, 30))), .ref 2 [(.int .i64 (some (3, 31)))], .ref 2 [(.int .i64 (none))]], [], 0, [.bool], T193⟩
theorem ok193 : FTOK cfg 193 F193 := ⟨callable_of Try.func193 (by decide +kernel) (by decide +kernel), by decide +kernel, Try.f193, fun _ => .unroll 12, Try.func193, by decide +kernel, ⟨by decide +kernel, by decide +kernel⟩⟩
/-- impl.numbersWith -/
def T192 : T := (.fs (.c 0) (.lit []) (.loop [(.c 0)] [] [0] [] [(some (0, 31))] [((some (0, 30)), (-1))] [] (.br (.lt (.v 1) (.v 0)) (.callD (.fn 0) [(.c (.int .i64 (.v 1)))] [.bool] [] [(.isl 1 2 .i64 1 true)] (.br (.v 0) (.fs (.c 1) (.lit [(.v 1)]) (.need (.le (.add (.sl 1) (.sl 2)) (.c 1000000000000)) (.fs (.add (.sl 1) (.sl 2)) (.app 1 2) (.again 0 [(.add (.v 1) (.c 1))] [] [3] [])))) (.again 0 [(.add (.v 1) (.c 1))] [] [1] []))) (.ret [(.c (.sl 1))] []))))
def F192 : FT := ⟨.nrm, [.c (.int .i64 (some (3, 31))), .c .fn], [], 0, [(.sl 2 .i64 1)], T192⟩
theorem ok192 : FTOK cfg 192 F192 := ⟨callable_of Try.func192 (by decide +kernel) (by decide +kernel), by decide +kernel, Try.f192, fun r => if r = 3 then .inv ⟨[(5, some (0, 30), -1), (6, some (0, 31), -1)], []⟩ else .unroll 12, Try.func192, by decide +kernel, ⟨by decide +kernel, by decide +kernel⟩⟩
/-- impl.SpreadsOfOrder -/
def T30 : T := (.blk (.blk (.clo 191 [(.c (.ptr 1 0))] (.callD (.fc 169) [(.c (.int .i64 (.v 0))), (.c (.fn 0))] [(.int .i64)] [none] [(.blk 1 2 [(.int .i64 (.v 1))] true), (.blk 0 2 [(.int .i64 (.v 0))] true)] (.br (.not (.eq (.v 2) (.c 0))) (.ret [(.c .nsl), (.c (.int .i64 (.v 2)))] []) (.clo 193 [(.c (.ptr 0 0)), (.c (.ptr 1 0))] (.callG (.fc 192) [(.c (.int .i64 (.v 0))), (.c (.fn 1))] [(.sl 2 .i64 1)] [] [] [((some (0, 30)), 32)] [] [(.blk 1 2 [(.int .i64 (.v 1))] true), (.blk 0 2 [(.int .i64 (.v 0))] true)] (.ret [(.c (.sl 0)), (.c (.int .i64 (.c 0)))] []))))))))
def F30 : FT := ⟨.nrm, [.c (.int .i64 (none)), .c (.int .i64 (none))], [], 0, [(.sl 2 .i64 1), (.int .i64)], T30⟩
theorem ok30 : FTOK cfg 30 F30 := ⟨callable_of Try.func30 (by decide +kernel) (by decide +kernel), by decide +kernel, Try.f30, fun _ => .unroll 12, Try.func30, by decide +kernel, ⟨by decide +kernel, by decide +kernel⟩⟩
/-- impl.SpreadPolynomial$1 -/
def T194 : T := (.callD (.fc 186) [(.c (.int .i64 (.v 0))), (.c (.int .i64 (.v 1)))] [.bool] [] [] (.br (.v 0) (.callD (.fc 195) [(.c (.int .i64 (.v 2)))] [.bool] [] [] (.ret [(.c (.bool (.v 1)))] [])) (.ret [(.c (.bool (.c false)))] [])))
def F194 : FT := ⟨.nrm, [.ref 2 [(.int .i64 (some (3, 31)))], .ref 2 [(.int .i64 (none))], .ref 2 [(.int .i64 (none))]], [], 0, [.bool], T194⟩
theorem ok194 : FTOK cfg 194 F194 := ⟨callable_of Try.func194 (by decide +kernel) (by decide +kernel), by decide +kernel, Try.f194, fun _ => .unroll 12, Try.func194, by decide +kernel, ⟨by decide +kernel, by decide +kernel⟩⟩
/-- impl.SpreadPolynomial -/
def T31 : T := (.blk (.blk (.blk (.clo 194 [(.c (.ptr 0 0)), (.c (.ptr 2 0)), (.c (.ptr 1 0))] (.callD (.fc 169) [(.c (.int .i64 (.v 0))), (.c (.fn 0))] [(.int .i64)] [none] [(.blk 2 2 [(.int .i64 (.v 2))] true), (.blk 1 2 [(.int .i64 (.v 1))] true), (.blk 0 2 [(.int .i64 (.v 0))] true)] (.br (.not (.eq (.v 3) (.c 0))) (.ret [(.c (.int .i64 (.c 0))), (.c (.int .i64 (.v 3)))] []) (.callD (.fc 196) [(.c (.int .i64 (.v 0))), (.c (.int .i64 (.v 1))), (.c (.int .i64 (.v 2)))] [(.int .i64)] [(some (0, 30))] [] (.ret [(.c (.int .i64 (.v 4))), (.c (.int .i64 (.c 0)))] []))))))))
def F31 : FT := ⟨.nrm, [.c (.int .i64 (none)), .c (.int .i64 (none)), .c (.int .i64 (none))], [], 0, [(.int .i64), (.int .i64)], T31⟩
theorem ok31 : FTOK cfg 31 F31 := ⟨callable_of Try.func31 (by decide +kernel) (by decide +kernel), by decide +kernel, Try.f31, fun _ => .unroll 12, Try.func31, by decide +kernel, ⟨by decide +kernel, by decide +kernel⟩⟩
/-- impl.OrdersOf -/
def T34 : T := (.callD (.fc 200) [(.c (.int .i64 (.v 0)))] [.bool] [] [] (.br (.not (.v 0)) (.ret [(.c .nsl), (.c .nsl), (.c (.int .i64 (.c 1)))] []) (.need (.le (.c (-9223372036854775808)) (.mul (.c 2) (.v 0))) (.need (.le (.mul (.c 2) (.v 0)) (.c 9223372036854775807)) (.need (.le (.c (-9223372036854775808)) (.mul (.mul (.c 2) (.v 0)) (.v 0))) (.need (.le (.mul (.mul (.c 2) (.v 0)) (.v 0)) (.c 9223372036854775807)) (.need (.le (.c (-9223372036854775808)) (.add (.mul (.mul (.c 2) (.v 0)) (.v 0)) (.c 3))) (.need (.le (.add (.mul (.mul (.c 2) (.v 0)) (.v 0)) (.c 3)) (.c 9223372036854775807)) (.need (.le (.c 0) (.add (.mul (.mul (.c 2) (.v 0)) (.v 0)) (.c 3))) (.need (.le (.add (.mul (.mul (.c 2) (.v 0)) (.v 0)) (.c 3)) (.c 1048576)) (.fs (.add (.mul (.mul (.c 2) (.v 0)) (.v 0)) (.c 3)) (.rep (.add (.mul (.mul (.c 2) (.v 0)) (.v 0)) (.c 3)) 1) (.loop [(.c 0)] [] [0] [] [(some (0, 31))] [((some (0, 40)), 2000)] [] (.br (.lt (.v 1) (.v 0)) (.callD (.fc 187) [(.c (.int .i64 (.v 0))), (.c (.int .i64 (.v 1)))] [(.int .i64), (.int .i64)] [(some (0, 2000)), (some (0, 2000))] [] (.need (.lt (.v 2) (.sl 1)) (.set 1 (.v 2) [(.add (.sg 1 (.v 2)) (.c 1))] (.again 0 [(.add (.v 1) (.c 1))] [] [2] [])))) (.fs (.c 0) (.lit []) (.fs (.c 0) (.lit []) (.loop [(.c 0)] [] [2, 3] [] [(some (0, 2000))] [((some (0, 2000)), (-1)), ((some (0, 40)), (-1))] [] (.br (.lt (.v 2) (.sl 1)) (.br (.lt (.c 0) (.sg 1 (.v 2))) (.fs (.c 1) (.lit [(.v 2)]) (.need (.le (.add (.sl 4) (.sl 6)) (.c 1000000000000)) (.fs (.add (.sl 4) (.sl 6)) (.app 4 6) (.fs (.c 1) (.lit [(.sg 1 (.v 2))]) (.need (.le (.add (.sl 5) (.sl 8)) (.c 1000000000000)) (.fs (.add (.sl 5) (.sl 8)) (.app 5 8) (.again 1 [(.add (.v 2) (.c 1))] [] [7, 9] []))))))) (.again 1 [(.add (.v 2) (.c 1))] [] [4, 5] [])) (.ret [(.c (.sl 4)), (.c (.sl 5)), (.c (.int .i64 (.c 0)))] []))))))))))))))))))
def F34 : FT := ⟨.nrm, [.c (.int .i64 (none))], [], 0, [(.sl 2 .i64 1), (.sl 2 .i64 1), (.int .i64)], T34⟩
theorem ok34 : FTOK cfg 34 F34 := ⟨callable_of Try.func34 (by decide +kernel) (by decide +kernel), by decide +kernel, Try.f34, fun r => if r = 5 then .inv ⟨[(5, some (0, 40), 2000), (6, some (0, 31), -1)], []⟩ else if r = 11 then .inv ⟨[(9, some (0, 2000), -1), (10, some (0, 40), -1), (43, some (0, 2000), -1)], []⟩ else .unroll 12, Try.func34, by decide +kernel, ⟨by decide +kernel, by decide +kernel⟩⟩
/-- impl.WalkRound$1 -/
def T202 : T := (.callD (.fc 186) [(.c (.int .i64 (.v 0))), (.c (.int .i64 (.v 1)))] [.bool] [] [] (.br (.v 0) (.callD (.fc 195) [(.c (.int .i64 (.v 2)))] [.bool] [] [] (.ret [(.c (.bool (.v 1)))] [])) (.ret [(.c (.bool (.c false)))] [])))
def F202 : FT := ⟨.nrm, [.ref 2 [(.int .i64 (some (3, 31)))], .ref 2 [(.int .i64 (none))], .ref 2 [(.int .i64 (none))]], [], 0, [.bool], T202⟩
theorem ok202 : FTOK cfg 202 F202 := ⟨callable_of Try.func202 (by decide +kernel) (by decide +kernel), by decide +kernel, Try.f202, fun _ => .unroll 12, Try.func202, by decide +kernel, ⟨by decide +kernel, by decide +kernel⟩⟩
/-- impl.WalkOf$1 -/
def T205 : T := (.callD (.fc 186) [(.c (.int .i64 (.v 0))), (.c (.int .i64 (.v 1)))] [.bool] [] [] (.br (.v 0) (.callD (.fc 195) [(.c (.int .i64 (.v 2)))] [.bool] [] [] (.br (.v 1) (.br (.le (.c 0) (.v 3)) (.ret [(.c (.bool (.le (.v 3) (.c 100))))] []) (.ret [(.c (.bool (.c false)))] [])) (.ret [(.c (.bool (.c false)))] []))) (.ret [(.c (.bool (.c false)))] [])))
def F205 : FT := ⟨.nrm, [.ref 2 [(.int .i64 (some (3, 31)))], .ref 2 [(.int .i64 (none))], .ref 2 [(.int .i64 (none))], .ref 2 [(.int .i64 (none))]], [], 0, [.bool], T205⟩
theorem ok205 : FTOK cfg 205 F205 := ⟨callable_of Try.func205 (by decide +kernel) (by decide +kernel), by decide +kernel, Try.f205, fun _ => .unroll 12, Try.func205, by decide +kernel, ⟨by decide +kernel, by decide +kernel⟩⟩
/-- impl.valuesOf -/
def T363 : T := (.fs (.c 0) (.lit []) (.loop [(.c 0)] [] [0] [] [(some (0, 31))] [((some (0, 30)), (-1))] [] (.br (.lt (.v 2) (.v 0)) (.callD (.fc 196) [(.c (.int .i64 (.v 0))), (.c (.int .i64 (.v 1))), (.c (.int .i64 (.v 2)))] [(.int .i64)] [(some (0, 30))] [] (.fs (.c 1) (.lit [(.v 3)]) (.need (.le (.add (.sl 1) (.sl 2)) (.c 1000000000000)) (.fs (.add (.sl 1) (.sl 2)) (.app 1 2) (.again 0 [(.add (.v 2) (.c 1))] [] [3] []))))) (.ret [(.c (.sl 1))] []))))
def F363 : FT := ⟨.nrm, [.c (.int .i64 (some (3, 31))), .c (.int .i64 (some (0, 1000)))], [], 0, [(.sl 2 .i64 1)], T363⟩
theorem ok363 : FTOK cfg 363 F363 := ⟨callable_of Try.func363 (by decide +kernel) (by decide +kernel), by decide +kernel, Try.f363, fun r => if r = 3 then .inv ⟨[(5, some (0, 30), -1), (6, some (0, 31), -1)], []⟩ else .unroll 12, Try.func363, by decide +kernel, ⟨by decide +kernel, by decide +kernel⟩⟩
/-- impl.walk -/
def T203 : T := (.callG (.fc 363) [(.c (.int .i64 (.v 0))), (.c (.int .i64 (.v 1)))] [(.sl 2 .i64 1)] [] [] [((some (0, 30)), 32)] [] [] (.fs (.c 1) (.lit [(.v 2)]) (.loop [(.v 2), (.v 3)] [] [1] [] [(some (0, 30)), (some (0, 200))] [((some (0, 30)), (-1))] [] (.br (.lt (.c 0) (.v 5)) (.need (.lt (.v 4) (.sl 0)) (.fs (.c 1) (.lit [(.sg 0 (.v 4))]) (.need (.le (.add (.sl 2) (.sl 3)) (.c 1000000000000)) (.fs (.add (.sl 2) (.sl 3)) (.app 2 3) (.again 0 [(.sg 0 (.v 4)), (.sub (.v 5) (.c 1))] [] [4] []))))) (.ret [(.c (.sl 2))] [])))))
def F203 : FT := ⟨.nrm, [.c (.int .i64 (some (3, 31))), .c (.int .i64 (some (0, 1000))), .c (.int .i64 (some (0, 30))), .c (.int .i64 (some (0, 200)))], [], 0, [(.sl 2 .i64 1)], T203⟩
theorem ok203 : FTOK cfg 203 F203 := ⟨callable_of Try.func203 (by decide +kernel) (by decide +kernel), by decide +kernel, Try.f203, fun r => if r = 3 then .inv ⟨[(2, some (0, 30), -1), (3, some (0, 200), -1), (10, some (0, 30), -1)], []⟩ else .unroll 12, Try.func203, by decide +kernel, ⟨by decide +kernel, by decide +kernel⟩⟩
/-- impl.WalkRound -/
def T39 : T := (.blk (.blk (.blk (.clo 202 [(.c (.ptr 0 0)), (.c (.ptr 2 0)), (.c (.ptr 1 0))] (.callD (.fc 169) [(.c (.int .i64 (.v 0))), (.c (.fn 0))] [(.int .i64)] [none] [(.blk 2 2 [(.int .i64 (.v 2))] true), (.blk 1 2 [(.int .i64 (.v 1))] true), (.blk 0 2 [(.int .i64 (.v 0))] true)] (.br (.not (.eq (.v 3) (.c 0))) (.ret [(.c (.int .i64 (.c 0))), (.c (.int .i64 (.c 0))), (.c (.int .i64 (.v 3)))] []) (.need (.le (.c (-9223372036854775808)) (.mul (.c 2) (.v 0))) (.need (.le (.mul (.c 2) (.v 0)) (.c 9223372036854775807)) (.need (.le (.c (-9223372036854775808)) (.add (.mul (.c 2) (.v 0)) (.c 2))) (.need (.le (.add (.mul (.c 2) (.v 0)) (.c 2)) (.c 9223372036854775807)) (.callG (.fc 203) [(.c (.int .i64 (.v 0))), (.c (.int .i64 (.v 1))), (.c (.int .i64 (.v 2))), (.c (.int .i64 (.add (.mul (.c 2) (.v 0)) (.c 2))))] [(.sl 2 .i64 1)] [] [] [((some (0, 30)), 300)] [] [] (.loop [(.c 0)] [] [] [] [(some (0, 300))] [] [] (.br (.lt (.v 4) (.sl 0)) (.loop [(.add (.v 4) (.c 1))] [] [] [] [(some (0, 300))] [] [] (.br (.lt (.v 5) (.sl 0)) (.br (.eq (.sg 0 (.v 5)) (.sg 0 (.v 4))) (.ret [(.c (.int .i64 (.v 4))), (.c (.int .i64 (.sub (.v 5) (.v 4)))), (.c (.int .i64 (.c 0)))] []) (.again 1 [(.add (.v 5) (.c 1))] [] [] [])) (.again 0 [(.add (.v 4) (.c 1))] [] [] []))) (.ret [(.c (.int .i64 (.c 0))), (.c (.int .i64 (.c 0))), (.c (.int .i64 (.c 0)))] []))))))))))))))
def F39 : FT := ⟨.nrm, [.c (.int .i64 (none)), .c (.int .i64 (none)), .c (.int .i64 (none))], [], 0, [(.int .i64), (.int .i64), (.int .i64)], T39⟩
theorem ok39 : FTOK cfg 39 F39 := ⟨callable_of Try.func39 (by decide +kernel) (by decide +kernel), by decide +kernel, Try.f39, fun r => if r = 6 then .inv ⟨[(28, some (0, 300), -1)], []⟩ else if r = 9 then .inv ⟨[(12, some (0, 300), -1)], []⟩ else .unroll 12, Try.func39, by decide +kernel, ⟨by decide +kernel, by decide +kernel⟩⟩
/-- impl.WalkOf -/
def T41 : T := (.blk (.blk (.blk (.blk (.clo 205 [(.c (.ptr 0 0)), (.c (.ptr 2 0)), (.c (.ptr 1 0)), (.c (.ptr 3 0))] (.callD (.fc 169) [(.c (.int .i64 (.v 0))), (.c (.fn 0))] [(.int .i64)] [none] [(.blk 3 2 [(.int .i64 (.v 3))] true), (.blk 2 2 [(.int .i64 (.v 2))] true), (.blk 1 2 [(.int .i64 (.v 1))] true), (.blk 0 2 [(.int .i64 (.v 0))] true)] (.br (.not (.eq (.v 4) (.c 0))) (.ret [(.c .nsl), (.c (.int .i64 (.v 4)))] []) (.callG (.fc 203) [(.c (.int .i64 (.v 0))), (.c (.int .i64 (.v 1))), (.c (.int .i64 (.v 2))), (.c (.int .i64 (.v 3)))] [(.sl 2 .i64 1)] [] [] [((some (0, 30)), 300)] [] [] (.ret [(.c (.sl 0)), (.c (.int .i64 (.c 0)))] [])))))))))
def F41 : FT := ⟨.nrm, [.c (.int .i64 (none)), .c (.int .i64 (none)), .c (.int .i64 (none)), .c (.int .i64 (none))], [], 0, [(.sl 2 .i64 1), (.int .i64)], T41⟩
theorem ok41 : FTOK cfg 41 F41 := ⟨callable_of Try.func41 (by decide +kernel) (by decide +kernel), by decide +kernel, Try.f41, fun _ => .unroll 12, Try.func41, by decide +kernel, ⟨by decide +kernel, by decide +kernel⟩⟩
/-- spec.l05Value -/
def T190 : T := (.loop [(.v 1), (.c 0), (.v 2)] [] [] [] [(some (0, 1000000)), (some (0, 30)), (some (0, 30))] [] [] (.br (.lt (.c 0) (.v 3)) (.callD (.fc 176) [(.c (.int .i64 (.add (.sub (.mul (.rem (.mul (.c 2) (.sub (.c 1) (.mul (.c 2) (.v 2)))) (.v 0)) (.v 5)) (.v 4)) (.mul (.c 2) (.v 2))))), (.c (.int .i64 (.v 0)))] [(.int .i64)] [(some (0, 30))] [] (.again 0 [(.sub (.v 3) (.c 1)), (.v 5), (.v 6)] [] [] [])) (.ret [(.c (.int .i64 (.v 4)))] [])))
def F190 : FT := ⟨.nrm, [.c (.int .i64 (some (3, 31))), .c (.int .i64 (some (0, 1000000))), .c (.int .i64 (some (0, 30)))], [], 0, [(.int .i64)], T190⟩
theorem ok190 : FTOK cfg 190 F190 := ⟨callable_of Try.func190 (by decide +kernel) (by decide +kernel), by decide +kernel, Try.f190, fun r => if r = 2 then .inv ⟨[(1, some (0, 1000000), -1), (7, some (0, 30), -1), (8, some (0, 30), -1)], []⟩ else .unroll 12, Try.func190, by decide +kernel, ⟨by decide +kernel, by decide +kernel⟩⟩
/-- spec.l05Order -/
def T188 : T := (.loop [(.c 1)] [] [] [] [(some (1, 2000))] [] [] (.callD (.fc 190) [(.c (.int .i64 (.v 0))), (.c (.int .i64 (.v 2))), (.c (.int .i64 (.v 1)))] [(.int .i64)] [(some (0, 30))] [] (.br (.not (.eq (.v 3) (.c 0))) (.again 0 [(.add (.v 2) (.c 1))] [] [] []) (.ret [(.c (.int .i64 (.v 2)))] []))))
def F188 : FT := ⟨.nrm, [.c (.int .i64 (some (3, 31))), .c (.int .i64 (some (0, 30)))], [], 0, [(.int .i64)], T188⟩
theorem ok188 : FTOK cfg 188 F188 := ⟨callable_of Try.func188 (by decide +kernel) (by decide +kernel), by decide +kernel, Try.f188, fun r => if r = 2 then .inv ⟨[(5, some (1, 2000), -1)], []⟩ else .unroll 12, Try.func188, by decide +kernel, ⟨by decide +kernel, by decide +kernel⟩⟩
/-- spec.l05Code -/
def T204 : T := (.callD (.fc 167) [(.c (.int .i64 (.v 0))), (.c (.sl 0))] [(.int .i64)] [none] [(.isl 0 2 .i64 1 false)] (.br (.eq (.v 2) (.c 0)) (.callD (.fc 207) [(.c (.int .i64 (.v 1))), (.c (.int .i64 (.c 0))), (.c (.int .i64 (.c 1000)))] [.bool] [] [] (.br (.not (.v 0)) (.ret [(.c (.int .i64 (.c 2)))] []) (.ret [(.c (.int .i64 (.v 2)))] []))) (.ret [(.c (.int .i64 (.v 2)))] [])))
def F204 : FT := ⟨.nrm, [.c (.int .i64 (none)), .c (.int .i64 (none)), .c (.sl 2 .i64 1 (none) (1048576))], [], 0, [(.int .i64)], T204⟩
theorem ok204 : FTOK cfg 204 F204 := ⟨callable_of Try.func204 (by decide +kernel) (by decide +kernel), by decide +kernel, Try.f204, fun _ => .unroll 12, Try.func204, by decide +kernel, ⟨by decide +kernel, by decide +kernel⟩⟩
/-- spec.OrderOfSpread -/
def T27 : T := (.fs (.c 1) (.lit [(.v 1)]) (.callD (.fc 167) [(.c (.int .i64 (.v 0))), (.c (.sl 0))] [(.int .i64)] [none] [(.isl 0 2 .i64 1 true)] (.br (.not (.eq (.v 2) (.c 0))) (.ret [(.c (.int .i64 (.c 0))), (.c (.int .i64 (.v 2)))] []) (.callD (.fc 188) [(.c (.int .i64 (.v 0))), (.c (.int .i64 (.v 1)))] [(.int .i64)] [(some (1, 2000))] [] (.ret [(.c (.int .i64 (.v 3))), (.c (.int .i64 (.c 0)))] [])))))
def F27 : FT := ⟨.nrm, [.c (.int .i64 (none)), .c (.int .i64 (none))], [], 0, [(.int .i64), (.int .i64)], T27⟩
theorem ok27 : FTOK cfg 27 F27 := ⟨callable_of Try.func27 (by decide +kernel) (by decide +kernel), by decide +kernel, Try.f27, fun _ => .unroll 12, Try.func27, by decide +kernel, ⟨by decide +kernel, by decide +kernel⟩⟩
/-- spec.PeriodOfSpread -/
def T29 : T := (.fs (.c 1) (.lit [(.v 1)]) (.callD (.fc 167) [(.c (.int .i64 (.v 0))), (.c (.sl 0))] [(.int .i64)] [none] [(.isl 0 2 .i64 1 true)] (.br (.not (.eq (.v 2) (.c 0))) (.ret [(.c (.int .i64 (.c 0))), (.c (.int .i64 (.v 2)))] []) (.loop [(.c 1)] [] [] [] [(some (1, 2000))] [] [] (.callD (.fc 190) [(.c (.int .i64 (.v 0))), (.c (.int .i64 (.v 3))), (.c (.int .i64 (.v 1)))] [(.int .i64)] [(some (0, 30))] [] (.br (.not (.eq (.v 4) (.c 0))) (.again 0 [(.add (.v 3) (.c 1))] [] [] []) (.callD (.fc 190) [(.c (.int .i64 (.v 0))), (.c (.int .i64 (.add (.v 3) (.c 1)))), (.c (.int .i64 (.v 1)))] [(.int .i64)] [(some (0, 30))] [] (.br (.not (.eq (.v 5) (.v 1))) (.again 0 [(.add (.v 3) (.c 1))] [] [] []) (.ret [(.c (.int .i64 (.v 3))), (.c (.int .i64 (.c 0)))] [])))))))))
def F29 : FT := ⟨.nrm, [.c (.int .i64 (none)), .c (.int .i64 (none))], [], 0, [(.int .i64), (.int .i64)], T29⟩
theorem ok29 : FTOK cfg 29 F29 := ⟨callable_of Try.func29 (by decide +kernel) (by decide +kernel), by decide +kernel, Try.f29, fun r => if r = 5 then .inv ⟨[(7, some (1, 2000), -1)], []⟩ else .unroll 12, Try.func29, by decide +kernel, ⟨by decide +kernel, by decide +kernel⟩⟩
/-- spec.SpreadsOfOrder -/
def T45 : T := (.callD (.fc 204) [(.c (.int .i64 (.v 0))), (.c (.int .i64 (.v 1))), (.c .nsl)] [(.int .i64)] [none] [] (.br (.eq (.v 2) (.c 0)) (.br (.lt (.v 1) (.c 1)) (.ret [(.c .nsl), (.c (.int .i64 (.c 2)))] []) (.fs (.c 0) (.lit []) (.loop [(.c 0)] [] [0] [] [(some (0, 31))] [((some (0, 30)), (-1))] [] (.br (.lt (.v 3) (.v 0)) (.callD (.fc 188) [(.c (.int .i64 (.v 0))), (.c (.int .i64 (.v 3)))] [(.int .i64)] [(some (1, 2000))] [] (.br (.eq (.v 4) (.v 1)) (.fs (.c 1) (.lit [(.v 3)]) (.need (.le (.add (.sl 1) (.sl 2)) (.c 1000000000000)) (.fs (.add (.sl 1) (.sl 2)) (.app 1 2) (.again 0 [(.add (.v 3) (.c 1))] [] [3] [])))) (.again 0 [(.add (.v 3) (.c 1))] [] [1] []))) (.ret [(.c (.sl 1)), (.c (.int .i64 (.c 0)))] []))))) (.ret [(.c .nsl), (.c (.int .i64 (.v 2)))] [])))
def F45 : FT := ⟨.nrm, [.c (.int .i64 (none)), .c (.int .i64 (none))], [], 0, [(.sl 2 .i64 1), (.int .i64)], T45⟩
theorem ok45 : FTOK cfg 45 F45 := ⟨callable_of Try.func45 (by decide +kernel) (by decide +kernel), by decide +kernel, Try.f45, fun r => if r = 8 then .inv ⟨[(7, some (0, 30), -1), (8, some (0, 31), -1)], []⟩ else .unroll 12, Try.func45, by decide +kernel, ⟨by decide +kernel, by decide +kernel⟩⟩
/-- spec.OrdersOf -/
def T35 : T := (.callD (.fc 167) [(.c (.int .i64 (.v 0))), (.c .nsl)] [(.int .i64)] [none] [] (.br (.not (.eq (.v 1) (.c 0))) (.ret [(.c .nsl), (.c .nsl), (.c (.int .i64 (.v 1)))] []) (.need (.le (.c (-9223372036854775808)) (.mul (.c 4) (.v 0))) (.need (.le (.mul (.c 4) (.v 0)) (.c 9223372036854775807)) (.need (.le (.c (-9223372036854775808)) (.add (.mul (.c 4) (.v 0)) (.c 4))) (.need (.le (.add (.mul (.c 4) (.v 0)) (.c 4)) (.c 9223372036854775807)) (.need (.le (.c 0) (.add (.mul (.c 4) (.v 0)) (.c 4))) (.need (.le (.add (.mul (.c 4) (.v 0)) (.c 4)) (.c 1048576)) (.fs (.add (.mul (.c 4) (.v 0)) (.c 4)) (.rep (.add (.mul (.c 4) (.v 0)) (.c 4)) 1) (.loop [(.c 0)] [] [0] [] [(some (0, 31))] [((some (0, 40)), 200)] [] (.br (.lt (.v 2) (.v 0)) (.callD (.fc 188) [(.c (.int .i64 (.v 0))), (.c (.int .i64 (.v 2)))] [(.int .i64)] [(some (1, 2000))] [] (.need (.lt (.v 3) (.sl 1)) (.set 1 (.v 3) [(.add (.sg 1 (.v 3)) (.c 1))] (.again 0 [(.add (.v 2) (.c 1))] [] [2] [])))) (.fs (.c 0) (.lit []) (.fs (.c 0) (.lit []) (.loop [(.c 1)] [] [2, 3] [] [(some (0, 2000))] [((some (0, 2000)), (-1)), ((some (0, 40)), (-1))] [] (.br (.lt (.v 3) (.sl 1)) (.br (.lt (.c 0) (.sg 1 (.v 3))) (.fs (.c 1) (.lit [(.v 3)]) (.need (.le (.add (.sl 4) (.sl 6)) (.c 1000000000000)) (.fs (.add (.sl 4) (.sl 6)) (.app 4 6) (.fs (.c 1) (.lit [(.sg 1 (.v 3))]) (.need (.le (.add (.sl 5) (.sl 8)) (.c 1000000000000)) (.fs (.add (.sl 5) (.sl 8)) (.app 5 8) (.again 1 [(.add (.v 3) (.c 1))] [] [7, 9] []))))))) (.again 1 [(.add (.v 3) (.c 1))] [] [4, 5] [])) (.ret [(.c (.sl 4)), (.c (.sl 5)), (.c (.int .i64 (.c 0)))] []))))))))))))))))
def F35 : FT := ⟨.nrm, [.c (.int .i64 (none))], [], 0, [(.sl 2 .i64 1), (.sl 2 .i64 1), (.int .i64)], T35⟩
theorem ok35 : FTOK cfg 35 F35 := ⟨callable_of Try.func35 (by decide +kernel) (by decide +kernel), by decide +kernel, Try.f35, fun r => if r = 6 then .inv ⟨[(6, some (0, 40), 200), (7, some (0, 31), -1)], []⟩ else if r = 11 then .inv ⟨[(8, some (0, 2000), -1), (9, some (0, 40), -1), (10, some (0, 2000), -1)], []⟩ else .unroll 12, Try.func35, by decide +kernel, ⟨by decide +kernel, by decide +kernel⟩⟩
/-- spec.WalkRound -/
def T40 : T := (.fs (.c 1) (.lit [(.v 2)]) (.callD (.fc 204) [(.c (.int .i64 (.v 0))), (.c (.int .i64 (.v 1))), (.c (.sl 0))] [(.int .i64)] [none] [(.isl 0 2 .i64 1 true)] (.br (.not (.eq (.v 3) (.c 0))) (.ret [(.c (.int .i64 (.c 0))), (.c (.int .i64 (.c 0))), (.c (.int .i64 (.v 3)))] []) (.need (.le (.c 0) (.v 0)) (.need (.le (.v 0) (.c 1048576)) (.fs (.v 0) (.rep (.v 0) 1) (.loop [(.c 0)] [] [1] [] [(some (0, 31))] [((some ((-1), 40)), 31)] [] (.br (.lt (.v 4) (.sl 1)) (.need (.lt (.v 4) (.sl 2)) (.set 2 (.v 4) [(.c (-1))] (.again 0 [(.add (.v 4) (.c 1))] [] [3] []))) (.loop [(.v 2), (.c 0)] [] [2] [] [(some (0, 30)), (some (0, 40))] [((some ((-1), 40)), 31)] [] (.need (.lt (.v 5) (.sl 3)) (.br (.lt (.sg 3 (.v 5)) (.c 0)) (.set 3 (.v 5) [(.v 6)] (.callD (.fc 190) [(.c (.int .i64 (.v 0))), (.c (.int .i64 (.v 1))), (.c (.int .i64 (.v 5)))] [(.int .i64)] [(some (0, 30))] [] (.again 1 [(.v 7), (.add (.v 6) (.c 1))] [] [4] []))) (.ret [(.c (.int .i64 (.sg 3 (.v 5)))), (.c (.int .i64 (.sub (.v 6) (.sg 3 (.v 5))))), (.c (.int .i64 (.c 0)))] []))))))))))))
def F40 : FT := ⟨.nrm, [.c (.int .i64 (none)), .c (.int .i64 (none)), .c (.int .i64 (none))], [], 0, [(.int .i64), (.int .i64), (.int .i64)], T40⟩
theorem ok40 : FTOK cfg 40 F40 := ⟨callable_of Try.func40 (by decide +kernel) (by decide +kernel), by decide +kernel, Try.f40, fun r => if r = 6 then .inv ⟨[(10, some (-1, 40), 31), (25, some (0, 31), -1)], []⟩ else if r = 11 then .inv ⟨[(2, some (0, 30), -1), (10, some (-1, 40), 31), (12, some (0, 40), -1)], []⟩ else .unroll 12, Try.func40, by decide +kernel, ⟨by decide +kernel, by decide +kernel⟩⟩
/-- spec.WalkOf -/
def T43 : T := (.fs (.c 1) (.lit [(.v 2)]) (.callD (.fc 204) [(.c (.int .i64 (.v 0))), (.c (.int .i64 (.v 1))), (.c (.sl 0))] [(.int .i64)] [none] [(.isl 0 2 .i64 1 true)] (.br (.eq (.v 4) (.c 0)) (.callD (.fc 207) [(.c (.int .i64 (.v 3))), (.c (.int .i64 (.c 0))), (.c (.int .i64 (.c 100)))] [.bool] [] [] (.br (.not (.v 0)) (.ret [(.c .nsl), (.c (.int .i64 (.c 2)))] []) (.fs (.c 1) (.lit [(.v 2)]) (.loop [(.v 2), (.v 3)] [] [1] [] [(some (0, 30)), (some (0, 200))] [((some (0, 30)), (-1))] [] (.br (.lt (.c 0) (.v 6)) (.callD (.fc 190) [(.c (.int .i64 (.v 0))), (.c (.int .i64 (.v 1))), (.c (.int .i64 (.v 5)))] [(.int .i64)] [(some (0, 30))] [] (.fs (.c 1) (.lit [(.v 7)]) (.need (.le (.add (.sl 2) (.sl 3)) (.c 1000000000000)) (.fs (.add (.sl 2) (.sl 3)) (.app 2 3) (.again 0 [(.v 7), (.sub (.v 6) (.c 1))] [] [4] []))))) (.ret [(.c (.sl 2)), (.c (.int .i64 (.c 0)))] [])))))) (.ret [(.c .nsl), (.c (.int .i64 (.v 4)))] []))))
def F43 : FT := ⟨.nrm, [.c (.int .i64 (none)), .c (.int .i64 (none)), .c (.int .i64 (none)), .c (.int .i64 (none))], [], 0, [(.sl 2 .i64 1), (.int .i64)], T43⟩
theorem ok43 : FTOK cfg 43 F43 := ⟨callable_of Try.func43 (by decide +kernel) (by decide +kernel), by decide +kernel, Try.f43, fun r => if r = 7 then .inv ⟨[(2, some (0, 30), -1), (3, some (0, 200), -1), (11, some (0, 30), -1)], []⟩ else .unroll 12, Try.func43, by decide +kernel, ⟨by decide +kernel, by decide +kernel⟩⟩
/-- laws.hasInt -/
def T32 : T := (.loop [(.c 0)] [] [] [] [(some (0, 1048576))] [] [] (.br (.lt (.v 1) (.sl 0)) (.br (.eq (.sg 0 (.v 1)) (.v 0)) (.ret [(.c (.bool (.c true)))] []) (.again 0 [(.add (.v 1) (.c 1))] [] [] [])) (.ret [(.c (.bool (.c false)))] [])))
def F32 : FT := ⟨.nrm, [.c (.sl 2 .i64 1 (none) (1048576)), .c (.int .i64 (none))], [], 0, [.bool], T32⟩
theorem ok32 : FTOK cfg 32 F32 := ⟨callable_of Try.func32 (by decide +kernel) (by decide +kernel), by decide +kernel, Try.f32, fun r => if r = 2 then .inv ⟨[(5, some (0, 1048576), -1)], []⟩ else .unroll 12, Try.func32, by decide +kernel, ⟨by decide +kernel, by decide +kernel⟩⟩
/-- laws.likeInts -/
def T36 : T := (.br (.not (.eq (.sl 0) (.sl 1))) (.ret [(.c (.bool (.c false)))] []) (.loop [(.c 0)] [] [] [] [(some (0, 1048576))] [] [] (.br (.lt (.v 0) (.sl 0)) (.need (.lt (.v 0) (.sl 1)) (.br (.not (.eq (.sg 0 (.v 0)) (.sg 1 (.v 0)))) (.ret [(.c (.bool (.c false)))] []) (.again 0 [(.add (.v 0) (.c 1))] [] [] []))) (.ret [(.c (.bool (.c true)))] []))))
def F36 : FT := ⟨.nrm, [.c (.sl 2 .i64 1 (none) (1048576)), .c (.sl 2 .i64 1 (none) (1048576))], [], 0, [.bool], T36⟩
theorem ok36 : FTOK cfg 36 F36 := ⟨callable_of Try.func36 (by decide +kernel) (by decide +kernel), by decide +kernel, Try.f36, fun r => if r = 4 then .inv ⟨[(5, some (0, 1048576), -1)], []⟩ else .unroll 12, Try.func36, by decide +kernel, ⟨by decide +kernel, by decide +kernel⟩⟩
/-- laws.sum -/
def T37 : T := (.loop [(.c 0), (.c 0)] [] [] [] [none, (some (0, 1048576))] [] [] (.br (.lt (.v 1) (.sl 0)) (.need (.le (.c (-9223372036854775808)) (.add (.v 0) (.sg 0 (.v 1)))) (.need (.le (.add (.v 0) (.sg 0 (.v 1))) (.c 9223372036854775807)) (.again 0 [(.add (.v 0) (.sg 0 (.v 1))), (.add (.v 1) (.c 1))] [] [] []))) (.ret [(.c (.int .i64 (.v 0)))] [])))
def F37 : FT := ⟨.nrm, [.c (.sl 2 .i64 1 (none) (1048576))], [], 0, [(.int .i64)], T37⟩
theorem ok37 : FTOK cfg 37 F37 := ⟨callable_of Try.func37 (by decide +kernel) (by decide +kernel), by decide +kernel, Try.f37, fun r => if r = 3 then .inv ⟨[(3, none, -1), (4, some (0, 1048576), -1)], []⟩ else .unroll 12, Try.func37, by decide +kernel, ⟨by decide +kernel, by decide +kernel⟩⟩
end Go.Proofs.Ytelejhggpkfdoaa.SX

namespace Go.Proofs.Ytelejhggpkfdoaa.SX
set_option linter.unusedVariables false
set_option maxRecDepth 100000
open Go.RowKit Go.Proofs
/-- laws.FnSpreadOrders -/
def T5 : T := (.callD (.fc 24) [(.c (.sl 0))] [.bool] [] [(.isl 0 5 .u8 1 false)] (.br (.v 0) (.ret [(.c (.bool (.c true)))] []) (.callD (.fc 25) [(.c (.sl 0))] [(.int .i64), (.int .i64)] [none, none] [(.isl 0 5 .u8 1 false)] (.callD (.fc 26) [(.c (.int .i64 (.v 0))), (.c (.int .i64 (.v 1)))] [(.int .i64), (.int .i64)] [none, none] [] (.callD (.fc 27) [(.c (.int .i64 (.v 0))), (.c (.int .i64 (.v 1)))] [(.int .i64), (.int .i64)] [none, none] [] (.callD (.fc 28) [(.c (.int .i64 (.v 0))), (.c (.int .i64 (.v 1)))] [(.int .i64), (.int .i64)] [none, none] [] (.callD (.fc 29) [(.c (.int .i64 (.v 0))), (.c (.int .i64 (.v 1)))] [(.int .i64), (.int .i64)] [none, none] [] (.br (.not (.eq (.v 3) (.v 5))) (.ret [(.c (.bool (.c false)))] []) (.br (.not (.eq (.v 2) (.v 4))) (.ret [(.c (.bool (.c false)))] []) (.br (.not (.eq (.v 7) (.v 9))) (.ret [(.c (.bool (.c false)))] []) (.br (.not (.eq (.v 6) (.v 8))) (.ret [(.c (.bool (.c false)))] []) (.cut 0 0 0 0 [] [] [] (.br (.eq (.v 3) (.c 0)) (.callG (.fc 30) [(.c (.int .i64 (.v 0))), (.c (.int .i64 (.v 2)))] [(.sl 2 .i64 1), (.int .i64)] [] [none] [((some (0, 30)), 32)] [] [] (.need (.le (.c (-9223372036854775808)) (.add (.v 6) (.c 1))) (.need (.le (.add (.v 6) (.c 1)) (.c 9223372036854775807)) (.callD (.fc 31) [(.c (.int .i64 (.v 0))), (.c (.int .i64 (.add (.v 6) (.c 1)))), (.c (.int .i64 (.v 1)))] [(.int .i64), (.int .i64)] [none, none] [] (.br (.not (.eq (.v 10) (.c 0))) (.ret [(.c (.bool (.c false)))] []) (.br (.not (.eq (.v 12) (.c 0))) (.ret [(.c (.bool (.c false)))] []) (.br (.lt (.v 2) (.c 1)) (.ret [(.c (.bool (.c false)))] []) (.need (.not (.eq (.v 2) (.c 0))) (.br (.not (.eq (.rem (.v 6) (.v 2)) (.c 0))) (.ret [(.c (.bool (.c false)))] []) (.callD (.fc 32) [(.c (.sl 1)), (.c (.int .i64 (.v 1)))] [.bool] [] [(.isl 1 2 .i64 1 true), (.isl 0 5 .u8 1 false)] (.br (.not (.v 1)) (.ret [(.c (.bool (.c false)))] []) (.br (.not (.eq (.v 11) (.v 1))) (.ret [(.c (.bool (.c false)))] []) (.again 0 [] [] [] []))))))))))))) (.again 0 [] [] [] [])) (.callD (.fc 33) [(.c (.sl 0))] [(.int .i64)] [none] [(.isl 0 5 .u8 1 false)] (.callG (.fc 34) [(.c (.int .i64 (.v 10)))] [(.sl 2 .i64 1), (.sl 2 .i64 1), (.int .i64)] [] [none] [((some (0, 2000)), 2000), (none, 2000)] [] [] (.callG (.fc 35) [(.c (.int .i64 (.v 10)))] [(.sl 2 .i64 1), (.sl 2 .i64 1), (.int .i64)] [] [none] [((some (0, 2000)), 2000), (none, 2000)] [] [] (.br (.not (.eq (.v 11) (.v 12))) (.ret [(.c (.bool (.c false)))] []) (.callD (.fc 36) [(.c (.sl 1)), (.c (.sl 3))] [.bool] [] [(.isl 3 2 .i64 1 true), (.isl 4 2 .i64 1 true), (.isl 1 2 .i64 1 true), (.isl 2 2 .i64 1 true), (.isl 0 5 .u8 1 false)] (.br (.not (.v 1)) (.ret [(.c (.bool (.c false)))] []) (.callD (.fc 36) [(.c (.sl 2)), (.c (.sl 4))] [.bool] [] [(.isl 3 2 .i64 1 true), (.isl 4 2 .i64 1 true), (.isl 1 2 .i64 1 true), (.isl 2 2 .i64 1 true), (.isl 0 5 .u8 1 false)] (.br (.not (.v 2)) (.ret [(.c (.bool (.c false)))] []) (.cut 0 0 0 0 [] [] [] (.br (.eq (.v 11) (.c 0)) (.callD (.fc 37) [(.c (.sl 2))] [(.int .i64)] [none] [(.isl 3 2 .i64 1 true), (.isl 4 2 .i64 1 true), (.isl 1 2 .i64 1 true), (.isl 2 2 .i64 1 true), (.isl 0 5 .u8 1 false)] (.br (.not (.eq (.v 13) (.v 10))) (.ret [(.c (.bool (.c false)))] []) (.br (.not (.eq (.sl 1) (.sl 2))) (.ret [(.c (.bool (.c false)))] []) (.need (.lt (.c 0) (.sl 1)) (.br (.not (.eq (.sg 1 (.c 0)) (.c 1))) (.ret [(.c (.bool (.c false)))] []) (.need (.lt (.c 0) (.sl 2)) (.br (.not (.eq (.sg 2 (.c 0)) (.c 1))) (.ret [(.c (.bool (.c false)))] []) (.loop [(.c 0)] [] [] [] [(some (0, 1048576))] [] [] (.br (.lt (.v 14) (.sl 1)) (.callG (.fc 30) [(.c (.int .i64 (.v 10))), (.c (.int .i64 (.sg 1 (.v 14))))] [(.sl 2 .i64 1), (.int .i64)] [] [none] [((some (0, 30)), 32)] [] [] (.br (.not (.eq (.v 15) (.c 0))) (.ret [(.c (.bool (.c false)))] []) (.need (.lt (.v 14) (.sl 2)) (.br (.not (.eq (.sl 5) (.sg 2 (.v 14)))) (.ret [(.c (.bool (.c false)))] []) (.again 2 [(.add (.v 14) (.c 1))] [] [] []))))) (.again 1 [] [] [] [])))))))))) (.again 1 [] [] [] [])) (.callD (.fc 38) [(.c (.sl 0))] [(.int .i64), (.int .i64), (.int .i64)] [none, none, none] [(.isl 3 2 .i64 1 true), (.isl 4 2 .i64 1 true), (.isl 1 2 .i64 1 true), (.isl 2 2 .i64 1 true), (.isl 0 5 .u8 1 false)] (.callD (.fc 39) [(.c (.int .i64 (.v 13))), (.c (.int .i64 (.v 14))), (.c (.int .i64 (.v 15)))] [(.int .i64), (.int .i64), (.int .i64)] [none, none, none] [] (.callD (.fc 40) [(.c (.int .i64 (.v 13))), (.c (.int .i64 (.v 14))), (.c (.int .i64 (.v 15)))] [(.int .i64), (.int .i64), (.int .i64)] [none, none, none] [] (.br (.not (.eq (.v 18) (.v 21))) (.ret [(.c (.bool (.c false)))] []) (.br (.not (.eq (.v 16) (.v 19))) (.ret [(.c (.bool (.c false)))] []) (.br (.not (.eq (.v 17) (.v 20))) (.ret [(.c (.bool (.c false)))] []) (.cut 0 0 0 0 [] [] [] (.br (.eq (.v 18) (.c 0)) (.need (.le (.c (-9223372036854775808)) (.add (.v 16) (.v 17))) (.need (.le (.add (.v 16) (.v 17)) (.c 9223372036854775807)) (.callG (.fc 41) [(.c (.int .i64 (.v 13))), (.c (.int .i64 (.v 14))), (.c (.int .i64 (.v 15))), (.c (.int .i64 (.add (.v 16) (.v 17))))] [(.sl 2 .i64 1), (.int .i64)] [] [none] [((some (0, 30)), 300)] [] [] (.br (.not (.eq (.v 22) (.c 0))) (.ret [(.c (.bool (.c false)))] []) (.br (.lt (.v 17) (.c 1)) (.ret [(.c (.bool (.c false)))] []) (.need (.le (.c (-9223372036854775808)) (.add (.add (.v 16) (.v 17)) (.c 1))) (.need (.le (.add (.add (.v 16) (.v 17)) (.c 1)) (.c 9223372036854775807)) (.br (.not (.eq (.sl 5) (.add (.add (.v 16) (.v 17)) (.c 1)))) (.ret [(.c (.bool (.c false)))] []) (.need (.le (.c 0) (.v 16)) (.need (.lt (.v 16) (.sl 5)) (.need (.le (.c 0) (.add (.v 16) (.v 17))) (.need (.lt (.add (.v 16) (.v 17)) (.sl 5)) (.br (.not (.eq (.sg 5 (.v 16)) (.sg 5 (.add (.v 16) (.v 17))))) (.ret [(.c (.bool (.c false)))] []) (.again 2 [] [] [] [])))))))))))))) (.again 2 [] [] [] [])) (.callD (.fc 42) [(.c (.sl 0))] [(.int .i64), (.int .i64), (.int .i64), (.int .i64)] [none, none, none, none] [(.isl 3 2 .i64 1 true), (.isl 4 2 .i64 1 true), (.isl 1 2 .i64 1 true), (.isl 2 2 .i64 1 true), (.isl 0 5 .u8 1 false)] (.callG (.fc 41) [(.c (.int .i64 (.v 22))), (.c (.int .i64 (.v 23))), (.c (.int .i64 (.v 24))), (.c (.int .i64 (.v 25)))] [(.sl 2 .i64 1), (.int .i64)] [] [none] [((some (0, 30)), 300)] [] [] (.callG (.fc 43) [(.c (.int .i64 (.v 22))), (.c (.int .i64 (.v 23))), (.c (.int .i64 (.v 24))), (.c (.int .i64 (.v 25)))] [(.sl 2 .i64 1), (.int .i64)] [] [none] [((some (0, 30)), 300)] [] [] (.callD (.fc 44) [(.c (.sl 0))] [(.int .i64), (.int .i64)] [none, none] [(.isl 6 2 .i64 1 true), (.isl 5 2 .i64 1 true), (.isl 3 2 .i64 1 true), (.isl 4 2 .i64 1 true), (.isl 1 2 .i64 1 true), (.isl 2 2 .i64 1 true), (.isl 0 5 .u8 1 false)] (.callG (.fc 30) [(.c (.int .i64 (.v 28))), (.c (.int .i64 (.v 29)))] [(.sl 2 .i64 1), (.int .i64)] [] [none] [((some (0, 30)), 32)] [] [] (.callG (.fc 45) [(.c (.int .i64 (.v 28))), (.c (.int .i64 (.v 29)))] [(.sl 2 .i64 1), (.int .i64)] [] [none] [((some (0, 30)), 32)] [] [] (.br (.eq (.v 26) (.v 27)) (.callD (.fc 36) [(.c (.sl 5)), (.c (.sl 6))] [.bool] [] [(.isl 8 2 .i64 1 true), (.isl 7 2 .i64 1 true), (.isl 6 2 .i64 1 true), (.isl 5 2 .i64 1 true), (.isl 3 2 .i64 1 true), (.isl 4 2 .i64 1 true), (.isl 1 2 .i64 1 true), (.isl 2 2 .i64 1 true), (.isl 0 5 .u8 1 false)] (.br (.v 3) (.br (.eq (.v 30) (.v 31)) (.callD (.fc 36) [(.c (.sl 7)), (.c (.sl 8))] [.bool] [] [(.isl 8 2 .i64 1 true), (.isl 7 2 .i64 1 true), (.isl 6 2 .i64 1 true), (.isl 5 2 .i64 1 true), (.isl 3 2 .i64 1 true), (.isl 4 2 .i64 1 true), (.isl 1 2 .i64 1 true), (.isl 2 2 .i64 1 true), (.isl 0 5 .u8 1 false)] (.ret [(.c (.bool (.v 4)))] [])) (.ret [(.c (.bool (.c false)))] [])) (.ret [(.c (.bool (.c false)))] []))) (.ret [(.c (.bool (.c false)))] []))))))))))))))))))))))))))))))))))))
def F5 : FT := ⟨.nrm, [.c (.sl 5 .u8 1 (some (0, 255)) (-1))], [], 0, [.bool], T5⟩
theorem ok5 : FTOK cfg 5 F5 := ⟨callable_of Try.func5 (by decide +kernel) (by decide +kernel), by decide +kernel, Try.f5, fun r => if r = 24 then .inv ⟨[(24, some (0, 1048576), -1)], []⟩ else if r = 11 then .join ⟨[], []⟩ else if r = 21 then .join ⟨[], []⟩ else if r = 35 then .join ⟨[], []⟩ else .unroll 12, Try.func5, by decide +kernel, ⟨by decide +kernel, by decide +kernel⟩⟩
end Go.Proofs.Ytelejhggpkfdoaa.SX

namespace Go.Proofs.Ytelejhggpkfdoaa.SX
open Go.RowKit Go.Proofs
def tbl : List (Nat × FT) := [(182, F182), (176, F176), (200, F200), (186, F186), (207, F207), (195, F195), (335, F335), (169, F169), (171, F171), (167, F167), (181, F181), (296, F296), (294, F294), (24, F24), (197, F197), (249, F249), (230, F230), (206, F206), (199, F199), (198, F198), (184, F184), (201, F201), (25, F25), (33, F33), (38, F38), (42, F42), (44, F44), (362, F362), (196, F196), (187, F187), (185, F185), (189, F189), (26, F26), (28, F28), (191, F191), (193, F193), (192, F192), (30, F30), (194, F194), (31, F31), (34, F34), (202, F202), (205, F205), (363, F363), (203, F203), (39, F39), (41, F41), (190, F190), (188, F188), (204, F204), (27, F27), (29, F29), (45, F45), (35, F35), (40, F40), (43, F43), (32, F32), (36, F36), (37, F37), (5, F5)]
def findF : List (Nat × FT) → Nat → Option FT
  | [], _ => none
  | x :: r, g => if x.1 = g then some x.2 else findF r g
def tb (g : FuncId) : Option FT := findF tbl g
theorem findF_ok {l : List (Nat × FT)} (h : ∀ x ∈ l, FTOK cfg x.1 x.2) : ∀ g ft, findF l g = some ft → FTOK cfg g ft := by
  induction l with
  | nil => intro g ft h; simp [findF] at h
  | cons x r ih =>
    intro g ft hf
    simp only [findF] at hf
    split at hf
    · rename_i e; subst e; injection hf with hf; subst hf; exact h x (List.mem_cons_self ..)
    · exact ih (fun y hy => h y (List.mem_cons_of_mem _ hy)) g ft hf
theorem tb_ok : ∀ g ft, tb g = some ft → FTOK cfg g ft := by
  refine findF_ok fun x hx => ?_
  simp only [tbl, List.mem_cons, List.not_mem_nil, or_false] at hx
  rcases hx with rfl | rfl | rfl | rfl | rfl | rfl | rfl | rfl | rfl | rfl | rfl | rfl | rfl | rfl | rfl | rfl | rfl | rfl | rfl | rfl | rfl | rfl | rfl | rfl | rfl | rfl | rfl | rfl | rfl | rfl | rfl | rfl | rfl | rfl | rfl | rfl | rfl | rfl | rfl | rfl | rfl | rfl | rfl | rfl | rfl | rfl | rfl | rfl | rfl | rfl | rfl | rfl | rfl | rfl | rfl | rfl | rfl | rfl | rfl | rfl
  · exact ok182
  · exact ok176
  · exact ok200
  · exact ok186
  · exact ok207
  · exact ok195
  · exact ok335
  · exact ok169
  · exact ok171
  · exact ok167
  · exact ok181
  · exact ok296
  · exact ok294
  · exact ok24
  · exact ok197
  · exact ok249
  · exact ok230
  · exact ok206
  · exact ok199
  · exact ok198
  · exact ok184
  · exact ok201
  · exact ok25
  · exact ok33
  · exact ok38
  · exact ok42
  · exact ok44
  · exact ok362
  · exact ok196
  · exact ok187
  · exact ok185
  · exact ok189
  · exact ok26
  · exact ok28
  · exact ok191
  · exact ok193
  · exact ok192
  · exact ok30
  · exact ok194
  · exact ok31
  · exact ok34
  · exact ok202
  · exact ok205
  · exact ok363
  · exact ok203
  · exact ok39
  · exact ok41
  · exact ok190
  · exact ok188
  · exact ok204
  · exact ok27
  · exact ok29
  · exact ok45
  · exact ok35
  · exact ok40
  · exact ok43
  · exact ok32
  · exact ok36
  · exact ok37
  · exact ok5
noncomputable def S : Tab := fixT tb
theorem S_ok : TabOK Try.prog S := fixT_ok cfg_ok rfl tb_ok
end Go.Proofs.Ytelejhggpkfdoaa.SX

