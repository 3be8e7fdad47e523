/- part of a proof: no condition of its own -/
import Derived.Test.YtelejhggpkfdoaaTA
namespace Go.Proofs.Ytelejhggpkfdoaa.SX
set_option linter.unusedVariables false
set_option maxRecDepth 100000
open Go.RowKit Go.Proofs
/-! impl.rest -/
def P182 (S : Tab) (x1 : Int) (x2 : Int) : Option (List PA) :=
  some [.int .i64 (Int.tmod ((Int.tmod x2 x1) + x1) x1)]
theorem ev182 (S : Tab) (x1 : Int) (x2 : Int) : ev S F182.shs F182.rm F182.t [] ⟨⟨[x1, x2], [], [], [], [], []⟩, []⟩ = P182 S x1 x2 := by kernel_rfl
theorem eq182 (x1 : Int) (x2 : Int) (h : okIv [some (3, 31), none] [] [] [x1, x2] [] [] = true) : S .nrm 182 [.int .i64 x1, .int .i64 x2] = P182 S x1 x2 :=
  (fixT_eq tb (g := 182) (ft := F182) (by kernel_rfl) (by kernel_rfl) _).trans (run_eq (p := ⟨⟨[x1, x2], [], [], [], [], []⟩, []⟩) (by kernel_rfl) h (ev182 S x1 x2))
/-! spec.l01Mod -/
def P176 (S : Tab) (x1 : Int) (x2 : Int) : Option (List PA) :=
  some [.int .i64 (Int.tmod ((Int.tmod x1 x2) + x2) x2)]
theorem ev176 (S : Tab) (x1 : Int) (x2 : Int) : ev S F176.shs F176.rm F176.t [] ⟨⟨[x1, x2], [], [], [], [], []⟩, []⟩ = P176 S x1 x2 := by kernel_rfl
theorem eq176 (x1 : Int) (x2 : Int) (h : okIv [none, some (3, 31)] [] [] [x1, x2] [] [] = true) : S .nrm 176 [.int .i64 x1, .int .i64 x2] = P176 S x1 x2 :=
  (fixT_eq tb (g := 176) (ft := F176) (by kernel_rfl) (by kernel_rfl) _).trans (run_eq (p := ⟨⟨[x1, x2], [], [], [], [], []⟩, []⟩) (by kernel_rfl) h (ev176 S x1 x2))
/-! impl.IsField -/
def P200 (S : Tab) (x1 : Int) : Option (List PA) :=
  bif (x1 == 3) then
    some [.bool true]
  else
    bif (x1 == 5) then
      some [.bool true]
    else
      bif (x1 == 7) then
        some [.bool true]
      else
        bif (x1 == 11) then
          some [.bool true]
        else
          bif (x1 == 13) then
            some [.bool true]
          else
            bif (x1 == 17) then
              some [.bool true]
            else
              bif (x1 == 19) then
                some [.bool true]
              else
                bif (x1 == 23) then
                  some [.bool true]
                else
                  bif (x1 == 29) then
                    some [.bool true]
                  else
                    bif (x1 == 31) then
                      some [.bool true]
                    else
                      some [.bool false]
theorem ev200 (S : Tab) (x1 : Int) : ev S F200.shs F200.rm F200.t [] ⟨⟨[x1], [], [], [], [], []⟩, []⟩ = P200 S x1 := by kernel_rfl
theorem eq200 (x1 : Int) : S .nrm 200 [.int .i64 x1] = P200 S x1 :=
  (fixT_eq tb (g := 200) (ft := F200) (by kernel_rfl) (by kernel_rfl) _).trans (run_eq (p := ⟨⟨[x1], [], [], [], [], []⟩, []⟩) (by kernel_rfl) rfl (ev200 S x1))
/-! impl.isNumber -/
def P186 (S : Tab) (x1 : Int) (x2 : Int) : Option (List PA) :=
  bif (leB 0 x2) then
    some [.bool (ltB x2 x1)]
  else
    some [.bool false]
theorem ev186 (S : Tab) (x1 : Int) (x2 : Int) : ev S F186.shs F186.rm F186.t [] ⟨⟨[x1, x2], [], [], [], [], []⟩, []⟩ = P186 S x1 x2 := by kernel_rfl
theorem eq186 (x1 : Int) (x2 : Int) : S .nrm 186 [.int .i64 x1, .int .i64 x2] = P186 S x1 x2 :=
  (fixT_eq tb (g := 186) (ft := F186) (by kernel_rfl) (by kernel_rfl) _).trans (run_eq (p := ⟨⟨[x1, x2], [], [], [], [], []⟩, []⟩) (by kernel_rfl) rfl (ev186 S x1 x2))
/-! spec.l01In -/
def P207 (S : Tab) (x1 : Int) (x2 : Int) (x3 : Int) : Option (List PA) :=
  bif (leB x2 x1) then
    some [.bool (leB x1 x3)]
  else
    some [.bool false]
theorem ev207 (S : Tab) (x1 : Int) (x2 : Int) (x3 : Int) : ev S F207.shs F207.rm F207.t [] ⟨⟨[x1, x2, x3], [], [], [], [], []⟩, []⟩ = P207 S x1 x2 x3 := by kernel_rfl
theorem eq207 (x1 : Int) (x2 : Int) (x3 : Int) : S .nrm 207 [.int .i64 x1, .int .i64 x2, .int .i64 x3] = P207 S x1 x2 x3 :=
  (fixT_eq tb (g := 207) (ft := F207) (by kernel_rfl) (by kernel_rfl) _).trans (run_eq (p := ⟨⟨[x1, x2, x3], [], [], [], [], []⟩, []⟩) (by kernel_rfl) rfl (ev207 S x1 x2 x3))
/-! impl.isIndex -/
def P195 (S : Tab) (x1 : Int) : Option (List PA) :=
  bif (leB 0 x1) then
    some [.bool (leB x1 1000)]
  else
    some [.bool false]
theorem ev195 (S : Tab) (x1 : Int) : ev S F195.shs F195.rm F195.t [] ⟨⟨[x1], [], [], [], [], []⟩, []⟩ = P195 S x1 := by kernel_rfl
theorem eq195 (x1 : Int) : S .nrm 195 [.int .i64 x1] = P195 S x1 :=
  (fixT_eq tb (g := 195) (ft := F195) (by kernel_rfl) (by kernel_rfl) _).trans (run_eq (p := ⟨⟨[x1], [], [], [], [], []⟩, []⟩) (by kernel_rfl) rfl (ev195 S x1))
/-! spec.l01Field -/
def L335_1 (S : Tab) (x1 : Int) : Kt → Kt := fun k3 li lb lr lu =>
  bif okIv [(some (2, 31))] [] [] li lr lu then
    let y4 : Int := (li.headD 0)
    bif (leB (y4 * y4) x1) then
      bif ((Int.tmod x1 y4) == 0) then
        some [.bool false]
      else
        k3 [(y4 + 1)] [] [] []
    else
      some [.bool true]
  else none
def P335 (S : Tab) (x1 : Int) : Option (List PA) :=
  callK S .nrm 207 [.int .i64 x1, .int .i64 3, .int .i64 31] [.bool] [] [] [] fun l1 b1 r1 u1 =>
    let c2 : Bool := (b1.headD false)
    bif (!c2) then
      some [.bool false]
    else
      lp LF (L335_1 S x1) [2] [] [] []
theorem ev335 (S : Tab) (x1 : Int) : ev S F335.shs F335.rm F335.t [] ⟨⟨[x1], [], [], [], [], []⟩, []⟩ = P335 S x1 := by kernel_rfl
theorem eq335 (x1 : Int) : S .nrm 335 [.int .i64 x1] = P335 S x1 :=
  (fixT_eq tb (g := 335) (ft := F335) (by kernel_rfl) (by kernel_rfl) _).trans (run_eq (p := ⟨⟨[x1], [], [], [], [], []⟩, []⟩) (by kernel_rfl) rfl (ev335 S x1))
/-! impl.asked -/
def P169 (S : Tab) (x1 : Int) (g2 : FuncId) (z3 : List PA) : Option (List PA) :=
  callK S .nrm 200 [.int .i64 x1] [.bool] [] [] [] fun l1 b1 r1 u1 =>
    let c2 : Bool := (b1.headD false)
    bif (!c2) then
      some [.int .i64 1]
    else
      callK S .nrm g2 ([] ++ z3) [.bool] [] [] [] fun l3 b3 r3 u3 =>
        let c4 : Bool := (b3.headD false)
        bif (!c4) then
          some [.int .i64 2]
        else
          some [.int .i64 0]
theorem ev169 (S : Tab) (x1 : Int) (g2 : FuncId) (z3 : List PA) : ev S F169.shs F169.rm F169.t [] ⟨⟨[x1], [], [], [], [], []⟩, [.given g2 z3]⟩ = P169 S x1 g2 z3 := by kernel_rfl
theorem eq169 (x1 : Int) (g2 : FuncId) (z3 : List PA) : S .nrm 169 [.int .i64 x1, .fn g2 z3] = P169 S x1 g2 z3 :=
  (fixT_eq tb (g := 169) (ft := F169) (by kernel_rfl) (by kernel_rfl) _).trans (run_eq (p := ⟨⟨[x1], [], [], [], [], []⟩, [.given g2 z3]⟩) (by kernel_rfl) rfl (ev169 S x1 g2 z3))
/-! impl.areNumbers -/
def L171_1 (S : Tab) (m2 : Nat) (e3 : List Int) (x1 : Int) : Kt → Kt := fun k1 li lb lr lu =>
  bif okIv [(some (0, 1048576))] [] [] li lr lu then
    let y2 : Int := (li.headD 0)
    bif (ltB y2 ((psl m2 e3).n : Int)) then
      callK S .nrm 186 [.int .i64 x1, .int .i64 ((psl m2 e3).xs.getD (Int.toNat y2) 0)] [.bool] [] [] [] fun l3 b3 r3 u3 =>
        let c4 : Bool := (b3.headD false)
        bif (!c4) then
          some [.bool false]
        else
          k1 [(y2 + 1)] [] [] []
    else
      some [.bool true]
  else none
def P171 (S : Tab) (x1 : Int) (T4 : TypeId) (m2 : Nat) (e3 : List Int) : Option (List PA) :=
  lp LF (L171_1 S m2 e3 x1) [0] [] [] []
theorem ev171 (S : Tab) (x1 : Int) (T4 : TypeId) (m2 : Nat) (e3 : List Int) : ev S F171.shs F171.rm F171.t [] ⟨⟨[x1], [], [], [(psl m2 e3)], [], []⟩, []⟩ = P171 S x1 T4 m2 e3 := by kernel_rfl
theorem eq171 (x1 : Int) (T4 : TypeId) (m2 : Nat) (e3 : List Int) (h : okIv [some (3, 31)] [(none, 1048576)] [] [x1] [(psl m2 e3)] [] = true) : S .nrm 171 [.int .i64 x1, .sl T4 .i64 1 m2 e3] = P171 S x1 T4 m2 e3 :=
  (fixT_eq tb (g := 171) (ft := F171) (by kernel_rfl) (by kernel_rfl) _).trans (run_eq (p := ⟨⟨[x1], [], [], [(psl m2 e3)], [], []⟩, []⟩) (by kernel_rfl) h (ev171 S x1 T4 m2 e3))
/-! spec.l01Numbers -/
def L167_1 (S : Tab) (m2 : Nat) (e3 : List Int) (x1 : Int) : Kt → Kt := fun k3 li lb lr lu =>
  bif okIv [(some (0, 1048576))] [] [] li lr lu then
    let y4 : Int := (li.headD 0)
    bif (ltB y4 ((psl m2 e3).n : Int)) then
      bif (leB (-9223372036854775808) (x1 - 1)) then
        bif (leB (x1 - 1) 9223372036854775807) then
          callK S .nrm 207 [.int .i64 ((psl m2 e3).xs.getD (Int.toNat y4) 0), .int .i64 0, .int .i64 (x1 - 1)] [.bool] [] [] [] fun l5 b5 r5 u5 =>
            let c6 : Bool := (b5.headD false)
            bif (!c6) then
              some [.int .i64 2]
            else
              k3 [(y4 + 1)] [] [] []
        else none
      else none
    else
      some [.int .i64 0]
  else none
def P167 (S : Tab) (x1 : Int) (T4 : TypeId) (m2 : Nat) (e3 : List Int) : Option (List PA) :=
  callK S .nrm 335 [.int .i64 x1] [.bool] [] [] [] fun l1 b1 r1 u1 =>
    let c2 : Bool := (b1.headD false)
    bif (!c2) then
      some [.int .i64 1]
    else
      lp LF (L167_1 S m2 e3 x1) [0] [] [] []
theorem ev167 (S : Tab) (x1 : Int) (T4 : TypeId) (m2 : Nat) (e3 : List Int) : ev S F167.shs F167.rm F167.t [] ⟨⟨[x1], [], [], [(psl m2 e3)], [], []⟩, []⟩ = P167 S x1 T4 m2 e3 := by kernel_rfl
theorem eq167 (x1 : Int) (T4 : TypeId) (m2 : Nat) (e3 : List Int) (h : okIv [none] [(none, 1048576)] [] [x1] [(psl m2 e3)] [] = true) : S .nrm 167 [.int .i64 x1, .sl T4 .i64 1 m2 e3] = P167 S x1 T4 m2 e3 :=
  (fixT_eq tb (g := 167) (ft := F167) (by kernel_rfl) (by kernel_rfl) _).trans (run_eq (p := ⟨⟨[x1], [], [], [(psl m2 e3)], [], []⟩, []⟩) (by kernel_rfl) h (ev167 S x1 T4 m2 e3))
/-! impl.inverse -/
def L181_1 (S : Tab) (x1 : Int) (x2 : Int) : Kt → Kt := fun k1 li lb lr lu =>
  bif okIv [(some (1, 31))] [] [] li lr lu then
    let y2 : Int := (li.headD 0)
    bif (ltB y2 x1) then
      bif ((Int.tmod (x2 * y2) x1) == 1) then
        some [.int .i64 y2]
      else
        k1 [(y2 + 1)] [] [] []
    else
      some [.int .i64 0]
  else none
def P181 (S : Tab) (x1 : Int) (x2 : Int) : Option (List PA) :=
  lp LF (L181_1 S x1 x2) [1] [] [] []
theorem ev181 (S : Tab) (x1 : Int) (x2 : Int) : ev S F181.shs F181.rm F181.t [] ⟨⟨[x1, x2], [], [], [], [], []⟩, []⟩ = P181 S x1 x2 := by kernel_rfl
theorem eq181 (x1 : Int) (x2 : Int) (h : okIv [some (3, 31), some (0, 1000000000)] [] [] [x1, x2] [] [] = true) : S .nrm 181 [.int .i64 x1, .int .i64 x2] = P181 S x1 x2 :=
  (fixT_eq tb (g := 181) (ft := F181) (by kernel_rfl) (by kernel_rfl) _).trans (run_eq (p := ⟨⟨[x1, x2], [], [], [], [], []⟩, []⟩) (by kernel_rfl) h (ev181 S x1 x2))
/-! spec.l01Inverse -/
def L296_1 (S : Tab) (x2 : Int) : Kt → Kt := fun k3 li lb lr lu =>
  bif okIv [(some (0, 30)), (some (0, 30)), (some (0, 30))] [] [] li lr lu then
    let y4 : Int := (li.headD 0)
    let y5 : Int := (li.tail.headD 0)
    let y6 : Int := (li.tail.tail.headD 0)
    bif (ltB 0 y6) then
      bif ((Int.tmod y6 2) == 1) then
        k3 [(Int.tmod (y4 * y5) x2), (Int.tmod (y5 * y5) x2), (Int.tdiv y6 2)] [] [] []
      else
        k3 [y4, (Int.tmod (y5 * y5) x2), (Int.tdiv y6 2)] [] [] []
    else
      some [.int .i64 y4]
  else none
def P296 (S : Tab) (x1 : Int) (x2 : Int) : Option (List PA) :=
  callK S .nrm 176 [.int .i64 x1, .int .i64 x2] [(.int .i64)] [(some (0, 30))] [] [] fun l1 b1 r1 u1 =>
    let y2 : Int := (l1.headD 0)
    lp LF (L296_1 S x2) [1, y2, (x2 - 2)] [] [] []
theorem ev296 (S : Tab) (x1 : Int) (x2 : Int) : ev S F296.shs F296.rm F296.t [] ⟨⟨[x1, x2], [], [], [], [], []⟩, []⟩ = P296 S x1 x2 := by kernel_rfl
theorem eq296 (x1 : Int) (x2 : Int) (h : okIv [none, some (3, 31)] [] [] [x1, x2] [] [] = true) : S .nrm 296 [.int .i64 x1, .int .i64 x2] = P296 S x1 x2 :=
  (fixT_eq tb (g := 296) (ft := F296) (by kernel_rfl) (by kernel_rfl) _).trans (run_eq (p := ⟨⟨[x1, x2], [], [], [], [], []⟩, []⟩) (by kernel_rfl) h (ev296 S x1 x2))
/-! impl.divide -/
def P294 (S : Tab) (x1 : Int) (x2 : Int) (x3 : Int) : Option (List PA) :=
  callK S .nrm 181 [.int .i64 x1, .int .i64 x3] [(.int .i64)] [(some (0, 30))] [] [] fun l1 b1 r1 u1 =>
    let y2 : Int := (l1.headD 0)
    callK S .nrm 182 [.int .i64 x1, .int .i64 (x2 * y2)] [(.int .i64)] [(some (0, 30))] [] [] fun l3 b3 r3 u3 =>
      let y4 : Int := (l3.headD 0)
      some [.int .i64 y4]
theorem ev294 (S : Tab) (x1 : Int) (x2 : Int) (x3 : Int) : ev S F294.shs F294.rm F294.t [] ⟨⟨[x1, x2, x3], [], [], [], [], []⟩, []⟩ = P294 S x1 x2 x3 := by kernel_rfl
theorem eq294 (x1 : Int) (x2 : Int) (x3 : Int) (h : okIv [some (3, 31), some (-1000000000000, 1000000000000), some (0, 1000000000)] [] [] [x1, x2, x3] [] [] = true) : S .nrm 294 [.int .i64 x1, .int .i64 x2, .int .i64 x3] = P294 S x1 x2 x3 :=
  (fixT_eq tb (g := 294) (ft := F294) (by kernel_rfl) (by kernel_rfl) _).trans (run_eq (p := ⟨⟨[x1, x2, x3], [], [], [], [], []⟩, []⟩) (by kernel_rfl) h (ev294 S x1 x2 x3))
end Go.Proofs.Ytelejhggpkfdoaa.SX

namespace Go.Proofs.Ytelejhggpkfdoaa.SX
set_option linter.unusedVariables false
set_option maxRecDepth 100000
open Go.RowKit Go.Proofs
/-! laws.big -/
def P24 (S : Tab) (T3 : TypeId) (m1 : Nat) (e2 : List Int) : Option (List PA) :=
  some [.bool (ltB 4096 ((psl m1 e2).n : Int))]
theorem ev24 (S : Tab) (T3 : TypeId) (m1 : Nat) (e2 : List Int) : ev S F24.shs F24.rm F24.t [] ⟨⟨[], [], [], [(psl m1 e2)], [], []⟩, []⟩ = P24 S T3 m1 e2 := by kernel_rfl
theorem eq24 (T3 : TypeId) (m1 : Nat) (e2 : List Int) : S .nrm 24 [.sl T3 .u8 1 m1 e2] = P24 S T3 m1 e2 :=
  (fixT_eq tb (g := 24) (ft := F24) (by kernel_rfl) (by kernel_rfl) _).trans (run_eq (p := ⟨⟨[], [], [], [(psl m1 e2)], [], []⟩, []⟩) (by kernel_rfl) rfl (ev24 S T3 m1 e2))
/-! spec.l01From -/
def L197_1 (S : Tab) (m1 : Nat) (e2 : List Int) : Kt → Kt := fun k1 li lb lr lu =>
  bif okIv [(some (0, 4096)), none, none] [] [] li lr lu then
    let y2 : Int := (li.headD 0)
    let y3 : Int := (li.tail.headD 0)
    let y4 : Int := (li.tail.tail.headD 0)
    bif (ltB y2 ((psl m1 e2).n : Int)) then
      bif (ltB y2 4096) then
        k1 [(y2 + 1), y3, (IntKind.wrap .u64 ((IntKind.wrap .u64 ((IntKind.wrap .u64 (y4 * 1099511628211)) + ((psl m1 e2).xs.getD (Int.toNat y2) 0))) + 199))] [] [] []
      else
        some [.ref 250 [.fn 0 [], .int .i64 y3, .int .u64 y4]]
    else
      some [.ref 250 [.fn 0 [], .int .i64 y3, .int .u64 y4]]
  else none
def P197 (S : Tab) (T3 : TypeId) (m1 : Nat) (e2 : List Int) : Option (List PA) :=
  lp LF (L197_1 S m1 e2) [0, 0, (13701 + ((psl m1 e2).n : Int))] [] [] []
theorem ev197 (S : Tab) (T3 : TypeId) (m1 : Nat) (e2 : List Int) : ev S F197.shs F197.rm F197.t [] ⟨⟨[], [], [], [(psl m1 e2)], [], []⟩, []⟩ = P197 S T3 m1 e2 := by kernel_rfl
theorem eq197 (T3 : TypeId) (m1 : Nat) (e2 : List Int) (h : okIv [] [(some (0, 255), 4096)] [] [] [(psl m1 e2)] [] = true) : S .new 197 [.sl T3 .u8 1 m1 e2] = P197 S T3 m1 e2 :=
  (fixT_eq tb (g := 197) (ft := F197) (by kernel_rfl) (by kernel_rfl) _).trans (run_eq (p := ⟨⟨[], [], [], [(psl m1 e2)], [], []⟩, []⟩) (by kernel_rfl) h (ev197 S T3 m1 e2))
/-! spec.l01Next -/
def P249 (S : Tab) (T3 : TypeId) (m1 : Nat) (e2 : List Int) (x4 : Int) (x5 : Int) (x6 : Int) : Option (List PA) :=
  bif (ltB x6 1) then
    some [.int .i64 0, .int .i64 x4, .int .u64 x5]
  else
    bif (ltB x4 ((psl m1 e2).n : Int)) then
      bif (leB (-9223372036854775808) ((IntKind.wrap .i64 (bitInt .and .u64 (bitInt .shr .u64 (IntKind.wrap .u64 ((IntKind.wrap .u64 (x5 * 6364136223846793005)) + 1442695040888963407)) 33) 16777215)) + ((psl m1 e2).xs.getD (Int.toNat x4) 0))) then
        bif (leB ((IntKind.wrap .i64 (bitInt .and .u64 (bitInt .shr .u64 (IntKind.wrap .u64 ((IntKind.wrap .u64 (x5 * 6364136223846793005)) + 1442695040888963407)) 33) 16777215)) + ((psl m1 e2).xs.getD (Int.toNat x4) 0)) 9223372036854775807) then
          bif (!(x6 == 0)) then
            some [.int .i64 (Int.tmod ((IntKind.wrap .i64 (bitInt .and .u64 (bitInt .shr .u64 (IntKind.wrap .u64 ((IntKind.wrap .u64 (x5 * 6364136223846793005)) + 1442695040888963407)) 33) 16777215)) + ((psl m1 e2).xs.getD (Int.toNat x4) 0)) x6), .int .i64 (x4 + 1), .int .u64 (IntKind.wrap .u64 ((IntKind.wrap .u64 (x5 * 6364136223846793005)) + 1442695040888963407))]
          else none
        else none
      else none
    else
      bif (!(x6 == 0)) then
        some [.int .i64 (Int.tmod (IntKind.wrap .i64 (bitInt .and .u64 (bitInt .shr .u64 (IntKind.wrap .u64 ((IntKind.wrap .u64 (x5 * 6364136223846793005)) + 1442695040888963407)) 33) 16777215)) x6), .int .i64 x4, .int .u64 (IntKind.wrap .u64 ((IntKind.wrap .u64 (x5 * 6364136223846793005)) + 1442695040888963407))]
      else none
theorem ev249 (S : Tab) (T3 : TypeId) (m1 : Nat) (e2 : List Int) (x4 : Int) (x5 : Int) (x6 : Int) : ev S F249.shs F249.rm F249.t [] ⟨⟨[x4, x5, x6], [], [0], [(psl m1 e2)], [], []⟩, []⟩ = P249 S T3 m1 e2 x4 x5 x6 := by kernel_rfl
theorem eq249 (T3 : TypeId) (m1 : Nat) (e2 : List Int) (x4 : Int) (x5 : Int) (x6 : Int) (h : okIv [some (0, 4096), none, none] [(some (0, 255), 4096)] [] [x4, x5, x6] [(psl m1 e2)] [] = true) : S .chg 249 [.ref 250 [.sl T3 .u8 1 m1 e2, .int .i64 x4, .int .u64 x5], .int .i64 x6] = P249 S T3 m1 e2 x4 x5 x6 :=
  (fixT_eq tb (g := 249) (ft := F249) (by kernel_rfl) (by kernel_rfl) _).trans (run_eq (p := ⟨⟨[x4, x5, x6], [], [0], [(psl m1 e2)], [], []⟩, []⟩) (by kernel_rfl) h (ev249 S T3 m1 e2 x4 x5 x6))
/-! spec.l01Pick -/
def P230 (S : Tab) (T3 : TypeId) (m1 : Nat) (e2 : List Int) (x4 : Int) (x5 : Int) (T8 : TypeId) (m6 : Nat) (e7 : List Int) : Option (List PA) :=
  callK S .chg 249 [.ref 250 [.sl 5 .u8 1 (psl m1 e2).n (psl m1 e2).xs, .int .i64 x4, .int .u64 x5], .int .i64 ((psl m6 e7).n : Int)] [(.int .i64), (.int .i64), (.int .u64)] [none, (some (0, 4096)), none] [] [] fun l1 b1 r1 u1 =>
    let y2 : Int := (l1.headD 0)
    let y3 : Int := (l1.tail.headD 0)
    let y4 : Int := (l1.tail.tail.headD 0)
    bif (leB 0 y2) then
      bif (ltB y2 ((psl m6 e7).n : Int)) then
        some [.int .i64 ((psl m6 e7).xs.getD (Int.toNat y2) 0), .int .i64 y3, .int .u64 y4]
      else none
    else none
theorem ev230 (S : Tab) (T3 : TypeId) (m1 : Nat) (e2 : List Int) (x4 : Int) (x5 : Int) (T8 : TypeId) (m6 : Nat) (e7 : List Int) : ev S F230.shs F230.rm F230.t [] ⟨⟨[x4, x5], [], [0], [(psl m1 e2), (psl m6 e7)], [], []⟩, []⟩ = P230 S T3 m1 e2 x4 x5 T8 m6 e7 := by kernel_rfl
theorem eq230 (T3 : TypeId) (m1 : Nat) (e2 : List Int) (x4 : Int) (x5 : Int) (T8 : TypeId) (m6 : Nat) (e7 : List Int) (h : okIv [some (0, 4096), none] [(some (0, 255), 4096), (none, 64)] [] [x4, x5] [(psl m1 e2), (psl m6 e7)] [] = true) : S .chg 230 [.ref 250 [.sl T3 .u8 1 m1 e2, .int .i64 x4, .int .u64 x5], .sl T8 .i64 1 m6 e7] = P230 S T3 m1 e2 x4 x5 T8 m6 e7 :=
  (fixT_eq tb (g := 230) (ft := F230) (by kernel_rfl) (by kernel_rfl) _).trans (run_eq (p := ⟨⟨[x4, x5], [], [0], [(psl m1 e2), (psl m6 e7)], [], []⟩, []⟩) (by kernel_rfl) h (ev230 S T3 m1 e2 x4 x5 T8 m6 e7))
/-! spec.l01Near -/
def P206 (S : Tab) (T3 : TypeId) (m1 : Nat) (e2 : List Int) (x4 : Int) (x5 : Int) (x6 : Int) : Option (List PA) :=
  callK S .chg 249 [.ref 250 [.sl 5 .u8 1 (psl m1 e2).n (psl m1 e2).xs, .int .i64 x4, .int .u64 x5], .int .i64 14] [(.int .i64), (.int .i64), (.int .u64)] [none, (some (0, 4096)), none] [] [] fun l1 b1 r1 u1 =>
    let y2 : Int := (l1.headD 0)
    let y3 : Int := (l1.tail.headD 0)
    let y4 : Int := (l1.tail.tail.headD 0)
    bif (y2 == 0) then
      let s5 : Sl := psl (Int.toNat 4) [(-1), (x6 + 1), 1099511627776, (-4611686018427387904)]
      callK S .chg 230 [.ref 250 [.sl 5 .u8 1 (psl m1 e2).n (psl m1 e2).xs, .int .i64 y3, .int .u64 y4], .sl 2 .i64 1 s5.n s5.xs] [(.int .i64), (.int .i64), (.int .u64)] [none, (some (0, 4096)), none] [] [] fun l6 b6 r6 u6 =>
        let y7 : Int := (l6.headD 0)
        let y8 : Int := (l6.tail.headD 0)
        let y9 : Int := (l6.tail.tail.headD 0)
        some [.int .i64 y7, .int .i64 y8, .int .u64 y9]
    else
      callK S .chg 249 [.ref 250 [.sl 5 .u8 1 (psl m1 e2).n (psl m1 e2).xs, .int .i64 y3, .int .u64 y4], .int .i64 (x6 + 1)] [(.int .i64), (.int .i64), (.int .u64)] [none, (some (0, 4096)), none] [] [] fun l10 b10 r10 u10 =>
        let y11 : Int := (l10.headD 0)
        let y12 : Int := (l10.tail.headD 0)
        let y13 : Int := (l10.tail.tail.headD 0)
        some [.int .i64 y11, .int .i64 y12, .int .u64 y13]
theorem ev206 (S : Tab) (T3 : TypeId) (m1 : Nat) (e2 : List Int) (x4 : Int) (x5 : Int) (x6 : Int) : ev S F206.shs F206.rm F206.t [] ⟨⟨[x4, x5, x6], [], [0], [(psl m1 e2)], [], []⟩, []⟩ = P206 S T3 m1 e2 x4 x5 x6 := by kernel_rfl
theorem eq206 (T3 : TypeId) (m1 : Nat) (e2 : List Int) (x4 : Int) (x5 : Int) (x6 : Int) (h : okIv [some (0, 4096), none, some (0, 1000)] [(some (0, 255), 4096)] [] [x4, x5, x6] [(psl m1 e2)] [] = true) : S .chg 206 [.ref 250 [.sl T3 .u8 1 m1 e2, .int .i64 x4, .int .u64 x5], .int .i64 x6] = P206 S T3 m1 e2 x4 x5 x6 :=
  (fixT_eq tb (g := 206) (ft := F206) (by kernel_rfl) (by kernel_rfl) _).trans (run_eq (p := ⟨⟨[x4, x5, x6], [], [0], [(psl m1 e2)], [], []⟩, []⟩) (by kernel_rfl) h (ev206 S T3 m1 e2 x4 x5 x6))
/-! spec.l01DrawField -/
def P199 (S : Tab) (T3 : TypeId) (m1 : Nat) (e2 : List Int) (x4 : Int) (x5 : Int) : Option (List PA) :=
  let s1 : Sl := psl (Int.toNat 13) [3, 5, 5, 7, 7, 11, 13, 13, 17, 19, 23, 29, 31]
  callK S .chg 230 [.ref 250 [.sl 5 .u8 1 (psl m1 e2).n (psl m1 e2).xs, .int .i64 x4, .int .u64 x5], .sl 2 .i64 1 s1.n s1.xs] [(.int .i64), (.int .i64), (.int .u64)] [none, (some (0, 4096)), none] [] [] fun l2 b2 r2 u2 =>
    let y3 : Int := (l2.headD 0)
    let y4 : Int := (l2.tail.headD 0)
    let y5 : Int := (l2.tail.tail.headD 0)
    some [.int .i64 y3, .int .i64 y4, .int .u64 y5]
theorem ev199 (S : Tab) (T3 : TypeId) (m1 : Nat) (e2 : List Int) (x4 : Int) (x5 : Int) : ev S F199.shs F199.rm F199.t [] ⟨⟨[x4, x5], [], [0], [(psl m1 e2)], [], []⟩, []⟩ = P199 S T3 m1 e2 x4 x5 := by kernel_rfl
theorem eq199 (T3 : TypeId) (m1 : Nat) (e2 : List Int) (x4 : Int) (x5 : Int) (h : okIv [some (0, 4096), none] [(some (0, 255), 4096)] [] [x4, x5] [(psl m1 e2)] [] = true) : S .chg 199 [.ref 250 [.sl T3 .u8 1 m1 e2, .int .i64 x4, .int .u64 x5]] = P199 S T3 m1 e2 x4 x5 :=
  (fixT_eq tb (g := 199) (ft := F199) (by kernel_rfl) (by kernel_rfl) _).trans (run_eq (p := ⟨⟨[x4, x5], [], [0], [(psl m1 e2)], [], []⟩, []⟩) (by kernel_rfl) h (ev199 S T3 m1 e2 x4 x5))
/-! spec.l01BadField -/
def P198 (S : Tab) (T3 : TypeId) (m1 : Nat) (e2 : List Int) (x4 : Int) (x5 : Int) (x6 : Int) : Option (List PA) :=
  callK S .chg 249 [.ref 250 [.sl 5 .u8 1 (psl m1 e2).n (psl m1 e2).xs, .int .i64 x4, .int .u64 x5], .int .i64 40] [(.int .i64), (.int .i64), (.int .u64)] [none, (some (0, 4096)), none] [] [] fun l1 b1 r1 u1 =>
    let y2 : Int := (l1.headD 0)
    let y3 : Int := (l1.tail.headD 0)
    let y4 : Int := (l1.tail.tail.headD 0)
    bif (y2 == 0) then
      let s5 : Sl := psl (Int.toNat 8) [2, 1, 0, (-3), 9, 15, 37, 1099511627776]
      callK S .chg 230 [.ref 250 [.sl 5 .u8 1 (psl m1 e2).n (psl m1 e2).xs, .int .i64 y3, .int .u64 y4], .sl 2 .i64 1 s5.n s5.xs] [(.int .i64), (.int .i64), (.int .u64)] [none, (some (0, 4096)), none] [] [] fun l6 b6 r6 u6 =>
        let y7 : Int := (l6.headD 0)
        let y8 : Int := (l6.tail.headD 0)
        let y9 : Int := (l6.tail.tail.headD 0)
        some [.int .i64 y7, .int .i64 y8, .int .u64 y9]
    else
      some [.int .i64 x6, .int .i64 y3, .int .u64 y4]
theorem ev198 (S : Tab) (T3 : TypeId) (m1 : Nat) (e2 : List Int) (x4 : Int) (x5 : Int) (x6 : Int) : ev S F198.shs F198.rm F198.t [] ⟨⟨[x4, x5, x6], [], [0], [(psl m1 e2)], [], []⟩, []⟩ = P198 S T3 m1 e2 x4 x5 x6 := by kernel_rfl
theorem eq198 (T3 : TypeId) (m1 : Nat) (e2 : List Int) (x4 : Int) (x5 : Int) (x6 : Int) (h : okIv [some (0, 4096), none, none] [(some (0, 255), 4096)] [] [x4, x5, x6] [(psl m1 e2)] [] = true) : S .chg 198 [.ref 250 [.sl T3 .u8 1 m1 e2, .int .i64 x4, .int .u64 x5], .int .i64 x6] = P198 S T3 m1 e2 x4 x5 x6 :=
  (fixT_eq tb (g := 198) (ft := F198) (by kernel_rfl) (by kernel_rfl) _).trans (run_eq (p := ⟨⟨[x4, x5, x6], [], [0], [(psl m1 e2)], [], []⟩, []⟩) (by kernel_rfl) h (ev198 S T3 m1 e2 x4 x5 x6))
/-! spec.l01One -/
def P184 (S : Tab) (T3 : TypeId) (m1 : Nat) (e2 : List Int) : Option (List PA) :=
  callW S 197 [.sl 5 .u8 1 (psl m1 e2).n (psl m1 e2).xs] 250 [(.sl 0), (.int .i64 (.v 0)), (.int .u64 (.v 1))] [(some (0, 0)), none] fun l1 =>
    let y2 : Int := (l1.headD 0)
    let y3 : Int := (l1.tail.headD 0)
    callK S .chg 199 [.ref 250 [.sl 5 .u8 1 (psl m1 e2).n (psl m1 e2).xs, .int .i64 y2, .int .u64 y3]] [(.int .i64), (.int .i64), (.int .u64)] [(some (3, 31)), (some (0, 4096)), none] [] [] fun l4 b4 r4 u4 =>
      let y5 : Int := (l4.headD 0)
      let y6 : Int := (l4.tail.headD 0)
      let y7 : Int := (l4.tail.tail.headD 0)
      callK S .chg 206 [.ref 250 [.sl 5 .u8 1 (psl m1 e2).n (psl m1 e2).xs, .int .i64 y6, .int .u64 y7], .int .i64 (y5 - 1)] [(.int .i64), (.int .i64), (.int .u64)] [none, (some (0, 4096)), none] [] [] fun l8 b8 r8 u8 =>
        let y9 : Int := (l8.headD 0)
        let y10 : Int := (l8.tail.headD 0)
        let y11 : Int := (l8.tail.tail.headD 0)
        callK S .chg 198 [.ref 250 [.sl 5 .u8 1 (psl m1 e2).n (psl m1 e2).xs, .int .i64 y10, .int .u64 y11], .int .i64 y5] [(.int .i64), (.int .i64), (.int .u64)] [none, (some (0, 4096)), none] [] [] fun l12 b12 r12 u12 =>
          let y13 : Int := (l12.headD 0)
          let y14 : Int := (l12.tail.headD 0)
          let y15 : Int := (l12.tail.tail.headD 0)
          some [.int .i64 y13, .int .i64 y9]
theorem ev184 (S : Tab) (T3 : TypeId) (m1 : Nat) (e2 : List Int) : ev S F184.shs F184.rm F184.t [] ⟨⟨[], [], [], [(psl m1 e2)], [], []⟩, []⟩ = P184 S T3 m1 e2 := by kernel_rfl
theorem eq184 (T3 : TypeId) (m1 : Nat) (e2 : List Int) (h : okIv [] [(some (0, 255), 4096)] [] [] [(psl m1 e2)] [] = true) : S .nrm 184 [.sl T3 .u8 1 m1 e2] = P184 S T3 m1 e2 :=
  (fixT_eq tb (g := 184) (ft := F184) (by kernel_rfl) (by kernel_rfl) _).trans (run_eq (p := ⟨⟨[], [], [], [(psl m1 e2)], [], []⟩, []⟩) (by kernel_rfl) h (ev184 S T3 m1 e2))
/-! spec.l05Draw -/
def P201 (S : Tab) (T3 : TypeId) (m1 : Nat) (e2 : List Int) : Option (List PA) :=
  callW S 197 [.sl 5 .u8 1 (psl m1 e2).n (psl m1 e2).xs] 250 [(.sl 0), (.int .i64 (.v 0)), (.int .u64 (.v 1))] [(some (0, 0)), none] fun l1 =>
    let y2 : Int := (l1.headD 0)
    let y3 : Int := (l1.tail.headD 0)
    callK S .chg 199 [.ref 250 [.sl 5 .u8 1 (psl m1 e2).n (psl m1 e2).xs, .int .i64 y2, .int .u64 y3]] [(.int .i64), (.int .i64), (.int .u64)] [(some (3, 31)), (some (0, 4096)), none] [] [] fun l4 b4 r4 u4 =>
      let y5 : Int := (l4.headD 0)
      let y6 : Int := (l4.tail.headD 0)
      let y7 : Int := (l4.tail.tail.headD 0)
      callK S .chg 206 [.ref 250 [.sl 5 .u8 1 (psl m1 e2).n (psl m1 e2).xs, .int .i64 y6, .int .u64 y7], .int .i64 40] [(.int .i64), (.int .i64), (.int .u64)] [none, (some (0, 4096)), none] [] [] fun l8 b8 r8 u8 =>
        let y9 : Int := (l8.headD 0)
        let y10 : Int := (l8.tail.headD 0)
        let y11 : Int := (l8.tail.tail.headD 0)
        let s12 : Sl := psl (Int.toNat 15) [0, 1, 2, 3, 4, 5, 6, 7, 12, (y5 - 1), y5, (y5 + 1), y9, 1000, 1001]
        callK S .chg 230 [.ref 250 [.sl 5 .u8 1 (psl m1 e2).n (psl m1 e2).xs, .int .i64 y10, .int .u64 y11], .sl 2 .i64 1 s12.n s12.xs] [(.int .i64), (.int .i64), (.int .u64)] [none, (some (0, 4096)), none] [] [] fun l13 b13 r13 u13 =>
          let y14 : Int := (l13.headD 0)
          let y15 : Int := (l13.tail.headD 0)
          let y16 : Int := (l13.tail.tail.headD 0)
          callK S .chg 206 [.ref 250 [.sl 5 .u8 1 (psl m1 e2).n (psl m1 e2).xs, .int .i64 y15, .int .u64 y16], .int .i64 (y5 - 1)] [(.int .i64), (.int .i64), (.int .u64)] [none, (some (0, 4096)), none] [] [] fun l17 b17 r17 u17 =>
            let y18 : Int := (l17.headD 0)
            let y19 : Int := (l17.tail.headD 0)
            let y20 : Int := (l17.tail.tail.headD 0)
            callK S .chg 198 [.ref 250 [.sl 5 .u8 1 (psl m1 e2).n (psl m1 e2).xs, .int .i64 y19, .int .u64 y20], .int .i64 y5] [(.int .i64), (.int .i64), (.int .u64)] [none, (some (0, 4096)), none] [] [] fun l21 b21 r21 u21 =>
              let y22 : Int := (l21.headD 0)
              let y23 : Int := (l21.tail.headD 0)
              let y24 : Int := (l21.tail.tail.headD 0)
              some [.int .i64 y22, .int .i64 y14, .int .i64 y18]
theorem ev201 (S : Tab) (T3 : TypeId) (m1 : Nat) (e2 : List Int) : ev S F201.shs F201.rm F201.t [] ⟨⟨[], [], [], [(psl m1 e2)], [], []⟩, []⟩ = P201 S T3 m1 e2 := by kernel_rfl
theorem eq201 (T3 : TypeId) (m1 : Nat) (e2 : List Int) (h : okIv [] [(some (0, 255), 4096)] [] [] [(psl m1 e2)] [] = true) : S .nrm 201 [.sl T3 .u8 1 m1 e2] = P201 S T3 m1 e2 :=
  (fixT_eq tb (g := 201) (ft := F201) (by kernel_rfl) (by kernel_rfl) _).trans (run_eq (p := ⟨⟨[], [], [], [(psl m1 e2)], [], []⟩, []⟩) (by kernel_rfl) h (ev201 S T3 m1 e2))
/-! spec.DrawOrderOfSpread -/
def P25 (S : Tab) (T3 : TypeId) (m1 : Nat) (e2 : List Int) : Option (List PA) :=
  callK S .nrm 184 [.sl 5 .u8 1 (psl m1 e2).n (psl m1 e2).xs] [(.int .i64), (.int .i64)] [none, none] [] [] fun l1 b1 r1 u1 =>
    let y2 : Int := (l1.headD 0)
    let y3 : Int := (l1.tail.headD 0)
    some [.int .i64 y2, .int .i64 y3]
theorem ev25 (S : Tab) (T3 : TypeId) (m1 : Nat) (e2 : List Int) : ev S F25.shs F25.rm F25.t [] ⟨⟨[], [], [], [(psl m1 e2)], [], []⟩, []⟩ = P25 S T3 m1 e2 := by kernel_rfl
theorem eq25 (T3 : TypeId) (m1 : Nat) (e2 : List Int) (h : okIv [] [(some (0, 255), 4096)] [] [] [(psl m1 e2)] [] = true) : S .nrm 25 [.sl T3 .u8 1 m1 e2] = P25 S T3 m1 e2 :=
  (fixT_eq tb (g := 25) (ft := F25) (by kernel_rfl) (by kernel_rfl) _).trans (run_eq (p := ⟨⟨[], [], [], [(psl m1 e2)], [], []⟩, []⟩) (by kernel_rfl) h (ev25 S T3 m1 e2))
/-! spec.DrawOrdersOf -/
def P33 (S : Tab) (T3 : TypeId) (m1 : Nat) (e2 : List Int) : Option (List PA) :=
  callW S 197 [.sl 5 .u8 1 (psl m1 e2).n (psl m1 e2).xs] 250 [(.sl 0), (.int .i64 (.v 0)), (.int .u64 (.v 1))] [(some (0, 0)), none] fun l1 =>
    let y2 : Int := (l1.headD 0)
    let y3 : Int := (l1.tail.headD 0)
    callK S .chg 199 [.ref 250 [.sl 5 .u8 1 (psl m1 e2).n (psl m1 e2).xs, .int .i64 y2, .int .u64 y3]] [(.int .i64), (.int .i64), (.int .u64)] [(some (3, 31)), (some (0, 4096)), none] [] [] fun l4 b4 r4 u4 =>
      let y5 : Int := (l4.headD 0)
      let y6 : Int := (l4.tail.headD 0)
      let y7 : Int := (l4.tail.tail.headD 0)
      callK S .chg 198 [.ref 250 [.sl 5 .u8 1 (psl m1 e2).n (psl m1 e2).xs, .int .i64 y6, .int .u64 y7], .int .i64 y5] [(.int .i64), (.int .i64), (.int .u64)] [none, (some (0, 4096)), none] [] [] fun l8 b8 r8 u8 =>
        let y9 : Int := (l8.headD 0)
        let y10 : Int := (l8.tail.headD 0)
        let y11 : Int := (l8.tail.tail.headD 0)
        some [.int .i64 y9]
theorem ev33 (S : Tab) (T3 : TypeId) (m1 : Nat) (e2 : List Int) : ev S F33.shs F33.rm F33.t [] ⟨⟨[], [], [], [(psl m1 e2)], [], []⟩, []⟩ = P33 S T3 m1 e2 := by kernel_rfl
theorem eq33 (T3 : TypeId) (m1 : Nat) (e2 : List Int) (h : okIv [] [(some (0, 255), 4096)] [] [] [(psl m1 e2)] [] = true) : S .nrm 33 [.sl T3 .u8 1 m1 e2] = P33 S T3 m1 e2 :=
  (fixT_eq tb (g := 33) (ft := F33) (by kernel_rfl) (by kernel_rfl) _).trans (run_eq (p := ⟨⟨[], [], [], [(psl m1 e2)], [], []⟩, []⟩) (by kernel_rfl) h (ev33 S T3 m1 e2))
/-! spec.DrawWalkRound -/
def P38 (S : Tab) (T3 : TypeId) (m1 : Nat) (e2 : List Int) : Option (List PA) :=
  callK S .nrm 201 [.sl 5 .u8 1 (psl m1 e2).n (psl m1 e2).xs] [(.int .i64), (.int .i64), (.int .i64)] [none, none, none] [] [] fun l1 b1 r1 u1 =>
    let y2 : Int := (l1.headD 0)
    let y3 : Int := (l1.tail.headD 0)
    let y4 : Int := (l1.tail.tail.headD 0)
    some [.int .i64 y2, .int .i64 y3, .int .i64 y4]
theorem ev38 (S : Tab) (T3 : TypeId) (m1 : Nat) (e2 : List Int) : ev S F38.shs F38.rm F38.t [] ⟨⟨[], [], [], [(psl m1 e2)], [], []⟩, []⟩ = P38 S T3 m1 e2 := by kernel_rfl
theorem eq38 (T3 : TypeId) (m1 : Nat) (e2 : List Int) (h : okIv [] [(some (0, 255), 4096)] [] [] [(psl m1 e2)] [] = true) : S .nrm 38 [.sl T3 .u8 1 m1 e2] = P38 S T3 m1 e2 :=
  (fixT_eq tb (g := 38) (ft := F38) (by kernel_rfl) (by kernel_rfl) _).trans (run_eq (p := ⟨⟨[], [], [], [(psl m1 e2)], [], []⟩, []⟩) (by kernel_rfl) h (ev38 S T3 m1 e2))
/-! spec.DrawWalkOf -/
def P42 (S : Tab) (T3 : TypeId) (m1 : Nat) (e2 : List Int) : Option (List PA) :=
  callK S .nrm 201 [.sl 5 .u8 1 (psl m1 e2).n (psl m1 e2).xs] [(.int .i64), (.int .i64), (.int .i64)] [none, none, none] [] [] fun l1 b1 r1 u1 =>
    let y2 : Int := (l1.headD 0)
    let y3 : Int := (l1.tail.headD 0)
    let y4 : Int := (l1.tail.tail.headD 0)
    callW S 197 [.sl 5 .u8 1 (psl m1 e2).n (psl m1 e2).xs] 250 [(.sl 0), (.int .i64 (.v 3)), (.int .u64 (.v 4))] [(some (0, 0)), none] fun l5 =>
      let y6 : Int := (l5.headD 0)
      let y7 : Int := (l5.tail.headD 0)
      callK S .chg 206 [.ref 250 [.sl 5 .u8 1 (psl m1 e2).n (psl m1 e2).xs, .int .i64 y6, .int .u64 y7], .int .i64 100] [(.int .i64), (.int .i64), (.int .u64)] [none, (some (0, 4096)), none] [] [] fun l8 b8 r8 u8 =>
        let y9 : Int := (l8.headD 0)
        let y10 : Int := (l8.tail.headD 0)
        let y11 : Int := (l8.tail.tail.headD 0)
        some [.int .i64 y2, .int .i64 y3, .int .i64 y4, .int .i64 y9]
theorem ev42 (S : Tab) (T3 : TypeId) (m1 : Nat) (e2 : List Int) : ev S F42.shs F42.rm F42.t [] ⟨⟨[], [], [], [(psl m1 e2)], [], []⟩, []⟩ = P42 S T3 m1 e2 := by kernel_rfl
theorem eq42 (T3 : TypeId) (m1 : Nat) (e2 : List Int) (h : okIv [] [(some (0, 255), 4096)] [] [] [(psl m1 e2)] [] = true) : S .nrm 42 [.sl T3 .u8 1 m1 e2] = P42 S T3 m1 e2 :=
  (fixT_eq tb (g := 42) (ft := F42) (by kernel_rfl) (by kernel_rfl) _).trans (run_eq (p := ⟨⟨[], [], [], [(psl m1 e2)], [], []⟩, []⟩) (by kernel_rfl) h (ev42 S T3 m1 e2))
/-! spec.DrawSpreadsOfOrder -/
def P44 (S : Tab) (T3 : TypeId) (m1 : Nat) (e2 : List Int) : Option (List PA) :=
  callK S .nrm 201 [.sl 5 .u8 1 (psl m1 e2).n (psl m1 e2).xs] [(.int .i64), (.int .i64), (.int .i64)] [none, none, none] [] [] fun l1 b1 r1 u1 =>
    let y2 : Int := (l1.headD 0)
    let y3 : Int := (l1.tail.headD 0)
    let y4 : Int := (l1.tail.tail.headD 0)
    some [.int .i64 y2, .int .i64 y3]
theorem ev44 (S : Tab) (T3 : TypeId) (m1 : Nat) (e2 : List Int) : ev S F44.shs F44.rm F44.t [] ⟨⟨[], [], [], [(psl m1 e2)], [], []⟩, []⟩ = P44 S T3 m1 e2 := by kernel_rfl
theorem eq44 (T3 : TypeId) (m1 : Nat) (e2 : List Int) (h : okIv [] [(some (0, 255), 4096)] [] [] [(psl m1 e2)] [] = true) : S .nrm 44 [.sl T3 .u8 1 m1 e2] = P44 S T3 m1 e2 :=
  (fixT_eq tb (g := 44) (ft := F44) (by kernel_rfl) (by kernel_rfl) _).trans (run_eq (p := ⟨⟨[], [], [], [(psl m1 e2)], [], []⟩, []⟩) (by kernel_rfl) h (ev44 S T3 m1 e2))
end Go.Proofs.Ytelejhggpkfdoaa.SX

namespace Go.Proofs.Ytelejhggpkfdoaa.SX
set_option linter.unusedVariables false
set_option maxRecDepth 100000
open Go.RowKit Go.Proofs
/-! impl.spreads -/
def L362_1 (S : Tab) (x2 : Int) (x1 : Int) (x3 : Int) : Kt → Kt := fun k2 li lb lr lu =>
  bif okIv [(some (1, 2001))] [((some (0, 30)), -1)] [] li lr lu then
    let y3 : Int := (li.headD 0)
    let s4 : Sl := (lr.headD nilSl)
    bif (ltB y3 x2) then
      bif (ltB y3 (s4.n : Int)) then
        bif (ltB (y3 - 1) (s4.n : Int)) then
          callK S .nrm 182 [.int .i64 x1, .int .i64 ((((2 * (1 - (2 * x3))) * (s4.xs.getD (Int.toNat y3) 0)) - (s4.xs.getD (Int.toNat (y3 - 1)) 0)) + (2 * x3))] [(.int .i64)] [(some (0, 30))] [] [] fun l5 b5 r5 u5 =>
            let y6 : Int := (l5.headD 0)
            let s7 : Sl := psl (Int.toNat 1) [y6]
            bif (leB ((s4.n : Int) + (s7.n : Int)) 1000000000000) then
              let s8 : Sl := psl (Int.toNat ((s4.n : Int) + (s7.n : Int))) (s4.xs ++ s7.xs)
              k2 [(y3 + 1)] [] [s8] []
            else none
        else none
      else none
    else
      some [.sl 2 .i64 1 s4.n s4.xs]
  else none
def P362 (S : Tab) (x1 : Int) (x2 : Int) (x3 : Int) : Option (List PA) :=
  let s1 : Sl := psl (Int.toNat 2) [0, x3]
  lp LF (L362_1 S x2 x1 x3) [1] [] [s1] []
theorem ev362 (S : Tab) (x1 : Int) (x2 : Int) (x3 : Int) : ev S F362.shs F362.rm F362.t [] ⟨⟨[x1, x2, x3], [], [], [], [], []⟩, []⟩ = P362 S x1 x2 x3 := by kernel_rfl
theorem eq362 (x1 : Int) (x2 : Int) (x3 : Int) (h : okIv [some (3, 31), some (0, 2000), some (0, 30)] [] [] [x1, x2, x3] [] [] = true) : S .nrm 362 [.int .i64 x1, .int .i64 x2, .int .i64 x3] = P362 S x1 x2 x3 :=
  (fixT_eq tb (g := 362) (ft := F362) (by kernel_rfl) (by kernel_rfl) _).trans (run_eq (p := ⟨⟨[x1, x2, x3], [], [], [], [], []⟩, []⟩) (by kernel_rfl) h (ev362 S x1 x2 x3))
/-! impl.spreadOf -/
def P196 (S : Tab) (x1 : Int) (x2 : Int) (x3 : Int) : Option (List PA) :=
  callK S .nrm 362 [.int .i64 x1, .int .i64 x2, .int .i64 x3] [(.sl 2 .i64 1)] [] [((some (0, 30)), 2002)] [] fun l1 b1 r1 u1 =>
    let s2 : Sl := (r1.headD nilSl)
    bif (ltB x2 (s2.n : Int)) then
      some [.int .i64 (s2.xs.getD (Int.toNat x2) 0)]
    else none
theorem ev196 (S : Tab) (x1 : Int) (x2 : Int) (x3 : Int) : ev S F196.shs F196.rm F196.t [] ⟨⟨[x1, x2, x3], [], [], [], [], []⟩, []⟩ = P196 S x1 x2 x3 := by kernel_rfl
theorem eq196 (x1 : Int) (x2 : Int) (x3 : Int) (h : okIv [some (3, 31), some (0, 1001), some (0, 30)] [] [] [x1, x2, x3] [] [] = true) : S .nrm 196 [.int .i64 x1, .int .i64 x2, .int .i64 x3] = P196 S x1 x2 x3 :=
  (fixT_eq tb (g := 196) (ft := F196) (by kernel_rfl) (by kernel_rfl) _).trans (run_eq (p := ⟨⟨[x1, x2, x3], [], [], [], [], []⟩, []⟩) (by kernel_rfl) h (ev196 S x1 x2 x3))
/-! impl.orderOf -/
def L187_1 (S : Tab) (s2 : Sl) (x2 : Int) : Kt → Kt := fun k3 li lb lr lu =>
  bif okIv [(some (0, 2000)), (some (1, 2001))] [] [] li lr lu then
    let y4 : Int := (li.headD 0)
    let y5 : Int := (li.tail.headD 0)
    bif (ltB (y5 + 1) (s2.n : Int)) then
      bif (ltB y5 (s2.n : Int)) then
        bif (!((s2.xs.getD (Int.toNat y5) 0) == 0)) then
          k3 [y4, (y5 + 1)] [] [] []
        else
          bif (y4 == 0) then
            bif ((s2.xs.getD (Int.toNat (y5 + 1)) 0) == x2) then
              some [.int .i64 y5, .int .i64 y5]
            else
              k3 [y5, (y5 + 1)] [] [] []
          else
            bif ((s2.xs.getD (Int.toNat (y5 + 1)) 0) == x2) then
              some [.int .i64 y4, .int .i64 y5]
            else
              k3 [y4, (y5 + 1)] [] [] []
      else none
    else
      some [.int .i64 y4, .int .i64 0]
  else none
def P187 (S : Tab) (x1 : Int) (x2 : Int) : Option (List PA) :=
  callK S .nrm 362 [.int .i64 x1, .int .i64 (((2 * x1) * x1) + 2), .int .i64 x2] [(.sl 2 .i64 1)] [] [((some (0, 30)), 2002)] [] fun l1 b1 r1 u1 =>
    let s2 : Sl := (r1.headD nilSl)
    lp LF (L187_1 S s2 x2) [0, 1] [] [] []
theorem ev187 (S : Tab) (x1 : Int) (x2 : Int) : ev S F187.shs F187.rm F187.t [] ⟨⟨[x1, x2], [], [], [], [], []⟩, []⟩ = P187 S x1 x2 := by kernel_rfl
theorem eq187 (x1 : Int) (x2 : Int) (h : okIv [some (3, 31), some (0, 30)] [] [] [x1, x2] [] [] = true) : S .nrm 187 [.int .i64 x1, .int .i64 x2] = P187 S x1 x2 :=
  (fixT_eq tb (g := 187) (ft := F187) (by kernel_rfl) (by kernel_rfl) _).trans (run_eq (p := ⟨⟨[x1, x2], [], [], [], [], []⟩, []⟩) (by kernel_rfl) h (ev187 S x1 x2))
/-! impl.OrderOfSpread$1 -/
def P185 (S : Tab) (x1 : Int) (x2 : Int) : Option (List PA) :=
  callK S .nrm 186 [.int .i64 x1, .int .i64 x2] [.bool] [] [] [] fun l1 b1 r1 u1 =>
    let c2 : Bool := (b1.headD false)
    some [.bool c2]
theorem ev185 (S : Tab) (x1 : Int) (x2 : Int) : ev S F185.shs F185.rm F185.t [] ⟨⟨[x1, x2], [], [0, 0], [], [], []⟩, []⟩ = P185 S x1 x2 := by kernel_rfl
theorem eq185 (x1 : Int) (x2 : Int) (h : okIv [some (3, 31), none] [] [] [x1, x2] [] [] = true) : S .nrm 185 [.ref 2 [.int .i64 x1], .ref 2 [.int .i64 x2]] = P185 S x1 x2 :=
  (fixT_eq tb (g := 185) (ft := F185) (by kernel_rfl) (by kernel_rfl) _).trans (run_eq (p := ⟨⟨[x1, x2], [], [0, 0], [], [], []⟩, []⟩) (by kernel_rfl) h (ev185 S x1 x2))
/-! impl.PeriodOfSpread$1 -/
def P189 (S : Tab) (x1 : Int) (x2 : Int) : Option (List PA) :=
  callK S .nrm 186 [.int .i64 x1, .int .i64 x2] [.bool] [] [] [] fun l1 b1 r1 u1 =>
    let c2 : Bool := (b1.headD false)
    some [.bool c2]
theorem ev189 (S : Tab) (x1 : Int) (x2 : Int) : ev S F189.shs F189.rm F189.t [] ⟨⟨[x1, x2], [], [0, 0], [], [], []⟩, []⟩ = P189 S x1 x2 := by kernel_rfl
theorem eq189 (x1 : Int) (x2 : Int) (h : okIv [some (3, 31), none] [] [] [x1, x2] [] [] = true) : S .nrm 189 [.ref 2 [.int .i64 x1], .ref 2 [.int .i64 x2]] = P189 S x1 x2 :=
  (fixT_eq tb (g := 189) (ft := F189) (by kernel_rfl) (by kernel_rfl) _).trans (run_eq (p := ⟨⟨[x1, x2], [], [0, 0], [], [], []⟩, []⟩) (by kernel_rfl) h (ev189 S x1 x2))
/-! impl.OrderOfSpread -/
def P26 (S : Tab) (x1 : Int) (x2 : Int) : Option (List PA) :=
  callK S .nrm 169 [.int .i64 x1, .fn 185 [.ref 2 [.int .i64 x1], .ref 2 [.int .i64 x2]]] [(.int .i64)] [none] [] [] fun l1 b1 r1 u1 =>
    let y2 : Int := (l1.headD 0)
    bif (!(y2 == 0)) then
      some [.int .i64 0, .int .i64 y2]
    else
      callK S .nrm 187 [.int .i64 x1, .int .i64 x2] [(.int .i64), (.int .i64)] [(some (0, 2000)), (some (0, 2000))] [] [] fun l3 b3 r3 u3 =>
        let y4 : Int := (l3.headD 0)
        let y5 : Int := (l3.tail.headD 0)
        some [.int .i64 y4, .int .i64 0]
theorem ev26 (S : Tab) (x1 : Int) (x2 : Int) : ev S F26.shs F26.rm F26.t [] ⟨⟨[x1, x2], [], [], [], [], []⟩, []⟩ = P26 S x1 x2 := by kernel_rfl
theorem eq26 (x1 : Int) (x2 : Int) : S .nrm 26 [.int .i64 x1, .int .i64 x2] = P26 S x1 x2 :=
  (fixT_eq tb (g := 26) (ft := F26) (by kernel_rfl) (by kernel_rfl) _).trans (run_eq (p := ⟨⟨[x1, x2], [], [], [], [], []⟩, []⟩) (by kernel_rfl) rfl (ev26 S x1 x2))
/-! impl.PeriodOfSpread -/
def P28 (S : Tab) (x1 : Int) (x2 : Int) : Option (List PA) :=
  callK S .nrm 169 [.int .i64 x1, .fn 189 [.ref 2 [.int .i64 x1], .ref 2 [.int .i64 x2]]] [(.int .i64)] [none] [] [] fun l1 b1 r1 u1 =>
    let y2 : Int := (l1.headD 0)
    bif (!(y2 == 0)) then
      some [.int .i64 0, .int .i64 y2]
    else
      callK S .nrm 187 [.int .i64 x1, .int .i64 x2] [(.int .i64), (.int .i64)] [(some (0, 2000)), (some (0, 2000))] [] [] fun l3 b3 r3 u3 =>
        let y4 : Int := (l3.headD 0)
        let y5 : Int := (l3.tail.headD 0)
        some [.int .i64 y5, .int .i64 0]
theorem ev28 (S : Tab) (x1 : Int) (x2 : Int) : ev S F28.shs F28.rm F28.t [] ⟨⟨[x1, x2], [], [], [], [], []⟩, []⟩ = P28 S x1 x2 := by kernel_rfl
theorem eq28 (x1 : Int) (x2 : Int) : S .nrm 28 [.int .i64 x1, .int .i64 x2] = P28 S x1 x2 :=
  (fixT_eq tb (g := 28) (ft := F28) (by kernel_rfl) (by kernel_rfl) _).trans (run_eq (p := ⟨⟨[x1, x2], [], [], [], [], []⟩, []⟩) (by kernel_rfl) rfl (ev28 S x1 x2))
/-! impl.SpreadsOfOrder$1 -/
def P191 (S : Tab) (x1 : Int) : Option (List PA) :=
  bif (leB 1 x1) then
    some [.bool (leB x1 1000)]
  else
    some [.bool false]
theorem ev191 (S : Tab) (x1 : Int) : ev S F191.shs F191.rm F191.t [] ⟨⟨[x1], [], [0], [], [], []⟩, []⟩ = P191 S x1 := by kernel_rfl
theorem eq191 (x1 : Int) : S .nrm 191 [.ref 2 [.int .i64 x1]] = P191 S x1 :=
  (fixT_eq tb (g := 191) (ft := F191) (by kernel_rfl) (by kernel_rfl) _).trans (run_eq (p := ⟨⟨[x1], [], [0], [], [], []⟩, []⟩) (by kernel_rfl) rfl (ev191 S x1))
/-! impl.SpreadsOfOrder$2 -/
def P193 (S : Tab) (x1 : Int) (x2 : Int) (x3 : Int) : Option (List PA) :=
  callK S .nrm 187 [.int .i64 x2, .int .i64 x1] [(.int .i64), (.int .i64)] [(some (0, 2000)), (some (0, 2000))] [] [] fun l1 b1 r1 u1 =>
    let y2 : Int := (l1.headD 0)
    let y3 : Int := (l1.tail.headD 0)
    some [.bool (y2 == x3)]
theorem ev193 (S : Tab) (x1 : Int) (x2 : Int) (x3 : Int) : ev S F193.shs F193.rm F193.t [] ⟨⟨[x1, x2, x3], [], [0, 0], [], [], []⟩, []⟩ = P193 S x1 x2 x3 := by kernel_rfl
theorem eq193 (x1 : Int) (x2 : Int) (x3 : Int) (h : okIv [some (0, 30), some (3, 31), none] [] [] [x1, x2, x3] [] [] = true) : S .nrm 193 [.int .i64 x1, .ref 2 [.int .i64 x2], .ref 2 [.int .i64 x3]] = P193 S x1 x2 x3 :=
  (fixT_eq tb (g := 193) (ft := F193) (by kernel_rfl) (by kernel_rfl) _).trans (run_eq (p := ⟨⟨[x1, x2, x3], [], [0, 0], [], [], []⟩, []⟩) (by kernel_rfl) h (ev193 S x1 x2 x3))
/-! impl.numbersWith -/
def L192_1 (S : Tab) (x1 : Int) (g2 : FuncId) (z3 : List PA) : Kt → Kt := fun k2 li lb lr lu =>
  bif okIv [(some (0, 31))] [((some (0, 30)), -1)] [] li lr lu then
    let y3 : Int := (li.headD 0)
    let s4 : Sl := (lr.headD nilSl)
    bif (ltB y3 x1) then
      callK S .nrm g2 ([.int .i64 y3] ++ z3) [.bool] [] [] [] fun l5 b5 r5 u5 =>
        let c6 : Bool := (b5.headD false)
        bif c6 then
          let s7 : Sl := psl (Int.toNat 1) [y3]
          bif (leB ((s4.n : Int) + (s7.n : Int)) 1000000000000) then
            let s8 : Sl := psl (Int.toNat ((s4.n : Int) + (s7.n : Int))) (s4.xs ++ s7.xs)
            k2 [(y3 + 1)] [] [s8] []
          else none
        else
          k2 [(y3 + 1)] [] [s4] []
    else
      some [.sl 2 .i64 1 s4.n s4.xs]
  else none
def P192 (S : Tab) (x1 : Int) (g2 : FuncId) (z3 : List PA) : Option (List PA) :=
  let s1 : Sl := psl (Int.toNat 0) []
  lp LF (L192_1 S x1 g2 z3) [0] [] [s1] []
theorem ev192 (S : Tab) (x1 : Int) (g2 : FuncId) (z3 : List PA) : ev S F192.shs F192.rm F192.t [] ⟨⟨[x1], [], [], [], [], []⟩, [.given g2 z3]⟩ = P192 S x1 g2 z3 := by kernel_rfl
theorem eq192 (x1 : Int) (g2 : FuncId) (z3 : List PA) (h : okIv [some (3, 31)] [] [] [x1] [] [] = true) : S .nrm 192 [.int .i64 x1, .fn g2 z3] = P192 S x1 g2 z3 :=
  (fixT_eq tb (g := 192) (ft := F192) (by kernel_rfl) (by kernel_rfl) _).trans (run_eq (p := ⟨⟨[x1], [], [], [], [], []⟩, [.given g2 z3]⟩) (by kernel_rfl) h (ev192 S x1 g2 z3))
/-! impl.SpreadsOfOrder -/
def P30 (S : Tab) (x1 : Int) (x2 : Int) : Option (List PA) :=
  callK S .nrm 169 [.int .i64 x1, .fn 191 [.ref 2 [.int .i64 x2]]] [(.int .i64)] [none] [] [] fun l1 b1 r1 u1 =>
    let y2 : Int := (l1.headD 0)
    bif (!(y2 == 0)) then
      some [.sl 2 .i64 1 0 [], .int .i64 y2]
    else
      callK S .nrm 192 [.int .i64 x1, .fn 193 [.ref 2 [.int .i64 x1], .ref 2 [.int .i64 x2]]] [(.sl 2 .i64 1)] [] [((some (0, 30)), 32)] [] fun l3 b3 r3 u3 =>
        let s4 : Sl := (r3.headD nilSl)
        some [.sl 2 .i64 1 s4.n s4.xs, .int .i64 0]
theorem ev30 (S : Tab) (x1 : Int) (x2 : Int) : ev S F30.shs F30.rm F30.t [] ⟨⟨[x1, x2], [], [], [], [], []⟩, []⟩ = P30 S x1 x2 := by kernel_rfl
theorem eq30 (x1 : Int) (x2 : Int) : S .nrm 30 [.int .i64 x1, .int .i64 x2] = P30 S x1 x2 :=
  (fixT_eq tb (g := 30) (ft := F30) (by kernel_rfl) (by kernel_rfl) _).trans (run_eq (p := ⟨⟨[x1, x2], [], [], [], [], []⟩, []⟩) (by kernel_rfl) rfl (ev30 S x1 x2))
/-! impl.SpreadPolynomial$1 -/
def P194 (S : Tab) (x1 : Int) (x2 : Int) (x3 : Int) : Option (List PA) :=
  callK S .nrm 186 [.int .i64 x1, .int .i64 x2] [.bool] [] [] [] fun l1 b1 r1 u1 =>
    let c2 : Bool := (b1.headD false)
    bif c2 then
      callK S .nrm 195 [.int .i64 x3] [.bool] [] [] [] fun l3 b3 r3 u3 =>
        let c4 : Bool := (b3.headD false)
        some [.bool c4]
    else
      some [.bool false]
theorem ev194 (S : Tab) (x1 : Int) (x2 : Int) (x3 : Int) : ev S F194.shs F194.rm F194.t [] ⟨⟨[x1, x2, x3], [], [0, 0, 0], [], [], []⟩, []⟩ = P194 S x1 x2 x3 := by kernel_rfl
theorem eq194 (x1 : Int) (x2 : Int) (x3 : Int) (h : okIv [some (3, 31), none, none] [] [] [x1, x2, x3] [] [] = true) : S .nrm 194 [.ref 2 [.int .i64 x1], .ref 2 [.int .i64 x2], .ref 2 [.int .i64 x3]] = P194 S x1 x2 x3 :=
  (fixT_eq tb (g := 194) (ft := F194) (by kernel_rfl) (by kernel_rfl) _).trans (run_eq (p := ⟨⟨[x1, x2, x3], [], [0, 0, 0], [], [], []⟩, []⟩) (by kernel_rfl) h (ev194 S x1 x2 x3))
/-! impl.SpreadPolynomial -/
def P31 (S : Tab) (x1 : Int) (x2 : Int) (x3 : Int) : Option (List PA) :=
  callK S .nrm 169 [.int .i64 x1, .fn 194 [.ref 2 [.int .i64 x1], .ref 2 [.int .i64 x3], .ref 2 [.int .i64 x2]]] [(.int .i64)] [none] [] [] fun l1 b1 r1 u1 =>
    let y2 : Int := (l1.headD 0)
    bif (!(y2 == 0)) then
      some [.int .i64 0, .int .i64 y2]
    else
      callK S .nrm 196 [.int .i64 x1, .int .i64 x2, .int .i64 x3] [(.int .i64)] [(some (0, 30))] [] [] fun l3 b3 r3 u3 =>
        let y4 : Int := (l3.headD 0)
        some [.int .i64 y4, .int .i64 0]
theorem ev31 (S : Tab) (x1 : Int) (x2 : Int) (x3 : Int) : ev S F31.shs F31.rm F31.t [] ⟨⟨[x1, x2, x3], [], [], [], [], []⟩, []⟩ = P31 S x1 x2 x3 := by kernel_rfl
theorem eq31 (x1 : Int) (x2 : Int) (x3 : Int) : S .nrm 31 [.int .i64 x1, .int .i64 x2, .int .i64 x3] = P31 S x1 x2 x3 :=
  (fixT_eq tb (g := 31) (ft := F31) (by kernel_rfl) (by kernel_rfl) _).trans (run_eq (p := ⟨⟨[x1, x2, x3], [], [], [], [], []⟩, []⟩) (by kernel_rfl) rfl (ev31 S x1 x2 x3))
/-! impl.OrdersOf -/
def L34_2 (S : Tab) (s6 : Sl) : Kt → Kt := fun k13 li lb lr lu =>
  bif okIv [(some (0, 2000))] [((some (0, 2000)), -1), ((some (0, 40)), -1)] [] li lr lu then
    let y14 : Int := (li.headD 0)
    let s15 : Sl := (lr.headD nilSl)
    let s16 : Sl := (lr.tail.headD nilSl)
    bif (ltB y14 (s6.n : Int)) then
      bif (ltB 0 (s6.xs.getD (Int.toNat y14) 0)) then
        let s17 : Sl := psl (Int.toNat 1) [y14]
        bif (leB ((s15.n : Int) + (s17.n : Int)) 1000000000000) then
          let s18 : Sl := psl (Int.toNat ((s15.n : Int) + (s17.n : Int))) (s15.xs ++ s17.xs)
          let s19 : Sl := psl (Int.toNat 1) [(s6.xs.getD (Int.toNat y14) 0)]
          bif (leB ((s16.n : Int) + (s19.n : Int)) 1000000000000) then
            let s20 : Sl := psl (Int.toNat ((s16.n : Int) + (s19.n : Int))) (s16.xs ++ s19.xs)
            k13 [(y14 + 1)] [] [s18, s20] []
          else none
        else none
      else
        k13 [(y14 + 1)] [] [s15, s16] []
    else
      some [.sl 2 .i64 1 s15.n s15.xs, .sl 2 .i64 1 s16.n s16.xs, .int .i64 0]
  else none
def L34_1 (S : Tab) (x1 : Int) : Kt → Kt := fun k4 li lb lr lu =>
  bif okIv [(some (0, 31))] [((some (0, 40)), 2000)] [] li lr lu then
    let y5 : Int := (li.headD 0)
    let s6 : Sl := (lr.headD nilSl)
    bif (ltB y5 x1) then
      callK S .nrm 187 [.int .i64 x1, .int .i64 y5] [(.int .i64), (.int .i64)] [(some (0, 2000)), (some (0, 2000))] [] [] fun l7 b7 r7 u7 =>
        let y8 : Int := (l7.headD 0)
        let y9 : Int := (l7.tail.headD 0)
        bif (ltB y8 (s6.n : Int)) then
          let s10 : Sl := psl s6.n (setInts s6.xs (Int.toNat y8) [((s6.xs.getD (Int.toNat y8) 0) + 1)])
          k4 [(y5 + 1)] [] [s10] []
        else none
    else
      let s11 : Sl := psl (Int.toNat 0) []
      let s12 : Sl := psl (Int.toNat 0) []
      lp LF (L34_2 S s6) [0] [] [s11, s12] []
  else none
def P34 (S : Tab) (x1 : Int) : Option (List PA) :=
  callK S .nrm 200 [.int .i64 x1] [.bool] [] [] [] fun l1 b1 r1 u1 =>
    let c2 : Bool := (b1.headD false)
    bif (!c2) then
      some [.sl 2 .i64 1 0 [], .sl 2 .i64 1 0 [], .int .i64 1]
    else
      bif (leB (-9223372036854775808) (2 * x1)) then
        bif (leB (2 * x1) 9223372036854775807) then
          bif (leB (-9223372036854775808) ((2 * x1) * x1)) then
            bif (leB ((2 * x1) * x1) 9223372036854775807) then
              bif (leB (-9223372036854775808) (((2 * x1) * x1) + 3)) then
                bif (leB (((2 * x1) * x1) + 3) 9223372036854775807) then
                  bif (leB 0 (((2 * x1) * x1) + 3)) then
                    bif (leB (((2 * x1) * x1) + 3) 1048576) then
                      let s3 : Sl := psl (Int.toNat (((2 * x1) * x1) + 3)) (List.replicate (Int.toNat (((2 * x1) * x1) + 3) * 1) 0)
                      lp LF (L34_1 S x1) [0] [] [s3] []
                    else none
                  else none
                else none
              else none
            else none
          else none
        else none
      else none
theorem ev34 (S : Tab) (x1 : Int) : ev S F34.shs F34.rm F34.t [] ⟨⟨[x1], [], [], [], [], []⟩, []⟩ = P34 S x1 := by kernel_rfl
theorem eq34 (x1 : Int) : S .nrm 34 [.int .i64 x1] = P34 S x1 :=
  (fixT_eq tb (g := 34) (ft := F34) (by kernel_rfl) (by kernel_rfl) _).trans (run_eq (p := ⟨⟨[x1], [], [], [], [], []⟩, []⟩) (by kernel_rfl) rfl (ev34 S x1))
/-! impl.WalkRound$1 -/
def P202 (S : Tab) (x1 : Int) (x2 : Int) (x3 : Int) : Option (List PA) :=
  callK S .nrm 186 [.int .i64 x1, .int .i64 x2] [.bool] [] [] [] fun l1 b1 r1 u1 =>
    let c2 : Bool := (b1.headD false)
    bif c2 then
      callK S .nrm 195 [.int .i64 x3] [.bool] [] [] [] fun l3 b3 r3 u3 =>
        let c4 : Bool := (b3.headD false)
        some [.bool c4]
    else
      some [.bool false]
theorem ev202 (S : Tab) (x1 : Int) (x2 : Int) (x3 : Int) : ev S F202.shs F202.rm F202.t [] ⟨⟨[x1, x2, x3], [], [0, 0, 0], [], [], []⟩, []⟩ = P202 S x1 x2 x3 := by kernel_rfl
theorem eq202 (x1 : Int) (x2 : Int) (x3 : Int) (h : okIv [some (3, 31), none, none] [] [] [x1, x2, x3] [] [] = true) : S .nrm 202 [.ref 2 [.int .i64 x1], .ref 2 [.int .i64 x2], .ref 2 [.int .i64 x3]] = P202 S x1 x2 x3 :=
  (fixT_eq tb (g := 202) (ft := F202) (by kernel_rfl) (by kernel_rfl) _).trans (run_eq (p := ⟨⟨[x1, x2, x3], [], [0, 0, 0], [], [], []⟩, []⟩) (by kernel_rfl) h (ev202 S x1 x2 x3))
/-! impl.WalkOf$1 -/
def P205 (S : Tab) (x1 : Int) (x2 : Int) (x3 : Int) (x4 : Int) : Option (List PA) :=
  callK S .nrm 186 [.int .i64 x1, .int .i64 x2] [.bool] [] [] [] fun l1 b1 r1 u1 =>
    let c2 : Bool := (b1.headD false)
    bif c2 then
      callK S .nrm 195 [.int .i64 x3] [.bool] [] [] [] fun l3 b3 r3 u3 =>
        let c4 : Bool := (b3.headD false)
        bif c4 then
          bif (leB 0 x4) then
            some [.bool (leB x4 100)]
          else
            some [.bool false]
        else
          some [.bool false]
    else
      some [.bool false]
theorem ev205 (S : Tab) (x1 : Int) (x2 : Int) (x3 : Int) (x4 : Int) : ev S F205.shs F205.rm F205.t [] ⟨⟨[x1, x2, x3, x4], [], [0, 0, 0, 0], [], [], []⟩, []⟩ = P205 S x1 x2 x3 x4 := by kernel_rfl
theorem eq205 (x1 : Int) (x2 : Int) (x3 : Int) (x4 : Int) (h : okIv [some (3, 31), none, none, none] [] [] [x1, x2, x3, x4] [] [] = true) : S .nrm 205 [.ref 2 [.int .i64 x1], .ref 2 [.int .i64 x2], .ref 2 [.int .i64 x3], .ref 2 [.int .i64 x4]] = P205 S x1 x2 x3 x4 :=
  (fixT_eq tb (g := 205) (ft := F205) (by kernel_rfl) (by kernel_rfl) _).trans (run_eq (p := ⟨⟨[x1, x2, x3, x4], [], [0, 0, 0, 0], [], [], []⟩, []⟩) (by kernel_rfl) h (ev205 S x1 x2 x3 x4))
/-! impl.valuesOf -/
def L363_1 (S : Tab) (x1 : Int) (x2 : Int) : Kt → Kt := fun k2 li lb lr lu =>
  bif okIv [(some (0, 31))] [((some (0, 30)), -1)] [] li lr lu then
    let y3 : Int := (li.headD 0)
    let s4 : Sl := (lr.headD nilSl)
    bif (ltB y3 x1) then
      callK S .nrm 196 [.int .i64 x1, .int .i64 x2, .int .i64 y3] [(.int .i64)] [(some (0, 30))] [] [] fun l5 b5 r5 u5 =>
        let y6 : Int := (l5.headD 0)
        let s7 : Sl := psl (Int.toNat 1) [y6]
        bif (leB ((s4.n : Int) + (s7.n : Int)) 1000000000000) then
          let s8 : Sl := psl (Int.toNat ((s4.n : Int) + (s7.n : Int))) (s4.xs ++ s7.xs)
          k2 [(y3 + 1)] [] [s8] []
        else none
    else
      some [.sl 2 .i64 1 s4.n s4.xs]
  else none
def P363 (S : Tab) (x1 : Int) (x2 : Int) : Option (List PA) :=
  let s1 : Sl := psl (Int.toNat 0) []
  lp LF (L363_1 S x1 x2) [0] [] [s1] []
theorem ev363 (S : Tab) (x1 : Int) (x2 : Int) : ev S F363.shs F363.rm F363.t [] ⟨⟨[x1, x2], [], [], [], [], []⟩, []⟩ = P363 S x1 x2 := by kernel_rfl
theorem eq363 (x1 : Int) (x2 : Int) (h : okIv [some (3, 31), some (0, 1000)] [] [] [x1, x2] [] [] = true) : S .nrm 363 [.int .i64 x1, .int .i64 x2] = P363 S x1 x2 :=
  (fixT_eq tb (g := 363) (ft := F363) (by kernel_rfl) (by kernel_rfl) _).trans (run_eq (p := ⟨⟨[x1, x2], [], [], [], [], []⟩, []⟩) (by kernel_rfl) h (ev363 S x1 x2))
/-! impl.walk -/
def L203_1 (S : Tab) (s2 : Sl) : Kt → Kt := fun k4 li lb lr lu =>
  bif okIv [(some (0, 30)), (some (0, 200))] [((some (0, 30)), -1)] [] li lr lu then
    let y5 : Int := (li.headD 0)
    let y6 : Int := (li.tail.headD 0)
    let s7 : Sl := (lr.headD nilSl)
    bif (ltB 0 y6) then
      bif (ltB y5 (s2.n : Int)) then
        let s8 : Sl := psl (Int.toNat 1) [(s2.xs.getD (Int.toNat y5) 0)]
        bif (leB ((s7.n : Int) + (s8.n : Int)) 1000000000000) then
          let s9 : Sl := psl (Int.toNat ((s7.n : Int) + (s8.n : Int))) (s7.xs ++ s8.xs)
          k4 [(s2.xs.getD (Int.toNat y5) 0), (y6 - 1)] [] [s9] []
        else none
      else none
    else
      some [.sl 2 .i64 1 s7.n s7.xs]
  else none
def P203 (S : Tab) (x1 : Int) (x2 : Int) (x3 : Int) (x4 : Int) : Option (List PA) :=
  callK S .nrm 363 [.int .i64 x1, .int .i64 x2] [(.sl 2 .i64 1)] [] [((some (0, 30)), 32)] [] fun l1 b1 r1 u1 =>
    let s2 : Sl := (r1.headD nilSl)
    let s3 : Sl := psl (Int.toNat 1) [x3]
    lp LF (L203_1 S s2) [x3, x4] [] [s3] []
theorem ev203 (S : Tab) (x1 : Int) (x2 : Int) (x3 : Int) (x4 : Int) : ev S F203.shs F203.rm F203.t [] ⟨⟨[x1, x2, x3, x4], [], [], [], [], []⟩, []⟩ = P203 S x1 x2 x3 x4 := by kernel_rfl
theorem eq203 (x1 : Int) (x2 : Int) (x3 : Int) (x4 : Int) (h : okIv [some (3, 31), some (0, 1000), some (0, 30), some (0, 200)] [] [] [x1, x2, x3, x4] [] [] = true) : S .nrm 203 [.int .i64 x1, .int .i64 x2, .int .i64 x3, .int .i64 x4] = P203 S x1 x2 x3 x4 :=
  (fixT_eq tb (g := 203) (ft := F203) (by kernel_rfl) (by kernel_rfl) _).trans (run_eq (p := ⟨⟨[x1, x2, x3, x4], [], [], [], [], []⟩, []⟩) (by kernel_rfl) h (ev203 S x1 x2 x3 x4))
/-! impl.WalkRound -/
def L39_2 (S : Tab) (s4 : Sl) (y6 : Int) (k5 : Kt) : Kt → Kt := fun k7 li lb lr lu =>
  bif okIv [(some (0, 300))] [] [] li lr lu then
    let y8 : Int := (li.headD 0)
    bif (ltB y8 (s4.n : Int)) then
      bif ((s4.xs.getD (Int.toNat y8) 0) == (s4.xs.getD (Int.toNat y6) 0)) then
        some [.int .i64 y6, .int .i64 (y8 - y6), .int .i64 0]
      else
        k7 [(y8 + 1)] [] [] []
    else
      k5 [(y6 + 1)] [] [] []
  else none
def L39_1 (S : Tab) (s4 : Sl) : Kt → Kt := fun k5 li lb lr lu =>
  bif okIv [(some (0, 300))] [] [] li lr lu then
    let y6 : Int := (li.headD 0)
    bif (ltB y6 (s4.n : Int)) then
      lp LF (L39_2 S s4 y6 k5) [(y6 + 1)] [] [] []
    else
      some [.int .i64 0, .int .i64 0, .int .i64 0]
  else none
def P39 (S : Tab) (x1 : Int) (x2 : Int) (x3 : Int) : Option (List PA) :=
  callK S .nrm 169 [.int .i64 x1, .fn 202 [.ref 2 [.int .i64 x1], .ref 2 [.int .i64 x3], .ref 2 [.int .i64 x2]]] [(.int .i64)] [none] [] [] fun l1 b1 r1 u1 =>
    let y2 : Int := (l1.headD 0)
    bif (!(y2 == 0)) then
      some [.int .i64 0, .int .i64 0, .int .i64 y2]
    else
      bif (leB (-9223372036854775808) (2 * x1)) then
        bif (leB (2 * x1) 9223372036854775807) then
          bif (leB (-9223372036854775808) ((2 * x1) + 2)) then
            bif (leB ((2 * x1) + 2) 9223372036854775807) then
              callK S .nrm 203 [.int .i64 x1, .int .i64 x2, .int .i64 x3, .int .i64 ((2 * x1) + 2)] [(.sl 2 .i64 1)] [] [((some (0, 30)), 300)] [] fun l3 b3 r3 u3 =>
                let s4 : Sl := (r3.headD nilSl)
                lp LF (L39_1 S s4) [0] [] [] []
            else none
          else none
        else none
      else none
theorem ev39 (S : Tab) (x1 : Int) (x2 : Int) (x3 : Int) : ev S F39.shs F39.rm F39.t [] ⟨⟨[x1, x2, x3], [], [], [], [], []⟩, []⟩ = P39 S x1 x2 x3 := by kernel_rfl
theorem eq39 (x1 : Int) (x2 : Int) (x3 : Int) : S .nrm 39 [.int .i64 x1, .int .i64 x2, .int .i64 x3] = P39 S x1 x2 x3 :=
  (fixT_eq tb (g := 39) (ft := F39) (by kernel_rfl) (by kernel_rfl) _).trans (run_eq (p := ⟨⟨[x1, x2, x3], [], [], [], [], []⟩, []⟩) (by kernel_rfl) rfl (ev39 S x1 x2 x3))
/-! impl.WalkOf -/
def P41 (S : Tab) (x1 : Int) (x2 : Int) (x3 : Int) (x4 : Int) : Option (List PA) :=
  callK S .nrm 169 [.int .i64 x1, .fn 205 [.ref 2 [.int .i64 x1], .ref 2 [.int .i64 x3], .ref 2 [.int .i64 x2], .ref 2 [.int .i64 x4]]] [(.int .i64)] [none] [] [] fun l1 b1 r1 u1 =>
    let y2 : Int := (l1.headD 0)
    bif (!(y2 == 0)) then
      some [.sl 2 .i64 1 0 [], .int .i64 y2]
    else
      callK S .nrm 203 [.int .i64 x1, .int .i64 x2, .int .i64 x3, .int .i64 x4] [(.sl 2 .i64 1)] [] [((some (0, 30)), 300)] [] fun l3 b3 r3 u3 =>
        let s4 : Sl := (r3.headD nilSl)
        some [.sl 2 .i64 1 s4.n s4.xs, .int .i64 0]
theorem ev41 (S : Tab) (x1 : Int) (x2 : Int) (x3 : Int) (x4 : Int) : ev S F41.shs F41.rm F41.t [] ⟨⟨[x1, x2, x3, x4], [], [], [], [], []⟩, []⟩ = P41 S x1 x2 x3 x4 := by kernel_rfl
theorem eq41 (x1 : Int) (x2 : Int) (x3 : Int) (x4 : Int) : S .nrm 41 [.int .i64 x1, .int .i64 x2, .int .i64 x3, .int .i64 x4] = P41 S x1 x2 x3 x4 :=
  (fixT_eq tb (g := 41) (ft := F41) (by kernel_rfl) (by kernel_rfl) _).trans (run_eq (p := ⟨⟨[x1, x2, x3, x4], [], [], [], [], []⟩, []⟩) (by kernel_rfl) rfl (ev41 S x1 x2 x3 x4))
/-! spec.l05Value -/
def L190_1 (S : Tab) (x3 : Int) (x1 : Int) : Kt → Kt := fun k1 li lb lr lu =>
  bif okIv [(some (0, 1000000)), (some (0, 30)), (some (0, 30))] [] [] li lr lu then
    let y2 : Int := (li.headD 0)
    let y3 : Int := (li.tail.headD 0)
    let y4 : Int := (li.tail.tail.headD 0)
    bif (ltB 0 y2) then
      callK S .nrm 176 [.int .i64 ((((Int.tmod (2 * (1 - (2 * x3))) x1) * y4) - y3) + (2 * x3)), .int .i64 x1] [(.int .i64)] [(some (0, 30))] [] [] fun l5 b5 r5 u5 =>
        let y6 : Int := (l5.headD 0)
        k1 [(y2 - 1), y4, y6] [] [] []
    else
      some [.int .i64 y3]
  else none
def P190 (S : Tab) (x1 : Int) (x2 : Int) (x3 : Int) : Option (List PA) :=
  lp LF (L190_1 S x3 x1) [x2, 0, x3] [] [] []
theorem ev190 (S : Tab) (x1 : Int) (x2 : Int) (x3 : Int) : ev S F190.shs F190.rm F190.t [] ⟨⟨[x1, x2, x3], [], [], [], [], []⟩, []⟩ = P190 S x1 x2 x3 := by kernel_rfl
theorem eq190 (x1 : Int) (x2 : Int) (x3 : Int) (h : okIv [some (3, 31), some (0, 1000000), some (0, 30)] [] [] [x1, x2, x3] [] [] = true) : S .nrm 190 [.int .i64 x1, .int .i64 x2, .int .i64 x3] = P190 S x1 x2 x3 :=
  (fixT_eq tb (g := 190) (ft := F190) (by kernel_rfl) (by kernel_rfl) _).trans (run_eq (p := ⟨⟨[x1, x2, x3], [], [], [], [], []⟩, []⟩) (by kernel_rfl) h (ev190 S x1 x2 x3))
/-! spec.l05Order -/
def L188_1 (S : Tab) (x1 : Int) (x2 : Int) : Kt → Kt := fun k1 li lb lr lu =>
  bif okIv [(some (1, 2000))] [] [] li lr lu then
    let y2 : Int := (li.headD 0)
    callK S .nrm 190 [.int .i64 x1, .int .i64 y2, .int .i64 x2] [(.int .i64)] [(some (0, 30))] [] [] fun l3 b3 r3 u3 =>
      let y4 : Int := (l3.headD 0)
      bif (!(y4 == 0)) then
        k1 [(y2 + 1)] [] [] []
      else
        some [.int .i64 y2]
  else none
def P188 (S : Tab) (x1 : Int) (x2 : Int) : Option (List PA) :=
  lp LF (L188_1 S x1 x2) [1] [] [] []
theorem ev188 (S : Tab) (x1 : Int) (x2 : Int) : ev S F188.shs F188.rm F188.t [] ⟨⟨[x1, x2], [], [], [], [], []⟩, []⟩ = P188 S x1 x2 := by kernel_rfl
theorem eq188 (x1 : Int) (x2 : Int) (h : okIv [some (3, 31), some (0, 30)] [] [] [x1, x2] [] [] = true) : S .nrm 188 [.int .i64 x1, .int .i64 x2] = P188 S x1 x2 :=
  (fixT_eq tb (g := 188) (ft := F188) (by kernel_rfl) (by kernel_rfl) _).trans (run_eq (p := ⟨⟨[x1, x2], [], [], [], [], []⟩, []⟩) (by kernel_rfl) h (ev188 S x1 x2))
/-! spec.l05Code -/
def P204 (S : Tab) (x1 : Int) (x2 : Int) (T5 : TypeId) (m3 : Nat) (e4 : List Int) : Option (List PA) :=
  callK S .nrm 167 [.int .i64 x1, .sl 2 .i64 1 (psl m3 e4).n (psl m3 e4).xs] [(.int .i64)] [none] [] [] fun l1 b1 r1 u1 =>
    let y2 : Int := (l1.headD 0)
    bif (y2 == 0) then
      callK S .nrm 207 [.int .i64 x2, .int .i64 0, .int .i64 1000] [.bool] [] [] [] fun l3 b3 r3 u3 =>
        let c4 : Bool := (b3.headD false)
        bif (!c4) then
          some [.int .i64 2]
        else
          some [.int .i64 y2]
    else
      some [.int .i64 y2]
theorem ev204 (S : Tab) (x1 : Int) (x2 : Int) (T5 : TypeId) (m3 : Nat) (e4 : List Int) : ev S F204.shs F204.rm F204.t [] ⟨⟨[x1, x2], [], [], [(psl m3 e4)], [], []⟩, []⟩ = P204 S x1 x2 T5 m3 e4 := by kernel_rfl
theorem eq204 (x1 : Int) (x2 : Int) (T5 : TypeId) (m3 : Nat) (e4 : List Int) (h : okIv [none, none] [(none, 1048576)] [] [x1, x2] [(psl m3 e4)] [] = true) : S .nrm 204 [.int .i64 x1, .int .i64 x2, .sl T5 .i64 1 m3 e4] = P204 S x1 x2 T5 m3 e4 :=
  (fixT_eq tb (g := 204) (ft := F204) (by kernel_rfl) (by kernel_rfl) _).trans (run_eq (p := ⟨⟨[x1, x2], [], [], [(psl m3 e4)], [], []⟩, []⟩) (by kernel_rfl) h (ev204 S x1 x2 T5 m3 e4))
/-! spec.OrderOfSpread -/
def P27 (S : Tab) (x1 : Int) (x2 : Int) : Option (List PA) :=
  let s1 : Sl := psl (Int.toNat 1) [x2]
  callK S .nrm 167 [.int .i64 x1, .sl 2 .i64 1 s1.n s1.xs] [(.int .i64)] [none] [] [] fun l2 b2 r2 u2 =>
    let y3 : Int := (l2.headD 0)
    bif (!(y3 == 0)) then
      some [.int .i64 0, .int .i64 y3]
    else
      callK S .nrm 188 [.int .i64 x1, .int .i64 x2] [(.int .i64)] [(some (1, 2000))] [] [] fun l4 b4 r4 u4 =>
        let y5 : Int := (l4.headD 0)
        some [.int .i64 y5, .int .i64 0]
theorem ev27 (S : Tab) (x1 : Int) (x2 : Int) : ev S F27.shs F27.rm F27.t [] ⟨⟨[x1, x2], [], [], [], [], []⟩, []⟩ = P27 S x1 x2 := by kernel_rfl
theorem eq27 (x1 : Int) (x2 : Int) : S .nrm 27 [.int .i64 x1, .int .i64 x2] = P27 S x1 x2 :=
  (fixT_eq tb (g := 27) (ft := F27) (by kernel_rfl) (by kernel_rfl) _).trans (run_eq (p := ⟨⟨[x1, x2], [], [], [], [], []⟩, []⟩) (by kernel_rfl) rfl (ev27 S x1 x2))
/-! spec.PeriodOfSpread -/
def L29_1 (S : Tab) (x1 : Int) (x2 : Int) : Kt → Kt := fun k4 li lb lr lu =>
  bif okIv [(some (1, 2000))] [] [] li lr lu then
    let y5 : Int := (li.headD 0)
    callK S .nrm 190 [.int .i64 x1, .int .i64 y5, .int .i64 x2] [(.int .i64)] [(some (0, 30))] [] [] fun l6 b6 r6 u6 =>
      let y7 : Int := (l6.headD 0)
      bif (!(y7 == 0)) then
        k4 [(y5 + 1)] [] [] []
      else
        callK S .nrm 190 [.int .i64 x1, .int .i64 (y5 + 1), .int .i64 x2] [(.int .i64)] [(some (0, 30))] [] [] fun l8 b8 r8 u8 =>
          let y9 : Int := (l8.headD 0)
          bif (!(y9 == x2)) then
            k4 [(y5 + 1)] [] [] []
          else
            some [.int .i64 y5, .int .i64 0]
  else none
def P29 (S : Tab) (x1 : Int) (x2 : Int) : Option (List PA) :=
  let s1 : Sl := psl (Int.toNat 1) [x2]
  callK S .nrm 167 [.int .i64 x1, .sl 2 .i64 1 s1.n s1.xs] [(.int .i64)] [none] [] [] fun l2 b2 r2 u2 =>
    let y3 : Int := (l2.headD 0)
    bif (!(y3 == 0)) then
      some [.int .i64 0, .int .i64 y3]
    else
      lp LF (L29_1 S x1 x2) [1] [] [] []
theorem ev29 (S : Tab) (x1 : Int) (x2 : Int) : ev S F29.shs F29.rm F29.t [] ⟨⟨[x1, x2], [], [], [], [], []⟩, []⟩ = P29 S x1 x2 := by kernel_rfl
theorem eq29 (x1 : Int) (x2 : Int) : S .nrm 29 [.int .i64 x1, .int .i64 x2] = P29 S x1 x2 :=
  (fixT_eq tb (g := 29) (ft := F29) (by kernel_rfl) (by kernel_rfl) _).trans (run_eq (p := ⟨⟨[x1, x2], [], [], [], [], []⟩, []⟩) (by kernel_rfl) rfl (ev29 S x1 x2))
/-! spec.SpreadsOfOrder -/
def L45_1 (S : Tab) (x1 : Int) (x2 : Int) : Kt → Kt := fun k4 li lb lr lu =>
  bif okIv [(some (0, 31))] [((some (0, 30)), -1)] [] li lr lu then
    let y5 : Int := (li.headD 0)
    let s6 : Sl := (lr.headD nilSl)
    bif (ltB y5 x1) then
      callK S .nrm 188 [.int .i64 x1, .int .i64 y5] [(.int .i64)] [(some (1, 2000))] [] [] fun l7 b7 r7 u7 =>
        let y8 : Int := (l7.headD 0)
        bif (y8 == x2) then
          let s9 : Sl := psl (Int.toNat 1) [y5]
          bif (leB ((s6.n : Int) + (s9.n : Int)) 1000000000000) then
            let s10 : Sl := psl (Int.toNat ((s6.n : Int) + (s9.n : Int))) (s6.xs ++ s9.xs)
            k4 [(y5 + 1)] [] [s10] []
          else none
        else
          k4 [(y5 + 1)] [] [s6] []
    else
      some [.sl 2 .i64 1 s6.n s6.xs, .int .i64 0]
  else none
def P45 (S : Tab) (x1 : Int) (x2 : Int) : Option (List PA) :=
  callK S .nrm 204 [.int .i64 x1, .int .i64 x2, .sl 0 .i64 1 0 []] [(.int .i64)] [none] [] [] fun l1 b1 r1 u1 =>
    let y2 : Int := (l1.headD 0)
    bif (y2 == 0) then
      bif (ltB x2 1) then
        some [.sl 2 .i64 1 0 [], .int .i64 2]
      else
        let s3 : Sl := psl (Int.toNat 0) []
        lp LF (L45_1 S x1 x2) [0] [] [s3] []
    else
      some [.sl 2 .i64 1 0 [], .int .i64 y2]
theorem ev45 (S : Tab) (x1 : Int) (x2 : Int) : ev S F45.shs F45.rm F45.t [] ⟨⟨[x1, x2], [], [], [], [], []⟩, []⟩ = P45 S x1 x2 := by kernel_rfl
theorem eq45 (x1 : Int) (x2 : Int) : S .nrm 45 [.int .i64 x1, .int .i64 x2] = P45 S x1 x2 :=
  (fixT_eq tb (g := 45) (ft := F45) (by kernel_rfl) (by kernel_rfl) _).trans (run_eq (p := ⟨⟨[x1, x2], [], [], [], [], []⟩, []⟩) (by kernel_rfl) rfl (ev45 S x1 x2))
/-! spec.OrdersOf -/
def L35_2 (S : Tab) (s6 : Sl) : Kt → Kt := fun k12 li lb lr lu =>
  bif okIv [(some (0, 2000))] [((some (0, 2000)), -1), ((some (0, 40)), -1)] [] li lr lu then
    let y13 : Int := (li.headD 0)
    let s14 : Sl := (lr.headD nilSl)
    let s15 : Sl := (lr.tail.headD nilSl)
    bif (ltB y13 (s6.n : Int)) then
      bif (ltB 0 (s6.xs.getD (Int.toNat y13) 0)) then
        let s16 : Sl := psl (Int.toNat 1) [y13]
        bif (leB ((s14.n : Int) + (s16.n : Int)) 1000000000000) then
          let s17 : Sl := psl (Int.toNat ((s14.n : Int) + (s16.n : Int))) (s14.xs ++ s16.xs)
          let s18 : Sl := psl (Int.toNat 1) [(s6.xs.getD (Int.toNat y13) 0)]
          bif (leB ((s15.n : Int) + (s18.n : Int)) 1000000000000) then
            let s19 : Sl := psl (Int.toNat ((s15.n : Int) + (s18.n : Int))) (s15.xs ++ s18.xs)
            k12 [(y13 + 1)] [] [s17, s19] []
          else none
        else none
      else
        k12 [(y13 + 1)] [] [s14, s15] []
    else
      some [.sl 2 .i64 1 s14.n s14.xs, .sl 2 .i64 1 s15.n s15.xs, .int .i64 0]
  else none
def L35_1 (S : Tab) (x1 : Int) : Kt → Kt := fun k4 li lb lr lu =>
  bif okIv [(some (0, 31))] [((some (0, 40)), 200)] [] li lr lu then
    let y5 : Int := (li.headD 0)
    let s6 : Sl := (lr.headD nilSl)
    bif (ltB y5 x1) then
      callK S .nrm 188 [.int .i64 x1, .int .i64 y5] [(.int .i64)] [(some (1, 2000))] [] [] fun l7 b7 r7 u7 =>
        let y8 : Int := (l7.headD 0)
        bif (ltB y8 (s6.n : Int)) then
          let s9 : Sl := psl s6.n (setInts s6.xs (Int.toNat y8) [((s6.xs.getD (Int.toNat y8) 0) + 1)])
          k4 [(y5 + 1)] [] [s9] []
        else none
    else
      let s10 : Sl := psl (Int.toNat 0) []
      let s11 : Sl := psl (Int.toNat 0) []
      lp LF (L35_2 S s6) [1] [] [s10, s11] []
  else none
def P35 (S : Tab) (x1 : Int) : Option (List PA) :=
  callK S .nrm 167 [.int .i64 x1, .sl 0 .i64 1 0 []] [(.int .i64)] [none] [] [] fun l1 b1 r1 u1 =>
    let y2 : Int := (l1.headD 0)
    bif (!(y2 == 0)) then
      some [.sl 2 .i64 1 0 [], .sl 2 .i64 1 0 [], .int .i64 y2]
    else
      bif (leB (-9223372036854775808) (4 * x1)) then
        bif (leB (4 * x1) 9223372036854775807) then
          bif (leB (-9223372036854775808) ((4 * x1) + 4)) then
            bif (leB ((4 * x1) + 4) 9223372036854775807) then
              bif (leB 0 ((4 * x1) + 4)) then
                bif (leB ((4 * x1) + 4) 1048576) then
                  let s3 : Sl := psl (Int.toNat ((4 * x1) + 4)) (List.replicate (Int.toNat ((4 * x1) + 4) * 1) 0)
                  lp LF (L35_1 S x1) [0] [] [s3] []
                else none
              else none
            else none
          else none
        else none
      else none
theorem ev35 (S : Tab) (x1 : Int) : ev S F35.shs F35.rm F35.t [] ⟨⟨[x1], [], [], [], [], []⟩, []⟩ = P35 S x1 := by kernel_rfl
theorem eq35 (x1 : Int) : S .nrm 35 [.int .i64 x1] = P35 S x1 :=
  (fixT_eq tb (g := 35) (ft := F35) (by kernel_rfl) (by kernel_rfl) _).trans (run_eq (p := ⟨⟨[x1], [], [], [], [], []⟩, []⟩) (by kernel_rfl) rfl (ev35 S x1))
/-! spec.WalkRound -/
def L40_2 (S : Tab) (x1 : Int) (x2 : Int) : Kt → Kt := fun k9 li lb lr lu =>
  bif okIv [(some (0, 30)), (some (0, 40))] [((some (-1, 40)), 31)] [] li lr lu then
    let y10 : Int := (li.headD 0)
    let y11 : Int := (li.tail.headD 0)
    let s12 : Sl := (lr.headD nilSl)
    bif (ltB y10 (s12.n : Int)) then
      bif (ltB (s12.xs.getD (Int.toNat y10) 0) 0) then
        let s13 : Sl := psl s12.n (setInts s12.xs (Int.toNat y10) [y11])
        callK S .nrm 190 [.int .i64 x1, .int .i64 x2, .int .i64 y10] [(.int .i64)] [(some (0, 30))] [] [] fun l14 b14 r14 u14 =>
          let y15 : Int := (l14.headD 0)
          k9 [y15, (y11 + 1)] [] [s13] []
      else
        some [.int .i64 (s12.xs.getD (Int.toNat y10) 0), .int .i64 (y11 - (s12.xs.getD (Int.toNat y10) 0)), .int .i64 0]
    else none
  else none
def L40_1 (S : Tab) (s4 : Sl) (x1 : Int) (x2 : Int) (x3 : Int) : Kt → Kt := fun k5 li lb lr lu =>
  bif okIv [(some (0, 31))] [((some (-1, 40)), 31)] [] li lr lu then
    let y6 : Int := (li.headD 0)
    let s7 : Sl := (lr.headD nilSl)
    bif (ltB y6 (s4.n : Int)) then
      bif (ltB y6 (s7.n : Int)) then
        let s8 : Sl := psl s7.n (setInts s7.xs (Int.toNat y6) [(-1)])
        k5 [(y6 + 1)] [] [s8] []
      else none
    else
      lp LF (L40_2 S x1 x2) [x3, 0] [] [s7] []
  else none
def P40 (S : Tab) (x1 : Int) (x2 : Int) (x3 : Int) : Option (List PA) :=
  let s1 : Sl := psl (Int.toNat 1) [x3]
  callK S .nrm 204 [.int .i64 x1, .int .i64 x2, .sl 2 .i64 1 s1.n s1.xs] [(.int .i64)] [none] [] [] fun l2 b2 r2 u2 =>
    let y3 : Int := (l2.headD 0)
    bif (!(y3 == 0)) then
      some [.int .i64 0, .int .i64 0, .int .i64 y3]
    else
      bif (leB 0 x1) then
        bif (leB x1 1048576) then
          let s4 : Sl := psl (Int.toNat x1) (List.replicate (Int.toNat x1 * 1) 0)
          lp LF (L40_1 S s4 x1 x2 x3) [0] [] [s4] []
        else none
      else none
theorem ev40 (S : Tab) (x1 : Int) (x2 : Int) (x3 : Int) : ev S F40.shs F40.rm F40.t [] ⟨⟨[x1, x2, x3], [], [], [], [], []⟩, []⟩ = P40 S x1 x2 x3 := by kernel_rfl
theorem eq40 (x1 : Int) (x2 : Int) (x3 : Int) : S .nrm 40 [.int .i64 x1, .int .i64 x2, .int .i64 x3] = P40 S x1 x2 x3 :=
  (fixT_eq tb (g := 40) (ft := F40) (by kernel_rfl) (by kernel_rfl) _).trans (run_eq (p := ⟨⟨[x1, x2, x3], [], [], [], [], []⟩, []⟩) (by kernel_rfl) rfl (ev40 S x1 x2 x3))
/-! spec.WalkOf -/
def L43_1 (S : Tab) (x1 : Int) (x2 : Int) : Kt → Kt := fun k7 li lb lr lu =>
  bif okIv [(some (0, 30)), (some (0, 200))] [((some (0, 30)), -1)] [] li lr lu then
    let y8 : Int := (li.headD 0)
    let y9 : Int := (li.tail.headD 0)
    let s10 : Sl := (lr.headD nilSl)
    bif (ltB 0 y9) then
      callK S .nrm 190 [.int .i64 x1, .int .i64 x2, .int .i64 y8] [(.int .i64)] [(some (0, 30))] [] [] fun l11 b11 r11 u11 =>
        let y12 : Int := (l11.headD 0)
        let s13 : Sl := psl (Int.toNat 1) [y12]
        bif (leB ((s10.n : Int) + (s13.n : Int)) 1000000000000) then
          let s14 : Sl := psl (Int.toNat ((s10.n : Int) + (s13.n : Int))) (s10.xs ++ s13.xs)
          k7 [y12, (y9 - 1)] [] [s14] []
        else none
    else
      some [.sl 2 .i64 1 s10.n s10.xs, .int .i64 0]
  else none
def P43 (S : Tab) (x1 : Int) (x2 : Int) (x3 : Int) (x4 : Int) : Option (List PA) :=
  let s1 : Sl := psl (Int.toNat 1) [x3]
  callK S .nrm 204 [.int .i64 x1, .int .i64 x2, .sl 2 .i64 1 s1.n s1.xs] [(.int .i64)] [none] [] [] fun l2 b2 r2 u2 =>
    let y3 : Int := (l2.headD 0)
    bif (y3 == 0) then
      callK S .nrm 207 [.int .i64 x4, .int .i64 0, .int .i64 100] [.bool] [] [] [] fun l4 b4 r4 u4 =>
        let c5 : Bool := (b4.headD false)
        bif (!c5) then
          some [.sl 2 .i64 1 0 [], .int .i64 2]
        else
          let s6 : Sl := psl (Int.toNat 1) [x3]
          lp LF (L43_1 S x1 x2) [x3, x4] [] [s6] []
    else
      some [.sl 2 .i64 1 0 [], .int .i64 y3]
theorem ev43 (S : Tab) (x1 : Int) (x2 : Int) (x3 : Int) (x4 : Int) : ev S F43.shs F43.rm F43.t [] ⟨⟨[x1, x2, x3, x4], [], [], [], [], []⟩, []⟩ = P43 S x1 x2 x3 x4 := by kernel_rfl
theorem eq43 (x1 : Int) (x2 : Int) (x3 : Int) (x4 : Int) : S .nrm 43 [.int .i64 x1, .int .i64 x2, .int .i64 x3, .int .i64 x4] = P43 S x1 x2 x3 x4 :=
  (fixT_eq tb (g := 43) (ft := F43) (by kernel_rfl) (by kernel_rfl) _).trans (run_eq (p := ⟨⟨[x1, x2, x3, x4], [], [], [], [], []⟩, []⟩) (by kernel_rfl) rfl (ev43 S x1 x2 x3 x4))
/-! laws.hasInt -/
def L32_1 (S : Tab) (m1 : Nat) (e2 : List Int) (x4 : Int) : Kt → Kt := fun k1 li lb lr lu =>
  bif okIv [(some (0, 1048576))] [] [] li lr lu then
    let y2 : Int := (li.headD 0)
    bif (ltB y2 ((psl m1 e2).n : Int)) then
      bif (((psl m1 e2).xs.getD (Int.toNat y2) 0) == x4) then
        some [.bool true]
      else
        k1 [(y2 + 1)] [] [] []
    else
      some [.bool false]
  else none
def P32 (S : Tab) (T3 : TypeId) (m1 : Nat) (e2 : List Int) (x4 : Int) : Option (List PA) :=
  lp LF (L32_1 S m1 e2 x4) [0] [] [] []
theorem ev32 (S : Tab) (T3 : TypeId) (m1 : Nat) (e2 : List Int) (x4 : Int) : ev S F32.shs F32.rm F32.t [] ⟨⟨[x4], [], [], [(psl m1 e2)], [], []⟩, []⟩ = P32 S T3 m1 e2 x4 := by kernel_rfl
theorem eq32 (T3 : TypeId) (m1 : Nat) (e2 : List Int) (x4 : Int) (h : okIv [none] [(none, 1048576)] [] [x4] [(psl m1 e2)] [] = true) : S .nrm 32 [.sl T3 .i64 1 m1 e2, .int .i64 x4] = P32 S T3 m1 e2 x4 :=
  (fixT_eq tb (g := 32) (ft := F32) (by kernel_rfl) (by kernel_rfl) _).trans (run_eq (p := ⟨⟨[x4], [], [], [(psl m1 e2)], [], []⟩, []⟩) (by kernel_rfl) h (ev32 S T3 m1 e2 x4))
/-! laws.likeInts -/
def L36_1 (S : Tab) (m1 : Nat) (e2 : List Int) (m4 : Nat) (e5 : List Int) : Kt → Kt := fun k1 li lb lr lu =>
  bif okIv [(some (0, 1048576))] [] [] li lr lu then
    let y2 : Int := (li.headD 0)
    bif (ltB y2 ((psl m1 e2).n : Int)) then
      bif (ltB y2 ((psl m4 e5).n : Int)) then
        bif (!(((psl m1 e2).xs.getD (Int.toNat y2) 0) == ((psl m4 e5).xs.getD (Int.toNat y2) 0))) then
          some [.bool false]
        else
          k1 [(y2 + 1)] [] [] []
      else none
    else
      some [.bool true]
  else none
def P36 (S : Tab) (T3 : TypeId) (m1 : Nat) (e2 : List Int) (T6 : TypeId) (m4 : Nat) (e5 : List Int) : Option (List PA) :=
  bif (!(((psl m1 e2).n : Int) == ((psl m4 e5).n : Int))) then
    some [.bool false]
  else
    lp LF (L36_1 S m1 e2 m4 e5) [0] [] [] []
theorem ev36 (S : Tab) (T3 : TypeId) (m1 : Nat) (e2 : List Int) (T6 : TypeId) (m4 : Nat) (e5 : List Int) : ev S F36.shs F36.rm F36.t [] ⟨⟨[], [], [], [(psl m1 e2), (psl m4 e5)], [], []⟩, []⟩ = P36 S T3 m1 e2 T6 m4 e5 := by kernel_rfl
theorem eq36 (T3 : TypeId) (m1 : Nat) (e2 : List Int) (T6 : TypeId) (m4 : Nat) (e5 : List Int) (h : okIv [] [(none, 1048576), (none, 1048576)] [] [] [(psl m1 e2), (psl m4 e5)] [] = true) : S .nrm 36 [.sl T3 .i64 1 m1 e2, .sl T6 .i64 1 m4 e5] = P36 S T3 m1 e2 T6 m4 e5 :=
  (fixT_eq tb (g := 36) (ft := F36) (by kernel_rfl) (by kernel_rfl) _).trans (run_eq (p := ⟨⟨[], [], [], [(psl m1 e2), (psl m4 e5)], [], []⟩, []⟩) (by kernel_rfl) h (ev36 S T3 m1 e2 T6 m4 e5))
/-! laws.sum -/
def L37_1 (S : Tab) (m1 : Nat) (e2 : List Int) : Kt → Kt := fun k1 li lb lr lu =>
  bif okIv [none, (some (0, 1048576))] [] [] li lr lu then
    let y2 : Int := (li.headD 0)
    let y3 : Int := (li.tail.headD 0)
    bif (ltB y3 ((psl m1 e2).n : Int)) then
      bif (leB (-9223372036854775808) (y2 + ((psl m1 e2).xs.getD (Int.toNat y3) 0))) then
        bif (leB (y2 + ((psl m1 e2).xs.getD (Int.toNat y3) 0)) 9223372036854775807) then
          k1 [(y2 + ((psl m1 e2).xs.getD (Int.toNat y3) 0)), (y3 + 1)] [] [] []
        else none
      else none
    else
      some [.int .i64 y2]
  else none
def P37 (S : Tab) (T3 : TypeId) (m1 : Nat) (e2 : List Int) : Option (List PA) :=
  lp LF (L37_1 S m1 e2) [0, 0] [] [] []
theorem ev37 (S : Tab) (T3 : TypeId) (m1 : Nat) (e2 : List Int) : ev S F37.shs F37.rm F37.t [] ⟨⟨[], [], [], [(psl m1 e2)], [], []⟩, []⟩ = P37 S T3 m1 e2 := by kernel_rfl
theorem eq37 (T3 : TypeId) (m1 : Nat) (e2 : List Int) (h : okIv [] [(none, 1048576)] [] [] [(psl m1 e2)] [] = true) : S .nrm 37 [.sl T3 .i64 1 m1 e2] = P37 S T3 m1 e2 :=
  (fixT_eq tb (g := 37) (ft := F37) (by kernel_rfl) (by kernel_rfl) _).trans (run_eq (p := ⟨⟨[], [], [], [(psl m1 e2)], [], []⟩, []⟩) (by kernel_rfl) h (ev37 S T3 m1 e2))
end Go.Proofs.Ytelejhggpkfdoaa.SX

namespace Go.Proofs.Ytelejhggpkfdoaa.SX
set_option linter.unusedVariables false
set_option maxRecDepth 100000
open Go.RowKit Go.Proofs
/-! laws.FnSpreadOrders -/
def J5_3 (S : Tab) (m1 : Nat) (e2 : List Int) : Kt := fun li lb lr lu =>
  bif okIv [] [] [] li lr lu then
    callK S .nrm 42 [.sl 5 .u8 1 (psl m1 e2).n (psl m1 e2).xs] [(.int .i64), (.int .i64), (.int .i64), (.int .i64)] [none, none, none, none] [] [] fun l44 b44 r44 u44 =>
      let y45 : Int := (l44.headD 0)
      let y46 : Int := (l44.tail.headD 0)
      let y47 : Int := (l44.tail.tail.headD 0)
      let y48 : Int := (l44.tail.tail.tail.headD 0)
      callK S .nrm 41 [.int .i64 y45, .int .i64 y46, .int .i64 y47, .int .i64 y48] [(.sl 2 .i64 1), (.int .i64)] [none] [((some (0, 30)), 300)] [] fun l49 b49 r49 u49 =>
        let y50 : Int := (l49.headD 0)
        let s51 : Sl := (r49.headD nilSl)
        callK S .nrm 43 [.int .i64 y45, .int .i64 y46, .int .i64 y47, .int .i64 y48] [(.sl 2 .i64 1), (.int .i64)] [none] [((some (0, 30)), 300)] [] fun l52 b52 r52 u52 =>
          let y53 : Int := (l52.headD 0)
          let s54 : Sl := (r52.headD nilSl)
          callK S .nrm 44 [.sl 5 .u8 1 (psl m1 e2).n (psl m1 e2).xs] [(.int .i64), (.int .i64)] [none, none] [] [] fun l55 b55 r55 u55 =>
            let y56 : Int := (l55.headD 0)
            let y57 : Int := (l55.tail.headD 0)
            callK S .nrm 30 [.int .i64 y56, .int .i64 y57] [(.sl 2 .i64 1), (.int .i64)] [none] [((some (0, 30)), 32)] [] fun l58 b58 r58 u58 =>
              let y59 : Int := (l58.headD 0)
              let s60 : Sl := (r58.headD nilSl)
              callK S .nrm 45 [.int .i64 y56, .int .i64 y57] [(.sl 2 .i64 1), (.int .i64)] [none] [((some (0, 30)), 32)] [] fun l61 b61 r61 u61 =>
                let y62 : Int := (l61.headD 0)
                let s63 : Sl := (r61.headD nilSl)
                bif (y50 == y53) then
                  callK S .nrm 36 [.sl 2 .i64 1 s51.n s51.xs, .sl 2 .i64 1 s54.n s54.xs] [.bool] [] [] [] fun l64 b64 r64 u64 =>
                    let c65 : Bool := (b64.headD false)
                    bif c65 then
                      bif (y59 == y62) then
                        callK S .nrm 36 [.sl 2 .i64 1 s60.n s60.xs, .sl 2 .i64 1 s63.n s63.xs] [.bool] [] [] [] fun l66 b66 r66 u66 =>
                          let c67 : Bool := (b66.headD false)
                          some [.bool c67]
                      else
                        some [.bool false]
                    else
                      some [.bool false]
                else
                  some [.bool false]
  else none
def J5_2 (S : Tab) (m1 : Nat) (e2 : List Int) : Kt := fun li lb lr lu =>
  bif okIv [] [] [] li lr lu then
    callK S .nrm 38 [.sl 5 .u8 1 (psl m1 e2).n (psl m1 e2).xs] [(.int .i64), (.int .i64), (.int .i64)] [none, none, none] [] [] fun l32 b32 r32 u32 =>
      let y33 : Int := (l32.headD 0)
      let y34 : Int := (l32.tail.headD 0)
      let y35 : Int := (l32.tail.tail.headD 0)
      callK S .nrm 39 [.int .i64 y33, .int .i64 y34, .int .i64 y35] [(.int .i64), (.int .i64), (.int .i64)] [none, none, none] [] [] fun l36 b36 r36 u36 =>
        let y37 : Int := (l36.headD 0)
        let y38 : Int := (l36.tail.headD 0)
        let y39 : Int := (l36.tail.tail.headD 0)
        callK S .nrm 40 [.int .i64 y33, .int .i64 y34, .int .i64 y35] [(.int .i64), (.int .i64), (.int .i64)] [none, none, none] [] [] fun l40 b40 r40 u40 =>
          let y41 : Int := (l40.headD 0)
          let y42 : Int := (l40.tail.headD 0)
          let y43 : Int := (l40.tail.tail.headD 0)
          bif (!(y39 == y43)) then
            some [.bool false]
          else
            bif (!(y37 == y41)) then
              some [.bool false]
            else
              bif (!(y38 == y42)) then
                some [.bool false]
              else
                bif (y39 == 0) then
                  bif (leB (-9223372036854775808) (y37 + y38)) then
                    bif (leB (y37 + y38) 9223372036854775807) then
                      callK S .nrm 41 [.int .i64 y33, .int .i64 y34, .int .i64 y35, .int .i64 (y37 + y38)] [(.sl 2 .i64 1), (.int .i64)] [none] [((some (0, 30)), 300)] [] fun l68 b68 r68 u68 =>
                        let y69 : Int := (l68.headD 0)
                        let s70 : Sl := (r68.headD nilSl)
                        bif (!(y69 == 0)) then
                          some [.bool false]
                        else
                          bif (ltB y38 1) then
                            some [.bool false]
                          else
                            bif (leB (-9223372036854775808) ((y37 + y38) + 1)) then
                              bif (leB ((y37 + y38) + 1) 9223372036854775807) then
                                bif (!((s70.n : Int) == ((y37 + y38) + 1))) then
                                  some [.bool false]
                                else
                                  bif (leB 0 y37) then
                                    bif (ltB y37 (s70.n : Int)) then
                                      bif (leB 0 (y37 + y38)) then
                                        bif (ltB (y37 + y38) (s70.n : Int)) then
                                          bif (!((s70.xs.getD (Int.toNat y37) 0) == (s70.xs.getD (Int.toNat (y37 + y38)) 0))) then
                                            some [.bool false]
                                          else
                                            (J5_3 S m1 e2) [] [] [] []
                                        else none
                                      else none
                                    else none
                                  else none
                              else none
                            else none
                    else none
                  else none
                else
                  (J5_3 S m1 e2) [] [] [] []
  else none
def L5_1 (S : Tab) (s22 : Sl) (y19 : Int) (s23 : Sl) (m1 : Nat) (e2 : List Int) : Kt → Kt := fun k73 li lb lr lu =>
  bif okIv [(some (0, 1048576))] [] [] li lr lu then
    let y74 : Int := (li.headD 0)
    bif (ltB y74 (s22.n : Int)) then
      callK S .nrm 30 [.int .i64 y19, .int .i64 (s22.xs.getD (Int.toNat y74) 0)] [(.sl 2 .i64 1), (.int .i64)] [none] [((some (0, 30)), 32)] [] fun l75 b75 r75 u75 =>
        let y76 : Int := (l75.headD 0)
        let s77 : Sl := (r75.headD nilSl)
        bif (!(y76 == 0)) then
          some [.bool false]
        else
          bif (ltB y74 (s23.n : Int)) then
            bif (!((s77.n : Int) == (s23.xs.getD (Int.toNat y74) 0))) then
              some [.bool false]
            else
              k73 [(y74 + 1)] [] [] []
          else none
    else
      (J5_2 S m1 e2) [] [] [] []
  else none
def J5_1 (S : Tab) (m1 : Nat) (e2 : List Int) : Kt := fun li lb lr lu =>
  bif okIv [] [] [] li lr lu then
    callK S .nrm 33 [.sl 5 .u8 1 (psl m1 e2).n (psl m1 e2).xs] [(.int .i64)] [none] [] [] fun l18 b18 r18 u18 =>
      let y19 : Int := (l18.headD 0)
      callK S .nrm 34 [.int .i64 y19] [(.sl 2 .i64 1), (.sl 2 .i64 1), (.int .i64)] [none] [((some (0, 2000)), 2000), (none, 2000)] [] fun l20 b20 r20 u20 =>
        let y21 : Int := (l20.headD 0)
        let s22 : Sl := (r20.headD nilSl)
        let s23 : Sl := (r20.tail.headD nilSl)
        callK S .nrm 35 [.int .i64 y19] [(.sl 2 .i64 1), (.sl 2 .i64 1), (.int .i64)] [none] [((some (0, 2000)), 2000), (none, 2000)] [] fun l24 b24 r24 u24 =>
          let y25 : Int := (l24.headD 0)
          let s26 : Sl := (r24.headD nilSl)
          let s27 : Sl := (r24.tail.headD nilSl)
          bif (!(y21 == y25)) then
            some [.bool false]
          else
            callK S .nrm 36 [.sl 2 .i64 1 s22.n s22.xs, .sl 2 .i64 1 s26.n s26.xs] [.bool] [] [] [] fun l28 b28 r28 u28 =>
              let c29 : Bool := (b28.headD false)
              bif (!c29) then
                some [.bool false]
              else
                callK S .nrm 36 [.sl 2 .i64 1 s23.n s23.xs, .sl 2 .i64 1 s27.n s27.xs] [.bool] [] [] [] fun l30 b30 r30 u30 =>
                  let c31 : Bool := (b30.headD false)
                  bif (!c31) then
                    some [.bool false]
                  else
                    bif (y21 == 0) then
                      callK S .nrm 37 [.sl 2 .i64 1 s23.n s23.xs] [(.int .i64)] [none] [] [] fun l71 b71 r71 u71 =>
                        let y72 : Int := (l71.headD 0)
                        bif (!(y72 == y19)) then
                          some [.bool false]
                        else
                          bif (!((s22.n : Int) == (s23.n : Int))) then
                            some [.bool false]
                          else
                            bif (ltB 0 (s22.n : Int)) then
                              bif (!((s22.xs.getD (Int.toNat 0) 0) == 1)) then
                                some [.bool false]
                              else
                                bif (ltB 0 (s23.n : Int)) then
                                  bif (!((s23.xs.getD (Int.toNat 0) 0) == 1)) then
                                    some [.bool false]
                                  else
                                    lp LF (L5_1 S s22 y19 s23 m1 e2) [0] [] [] []
                                else none
                            else none
                    else
                      (J5_2 S m1 e2) [] [] [] []
  else none
def P5 (S : Tab) (T3 : TypeId) (m1 : Nat) (e2 : List Int) : Option (List PA) :=
  callK S .nrm 24 [.sl 5 .u8 1 (psl m1 e2).n (psl m1 e2).xs] [.bool] [] [] [] fun l1 b1 r1 u1 =>
    let c2 : Bool := (b1.headD false)
    bif c2 then
      some [.bool true]
    else
      callK S .nrm 25 [.sl 5 .u8 1 (psl m1 e2).n (psl m1 e2).xs] [(.int .i64), (.int .i64)] [none, none] [] [] fun l3 b3 r3 u3 =>
        let y4 : Int := (l3.headD 0)
        let y5 : Int := (l3.tail.headD 0)
        callK S .nrm 26 [.int .i64 y4, .int .i64 y5] [(.int .i64), (.int .i64)] [none, none] [] [] fun l6 b6 r6 u6 =>
          let y7 : Int := (l6.headD 0)
          let y8 : Int := (l6.tail.headD 0)
          callK S .nrm 27 [.int .i64 y4, .int .i64 y5] [(.int .i64), (.int .i64)] [none, none] [] [] fun l9 b9 r9 u9 =>
            let y10 : Int := (l9.headD 0)
            let y11 : Int := (l9.tail.headD 0)
            callK S .nrm 28 [.int .i64 y4, .int .i64 y5] [(.int .i64), (.int .i64)] [none, none] [] [] fun l12 b12 r12 u12 =>
              let y13 : Int := (l12.headD 0)
              let y14 : Int := (l12.tail.headD 0)
              callK S .nrm 29 [.int .i64 y4, .int .i64 y5] [(.int .i64), (.int .i64)] [none, none] [] [] fun l15 b15 r15 u15 =>
                let y16 : Int := (l15.headD 0)
                let y17 : Int := (l15.tail.headD 0)
                bif (!(y8 == y11)) then
                  some [.bool false]
                else
                  bif (!(y7 == y10)) then
                    some [.bool false]
                  else
                    bif (!(y14 == y17)) then
                      some [.bool false]
                    else
                      bif (!(y13 == y16)) then
                        some [.bool false]
                      else
                        bif (y8 == 0) then
                          callK S .nrm 30 [.int .i64 y4, .int .i64 y7] [(.sl 2 .i64 1), (.int .i64)] [none] [((some (0, 30)), 32)] [] fun l78 b78 r78 u78 =>
                            let y79 : Int := (l78.headD 0)
                            let s80 : Sl := (r78.headD nilSl)
                            bif (leB (-9223372036854775808) (y13 + 1)) then
                              bif (leB (y13 + 1) 9223372036854775807) then
                                callK S .nrm 31 [.int .i64 y4, .int .i64 (y13 + 1), .int .i64 y5] [(.int .i64), (.int .i64)] [none, none] [] [] fun l81 b81 r81 u81 =>
                                  let y82 : Int := (l81.headD 0)
                                  let y83 : Int := (l81.tail.headD 0)
                                  bif (!(y79 == 0)) then
                                    some [.bool false]
                                  else
                                    bif (!(y83 == 0)) then
                                      some [.bool false]
                                    else
                                      bif (ltB y7 1) then
                                        some [.bool false]
                                      else
                                        bif (!(y7 == 0)) then
                                          bif (!((Int.tmod y13 y7) == 0)) then
                                            some [.bool false]
                                          else
                                            callK S .nrm 32 [.sl 2 .i64 1 s80.n s80.xs, .int .i64 y5] [.bool] [] [] [] fun l84 b84 r84 u84 =>
                                              let c85 : Bool := (b84.headD false)
                                              bif (!c85) then
                                                some [.bool false]
                                              else
                                                bif (!(y82 == y5)) then
                                                  some [.bool false]
                                                else
                                                  (J5_1 S m1 e2) [] [] [] []
                                        else none
                              else none
                            else none
                        else
                          (J5_1 S m1 e2) [] [] [] []
theorem ev5 (S : Tab) (T3 : TypeId) (m1 : Nat) (e2 : List Int) : ev S F5.shs F5.rm F5.t [] ⟨⟨[], [], [], [(psl m1 e2)], [], []⟩, []⟩ = P5 S T3 m1 e2 := by kernel_rfl
theorem eq5 (T3 : TypeId) (m1 : Nat) (e2 : List Int) (h : okIv [] [(some (0, 255), -1)] [] [] [(psl m1 e2)] [] = true) : S .nrm 5 [.sl T3 .u8 1 m1 e2] = P5 S T3 m1 e2 :=
  (fixT_eq tb (g := 5) (ft := F5) (by kernel_rfl) (by kernel_rfl) _).trans (run_eq (p := ⟨⟨[], [], [], [(psl m1 e2)], [], []⟩, []⟩) (by kernel_rfl) h (ev5 S T3 m1 e2))
end Go.Proofs.Ytelejhggpkfdoaa.SX

