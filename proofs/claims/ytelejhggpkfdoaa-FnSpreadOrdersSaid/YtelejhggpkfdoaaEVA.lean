/- part of a proof: no condition of its own -/
import Derived.Test.YtelejhggpkfdoaaSXC
/-
  EV, part 1: what a tree computes, as a function on pure values: an evaluator of trees.
-/
namespace Go.Proofs.Ytelejhggpkfdoaa.SX
set_option linter.unusedVariables false
open Go.RowKit

/-- pure values -/
inductive PA where
  | int (k : IntKind) (n : Int)
  | bool (b : Bool)
  | agg (xs : List Int)
  | sl (T : TypeId) (k : IntKind) (z : Nat) (n : Nat) (xs : List Int)
  | str (t : ByteArray)
  | fn (g : FuncId) (caps : List PA)
  | ref (ty : TypeId) (cs : List PA)

inductive PF where
  | own (g : FuncId) (caps : List PV)
  | given (g : FuncId) (caps : List PA)

structure PE where
  e : Env
  f : List PF

/-- a slice without its place -/
def psl (n : Nat) (xs : List Int) : Sl := ⟨none, n, n, xs⟩
def pu (s : Sl) : Sl := psl s.n s.xs

/-- kinds of functions: that hand back values; that hand back a pointer to a new block; that change the first argument's block -/
inductive Kd where
  | nrm
  | new
  | chg
  deriving DecidableEq
abbrev Tab := Kd → FuncId → List PA → Option (List PA)
abbrev Kt := List Int → List Bool → List Sl → List ByteArray → Option (List PA)

def PE.ext (p : PE) (is : List Int) (bs : List Bool) (ss : List Sl) (ts : List ByteArray) : PE := { p with e := p.e.ext is bs ss ts }
def PE.pn (p : PE) : PE := { p with e := p.e.pn 0 }
def PE.pf (p : PE) (x : PF) : PE := { p with f := p.f ++ [x] }
def PE.sz (p : PE) : Sz := ⟨p.e.i.length, p.e.b.length, p.e.n.length, p.e.s.length, p.e.t.length, p.f.length⟩

def mapO {α β : Type} (f : α → Option β) : List α → Option (List β)
  | [] => some []
  | x :: r => match f x, mapO f r with
    | some y, some l => some (y :: l)
    | _, _ => none

def toC (h : List It) (p : PE) : Nat → CV → Option PA
  | 0, _ => none
  | d + 1, .int k e => some (.int k (e.den p.e))
  | d + 1, .bool e => some (.bool (e.den p.e))
  | d + 1, .sl s => match findIsl h s with
    | some (T, k, z, _) => some (.sl T k z (p.e.s.getD s nilSl).n (p.e.s.getD s nilSl).xs)
    | none => none
  | d + 1, .nsl => some (.sl 0 .i64 1 0 [])
  | d + 1, .str t => some (.str (p.e.t.getD t ByteArray.empty))
  | d + 1, .sk s => some (.str ⟨s.toArray⟩)
  | d + 1, .fc g => some (.fn g [])
  | d + 1, .fn f => match p.f[f]? with
    | some (.own g caps) => match mapO (fun v => match v with | .c c => toC h p d c | .a _ => none) caps with
      | some l => some (.fn g l)
      | none => none
    | some (.given g caps) => some (.fn g caps)
    | none => none
  | d + 1, .ptr n 0 => match findBlk h n with
    | some (ty, cs, _) => match mapO (toC h p d) cs with
      | some l => some (.ref ty l)
      | none => none
    | none => none
  | d + 1, .ptr _ (_ + 1) => none
  | d + 1, .elp _ _ _ _ => none

def toP (h : List It) (p : PE) : PV → Option PA
  | .c v => toC h p 5 v
  | .a l => if allI64 l = true then some (.agg ((iesOf l).map (IE.den p.e))) else none

/-! ### ranges, as booleans -/
def ltB (a b : Int) : Bool := decide (a < b)
def leB (a b : Int) : Bool := decide (a ≤ b)
theorem ltB_iff {a b : Int} : ltB a b = true ↔ a < b := by simp [ltB]
theorem leB_iff {a b : Int} : leB a b = true ↔ a ≤ b := by simp [leB]
def inIvB : Iv → Int → Bool
  | some (l, h), n => leB l n && leB n h
  | none, _ => true
def inIvsB : List Iv → List Int → Bool
  | [], _ => true
  | _, [] => true
  | b :: r, x :: q => inIvB b x && inIvsB r q
def inIvSB : List (Iv × Int) → List Sl → Bool
  | [], _ => true
  | _, [] => true
  | b :: r, x :: q => (match b.1 with | none => true | some _ => x.xs.all (inIvB b.1)) && (ltB b.2 0 || leB (x.n : Int) b.2) && inIvSB r q
def inIvTB : List Int → List ByteArray → Bool
  | [], _ => true
  | _, [] => true
  | b :: r, x :: q => (ltB b 0 || leB (x.size : Int) b) && inIvTB r q

theorem inIvB_iff (b : Iv) (x : Int) : inIvB b x = true ↔ inIv b x := by
  cases b with
  | none => simp [inIvB, inIv]
  | some p => simp [inIvB, inIv, leB_iff]
theorem inIvsB_iff : ∀ (bi : List Iv) (is : List Int), inIvsB bi is = true ↔ inIvs bi is
  | [], _ => by simp [inIvsB, inIvs]
  | _ :: _, [] => by simp [inIvsB, inIvs]
  | b :: r, x :: q => by simp [inIvsB, inIvs, inIvB_iff, inIvsB_iff r q]
theorem inIvSB_iff : ∀ (bi : List (Iv × Int)) (is : List Sl), inIvSB bi is = true ↔ inIvS bi is
  | [], _ => by simp [inIvSB, inIvS]
  | _ :: _, [] => by simp [inIvSB, inIvS]
  | (b, m) :: r, x :: q => by
    have h1 : (match b with | none => true | some _ => x.xs.all (inIvB b)) = true ↔ ∀ v ∈ x.xs, inIv b v := by
      cases b with
      | none => simp [inIv]
      | some p => simp only [List.all_eq_true, inIvB_iff]
    have h2 : (ltB m 0 || leB (x.n : Int) m) = true ↔ (0 ≤ m → (x.n : Int) ≤ m) := by
      simp only [Bool.or_eq_true, ltB_iff, leB_iff]; omega
    simp only [inIvSB, inIvS, Bool.and_eq_true, inIvSB_iff r q, h1, h2]
theorem inIvTB_iff : ∀ (bi : List Int) (is : List ByteArray), inIvTB bi is = true ↔ inIvT bi is
  | [], _ => by simp [inIvTB, inIvT]
  | _ :: _, [] => by simp [inIvTB, inIvT]
  | m :: r, x :: q => by
    have h2 : (ltB m 0 || leB (x.size : Int) m) = true ↔ (0 ≤ m → (x.size : Int) ≤ m) := by
      simp only [Bool.or_eq_true, ltB_iff, leB_iff]; omega
    simp only [inIvTB, inIvT, Bool.and_eq_true, inIvTB_iff r q, h2]

def okIv (bi : List Iv) (bS : List (Iv × Int)) (bT : List Int) (is : List Int) (ss : List Sl) (ts : List ByteArray) : Bool :=
  inIvsB bi is && (inIvSB bS ss && inIvTB bT ts)

/-- lists of a known length -/
def nI : Nat → List Int → List Int
  | 0, _ => []
  | n + 1, l => l.headD 0 :: nI n l.tail
def nB : Nat → List Bool → List Bool
  | 0, _ => []
  | n + 1, l => l.headD false :: nB n l.tail
def nS : Nat → List Sl → List Sl
  | 0, _ => []
  | n + 1, l => l.headD nilSl :: nS n l.tail
def nT : Nat → List ByteArray → List ByteArray
  | 0, _ => []
  | n + 1, l => l.headD ByteArray.empty :: nT n l.tail
theorem nI_id : ∀ {l : List Int} {n : Nat}, l.length = n → nI n l = l
  | [], 0, _ => rfl
  | x :: r, n + 1, h => by simp only [nI, List.headD_cons, List.tail_cons, nI_id (l := r) (by simpa using h)]
  | [], n + 1, h => by simp at h
  | _ :: _, 0, h => by simp at h
theorem nB_id : ∀ {l : List Bool} {n : Nat}, l.length = n → nB n l = l
  | [], 0, _ => rfl
  | x :: r, n + 1, h => by simp only [nB, List.headD_cons, List.tail_cons, nB_id (l := r) (by simpa using h)]
  | [], n + 1, h => by simp at h
  | _ :: _, 0, h => by simp at h
theorem nS_id : ∀ {l : List Sl} {n : Nat}, l.length = n → nS n l = l
  | [], 0, _ => rfl
  | x :: r, n + 1, h => by simp only [nS, List.headD_cons, List.tail_cons, nS_id (l := r) (by simpa using h)]
  | [], n + 1, h => by simp at h
  | _ :: _, 0, h => by simp at h
theorem nT_id : ∀ {l : List ByteArray} {n : Nat}, l.length = n → nT n l = l
  | [], 0, _ => rfl
  | x :: r, n + 1, h => by simp only [nT, List.headD_cons, List.tail_cons, nT_id (l := r) (by simpa using h)]
  | [], n + 1, h => by simp at h
  | _ :: _, 0, h => by simp at h

/-! ### results -/
structure Rs where
  i : List Int
  b : List Bool
  s : List Sl
  t : List ByteArray

def allK64 : List IntKind → Bool
  | [] => true
  | .i64 :: r => allK64 r
  | _ => false

/-- results of a call, by their shapes; what is left over are integers -/
def unpack : List Sh → List PA → Option Rs
  | [], [] => some ⟨[], [], [], []⟩
  | .int k :: r, .int k' n :: q => if k = k' then (match unpack r q with | some x => some { x with i := n :: x.i } | none => none) else none
  | .bool :: r, .bool b :: q => (match unpack r q with | some x => some { x with b := b :: x.b } | none => none)
  | .agg ks :: r, .agg xs :: q => if allK64 ks = true ∧ ks.length = xs.length then (match unpack r q with | some x => some { x with i := xs ++ x.i } | none => none) else none
  | .sl T k z :: r, .sl T' k' z' n xs :: q => if T = T' ∧ k = k' ∧ z = z' then (match unpack r q with | some x => some { x with s := psl n xs :: x.s } | none => none) else none
  | .str :: r, .str t :: q => (match unpack r q with | some x => some { x with t := t :: x.t } | none => none)
  | _, _ => none

/-- a call and what follows it -/
def callK (S : Tab) (kd : Kd) (g : FuncId) (pas : List PA) (shs : List Sh) (bi : List Iv) (bS : List (Iv × Int)) (bT : List Int) (k : Kt) : Option (List PA) :=
  match S kd g pas with
  | some res => match unpack shs res with
    | some r => if okIv bi bS bT r.i r.s r.t = true then k r.i r.b r.s r.t else none
    | none => none
  | none => none

def retA (p : PE) : List Sh → List PV → Option (List PA)
  | [], [] => some []
  | .int k :: r, .c (.int k' e) :: q => if k = k' then (match retA p r q with | some l => some (.int k (e.den p.e) :: l) | none => none) else none
  | .bool :: r, .c (.bool e) :: q => (match retA p r q with | some l => some (.bool (e.den p.e) :: l) | none => none)
  | .agg ks :: r, .a l :: q => if allI64 l = true then (match retA p r q with | some x => some (.agg ((iesOf l).map (IE.den p.e)) :: x) | none => none) else none
  | .sl T k z :: r, .c (.sl s) :: q => (match retA p r q with | some l => some (.sl T k z (p.e.s.getD s nilSl).n (p.e.s.getD s nilSl).xs :: l) | none => none)
  | .sl T k z :: r, .c .nsl :: q => (match retA p r q with | some l => some (.sl T k z 0 [] :: l) | none => none)
  | .str :: r, .c (.str t) :: q => (match retA p r q with | some l => some (.str (p.e.t.getD t ByteArray.empty) :: l) | none => none)
  | .str :: r, .c (.sk t) :: q => (match retA p r q with | some l => some (.str ⟨t.toArray⟩ :: l) | none => none)
  | _, _ => none

/-- the integers of cells -/
def intsA (p : PE) : List CV → List PA
  | [] => []
  | .int k e :: r => .int k (e.den p.e) :: intsA p r
  | _ :: r => intsA p r

/-- the shapes of the integers of cells -/
def intSh : List CV → List Sh
  | [] => []
  | .int k _ :: r => .int k :: intSh r
  | _ :: r => intSh r

/-- the same cells but for their integers -/
def havM : List CV → List CV → Bool
  | [], [] => true
  | .int k _ :: r, .int k' _ :: q => decide (k = k') && havM r q
  | .int _ _ :: _, _ :: _ => false
  | a :: r, b :: q => decide (a = b) && havM r q
  | _, _ => false

/-- cells of a new block: integers, or the first argument -/
def newA (p : PE) (a : CV) : List CV → Option (List PA)
  | [] => some []
  | .int k e :: r => (match newA p a r with | some l => some (.int k (e.den p.e) :: l) | none => none)
  | c :: r => if c = a then (match newA p a r with | some l => some (.fn 0 [] :: l) | none => none) else none
def newI : List CV → List PA → Option (List Int)
  | [], [] => some []
  | .int k _ :: r, .int k' n :: q => if k = k' then (match newI r q with | some l => some (n :: l) | none => none) else none
  | .int _ _ :: _, _ :: _ => none
  | _ :: r, .fn _ _ :: q => newI r q
  | _, _ => none
def pOf : List CV → List (Option IntKind)
  | [] => []
  | .int k _ :: r => some k :: pOf r
  | _ :: r => none :: pOf r

/-- a call that hands back a pointer to a new block, and what follows it -/
def callW (S : Tab) (g : FuncId) (l : List PA) (ty : TypeId) (cs : List CV) (bi : List Iv) (k : List Int → Option (List PA)) : Option (List PA) :=
  match S .new g l with
  | some [.ref ty' cl] => (match newI cs cl with
    | some is => if ty = ty' ∧ inIvsB bi is = true then k is else none
    | none => none)
  | _ => none

inductive RM where
  | nrm
  | chg (cs : List CV)
  | new (ty : TypeId) (a : CV)

def evRet (shs : List Sh) (rm : RM) (p : PE) (vs : List PV) (mb : List (List CV)) : Option (List PA) :=
  match rm, mb with
  | .nrm, [] => retA p shs vs
  | .chg cs0, [cs] => if havM cs0 cs = true then (match retA p shs vs with | some l => some (l ++ intsA p cs) | none => none) else none
  | .new ty a, [cs] => (match newA p a cs with | some l => some [.ref ty l] | none => none)
  | _, _ => none

/-- a value without pointers and functions -/
def toS (h : List It) (p : PE) : PV → Option PA
  | .c (.int k e) => some (.int k (e.den p.e))
  | .c (.bool e) => some (.bool (e.den p.e))
  | .c (.sl s) => match findIsl h s with
    | some (T, k, z, _) => some (.sl T k z (p.e.s.getD s nilSl).n (p.e.s.getD s nilSl).xs)
    | none => none
  | .c .nsl => some (.sl 0 .i64 1 0 [])
  | .a l => if allI64 l = true then some (.agg ((iesOf l).map (IE.den p.e))) else none
  | _ => none

def tgtA (p : PE) (h : List It) (g : Tgt) (args : List PV) : Option (FuncId × List PA) :=
  match g with
  | .fc g => match mapO (toP h p) args with
    | some l => some (g, l)
    | none => none
  | .fn f => match toC h p 5 (.fn f), mapO (toP h p) args with
    | some (.fn g caps), some l => some (g, l ++ caps)
    | _, _ => none

/-! ### loops -/
def lp : Nat → (Kt → Kt) → Kt
  | 0, _ => fun _ _ _ _ => none
  | m + 1, body => body (lp m body)
theorem lp_succ (m : Nat) (body : Kt → Kt) : lp (m + 1) body = body (lp m body) := rfl
def LF : Nat := 4194304
theorem LF_eq : LF = 4194304 := rfl

def ev (S : Tab) (shs : List Sh) (rm : RM) : T → List Kt → PE → Option (List PA)
  | .ret vs mb, _, p => evRet shs rm p vs mb
  | .need c k, K, p => bif c.den p.e then ev S shs rm k K p else none
  | .br c x y, K, p => bif c.den p.e then ev S shs rm x K p else ev S shs rm y K p
  | .blk k, K, p => ev S shs rm k K p.pn
  | .clo g caps k, K, p => if caps.all (PV.sc p.sz) = true then ev S shs rm k K (p.pf (.own g caps)) else none
  | .dsl e k, K, p => ev S shs rm k K (p.ext [] [] [pu (e.den p.e)] [])
  | .fs n e k, K, p => ev S shs rm k K (p.ext [] [] [psl (n.den p.e).toNat (e.den p.e)] [])
  | .set s i es k, K, p => ev S shs rm k K (p.ext [] [] [psl (p.e.s.getD s nilSl).n (setInts (p.e.s.getD s nilSl).xs (i.den p.e).toNat (es.map (IE.den p.e)))] [])
  | .callD g args shs' bi h k, K, p => match tgtA p h g args with
    | some (f, pas) => if (shS shs').isEmpty = true ∧ shT shs' = 0 then callK S .nrm f pas shs' bi [] [] fun is bs _ _ => ev S shs rm k K (p.ext (nI (shI shs') is) (nB (shB shs') bs) [] []) else none
    | none => none
  | .callG g args shs' hv bi bS bT h k, K, p =>
    if bS.length = (shS shs').length ∧ bT.length = shT shs' then
      (match hv with
      | [] => (match tgtA p h g args with
        | some (f, pas) => if bi.length = shI shs' then callK S .nrm f pas shs' bi bS bT fun is bs ss ts => ev S shs rm k K (p.ext (nI (shI shs') is) (nB (shB shs') bs) (nS (shS shs').length ss) (nT (shT shs') ts)) else none
        | none => none)
      | [.blk n ty cs' true] => (match g, args with
        | .fc f, .c (.ptr n' 0) :: args' => if n = n' ∧ (shS shs').isEmpty = true ∧ shT shs' = 0 then
            (match findBlk h n, mapO (toS h p) args' with
            | some (ty', cs, true), some l => (match mapO (fun c => toS h p (.c c)) cs with
              | some cl => if ty = ty' ∧ cs' = havocC cs (p.e.i.length + shI shs') ∧ cs.all (CV.sc p.sz) = true ∧ bi.length = shI shs' + (intSh cs).length then
                  callK S .chg f (.ref ty cl :: l) (shs' ++ intSh cs) bi [] [] fun is bs _ _ => ev S shs rm k K (p.ext (nI (shI (shs' ++ intSh cs)) is) (nB (shB (shs' ++ intSh cs)) bs) [] [])
                else none
              | none => none)
            | _, _ => none)
          else none
        | _, _ => none)
      | _ => none)
    else none
  | .callP g args ty cs bi h k, K, p => match mapO (toP h p) args, args with
    | some l, .c a :: _ => if cs = pcs a (pOf cs) p.e.i.length ∧ a.sc p.sz = true ∧ (intSh cs).length = bi.length then
        callW S g l ty cs bi fun is => ev S shs rm k K (p.ext (nI (intSh cs).length is) [] [] []) else none
    | _, _ => none
  | .loop is bs ss ts bi bS bT k, K, p =>
    lp LF (fun κ is' bs' ss' ts' => bif okIv bi bS bT is' ss' ts' then ev S shs rm k (K ++ [κ]) (p.ext (nI is.length is') (nB bs.length bs') (nS ss.length ss') (nT ts.length ts')) else none)
      (is.map (IE.den p.e)) (bs.map (BE.den p.e)) (ss.map (p.e.s.getD · nilSl)) (ts.map (p.e.t.getD · ByteArray.empty))
  | .again d is bs ss ts, K, p => match K[d]? with
    | some κ => κ (is.map (IE.den p.e)) (bs.map (BE.den p.e)) (ss.map (p.e.s.getD · nilSl)) (ts.map (p.e.t.getD · ByteArray.empty))
    | none => none
  | .cut ni nb ns nt bi bS bT x y, K, p =>
    ev S shs rm x (K ++ [fun is bs ss ts => bif okIv bi bS bT is ss ts then ev S shs rm y (K ++ [fun _ _ _ _ => none]) (p.ext (nI ni is) (nB nb bs) (nS ns ss) (nT nt ts)) else none]) p

end Go.Proofs.Ytelejhggpkfdoaa.SX

/-
  EV, part 2: what pure values say of values and a world; expressions over a pure environment.
-/
namespace Go.Proofs.Ytelejhggpkfdoaa.SX
set_option linter.unusedVariables false
set_option linter.unusedSimpArgs false
open Go.RowKit

def Env.pu (E : Env) : Env := { i := E.i, b := E.b, n := E.n.map fun _ => 0, s := E.s.map Go.Proofs.Ytelejhggpkfdoaa.SX.pu, t := E.t, f := [] }

theorem pu_nil : pu nilSl = nilSl := rfl
theorem getD_pu (l : List Sl) (s : Nat) : (l.map pu).getD s nilSl = pu (l.getD s nilSl) := by
  simp only [List.getD, List.getElem?_map]
  cases l[s]? <;> rfl

theorem IE.den_pu (E : Env) (e : IE) : e.den E.pu = e.den E := by
  induction e with
  | v i => rfl
  | c n => rfl
  | add a b iha ihb | sub a b iha ihb | mul a b iha ihb | quo a b iha ihb | rem a b iha ihb => simp only [IE.den, iha, ihb]
  | wr k a ih => simp only [IE.den, ih]
  | bit op k a b iha ihb => simp only [IE.den, iha, ihb]
  | sg s i ih => simp only [IE.den, ih]; rw [show E.pu.s = E.s.map pu from rfl, getD_pu]; rfl
  | sl s => simp only [IE.den]; rw [show E.pu.s = E.s.map pu from rfl, getD_pu]; rfl
  | tl t => rfl
  | tb t i ih => simp only [IE.den, ih]; rfl

theorem IE.map_pu (E : Env) (l : List IE) : l.map (IE.den E.pu) = l.map (IE.den E) := List.map_congr_left fun e _ => IE.den_pu E e

theorem BE.den_pu (E : Env) (e : BE) : e.den E.pu = e.den E := by
  induction e with
  | v i => rfl
  | c b => rfl
  | eq a b | lt a b | le a b => simp only [BE.den, IE.den_pu]
  | not a ih => simp only [BE.den, ih]
  | and a b iha ihb | or a b iha ihb | iff a b iha ihb => simp only [BE.den, iha, ihb]
  | teq t u => rfl
  | tec t s => rfl

theorem BE.map_pu (E : Env) (l : List BE) : l.map (BE.den E.pu) = l.map (BE.den E) := List.map_congr_left fun e _ => BE.den_pu E e

theorem LE.den_pu (E : Env) (e : LE) : e.den E.pu = e.den E := by
  cases e with
  | lit es => exact IE.map_pu E es
  | app s q => simp only [LE.den]; rw [show E.pu.s = E.s.map pu from rfl, getD_pu, getD_pu]; rfl
  | rep n z => simp only [LE.den, IE.den_pu]

theorem SE.den_pu (E : Env) (e : SE) : pu (e.den E.pu) = pu (e.den E) := by
  cases e with
  | arr n off len cap es => simp only [SE.den, pu, IE.map_pu]

theorem pu_ext (E : Env) (is : List Int) (bs : List Bool) (ss : List Sl) (ts : List ByteArray) : E.pu.ext is bs (ss.map pu) ts = (E.ext is bs ss ts).pu := by
  simp [Env.pu, Env.ext]
theorem pu_pn (E : Env) (b : Nat) : E.pu.pn 0 = (E.pn b).pu := by
  simp [Env.pu, Env.pn]

/-! ### pure values and values -/
 mutual
def PA.rep (w : World) : PA → Value → Prop
  | .int k n, v => v = .int k n
  | .bool b, v => v = .bool b
  | .agg xs, v => v = .agg (xs.map (Value.int .i64)).toArray
  | .sl _ k z n xs, v => ∃ s : Sl, v = s.val ∧ s.n = n ∧ s.xs = xs ∧ Reads w k z s
  | .str t, v => v = .string t
  | .fn g caps, v => ∃ cs : List Value, v = (Clo.mk g cs.toArray).val ∧ PA.reps w caps cs
  | .ref ty cs, v => ∃ (b : Nat) (vs : List Value), v = .pointer (some ⟨b, 0, none⟩) ∧ w.heap[b]? = some (.cells vs.toArray ty (0, 0)) ∧ PA.reps w cs vs
def PA.reps (w : World) : List PA → List Value → Prop
  | [], vs => vs = []
  | a :: r, vs => ∃ v q, vs = v :: q ∧ PA.rep w a v ∧ PA.reps w r q
end

theorem reads_lt {w : World} {k : IntKind} {z : Nat} {s : Sl} (h : Reads w k z s) (hne : s.xs.isEmpty = false) : ∀ b ∈ s.fp, b < w.heap.size := by
  intro b hb
  obtain ⟨x, r, hx⟩ := List.exists_cons_of_ne_nil (by simpa using hne : s.xs ≠ [])
  obtain ⟨a, ha, hc⟩ := h.cell 0 (.int k x) (by simp [ints, hx])
  have e : b = a.block := by simp [Sl.fp, ha] at hb; exact hb
  have e2 : (a.add 0).block = a.block := by unfold Addr.add; split <;> rfl
  rw [e, ← e2]
  refine Classical.byContradiction fun hlt => ?_
  have : w.heap[(a.add 0).block]? = none := Array.getElem?_eq_none (by omega)
  simp [World.cell?, this] at hc

 mutual
theorem PA.rep_same {w w' : World} (h : ∀ b : Nat, b < w.heap.size → w'.heap[b]? = w.heap[b]?) : ∀ (a : PA) (v : Value), PA.rep w a v → PA.rep w' a v
  | .int k n, v, hv => by simpa [PA.rep] using hv
  | .bool b, v, hv => by simpa [PA.rep] using hv
  | .agg xs, v, hv => by simpa [PA.rep] using hv
  | .sl T k z n xs, v, hv => by
    simp only [PA.rep] at hv ⊢
    obtain ⟨s, h1, h2, h3, h4⟩ := hv
    exact ⟨s, h1, h2, h3, h4.same fun hne b hb => h b (reads_lt h4 hne b hb)⟩
  | .str t, v, hv => by simpa [PA.rep] using hv
  | .fn g caps, v, hv => by
    simp only [PA.rep] at hv ⊢
    obtain ⟨cs, h1, h2⟩ := hv
    exact ⟨cs, h1, PA.reps_same h caps cs h2⟩
  | .ref ty cs, v, hv => by
    simp only [PA.rep] at hv ⊢
    obtain ⟨b, vs, h1, h2, h3⟩ := hv
    exact ⟨b, vs, h1, by rw [h b (Array.getElem?_eq_some_iff.1 h2).1]; exact h2, PA.reps_same h cs vs h3⟩
theorem PA.reps_same {w w' : World} (h : ∀ b : Nat, b < w.heap.size → w'.heap[b]? = w.heap[b]?) : ∀ (a : List PA) (v : List Value), PA.reps w a v → PA.reps w' a v
  | [], v, hv => by simpa [PA.reps] using hv
  | a :: r, v, hv => by
    simp only [PA.reps] at hv ⊢
    obtain ⟨x, q, h1, h2, h3⟩ := hv
    exact ⟨x, q, h1, PA.rep_same h a x h2, PA.reps_same h r q h3⟩
end

theorem PA.reps_append {w : World} : ∀ {a b : List PA} {u v : List Value}, PA.reps w a u → PA.reps w b v → PA.reps w (a ++ b) (u ++ v)
  | [], b, u, v, ha, hb => by simp only [PA.reps] at ha; subst ha; exact hb
  | x :: r, b, u, v, ha, hb => by
    simp only [PA.reps, List.cons_append] at ha ⊢
    obtain ⟨y, q, rfl, h2, h3⟩ := ha
    exact ⟨y, q ++ v, rfl, h2, PA.reps_append h3 hb⟩

theorem mapO_reps {α : Type} {w : World} {F : α → Option PA} {D : α → Value} : ∀ {l : List α} {as : List PA}, mapO F l = some as → (∀ x ∈ l, ∀ a, F x = some a → PA.rep w a (D x)) → PA.reps w as (l.map D)
  | [], as, h, _ => by simp [mapO] at h; subst h; simp [PA.reps]
  | x :: r, as, h, hF => by
    simp only [mapO] at h
    split at h
    · rename_i y l h1 h2
      simp at h; subst h
      simp only [PA.reps, List.map_cons]
      exact ⟨D x, r.map D, rfl, hF x (List.mem_cons_self ..) y h1, mapO_reps h2 fun x' hx' => hF x' (List.mem_cons_of_mem _ hx')⟩
    · simp at h

/-! ### environments -/
def PFok (Γ : Ctx) (E : Env) : PF → Clo → Prop
  | .own g caps, c => ∃ (E0 : Env) (z : Sz), E0.Fits z ∧ caps.all (PV.sc z) = true ∧ E0.le E ∧ c = ⟨g, (caps.map (PV.den E0)).toArray⟩
  | .given g caps, c => Γ.S = [] ∧ Γ.B = Γ.w0.heap.size ∧ ∃ cs : List Value, c = ⟨g, cs.toArray⟩ ∧ PA.reps Γ.w0 caps cs

theorem PFok.le {Γ : Ctx} {E E' : Env} (hl : E.le E') {x : PF} {c : Clo} (h : PFok Γ E x c) : PFok Γ E' x c := by
  cases x with
  | own g caps => obtain ⟨E0, z, h1, h2, h3, h4⟩ := h; exact ⟨E0, z, h1, h2, h3.trans hl, h4⟩
  | given g caps => exact h

structure Sim (Γ : Ctx) (E0 E : Env) (p : PE) : Prop where
  l0 : E0.le E
  e : p.e = E.pu
  fl : p.f.length = E.f.length
  f : ∀ j x, p.f[j]? = some x → PFok Γ E x (E.f.getD j nilClo)

variable {Γ : Ctx} {E0 E : Env} {p : PE}

theorem Sim.ie (h : Sim Γ E0 E p) (e : IE) : e.den p.e = e.den E := by rw [h.e, IE.den_pu]
theorem Sim.ies (h : Sim Γ E0 E p) (l : List IE) : l.map (IE.den p.e) = l.map (IE.den E) := by rw [h.e, IE.map_pu]
theorem Sim.be (h : Sim Γ E0 E p) (e : BE) : e.den p.e = e.den E := by rw [h.e, BE.den_pu]
theorem Sim.bes (h : Sim Γ E0 E p) (l : List BE) : l.map (BE.den p.e) = l.map (BE.den E) := by rw [h.e, BE.map_pu]
theorem Sim.le (h : Sim Γ E0 E p) (e : LE) : e.den p.e = e.den E := by rw [h.e, LE.den_pu]
theorem Sim.se (h : Sim Γ E0 E p) (e : SE) : pu (e.den p.e) = pu (e.den E) := by rw [h.e, SE.den_pu]
theorem Sim.s (h : Sim Γ E0 E p) (s : Nat) : p.e.s.getD s nilSl = pu (E.s.getD s nilSl) := by rw [h.e]; exact getD_pu E.s s
theorem Sim.ss (h : Sim Γ E0 E p) (l : List Nat) : l.map (p.e.s.getD · nilSl) = (l.map (E.s.getD · nilSl)).map pu := by
  rw [List.map_map]; exact List.map_congr_left fun s _ => h.s s
theorem Sim.t (h : Sim Γ E0 E p) : p.e.t = E.t := by rw [h.e]; rfl
theorem Sim.i (h : Sim Γ E0 E p) : p.e.i = E.i := by rw [h.e]; rfl

theorem Sim.fits (h : Sim Γ E0 E p) : E.Fits p.sz := by
  refine ⟨?_, ?_, ?_, ?_, ?_, h.fl.symm⟩ <;> simp [PE.sz, h.e, Env.pu]

theorem Sim.ext (h : Sim Γ E0 E p) (is : List Int) (bs : List Bool) (ss : List Sl) (ts : List ByteArray) : Sim Γ E0 (E.ext is bs ss ts) (p.ext is bs (ss.map pu) ts) :=
  ⟨h.l0.trans (Env.le_ext E is bs ss ts), by simp only [PE.ext, h.e, pu_ext], h.fl, fun j x hx => (h.f j x hx).le (Env.le_ext E is bs ss ts)⟩
theorem Sim.pn (h : Sim Γ E0 E p) (b : Nat) : Sim Γ E0 (E.pn b) p.pn :=
  ⟨h.l0.trans (Env.le_pn E b), by simp only [PE.pn, h.e, ← pu_pn], h.fl, fun j x hx => (h.f j x hx).le (Env.le_pn E b)⟩
theorem Sim.pf (h : Sim Γ E0 E p) {x : PF} {c : Clo} (hx : PFok Γ (E.pf c) x c) : Sim Γ E0 (E.pf c) (p.pf x) := by
  refine ⟨h.l0.trans (Env.le_pf E c), by simp only [PE.pf, h.e]; rfl, by simp [PE.pf, Env.pf, h.fl], fun j y hy => ?_⟩
  simp only [PE.pf] at hy
  simp only [Env.pf]
  rcases Nat.lt_or_ge j p.f.length with hj | hj
  · rw [List.getElem?_append_left hj] at hy
    rw [getD_app (by rw [← h.fl]; exact hj)]
    exact (h.f j y hy).le (Env.le_pf E c)
  · rw [List.getElem?_append_right hj] at hy
    have hj0 : j - p.f.length = 0 := by
      refine Classical.byContradiction fun hn => ?_
      rw [List.getElem?_eq_none (by simp; omega)] at hy
      simp at hy
    have : j = E.f.length := by rw [← h.fl]; omega
    subst this
    rw [hj0] at hy
    simp at hy; subst hy
    have e : (E.f ++ [c]).getD E.f.length nilClo = c := by simp [List.getD]
    rw [e]; exact hx

/-! ### arguments -/
theorem toC_rep {h : List It} {w : World} (hS : Sim Γ E0 E p) (hH : HOK Γ.B Γ.S h E w) (hK : Kp Γ.B Γ.S Γ.w0 w) : ∀ (d : Nat) (c : CV) (a : PA), toC h p d c = some a → PA.rep w a (c.den E) := by
  intro d
  induction d with
  | zero => intro c a ha; simp [toC] at ha
  | succ d ih =>
    intro c a ha
    cases c with
    | int k e => simp only [toC, Option.some.injEq] at ha; subst ha; simp only [PA.rep, CV.den, hS.ie]
    | bool e => simp only [toC, Option.some.injEq] at ha; subst ha; simp only [PA.rep, CV.den, hS.be]
    | sl s =>
      simp only [toC] at ha
      split at ha
      · rename_i T k z o hf
        simp only [Option.some.injEq] at ha; subst ha
        simp only [PA.rep, CV.den, hS.s]
        exact ⟨_, rfl, rfl, rfl, It.reads (hH.holds _ (findIsl_mem hf))⟩
      · simp at ha
    | nsl =>
      simp only [toC, Option.some.injEq] at ha; subst ha
      simp only [PA.rep, CV.den]
      exact ⟨nilSl, rfl, rfl, rfl, ⟨rfl, Nat.le_refl _, fun j u hu => by simp [ints, nilSl] at hu⟩⟩
    | str t => simp only [toC, Option.some.injEq] at ha; subst ha; simp only [PA.rep, CV.den, hS.t]
    | sk s => simp only [toC, Option.some.injEq] at ha; subst ha; simp only [PA.rep, CV.den]
    | fc g =>
      simp only [toC, Option.some.injEq] at ha; subst ha
      simp only [PA.rep, CV.den]
      exact ⟨[], rfl, by simp [PA.reps]⟩
    | fn f =>
      simp only [toC] at ha
      split at ha
      · rename_i g caps hf
        split at ha
        · rename_i l hl
          simp only [Option.some.injEq] at ha; subst ha
          obtain ⟨E0, z, h1, h2, h3, h4⟩ := hS.f f _ hf
          simp only [PA.rep, CV.den]
          refine ⟨caps.map (PV.den E), by rw [h4, PV.map_le h1 h3 caps h2], mapO_reps hl fun x hx a ha => ?_⟩
          cases x with
          | c c' => exact ih c' a ha
          | a l => simp at ha
        · simp at ha
      · rename_i g caps hf
        simp only [Option.some.injEq] at ha; subst ha
        obtain ⟨h1, h2, cs, h3, h4⟩ := hS.f f _ hf
        simp only [PA.rep, CV.den]
        refine ⟨cs, by rw [h3], PA.reps_same (fun b hb => hK.block b (by rw [h2]; exact hb) (by rw [h1]; simp)) _ _ h4⟩
      · simp at ha
    | ptr n off =>
      cases off with
      | succ o => simp [toC] at ha
      | zero =>
        simp only [toC] at ha
        split at ha
        · rename_i ty cs o hf
          split at ha
          · rename_i l hl
            simp only [Option.some.injEq] at ha; subst ha
            simp only [PA.rep, CV.den]
            refine ⟨_, cs.map (CV.den E), rfl, ?_, mapO_reps hl fun x hx a ha => ih x a ha⟩
            have := hH.holds _ (findBlk_mem hf)
            simpa [It.holds] using this
          · simp at ha
        · simp at ha
    | elp s i z off => simp [toC] at ha

theorem iesOf_agg (E : Env) {l : List CV} (h : allI64 l = true) : PV.den E (.a l) = .agg (((iesOf l).map (IE.den E)).map (Value.int .i64)).toArray := by
  simp only [PV.den, allI64_den E h]

theorem toP_rep {h : List It} {w : World} (hS : Sim Γ E0 E p) (hH : HOK Γ.B Γ.S h E w) (hK : Kp Γ.B Γ.S Γ.w0 w) (v : PV) (a : PA) (ha : toP h p v = some a) : PA.rep w a (v.den E) := by
  cases v with
  | c c => exact toC_rep hS hH hK 5 c a ha
  | a l =>
    simp only [toP] at ha
    split at ha
    · rename_i hl
      simp only [Option.some.injEq] at ha; subst ha
      simp only [PA.rep, iesOf_agg E hl, hS.ies]
    · simp at ha

theorem tgtA_ok {h : List It} {w : World} (hS : Sim Γ E0 E p) (hH : HOK Γ.B Γ.S h E w) (hK : Kp Γ.B Γ.S Γ.w0 w) {g : Tgt} {args : List PV} {f : FuncId} {pas : List PA} (ht : tgtA p h g args = some (f, pas)) :
    ∃ vals : List Value, vals.toArray = (args.map (PV.den E)).toArray ++ g.caps E ∧ PA.reps w pas vals := by
  cases g with
  | fc g =>
    simp only [tgtA] at ht
    split at ht
    · rename_i l hl
      simp only [Option.some.injEq, Prod.mk.injEq] at ht; obtain ⟨rfl, rfl⟩ := ht
      exact ⟨args.map (PV.den E), by simp [Tgt.caps], mapO_reps hl fun x _ a ha => toP_rep hS hH hK x a ha⟩
    · simp at ht
  | fn i =>
    simp only [tgtA] at ht
    split at ht
    · rename_i g caps l hc hl
      simp only [Option.some.injEq, Prod.mk.injEq] at ht; obtain ⟨rfl, rfl⟩ := ht
      have h1 := toC_rep hS hH hK 5 _ _ hc
      simp only [PA.rep, CV.den] at h1
      obtain ⟨cs, h2, h3⟩ := h1
      simp only [Clo.val, Value.func.injEq, Fn.func.injEq] at h2
      refine ⟨args.map (PV.den E) ++ cs, ?_, PA.reps_append (mapO_reps hl fun x _ a ha => toP_rep hS hH hK x a ha) h3⟩
      simp only [Tgt.caps, h2.2.2, List.append_toArray]
    · simp at ht

/-- the function that is meant does not depend on the world -/
theorem tgtA_g (hS : Sim Γ E0 E p) {h : List It} {g : Tgt} {args : List PV} {f : FuncId} {pas : List PA} (ht : tgtA p h g args = some (f, pas)) : f = g.g E := by
  cases g with
  | fc g =>
    simp only [tgtA] at ht
    split at ht
    · simp only [Option.some.injEq, Prod.mk.injEq] at ht; exact ht.1.symm
    · simp at ht
  | fn i =>
    simp only [tgtA] at ht
    split at ht
    · rename_i g caps l hc hl
      simp only [Option.some.injEq, Prod.mk.injEq] at ht; obtain ⟨rfl, rfl⟩ := ht
      simp only [toC] at hc
      split at hc
      · rename_i g' caps' hf
        split at hc
        · simp only [Option.some.injEq, PA.fn.injEq] at hc
          obtain ⟨E0, z, h1, h2, h3, h4⟩ := hS.f i _ hf
          simp only [Tgt.g, h4, hc.1]
        · simp at hc
      · rename_i g' caps' hf
        simp only [Option.some.injEq, PA.fn.injEq] at hc
        obtain ⟨h1, h2, cs, h3, h4⟩ := hS.f i _ hf
        simp only [Tgt.g, h3, hc.1]
      · simp at hc
    · simp at ht

/-! ### ranges -/
theorem inIvS_pu : ∀ (bi : List (Iv × Int)) (ss : List Sl), inIvS bi (ss.map pu) ↔ inIvS bi ss
  | [], _ => by simp [inIvS]
  | _ :: _, [] => by simp [inIvS]
  | b :: r, x :: q => by simp only [List.map_cons, inIvS, inIvS_pu r q]; exact Iff.rfl
theorem okIv_ok {bi : List Iv} {bS : List (Iv × Int)} {bT : List Int} {is : List Int} {ss : List Sl} {ts : List ByteArray} (h : okIv bi bS bT is (ss.map pu) ts = true) : inIvs bi is ∧ inIvS bS ss ∧ inIvT bT ts := by
  simp only [okIv, Bool.and_eq_true] at h
  exact ⟨(inIvsB_iff _ _).1 h.1, (inIvS_pu _ _).1 ((inIvSB_iff _ _).1 h.2.1), (inIvTB_iff _ _).1 h.2.2⟩
end Go.Proofs.Ytelejhggpkfdoaa.SX

/-
  EV, part 3: what an evaluator yields, a tree's meaning implies: the tables of calls, results, loops.
-/
namespace Go.Proofs.Ytelejhggpkfdoaa.SX
set_option linter.unusedVariables false
set_option linter.unusedSimpArgs false
open Go.RowKit

/-! ### results -/
def outs : List PA → List Value → List Sl → Prop
  | [], vs, ss => vs = [] ∧ ss = []
  | .int k n :: r, vs, ss => ∃ q, vs = .int k n :: q ∧ outs r q ss
  | .bool b :: r, vs, ss => ∃ q, vs = .bool b :: q ∧ outs r q ss
  | .agg xs :: r, vs, ss => ∃ q, vs = .agg (xs.map (Value.int .i64)).toArray :: q ∧ outs r q ss
  | .sl _ _ _ n xs :: r, vs, ss => ∃ q s ss', vs = s.val :: q ∧ ss = s :: ss' ∧ s.n = n ∧ s.xs = xs ∧ outs r q ss'
  | .str t :: r, vs, ss => ∃ q, vs = .string t :: q ∧ outs r q ss
  | _ :: _, _, _ => False
def slT : List PA → List (TypeId × IntKind × Nat)
  | [] => []
  | .sl T k z _ _ :: r => (T, k, z) :: slT r
  | _ :: r => slT r

theorem outs_len : ∀ {res : List PA} {vs : List Value} {ss : List Sl}, outs res vs ss → vs.length = res.length
  | [], vs, ss, h => by simp [outs] at h; simp [h.1]
  | .int k n :: r, vs, ss, h => by obtain ⟨q, rfl, h⟩ := h; simp [outs_len h]
  | .bool b :: r, vs, ss, h => by obtain ⟨q, rfl, h⟩ := h; simp [outs_len h]
  | .agg xs :: r, vs, ss, h => by obtain ⟨q, rfl, h⟩ := h; simp [outs_len h]
  | .sl _ _ _ n xs :: r, vs, ss, h => by obtain ⟨q, s, ss', rfl, rfl, _, _, h⟩ := h; simp [outs_len h]
  | .str t :: r, vs, ss, h => by obtain ⟨q, rfl, h⟩ := h; simp [outs_len h]
  | .fn _ _ :: _, _, _, h => h.elim
  | .ref _ _ :: _, _, _, h => h.elim

variable {Γ : Ctx} {E0 E : Env} {p : PE}

theorem retA_ok (hS : Sim Γ E0 E p) : ∀ {shs : List Sh} {vs : List PV} {res : List PA}, retA p shs vs = some res → outs res (vs.map (PV.den E)) (vs.flatMap (PV.sls E)) ∧ slT res = shS shs := by
  intro shs
  induction shs with
  | nil =>
    intro vs res h
    cases vs with
    | nil => simp [retA] at h; subst h; simp [outs, slT, shS]
    | cons v q => simp [retA] at h
  | cons s r ih =>
    intro vs res h
    cases vs with
    | nil => cases s <;> simp [retA] at h
    | cons v q =>
      unfold retA at h
      split at h
      · rename_i h1 h2; simp at h1
      · rename_i k k' e q' h1 h2
        simp only [List.cons.injEq] at h1 h2
        obtain ⟨rfl, rfl⟩ := h1; obtain ⟨rfl, rfl⟩ := h2
        split at h
        · rename_i hk; subst hk
          split at h
          · rename_i l hl
            simp only [Option.some.injEq] at h; subst h
            obtain ⟨g1, g2⟩ := ih hl
            refine ⟨⟨_, ?_, g1⟩, g2⟩
            simp [PV.den, CV.den, hS.ie, PV.sls]
          · simp at h
        · simp at h
      · rename_i e q' h1 h2
        simp only [List.cons.injEq] at h1 h2
        obtain ⟨rfl, rfl⟩ := h1; obtain ⟨rfl, rfl⟩ := h2
        split at h
        · rename_i l hl
          simp only [Option.some.injEq] at h; subst h
          obtain ⟨g1, g2⟩ := ih hl
          refine ⟨⟨_, ?_, g1⟩, g2⟩
          simp [PV.den, CV.den, hS.be, PV.sls]
        · simp at h
      · rename_i ks l q' h1 h2
        simp only [List.cons.injEq] at h1 h2
        obtain ⟨rfl, rfl⟩ := h1; obtain ⟨rfl, rfl⟩ := h2
        split at h
        · rename_i ha
          split at h
          · rename_i x hx
            simp only [Option.some.injEq] at h; subst h
            obtain ⟨g1, g2⟩ := ih hx
            refine ⟨⟨_, ?_, g1⟩, g2⟩
            simp only [List.map_cons, iesOf_agg E ha, hS.ies]
          · simp at h
        · simp at h
      · rename_i T k z s' q' h1 h2
        simp only [List.cons.injEq] at h1 h2
        obtain ⟨rfl, rfl⟩ := h1; obtain ⟨rfl, rfl⟩ := h2
        split at h
        · rename_i l hl
          simp only [Option.some.injEq] at h; subst h
          obtain ⟨g1, g2⟩ := ih hl
          refine ⟨⟨_, E.s.getD s' nilSl, _, ?_, ?_, ?_, ?_, g1⟩, by simp only [slT, shS, g2]⟩
          · simp [PV.den, CV.den]
          · simp [PV.sls]
          · rw [hS.s]; rfl
          · rw [hS.s]; rfl
        · simp at h
      · rename_i T k z q' h1 h2
        simp only [List.cons.injEq] at h1 h2
        obtain ⟨rfl, rfl⟩ := h1; obtain ⟨rfl, rfl⟩ := h2
        split at h
        · rename_i l hl
          simp only [Option.some.injEq] at h; subst h
          obtain ⟨g1, g2⟩ := ih hl
          refine ⟨⟨_, nilSl, _, ?_, ?_, rfl, rfl, g1⟩, by simp only [slT, shS, g2]⟩
          · simp [PV.den, CV.den, nilSl, Sl.val]
          · simp [PV.sls]
        · simp at h
      · rename_i t q' h1 h2
        simp only [List.cons.injEq] at h1 h2
        obtain ⟨rfl, rfl⟩ := h1; obtain ⟨rfl, rfl⟩ := h2
        split at h
        · rename_i l hl
          simp only [Option.some.injEq] at h; subst h
          obtain ⟨g1, g2⟩ := ih hl
          refine ⟨⟨_, ?_, g1⟩, g2⟩
          simp [PV.den, CV.den, hS.t, PV.sls]
        · simp at h
      · rename_i t q' h1 h2
        simp only [List.cons.injEq] at h1 h2
        obtain ⟨rfl, rfl⟩ := h1; obtain ⟨rfl, rfl⟩ := h2
        split at h
        · rename_i l hl
          simp only [Option.some.injEq] at h; subst h
          obtain ⟨g1, g2⟩ := ih hl
          refine ⟨⟨_, ?_, g1⟩, g2⟩
          simp [PV.den, CV.den, PV.sls]
        · simp at h
      · simp at h

theorem aggC_den : ∀ {ks : List IntKind} {xs : List Int} {n : Nat} {E' : Env}, allK64 ks = true → ks.length = xs.length → (∀ j, j < xs.length → E'.i.getD (n + j) 0 = xs.getD j 0) →
    (aggC ks n).map (CV.den E') = xs.map (Value.int .i64)
  | [], [], n, E', _, _, _ => rfl
  | [], _ :: _, _, _, _, h, _ => by simp at h
  | _ :: _, [], _, _, _, h, _ => by simp at h
  | k :: r, x :: q, n, E', hk, hl, hg => by
    have hk0 : k = .i64 ∧ allK64 r = true := by cases k <;> simp_all [allK64]
    have h0 := hg 0 (by simp)
    simp only [Nat.add_zero, List.getD_cons_zero] at h0
    have ih := aggC_den (n := n + 1) (E' := E') hk0.2 (show r.length = q.length by simpa using hl) (fun j hj => by
      have := hg (j + 1) (by simp; omega)
      rw [show n + 1 + j = n + (j + 1) by omega, this]; simp)
    simp only [aggC, List.map_cons, CV.den, IE.den, hk0.1, ih]
    rw [h0]

theorem unpack_ok : ∀ {shs : List Sh} {res : List PA} {r : Rs}, unpack shs res = some r → ∀ {vs : List Value} {ss : List Sl}, outs res vs ss →
    r.i.length = shI shs ∧ r.b.length = shB shs ∧ r.s = ss.map pu ∧ ss.length = (shS shs).length ∧ r.t.length = shT shs ∧ slT res = shS shs ∧
    ∀ (ni nb ns nt : Nat) (E' : Env), (∀ j, j < r.i.length → E'.i.getD (ni + j) 0 = r.i.getD j 0) → (∀ j, j < r.b.length → E'.b.getD (nb + j) false = r.b.getD j false) →
      (∀ j, j < ss.length → E'.s.getD (ns + j) nilSl = ss.getD j nilSl) → (∀ j, j < r.t.length → E'.t.getD (nt + j) ByteArray.empty = r.t.getD j ByteArray.empty) →
      vs = (shPV shs ni nb ns nt).map (PV.den E') := by
  intro shs
  induction shs with
  | nil =>
    intro res r h vs ss ho
    cases res with
    | nil =>
      simp [unpack] at h; subst h
      simp only [outs] at ho; obtain ⟨rfl, rfl⟩ := ho
      simp [shI, shB, shS, shT, slT, shPV]
    | cons a q => simp [unpack] at h
  | cons s rs ih =>
    intro res r h vs ss ho
    cases res with
    | nil => cases s <;> simp [unpack] at h
    | cons a q' =>
    cases s <;> cases a <;> simp only [unpack, reduceCtorEq] at h
    · rename_i k k' n
      split at h
      · rename_i hk; subst hk
        split at h
        · rename_i x hx
          simp only [Option.some.injEq] at h; subst h
          obtain ⟨q, rfl, ho⟩ := ho
          obtain ⟨g1, g2, g3, g4, g5, g6, g7⟩ := ih hx ho
          refine ⟨by simp only [shI, List.length_cons, g1]; omega, by simpa [shB] using g2, g3, by simpa [shS] using g4, by simpa [shT] using g5, by simpa [slT, shS] using g6, ?_⟩
          intro ni nb ns nt E' hi hb hs ht
          have h0 := hi 0 (by simp)
          simp only [Nat.add_zero, List.getD_cons_zero] at h0
          simp only [shPV, List.map_cons, PV.den, CV.den, IE.den, h0]
          rw [← g7 (ni + 1) nb ns nt E' (fun j hj => by
            have := hi (j + 1) (by simp; omega)
            rw [show ni + 1 + j = ni + (j + 1) by omega, this]; simp) hb hs ht]
        · simp at h
      · simp at h
    · rename_i b
      split at h
      · rename_i x hx
        simp only [Option.some.injEq] at h; subst h
        obtain ⟨q, rfl, ho⟩ := ho
        obtain ⟨g1, g2, g3, g4, g5, g6, g7⟩ := ih hx ho
        refine ⟨by simpa [shI] using g1, by simp only [shB, List.length_cons, g2]; omega, g3, by simpa [shS] using g4, by simpa [shT] using g5, by simpa [slT, shS] using g6, ?_⟩
        intro ni nb ns nt E' hi hb hs ht
        have h0 := hb 0 (by simp)
        simp only [Nat.add_zero, List.getD_cons_zero] at h0
        simp only [shPV, List.map_cons, PV.den, CV.den, BE.den, h0]
        rw [← g7 ni (nb + 1) ns nt E' hi (fun j hj => by
          have := hb (j + 1) (by simp; omega)
          rw [show nb + 1 + j = nb + (j + 1) by omega, this]; simp) hs ht]
      · simp at h
    · rename_i ks xs
      split at h
      · rename_i hk
        split at h
        · rename_i x hx
          simp only [Option.some.injEq] at h; subst h
          obtain ⟨q, rfl, ho⟩ := ho
          obtain ⟨g1, g2, g3, g4, g5, g6, g7⟩ := ih hx ho
          refine ⟨by simp only [shI, List.length_append, g1, hk.2], by simpa [shB] using g2, g3, by simpa [shS] using g4, by simpa [shT] using g5, by simpa [slT, shS] using g6, ?_⟩
          intro ni nb ns nt E' hi hb hs ht
          have ha := aggC_den (n := ni) (E' := E') hk.1 hk.2 (fun j hj => by
            rw [hi j (by simp; omega), getD_app hj])
          simp only [shPV, List.map_cons, PV.den, ha]
          rw [← g7 (ni + ks.length) nb ns nt E' (fun j hj => by
            have := hi (xs.length + j) (by simp; omega)
            rw [hk.2, show ni + xs.length + j = ni + (xs.length + j) by omega, this, getD_app2, if_neg (by omega)]
            congr 1; omega) hb hs ht]
        · simp at h
      · simp at h
    · rename_i T k z T' k' z' n xs
      split at h
      · rename_i hk
        obtain ⟨rfl, rfl, rfl⟩ := hk
        split at h
        · rename_i x hx
          simp only [Option.some.injEq] at h; subst h
          obtain ⟨q, s, ss', rfl, rfl, rfl, rfl, ho⟩ := ho
          obtain ⟨g1, g2, g3, g4, g5, g6, g7⟩ := ih hx ho
          refine ⟨by simpa [shI] using g1, by simpa [shB] using g2, by simp only [List.map_cons, g3]; rfl, by simp only [shS, List.length_cons, g4], by simpa [shT] using g5, by simp only [slT, shS, g6], ?_⟩
          intro ni nb ns nt E' hi hb hs ht
          have h0 := hs 0 (by simp)
          simp only [Nat.add_zero, List.getD_cons_zero] at h0
          simp only [shPV, List.map_cons, PV.den, CV.den, h0]
          rw [← g7 ni nb (ns + 1) nt E' hi hb (fun j hj => by
            have := hs (j + 1) (by simp; omega)
            rw [show ns + 1 + j = ns + (j + 1) by omega, this]; simp) ht]
        · simp at h
      · simp at h
    · rename_i t
      split at h
      · rename_i x hx
        simp only [Option.some.injEq] at h; subst h
        obtain ⟨q, rfl, ho⟩ := ho
        obtain ⟨g1, g2, g3, g4, g5, g6, g7⟩ := ih hx ho
        refine ⟨by simpa [shI] using g1, by simpa [shB] using g2, g3, by simpa [shS] using g4, by simp only [shT, List.length_cons, g5]; omega, by simpa [slT, shS] using g6, ?_⟩
        intro ni nb ns nt E' hi hb hs ht
        have h0 := ht 0 (by simp)
        simp only [Nat.add_zero, List.getD_cons_zero] at h0
        simp only [shPV, List.map_cons, PV.den, CV.den, h0]
        rw [← g7 ni nb ns (nt + 1) E' hi hb hs (fun j hj => by
          have := ht (j + 1) (by simp; omega)
          rw [show nt + 1 + j = nt + (j + 1) by omega, this]; simp)]
      · simp at h

/-! ### what a table of calls says -/
def PostN (w : World) (res : List PA) (e : Ending) (w' : World) : Prop :=
  ∃ vs ss, e = .returned (pack vs) ∧ outs res vs ss ∧ Below w.heap.size w w' ∧ OwnL w.heap.size w' (slT res) ss

def newv (v0 : Value) : List PA → List Value → Prop
  | [], vs => vs = []
  | .int k n :: r, vs => ∃ q, vs = .int k n :: q ∧ newv v0 r q
  | .fn _ _ :: r, vs => ∃ q, vs = v0 :: q ∧ newv v0 r q
  | _ :: _, _ => False
def PostW (w : World) (v0 : Value) (ty : TypeId) (cl : List PA) (e : Ending) (w' : World) : Prop :=
  ∃ (b : Nat) (vs : List Value), e = .returned (.pointer (some ⟨b, 0, none⟩)) ∧ Below w.heap.size w w' ∧ w.heap.size ≤ b ∧ w'.heap[b]? = some (.cells vs.toArray ty (0, 0)) ∧ newv v0 cl vs

/-- cells with new integers -/
def hav : List Value → List PA → List Value
  | [], _ => []
  | .int k x :: r, a :: q => (match a with | .int _ n => .int k n | _ => .int k x) :: hav r q
  | .int k x :: r, [] => .int k x :: hav r []
  | v :: r, q => v :: hav r q
def intsN : List Value → Nat
  | [] => 0
  | .int _ _ :: r => 1 + intsN r
  | _ :: r => intsN r
def PostM (w : World) (b : Nat) (ty : TypeId) (old : List Value) (res : List PA) (e : Ending) (w' : World) : Prop :=
  ∃ vs rs is, res = rs ++ is ∧ is.length = intsN old ∧ e = .returned (pack vs) ∧ outs rs vs [] ∧ Kp w.heap.size [b] w w' ∧ w'.heap[b]? = some (.cells (hav old is).toArray ty (0, 0))

/-- a slice that does not lie in a block -/
def apart (b : Nat) : PA → Value → Prop
  | .sl _ _ _ _ xs, v => ∀ s : Sl, v = s.val → xs ≠ [] → b ∉ s.fp
  | _, _ => True
def aparts (b : Nat) : List PA → List Value → Prop
  | a :: r, v :: q => apart b a v ∧ aparts b r q
  | _, _ => True

structure TabOK (P : Program) (S : Tab) : Prop where
  nrm : ∀ g pas res, S .nrm g pas = some res → Callable P g ∧ ∀ w vals, PA.reps w pas vals → Calls P g vals.toArray w (PostN w res)
  new : ∀ g pas res, S .new g pas = some res → Callable P g ∧ ∀ w vals, PA.reps w pas vals → Calls P g vals.toArray w fun e w' => ∃ ty cl, res = [.ref ty cl] ∧ PostW w (vals.headD undef) ty cl e w'
  chg : ∀ g pas res, S .chg g pas = some res → Callable P g ∧ ∀ ty cl l w (b : Nat) old rest, pas = .ref ty cl :: l → w.heap[b]? = some (.cells old.toArray ty (0, 0)) → PA.reps w cl old → PA.reps w l rest →
    aparts b cl old → aparts b l rest → Calls P g (.pointer (some ⟨b, 0, none⟩) :: rest).toArray w (PostM w b ty old res)
end Go.Proofs.Ytelejhggpkfdoaa.SX

/-
  EV, part 4: what an evaluator yields, a tree's meaning implies.
-/
namespace Go.Proofs.Ytelejhggpkfdoaa.SX
set_option linter.unusedVariables false
set_option linter.unusedSimpArgs false
open Go.RowKit

variable {Γ : Ctx} {E0 E : Env} {p : PE}

def KR (K : List Kt) (H : List Hd) (res : List PA) : Prop :=
  K.length = H.length ∧ ∀ (d : Nat) (κ : Kt) (hd : Hd), K[d]? = some κ → H[d]? = some hd → ∀ is bs (ss : List Sl) ts, κ is bs (ss.map pu) ts = some res → hd is bs ss ts

theorem KR.add {K : List Kt} {H : List Hd} {res : List PA} (h : KR K H res) {κ : Kt} {hd : Hd} (hx : ∀ is bs (ss : List Sl) ts, κ is bs (ss.map pu) ts = some res → hd is bs ss ts) : KR (K ++ [κ]) (H ++ [hd]) res := by
  refine ⟨by simp [h.1], fun d κ' hd' h1 h2 => ?_⟩
  rcases Nat.lt_or_ge d K.length with hj | hj
  · rw [List.getElem?_append_left hj] at h1
    rw [List.getElem?_append_left (by rw [← h.1]; exact hj)] at h2
    exact h.2 d κ' hd' h1 h2
  · rw [List.getElem?_append_right hj] at h1
    rw [List.getElem?_append_right (by rw [← h.1]; exact hj)] at h2
    have hj0 : d - K.length = 0 := by
      refine Classical.byContradiction fun hn => ?_
      rw [List.getElem?_eq_none (by simp; omega)] at h1
      simp at h1
    have hj1 : d - H.length = 0 := by rw [← h.1]; exact hj0
    rw [hj0] at h1; rw [hj1] at h2
    simp at h1 h2; subst h1; subst h2
    exact hx

theorem exists_least {P : Nat → Prop} (h : ∃ m, P m) : ∃ m, P m ∧ ∀ k, P k → m ≤ k := by
  obtain ⟨m, hm⟩ := h
  induction m using Nat.strongRecOn with
  | _ m ih =>
    by_cases hk : ∃ k, k < m ∧ P k
    · obtain ⟨k, h1, h2⟩ := hk; exact ih k h1 h2
    · exact ⟨m, hm, fun k hp => Nat.le_of_not_lt fun hlt => hk ⟨k, hlt, hp⟩⟩

theorem callK_ok {S : Tab} {kd : Kd} {g : FuncId} {pas : List PA} {shs : List Sh} {bi : List Iv} {bS : List (Iv × Int)} {bT : List Int} {k : Kt} {res : List PA} (h : callK S kd g pas shs bi bS bT k = some res) :
    ∃ r0 r, S kd g pas = some r0 ∧ unpack shs r0 = some r ∧ okIv bi bS bT r.i r.s r.t = true ∧ k r.i r.b r.s r.t = some res := by
  unfold callK at h
  split at h
  · rename_i r0 h1
    split at h
    · rename_i r h2
      split at h
      · rename_i h3; exact ⟨r0, r, h1, h2, h3, h⟩
      · simp at h
    · simp at h
  · simp at h

theorem getD_end {α : Type} (l l' : List α) (d : α) (j : Nat) : (l ++ l').getD (l.length + j) d = l'.getD j d := by
  rw [getD_app2, if_neg (by omega)]; congr 1; omega

theorem sep_apart {R : It → It → Prop} (hs : ∀ x y, R x y → R y x) : ∀ {l : List It}, l.Pairwise R → ∀ x ∈ l, ∀ y ∈ l, x ≠ y → R x y
  | [], _, x, hx, _, _, _ => by simp at hx
  | a :: r, h, x, hx, y, hy, hne => by
    obtain ⟨h1, h2⟩ := List.pairwise_cons.1 h
    cases hx with
    | head => cases hy with
      | head => exact (hne rfl).elim
      | tail _ hy => exact h1 y hy
    | tail _ hx => cases hy with
      | head => exact hs _ _ (h1 x hx)
      | tail _ hy => exact sep_apart hs h2 x hx y hy hne

theorem HOK.apart {h : List It} {w : World} (hH : HOK Γ.B Γ.S h E w) {n : Nat} {ty : TypeId} {cs : List CV} (hm : It.blk n ty cs true ∈ h) {s : Nat} {T : TypeId} {k : IntKind} {z : Nat} {o : Bool} (hi : It.isl s T k z o ∈ h)
    (hne : (E.s.getD s nilSl).xs ≠ []) : E.n.getD n 0 ∉ (E.s.getD s nilSl).fp := by
  have hsym : ∀ x y : It, ((x.own || y.own) = true → ∀ k ∈ x.fp E, k ∉ y.fp E) → ((y.own || x.own) = true → ∀ k ∈ y.fp E, k ∉ x.fp E) := by
    intro x y h ho k hk hk'
    exact h (by rw [Bool.or_comm]; exact ho) k hk' hk
  have := sep_apart hsym hH.sep _ hm _ hi (by simp) (by simp [It.own]) (E.n.getD n 0) (by simp [It.fp])
  cases o with
  | true => simpa [It.fp] using this
  | false =>
    simp only [It.fp] at this
    rw [if_neg (by simpa using hne)] at this
    exact this

theorem sval_fp {s s' : Sl} (h : s.val = s'.val) : s.fp = s'.fp := by
  unfold Sl.val at h; injection h with h1; unfold Sl.fp; rw [h1]

theorem toS_rep {h : List It} {w : World} (hS : Sim Γ E0 E p) (hH : HOK Γ.B Γ.S h E w) {n : Nat} {ty : TypeId} {cs : List CV} (hm : It.blk n ty cs true ∈ h) (v : PV) (a : PA) (ha : toS h p v = some a) :
    PA.rep w a (v.den E) ∧ apart (E.n.getD n 0) a (v.den E) := by
  unfold toS at ha
  split at ha
  · simp only [Option.some.injEq] at ha; subst ha; simp only [PA.rep, PV.den, CV.den, hS.ie, Go.Proofs.Ytelejhggpkfdoaa.SX.apart, and_self]
  · simp only [Option.some.injEq] at ha; subst ha; simp only [PA.rep, PV.den, CV.den, hS.be, Go.Proofs.Ytelejhggpkfdoaa.SX.apart, and_self]
  · rename_i s
    split at ha
    · rename_i T k z o hf
      simp only [Option.some.injEq] at ha; subst ha
      simp only [PA.rep, PV.den, CV.den, hS.s]
      refine ⟨⟨_, rfl, rfl, rfl, It.reads (hH.holds _ (findIsl_mem hf))⟩, fun s' hs' hne => ?_⟩
      rw [← sval_fp hs']
      exact hH.apart hm (findIsl_mem hf) (by simpa [pu, psl] using hne)
    · simp at ha
  · simp only [Option.some.injEq] at ha; subst ha
    simp only [PA.rep, PV.den, CV.den]
    exact ⟨⟨nilSl, rfl, rfl, rfl, ⟨rfl, Nat.le_refl _, fun j u hu => by simp [ints, nilSl] at hu⟩⟩, fun s' hs' hne => (hne rfl).elim⟩
  · rename_i l
    split at ha
    · rename_i hl
      simp only [Option.some.injEq] at ha; subst ha
      simp only [PA.rep, iesOf_agg E hl, hS.ies, Go.Proofs.Ytelejhggpkfdoaa.SX.apart, and_self]
    · simp at ha
  · simp at ha

theorem mapO_apart {α : Type} {w : World} {b : Nat} {F : α → Option PA} {D : α → Value} : ∀ {l : List α} {as : List PA}, mapO F l = some as → (∀ x ∈ l, ∀ a, F x = some a → PA.rep w a (D x) ∧ apart b a (D x)) → PA.reps w as (l.map D) ∧ aparts b as (l.map D)
  | [], as, h, _ => by simp [mapO] at h; subst h; simp [PA.reps, aparts]
  | x :: r, as, h, hF => by
    simp only [mapO] at h
    split at h
    · rename_i y l h1 h2
      simp at h; subst h
      obtain ⟨g1, g2⟩ := mapO_apart h2 fun x' hx' => hF x' (List.mem_cons_of_mem _ hx')
      obtain ⟨g3, g4⟩ := hF x (List.mem_cons_self ..) y h1
      simp only [PA.reps, List.map_cons, aparts]
      exact ⟨⟨D x, r.map D, rfl, g3, g1⟩, g4, g2⟩
    · simp at h

/-- integers alone -/
theorem unpack_ints : ∀ {cs : List CV} {l : List PA} {r : Rs}, unpack (intSh cs) l = some r → r.b = [] ∧ r.s = [] ∧ r.t = [] ∧ r.i.length = (intSh cs).length ∧ l.length = (intSh cs).length
  | [], l, r, h => by
    cases l with
    | nil => simp [intSh, unpack] at h; subst h; simp [intSh]
    | cons => simp [intSh, unpack] at h
  | c :: q, l, r, h => by
    cases c with
    | int k e =>
      cases l with
      | nil => simp [intSh, unpack] at h
      | cons a l =>
        cases a with
        | int k' n =>
          simp only [intSh, unpack] at h
          split at h
          · split at h
            · rename_i x hx
              simp only [Option.some.injEq] at h; subst h
              obtain ⟨h1, h2, h3, h4, h5⟩ := unpack_ints hx
              exact ⟨h1, h2, h3, by simp [intSh, h4], by simp [intSh, h5]⟩
            · simp at h
          · simp at h
        | _ => simp [intSh, unpack] at h
    | _ => simp only [intSh] at h ⊢; exact unpack_ints h

theorem unpack_append : ∀ {s1 s2 : List Sh} {l : List PA} {r : Rs}, unpack (s1 ++ s2) l = some r → ∃ l1 l2 r1 r2, l = l1 ++ l2 ∧ l1.length = s1.length ∧ unpack s1 l1 = some r1 ∧ unpack s2 l2 = some r2 ∧
    r.i = r1.i ++ r2.i ∧ r.b = r1.b ++ r2.b ∧ r.s = r1.s ++ r2.s ∧ r.t = r1.t ++ r2.t
  | [], s2, l, r, h => ⟨[], l, ⟨[], [], [], []⟩, r, rfl, rfl, rfl, h, rfl, rfl, rfl, rfl⟩
  | s :: s1, s2, l, r, h => by
    cases l with
    | nil => cases s <;> simp [unpack] at h
    | cons a l =>
      cases s <;> cases a <;> simp only [List.cons_append, unpack, reduceCtorEq] at h
      · rename_i k k' n
        split at h
        · rename_i hk
          split at h
          · rename_i x hx
            simp only [Option.some.injEq] at h; subst h
            obtain ⟨l1, l2, r1, r2, rfl, g1, g2, g3, g4, g5, g6, g7⟩ := unpack_append hx
            exact ⟨_ :: l1, l2, { r1 with i := n :: r1.i }, r2, rfl, by simp [g1], by simp only [unpack, hk, if_true, g2], g3, by simp [g4], g5, g6, g7⟩
          · simp at h
        · simp at h
      · rename_i b
        split at h
        · rename_i x hx
          simp only [Option.some.injEq] at h; subst h
          obtain ⟨l1, l2, r1, r2, rfl, g1, g2, g3, g4, g5, g6, g7⟩ := unpack_append hx
          exact ⟨_ :: l1, l2, { r1 with b := b :: r1.b }, r2, rfl, by simp [g1], by simp only [unpack, g2], g3, g4, by simp [g5], g6, g7⟩
        · simp at h
      · rename_i ks xs
        split at h
        · rename_i hk
          split at h
          · rename_i x hx
            simp only [Option.some.injEq] at h; subst h
            obtain ⟨l1, l2, r1, r2, rfl, g1, g2, g3, g4, g5, g6, g7⟩ := unpack_append hx
            exact ⟨_ :: l1, l2, { r1 with i := xs ++ r1.i }, r2, rfl, by simp [g1], by simp only [unpack, hk, and_self, if_true, g2], g3, by simp [g4], g5, g6, g7⟩
          · simp at h
        · simp at h
      · rename_i T k z T' k' z' n xs
        split at h
        · rename_i hk
          split at h
          · rename_i x hx
            simp only [Option.some.injEq] at h; subst h
            obtain ⟨l1, l2, r1, r2, rfl, g1, g2, g3, g4, g5, g6, g7⟩ := unpack_append hx
            exact ⟨_ :: l1, l2, { r1 with s := (psl n xs) :: r1.s }, r2, rfl, by simp [g1], by simp only [unpack, hk, and_self, if_true, g2], g3, g4, g5, by simp [g6], g7⟩
          · simp at h
        · simp at h
      · rename_i t
        split at h
        · rename_i x hx
          simp only [Option.some.injEq] at h; subst h
          obtain ⟨l1, l2, r1, r2, rfl, g1, g2, g3, g4, g5, g6, g7⟩ := unpack_append hx
          exact ⟨_ :: l1, l2, { r1 with t := t :: r1.t }, r2, rfl, by simp [g1], by simp only [unpack, g2], g3, g4, g5, g6, by simp [g7]⟩
        · simp at h

theorem intsN_cs (E : Env) : ∀ cs : List CV, intsN (cs.map (CV.den E)) = (intSh cs).length
  | [] => rfl
  | c :: r => by
    cases c <;> simp [CV.den, intsN, intSh, intsN_cs E r, Sl.val, Clo.val, Nat.add_comm]

theorem havoc_den {E E' : Env} {z : Sz} (hf : E.Fits z) (hl : E.le E') : ∀ {cs : List CV} {ni : Nat} {l : List PA} {r : Rs}, cs.all (CV.sc z) = true → unpack (intSh cs) l = some r → (∀ j, j < r.i.length → E'.i.getD (ni + j) 0 = r.i.getD j 0) →
    (havocC cs ni).map (CV.den E') = hav (cs.map (CV.den E)) l
  | [], ni, l, r, _, h, _ => by
    cases l <;> simp [havocC, hav]
  | c :: q, ni, l, r, hs, h, hi => by
    simp only [List.all_cons, Bool.and_eq_true] at hs
    have step : (∀ k e, c ≠ .int k e) → (havocC (c :: q) ni).map (CV.den E') = hav ((c :: q).map (CV.den E)) l := by
      intro hne
      have e1 : havocC (c :: q) ni = c :: havocC q ni := by
        cases c <;> first | rfl | exact (hne _ _ rfl).elim
      have e2 : intSh (c :: q) = intSh q := by
        cases c <;> first | rfl | exact (hne _ _ rfl).elim
      rw [e2] at h
      have ih := havoc_den hf hl (ni := ni) hs.2 h hi
      rw [e1]
      simp only [List.map_cons, ih, CV.den_le hf hl c hs.1]
      cases c <;> first | (exact (hne _ _ rfl).elim) | (cases l <;> simp [CV.den, hav, Sl.val, Clo.val])
    cases c with
    | int k e =>
      cases l with
      | nil => simp [intSh, unpack] at h
      | cons a l =>
        cases a with
        | int k' n =>
          simp only [intSh, unpack] at h
          split at h
          · split at h
            · rename_i x hx
              simp only [Option.some.injEq] at h; subst h
              have h0 := hi 0 (by simp)
              simp only [Nat.add_zero, List.getD_cons_zero] at h0
              have ih := havoc_den hf hl (ni := ni + 1) hs.2 hx (fun j hj => by
                have := hi (j + 1) (by simp; omega)
                rw [show ni + 1 + j = ni + (j + 1) by omega, this]; simp)
              simp only [havocC, List.map_cons, CV.den, IE.den, h0, ih, hav]
            · simp at h
          · simp at h
        | _ => simp [intSh, unpack] at h
    | _ => exact step (by simp)

theorem new_den {a : CV} {v0 : Value} {E' : Env} (ha : a.den E' = v0) : ∀ {cs : List CV} {ni : Nat} {cl : List PA} {is : List Int} {vs : List Value}, cs = pcs a (pOf cs) ni → newI cs cl = some is → newv v0 cl vs → (∀ j, j < is.length → E'.i.getD (ni + j) 0 = is.getD j 0) →
    is.length = (intSh cs).length ∧ vs = cs.map (CV.den E')
  | [], ni, cl, is, vs, _, h, hn, _ => by
    cases cl with
    | nil => simp [newI] at h; subst h; simp only [newv] at hn; subst hn; simp [intSh]
    | cons => simp [newI] at h
  | c :: q, ni, cl, is, vs, hc, h, hn, hi => by
    cases c with
    | int k e =>
      simp only [pOf, pcs, List.cons.injEq, CV.int.injEq, true_and] at hc
      cases cl with
      | nil => simp [newI] at h
      | cons x cl =>
        cases x with
        | int k' n =>
          simp only [newI] at h
          split at h
          · rename_i hk; subst hk
            split at h
            · rename_i l hl
              simp only [Option.some.injEq] at h; subst h
              obtain ⟨q', rfl, hn⟩ := hn
              have h0 := hi 0 (by simp)
              simp only [Nat.add_zero, List.getD_cons_zero] at h0
              obtain ⟨g1, g2⟩ := new_den ha hc.2 hl hn (fun j hj => by
                have := hi (j + 1) (by simp; omega)
                rw [show ni + 1 + j = ni + (j + 1) by omega, this]; simp)
              refine ⟨by simp [intSh, g1], ?_⟩
              simp only [List.map_cons, CV.den, hc.1, IE.den, h0, g2]
            · simp at h
          · simp at h
        | _ => simp [newI] at h
    | _ =>
      simp only [pOf, pcs, List.cons.injEq] at hc
      cases cl with
      | nil => simp [newI] at h
      | cons x cl =>
        cases x with
        | fn g cc =>
          simp only [newI] at h
          obtain ⟨q', rfl, hn⟩ := hn
          obtain ⟨g1, g2⟩ := new_den ha hc.2 h hn hi
          refine ⟨by simpa [intSh] using g1, ?_⟩
          rw [List.map_cons, ← g2, hc.1, ha]
        | _ => simp [newI] at h

theorem PA.reps_head {w : World} {l : List PA} {vs : List Value} (h : PA.reps w l vs) : True := trivial

theorem ev_den {S : Tab} {shs : List Sh} {rm : RM} {res : List PA} (hT : TabOK Γ.P S)
    (hQ : ∀ (E : Env) (p : PE) vs mb, Sim Γ E0 E p → evRet shs rm p vs mb = some res → Γ.Q (pack (vs.map (PV.den E))) (vs.flatMap (PV.sls E)) (mb.map (·.map (CV.den E)))) :
    ∀ (t : T) (K : List Kt) (H : List Hd) (E : Env) (p : PE), Sim Γ E0 E p → KR K H res → ev S shs rm t K p = some res → t.den Γ H E := by
  intro t
  induction t with
  | ret vs mb => intro K H E p hS hK h; exact hQ E p vs mb hS h
  | need c k ih =>
    intro K H E p hS hK h
    simp only [ev, hS.be, Bool.cond_eq_ite] at h
    split at h
    · rename_i hc; exact ⟨(BE.den_iff E c).1 hc, fun _ => ih K H E p hS hK h⟩
    · simp at h
  | br c x y ihx ihy =>
    intro K H E p hS hK h
    simp only [ev, hS.be, Bool.cond_eq_ite] at h
    refine ⟨fun hc => ?_, fun hc => ?_⟩
    · rw [if_pos ((BE.den_iff E c).2 hc)] at h; exact ihx K H E p hS hK h
    · rw [if_neg (fun h => hc ((BE.den_iff E c).1 h))] at h; exact ihy K H E p hS hK h
  | blk k ih => intro K H E p hS hK h b; exact ih K H _ _ (hS.pn b) hK h
  | clo g caps k ih =>
    intro K H E p hS hK h
    simp only [ev] at h
    split at h
    · rename_i hc
      exact ih K H _ _ (hS.pf (x := .own g caps) (c := ⟨g, (caps.map (PV.den E)).toArray⟩) ⟨E, p.sz, hS.fits, hc, Env.le_pf E _, rfl⟩) hK h
    · simp at h
  | dsl e k ih =>
    intro K H E p hS hK h
    simp only [ev, hS.se] at h
    exact ih K H _ _ (hS.ext [] [] [e.den E] []) hK h
  | fs n e k ih =>
    intro K H E p hS hK h s h1 h2
    simp only [ev, hS.ie, hS.le] at h
    refine ih K H _ _ (hS.ext [] [] [s] []) hK ?_
    simpa [pu, h1, h2] using h
  | set s i es k ih =>
    intro K H E p hS hK h
    simp only [ev, hS.s, hS.ie, hS.ies] at h
    exact ih K H _ _ (hS.ext [] [] [_] []) hK h
  | callD g args shs' bi h0 k ih =>
    intro K H E p hS hK h
    simp only [ev] at h
    split at h
    · rename_i f pas ht
      split at h
      · rename_i hsh
        obtain ⟨r0, r, h1, h2, h3, h4⟩ := callK_ok h
        obtain ⟨hcl, hcalls⟩ := hT.nrm f pas r0 h1
        have hf := tgtA_g hS ht
        -- lengths, by any outcome: from the unpacking alone
        have hs0 : (shS shs').length = 0 := by simpa using hsh.1
        have lens : ∀ {shs : List Sh} {l : List PA} {r : Rs}, unpack shs l = some r → r.i.length = shI shs ∧ r.b.length = shB shs := by
          intro shs
          induction shs with
          | nil => intro l r h; cases l <;> simp [unpack] at h; subst h; simp [shI, shB]
          | cons s q ihq =>
            intro l r h
            cases l with
            | nil => cases s <;> simp [unpack] at h
            | cons a l =>
              cases s <;> cases a <;> simp only [unpack, reduceCtorEq] at h
              · split at h
                · split at h
                  · rename_i x hx; simp only [Option.some.injEq] at h; subst h; obtain ⟨g1, g2⟩ := ihq hx; exact ⟨by simp only [shI, List.length_cons, g1]; omega, by simpa [shB] using g2⟩
                  · simp at h
                · simp at h
              · split at h
                · rename_i x hx; simp only [Option.some.injEq] at h; subst h; obtain ⟨g1, g2⟩ := ihq hx; exact ⟨by simpa [shI] using g1, by simp only [shB, List.length_cons, g2]; omega⟩
                · simp at h
              · split at h
                · rename_i hk
                  split at h
                  · rename_i x hx; simp only [Option.some.injEq] at h; subst h; obtain ⟨g1, g2⟩ := ihq hx; exact ⟨by simp only [shI, List.length_append, g1, hk.2], by simpa [shB] using g2⟩
                  · simp at h
                · simp at h
              · split at h
                · split at h
                  · rename_i x hx; simp only [Option.some.injEq] at h; subst h; obtain ⟨g1, g2⟩ := ihq hx; exact ⟨by simpa [shI] using g1, by simpa [shB] using g2⟩
                  · simp at h
                · simp at h
              · split at h
                · rename_i x hx; simp only [Option.some.injEq] at h; subst h; obtain ⟨g1, g2⟩ := ihq hx; exact ⟨by simpa [shI] using g1, by simpa [shB] using g2⟩
                · simp at h
        obtain ⟨l1, l2⟩ := lens h2
        rw [nI_id l1, nB_id l2] at h4
        simp only [okIv, Bool.and_eq_true] at h3
        refine ⟨r.i, r.b, l1, l2, (inIvsB_iff _ _).1 h3.1, by rw [← hf]; exact hcl, fun w g1 g2 g3 => ?_, ih K H _ _ (hS.ext r.i r.b [] []) hK h4⟩
        obtain ⟨vals, e1, e2⟩ := tgtA_ok hS g1 g3 ht
        rw [← e1, ← hf]
        refine (hcalls w vals e2).mono ?_
        rintro e w' ⟨vs, ss, rfl, ho, hb, _⟩
        obtain ⟨q1, q2, q3, q4, q5, q6, q7⟩ := unpack_ok h2 ho
        refine ⟨?_, hb⟩
        rw [q7 E.i.length E.b.length 0 0 (E.ext r.i r.b [] []) (fun j _ => getD_end _ _ _ _) (fun j _ => getD_end _ _ _ _) (fun j hj => by omega) (fun j hj => by omega)]
      · simp at h
    · simp at h
  | callG g args shs' hv bi bS bT h0 k ih =>
    intro K H E p hS hK h
    simp only [ev] at h
    split at h
    · rename_i hlen
      split at h
      · split at h
        · rename_i f pas ht
          split at h
          · rename_i hbi
            obtain ⟨r0, r, h1, h2, h3, h4⟩ := callK_ok h
            obtain ⟨hcl, hcalls⟩ := hT.nrm f pas r0 h1
            have hf := tgtA_g hS ht
            refine ⟨by rw [← hf]; exact hcl, fun w g1 g2 g3 => ?_⟩
            obtain ⟨vals, e1, e2⟩ := tgtA_ok hS g1 g3 ht
            rw [← e1, ← hf]
            refine (hcalls w vals e2).mono ?_
            rintro e w' ⟨vs, ss, rfl, ho, hb, hown⟩
            obtain ⟨q1, q2, q3, q4, q5, q6, q7⟩ := unpack_ok h2 ho
            have l3 : r.s.length = (shS shs').length := by rw [q3]; simpa using q4
            rw [nI_id q1, nB_id q2, nS_id l3, nT_id q5] at h4
            rw [q3] at h3 h4
            obtain ⟨i1, i2, i3⟩ := okIv_ok h3
            refine ⟨r.i, r.b, ss, r.t, by rw [q1, hbi], by rw [q1]; exact Nat.le_refl _, q2, by rw [q4, hlen.1], q4, by rw [q5, hlen.2], q5, i1, i2, i3, ?_, ⟨hb.os, hb.tape, hb.output, hb.size, fun k hk _ => hb.block k hk⟩, ?_, by simp, ih K H _ _ (hS.ext r.i r.b ss r.t) hK h4⟩
            · rw [q7 E.i.length E.b.length E.s.length E.t.length (E.ext r.i r.b ss r.t) (fun j _ => getD_end _ _ _ _) (fun j _ => getD_end _ _ _ _) (fun j _ => getD_end _ _ _ _) (fun j _ => getD_end _ _ _ _)]
            · rw [← q6]
              exact own_items hown fun j _ => getD_end _ _ _ _
          · simp at h
        · simp at h
      · rename_i n ty cs'
        split at h
        · rename_i f n' args'
          split at h
          · rename_i hn
            obtain ⟨rfl, hn1, hn2⟩ := hn
            split at h
            · rename_i ty' cs l hfb hl
              split at h
              · rename_i cl hcl
                split at h
                · rename_i hc
                  obtain ⟨rfl, hc1, hc2, hc3⟩ := hc
                  obtain ⟨r0, r, h1, h2, h3, h4⟩ := callK_ok h
                  obtain ⟨hcal, hcalls⟩ := hT.chg f _ r0 h1
                  have hm := findBlk_mem hfb
                  have hs0 : (shS shs').length = 0 := by simpa using hn1
                  have hi0 : p.e.i.length = E.i.length := by rw [hS.i]
                  refine ⟨hcal, fun w g1 g2 g3 => ?_⟩
                  have hcell : w.heap[E.n.getD n 0]? = some (.cells (cs.map (CV.den E)).toArray ty (0, 0)) := by
                    have := g1.holds _ hm; simpa [It.holds] using this
                  obtain ⟨a1, a2⟩ := mapO_apart (w := w) (b := E.n.getD n 0) (D := CV.den E) hcl fun x _ a ha => toS_rep hS g1 hm (.c x) a ha
                  obtain ⟨a3, a4⟩ := mapO_apart (w := w) (b := E.n.getD n 0) (D := PV.den E) hl fun x _ a ha => toS_rep hS g1 hm x a ha
                  have hC := hcalls ty cl l w (E.n.getD n 0) (cs.map (CV.den E)) (args'.map (PV.den E)) rfl hcell a1 a3 a2 a4
                  have e0 : ((PV.c (CV.ptr n 0) :: args').map (PV.den E)).toArray ++ Tgt.caps E (.fc f) = (Value.pointer (some ⟨E.n.getD n 0, 0, none⟩) :: args'.map (PV.den E)).toArray := by
                    simp [Tgt.caps, PV.den, CV.den]
                  rw [e0]
                  refine hC.mono ?_
                  rintro e w' ⟨vs, rs, is, rfl, hisl, rfl, ho, hkp, hnew⟩
                  obtain ⟨l1, l2, r1, r2, hla, hlb, u1, u2, f1, f2, f3, f4⟩ := unpack_append h2
                  obtain ⟨z1, z2, z3, z4, z5⟩ := unpack_ints u2
                  have hll : l2.length = is.length := by rw [z5, hisl, intsN_cs]
                  obtain ⟨rfl, rfl⟩ : rs = l1 ∧ is = l2 := by
                    have hlr : rs.length = l1.length := by
                      have := congrArg List.length hla; simp at this; omega
                    exact List.append_inj hla hlr
                  obtain ⟨q1, q2, q3, q4, q5, q6, q7⟩ := unpack_ok u1 ho
                  have lI : r.i.length = shI (shs' ++ intSh cs) := by
                    have : ∀ (a : List Sh) (c : List CV), shI (a ++ intSh c) = shI a + (intSh c).length := by
                      intro a c
                      induction a with
                      | nil =>
                        simp only [List.nil_append, shI, Nat.zero_add]
                        induction c with
                        | nil => rfl
                        | cons x c ihc => cases x <;> simp [intSh, shI, ihc, Nat.add_comm]
                      | cons x a iha => cases x <;> simp [shI, iha] <;> omega
                    rw [this, f1, List.length_append, q1, z4]
                  have lB : r.b.length = shB (shs' ++ intSh cs) := by
                    have : ∀ (a : List Sh) (c : List CV), shB (a ++ intSh c) = shB a := by
                      intro a c
                      induction a with
                      | nil =>
                        simp only [List.nil_append, shB]
                        induction c with
                        | nil => rfl
                        | cons x c ihc => cases x <;> simp [intSh, shB, ihc]
                      | cons x a iha => cases x <;> simp [shB, iha]
                    rw [this, f2, z1, List.append_nil, q2]
                  rw [nI_id lI, nB_id lB] at h4
                  have hb0 : r.b = r1.b := by rw [f2, z1, List.append_nil]
                  obtain ⟨i1, _, _⟩ : inIvs bi r.i ∧ True ∧ True := by
                    simp only [okIv, Bool.and_eq_true] at h3
                    exact ⟨(inIvsB_iff _ _).1 h3.1, trivial, trivial⟩
                  have hle := Env.le_ext E r.i r.b [] []
                  refine ⟨r.i, r.b, [], [], ?_, ?_, ?_, ?_, ?_, ?_, ?_, i1, ?_, ?_, ?_, hkp, ?_, ?_, ih K H _ _ (hS.ext r.i r.b [] []) hK h4⟩
                  · rw [f1, List.length_append, q1, z4, hc3]
                  · rw [f1, List.length_append, q1]; omega
                  · rw [hb0, q2]
                  · simp only [List.length_nil]; omega
                  · simp only [List.length_nil]; omega
                  · simp only [List.length_nil]; omega
                  · simp only [List.length_nil]; omega
                  · cases bS <;> trivial
                  · cases bT <;> trivial
                  · rw [q7 E.i.length E.b.length E.s.length E.t.length (E.ext r.i r.b [] []) (fun j hj => by
                      rw [show (E.ext r.i r.b [] []).i = E.i ++ r.i from rfl, getD_end, f1, getD_app hj]) (fun j hj => by
                      rw [show (E.ext r.i r.b [] []).b = E.b ++ r.b from rfl, getD_end, hb0]) (fun j hj => by simp at hj) (fun j hj => by rw [q5] at hj; omega)]
                  · have : shS shs' = [] := List.eq_nil_of_length_eq_zero hs0
                    rw [this]; exact HOK.nil
                  · intro it hit
                    simp only [List.mem_singleton] at hit; subst hit
                    simp only [It.holds]
                    have en : (E.ext r.i r.b [] []).n = E.n := rfl
                    rw [en, hnew, hc1, hi0, havoc_den hS.fits hle hc2 u2 (fun j hj => by
                      rw [show (E.ext r.i r.b [] []).i = E.i ++ r.i from rfl, Nat.add_assoc, getD_end, f1, ← q1, getD_end])]
                · simp at h
              · simp at h
            · simp at h
          · simp at h
        · simp at h
      · simp at h
    · simp at h
  | callP g args ty cs bi h0 k ih =>
    intro K H E p hS hK h
    simp only [ev] at h
    split at h
    · rename_i l a rest hl
      split at h
      · rename_i hcc
        obtain ⟨hc1, hc2, hc3⟩ := hcc
        unfold callW at h
        split at h
        · rename_i ty' cl h1
          split at h
          · rename_i is hi
            split at h
            · rename_i hc
              obtain ⟨rfl, hc4⟩ := hc
              obtain ⟨hcal, hcalls⟩ := hT.new g l _ h1
              have hi0 : p.e.i.length = E.i.length := by rw [hS.i]
              refine ⟨hcal, fun w g1 g2 g3 => ?_⟩
              have e2 := mapO_reps (w := w) (D := PV.den E) hl fun x _ a ha => toP_rep hS g1 g3 x a ha
              have hC := hcalls w _ e2
              have e0 : ((PV.c a :: rest).map (PV.den E)).toArray ++ #[] = ((PV.c a :: rest).map (PV.den E)).toArray := by simp
              rw [e0]
              refine hC.mono ?_
              rintro e w' ⟨ty2, cl2, hr, b, vs, rfl, hb, hge, hcell, hnv⟩
              simp only [List.cons.injEq, PA.ref.injEq, and_true] at hr
              obtain ⟨rfl, rfl⟩ := hr
              have hle := Env.le_ext E is [] [] []
              have ha : a.den (E.ext is [] [] []) = ((PV.c a :: rest).map (PV.den E)).headD undef := by
                simp only [List.map_cons, List.headD_cons, PV.den]
                exact CV.den_le hS.fits hle a hc2
              obtain ⟨q1, q2⟩ := new_den ha hc1 hi hnv (fun j hj => by
                rw [show (E.ext is [] [] []).i = E.i ++ is from rfl, hi0, getD_end])
              simp only [nI_id q1] at h
              exact ⟨is, b, by rw [q1, hc3], (inIvsB_iff _ _).1 hc4, rfl, hb, hge, by rw [← q2]; exact hcell, ih K H _ _ (hS.ext is [] [] []) hK h⟩
            · simp at h
          · simp at h
        · simp at h
      · simp at h
    · simp at h
  | loop is bs ss ts bi bS bT k ih =>
    intro K H E p hS hK h
    simp only [ev, hS.ies, hS.bes, hS.ss, hS.t] at h
    generalize hB : (fun (κ : Kt) (is' : List Int) (bs' : List Bool) (ss' : List Sl) (ts' : List ByteArray) => bif okIv bi bS bT is' ss' ts' then ev S shs rm k (K ++ [κ]) (p.ext (nI is.length is') (nB bs.length bs') (nS ss.length ss') (nT ts.length ts')) else none) = body at h
    have hbody : ∀ κ is' bs' ss' ts', body κ is' bs' ss' ts' = if okIv bi bS bT is' ss' ts' = true then ev S shs rm k (K ++ [κ]) (p.ext (nI is.length is') (nB bs.length bs') (nS ss.length ss') (nT ts.length ts')) else none := by
      intro κ is' bs' ss' ts'
      rw [← hB]
      exact Bool.cond_eq_ite ..
    have step : ∀ m is' bs' (ss' : List Sl) ts', lp m body is' bs' (ss'.map pu) ts' = some res → ∃ j, m = j + 1 ∧ okIv bi bS bT is' (ss'.map pu) ts' = true ∧
        ev S shs rm k (K ++ [lp j body]) (p.ext (nI is.length is') (nB bs.length bs') (nS ss.length (ss'.map pu)) (nT ts.length ts')) = some res := by
      intro m is' bs' ss' ts' hm
      cases m with
      | zero => simp [lp] at hm
      | succ j =>
        refine ⟨j, rfl, ?_⟩
        rw [lp_succ, hbody] at hm
        split at hm
        · rename_i hok; exact ⟨hok, hm⟩
        · simp at hm
    let P : List Int → List Bool → List Sl → List ByteArray → Nat → Prop := fun is' bs' ss' ts' m => lp m body is' bs' (ss'.map pu) ts' = some res
    let μ : List Int → List Bool → List Sl → List ByteArray → Nat := fun is' bs' ss' ts' => by
      classical exact if hx : ∃ m, P is' bs' ss' ts' m then Classical.choose (exists_least hx) else 0
    have hμ : ∀ is' bs' ss' ts', (∃ m, P is' bs' ss' ts' m) → P is' bs' ss' ts' (μ is' bs' ss' ts') ∧ ∀ k, P is' bs' ss' ts' k → μ is' bs' ss' ts' ≤ k := by
      intro is' bs' ss' ts' hx
      have : μ is' bs' ss' ts' = Classical.choose (exists_least hx) := dif_pos hx
      rw [this]; exact Classical.choose_spec (exists_least hx)
    refine ⟨fun is' bs' ss' ts' => ∃ m, P is' bs' ss' ts' m, μ, ?_, ?_⟩
    · obtain ⟨j, _, hok, _⟩ := step _ _ _ _ _ h
      obtain ⟨o1, o2, o3⟩ := okIv_ok hok
      exact ⟨o1, o2, o3, LF, h⟩
    · intro is' bs' ss' ts' l1 l2 l3 l4 b1 b2 b3 hI
      obtain ⟨hm, _⟩ := hμ is' bs' ss' ts' hI
      obtain ⟨j, hj, hok, hev⟩ := step _ _ _ _ _ hm
      rw [nI_id l1, nB_id l2, nS_id (by simpa using l3), nT_id l4] at hev
      refine ih (K ++ [lp j body]) _ _ _ (hS.ext is' bs' ss' ts') (hK.add fun i b s t hst => ?_) hev
      obtain ⟨j', _, hok', _⟩ := step _ _ _ _ _ hst
      obtain ⟨o1, o2, o3⟩ := okIv_ok hok'
      have hle := (hμ i b s t ⟨j, hst⟩).2 j hst
      exact ⟨⟨o1, o2, o3, j, hst⟩, by omega⟩
  | again d is bs ss ts =>
    intro K H E p hS hK h
    simp only [ev, hS.ies, hS.bes, hS.ss, hS.t] at h
    split at h
    · rename_i κ hκ
      have hd : d < H.length := by rw [← hK.1]; exact (List.getElem?_eq_some_iff.1 hκ).1
      show (H.getD d fun _ _ _ _ => False) _ _ _ _
      rw [List.getD_eq_getElem?_getD, List.getElem?_eq_getElem hd]
      exact hK.2 d κ _ hκ (List.getElem?_eq_getElem hd) _ _ _ _ h
    · simp at h
  | cut ni nb ns nt bi bS bT x y ihx ihy =>
    intro K H E p hS hK h
    simp only [ev] at h
    refine ⟨fun is bs ss ts => okIv bi bS bT is (ss.map pu) ts = true ∧ ev S shs rm y (K ++ [fun _ _ _ _ => none]) (p.ext (nI ni is) (nB nb bs) (nS ns (ss.map pu)) (nT nt ts)) = some res,
      ihx _ _ E p hS (hK.add fun is bs ss ts hst => ?_) h, ?_⟩
    · simp only [Bool.cond_eq_ite] at hst
      split at hst
      · rename_i hok
        obtain ⟨o1, o2, o3⟩ := okIv_ok hok
        exact ⟨o1, o2, o3, hok, hst⟩
      · simp at hst
    · intro is' bs' ss' ts' l1 l2 l3 l4 b1 b2 b3 hJ
      obtain ⟨_, hev⟩ := hJ
      rw [nI_id l1, nB_id l2, nS_id (by simpa using l3), nT_id l4] at hev
      exact ihy _ _ _ _ (hS.ext is' bs' ss' ts') (hK.add fun _ _ _ _ hst => by simp at hst) hev
end Go.Proofs.Ytelejhggpkfdoaa.SX

/-
  EV, part 5: how a call's arguments enter a tree.
-/
namespace Go.Proofs.Ytelejhggpkfdoaa.SX
set_option linter.unusedVariables false
set_option linter.unusedSimpArgs false
open Go.RowKit

inductive CSh where
  | int (k : IntKind) (iv : Iv)
  | bool
  | sl (T : TypeId) (k : IntKind) (z : Nat) (iv : Iv) (mx : Int)
  | str (mx : Int)
  | fn
  deriving DecidableEq
inductive PSh where
  | c (s : CSh)
  | agg (ivs : List Iv)
  | ref (ty : TypeId) (cs : List CSh)

def bC (st : St) : CSh → CV × St
  | .int k iv => (.int k (.v st.B.bi.length), st.ext [iv] 0 [] [])
  | .bool => (.bool (.v st.nb), st.ext [] 1 [] [])
  | .sl T k z iv mx => (.sl st.B.bs.length, { st.ext [] 0 [(iv, mx)] [] with h := .isl st.B.bs.length T k z false :: st.h })
  | .str mx => (.str st.B.bt.length, st.ext [] 0 [] [mx])
  | .fn => (.fn st.nf, { st with nf := st.nf + 1 })
def bCs (st : St) : List CSh → List CV × St
  | [] => ([], st)
  | s :: r => ((bC st s).1 :: (bCs (bC st s).2 r).1, (bCs (bC st s).2 r).2)
def bP (st : St) : PSh → PV × St
  | .c s => (.c (bC st s).1, (bC st s).2)
  | .agg ivs => (.a (aggC (ivs.map fun _ => .i64) st.B.bi.length), st.ext ivs 0 [] [])
  | .ref ty cs => (.c (.ptr (bCs st cs).2.nn 0), { (bCs st cs).2 with nn := (bCs st cs).2.nn + 1, h := .blk (bCs st cs).2.nn ty (bCs st cs).1 false :: (bCs st cs).2.h })
def bPs (st : St) : List PSh → List PV × St
  | [] => ([], st)
  | s :: r => ((bP st s).1 :: (bPs (bP st s).2 r).1, (bPs (bP st s).2 r).2)

def dC (p : PE) : CSh → PA → Option PE
  | .int k _, .int k' n => if k = k' then some (p.ext [n] [] [] []) else none
  | .bool, .bool b => some (p.ext [] [b] [] [])
  | .sl _ k z _ _, .sl _ k' z' n xs => if (k = k' ∧ z = z') ∨ (n = 0 ∧ xs = []) then some (p.ext [] [] [psl n xs] []) else none
  | .str _, .str t => some (p.ext [] [] [] [t])
  | .fn, .fn g caps => some (p.pf (.given g caps))
  | _, _ => none
def dCs (p : PE) : List CSh → List PA → Option PE
  | [], [] => some p
  | s :: r, a :: q => (match dC p s a with | some p' => dCs p' r q | none => none)
  | _, _ => none
def dP (p : PE) : PSh → PA → Option PE
  | .c s, a => dC p s a
  | .agg ivs, .agg xs => if ivs.length = xs.length then some (p.ext xs [] [] []) else none
  | .ref ty cs, .ref ty' l => if ty = ty' then (match dCs p cs l with | some p' => some p'.pn | none => none) else none
  | _, _ => none
def dPs (p : PE) : List PSh → List PA → Option PE
  | [], [] => some p
  | s :: r, a :: q => (match dP p s a with | some p' => dPs p' r q | none => none)
  | _, _ => none

/-! ### scopes grow -/
structure Sz.le (z z' : Sz) : Prop where
  ni : z.ni ≤ z'.ni
  nb : z.nb ≤ z'.nb
  nn : z.nn ≤ z'.nn
  ns : z.ns ≤ z'.ns
  nt : z.nt ≤ z'.nt
  nf : z.nf ≤ z'.nf
theorem Sz.le.trans {a b c : Sz} (h : a.le b) (k : b.le c) : a.le c :=
  ⟨Nat.le_trans h.ni k.ni, Nat.le_trans h.nb k.nb, Nat.le_trans h.nn k.nn, Nat.le_trans h.ns k.ns, Nat.le_trans h.nt k.nt, Nat.le_trans h.nf k.nf⟩
section
variable {z z' : Sz} (hz : z.le z')
 include hz
theorem IE.sc_mono (e : IE) (h : e.sc z = true) : e.sc z' = true := by
  induction e with
  | v i => simp only [IE.sc, decide_eq_true_eq] at *; exact Nat.lt_of_lt_of_le h hz.ni
  | c n => rfl
  | add a b iha ihb | sub a b iha ihb | mul a b iha ihb | quo a b iha ihb | rem a b iha ihb => simp only [IE.sc, Bool.and_eq_true] at *; exact ⟨iha h.1, ihb h.2⟩
  | bit op k a b iha ihb => simp only [IE.sc, Bool.and_eq_true] at *; exact ⟨iha h.1, ihb h.2⟩
  | wr k a ih => simp only [IE.sc] at *; exact ih h
  | sg s i ih => simp only [IE.sc, Bool.and_eq_true, decide_eq_true_eq] at *; exact ⟨Nat.lt_of_lt_of_le h.1 hz.ns, ih h.2⟩
  | sl s => simp only [IE.sc, decide_eq_true_eq] at *; exact Nat.lt_of_lt_of_le h hz.ns
  | tl t => simp only [IE.sc, decide_eq_true_eq] at *; exact Nat.lt_of_lt_of_le h hz.nt
  | tb t i ih => simp only [IE.sc, Bool.and_eq_true, decide_eq_true_eq] at *; exact ⟨Nat.lt_of_lt_of_le h.1 hz.nt, ih h.2⟩
theorem BE.sc_mono (e : BE) (h : e.sc z = true) : e.sc z' = true := by
  induction e with
  | v i => simp only [BE.sc, decide_eq_true_eq] at *; exact Nat.lt_of_lt_of_le h hz.nb
  | c n => rfl
  | eq a b | lt a b | le a b => simp only [BE.sc, Bool.and_eq_true] at *; exact ⟨IE.sc_mono hz _ h.1, IE.sc_mono hz _ h.2⟩
  | not a ih => simp only [BE.sc] at *; exact ih h
  | and a b iha ihb | or a b iha ihb | iff a b iha ihb => simp only [BE.sc, Bool.and_eq_true] at *; exact ⟨iha h.1, ihb h.2⟩
  | teq t u => simp only [BE.sc, Bool.and_eq_true, decide_eq_true_eq] at *; exact ⟨Nat.lt_of_lt_of_le h.1 hz.nt, Nat.lt_of_lt_of_le h.2 hz.nt⟩
  | tec t s => simp only [BE.sc, decide_eq_true_eq] at *; exact Nat.lt_of_lt_of_le h hz.nt
theorem CV.sc_mono (e : CV) (h : e.sc z = true) : e.sc z' = true := by
  cases e with
  | int k e => exact IE.sc_mono hz e h
  | bool e => exact BE.sc_mono hz e h
  | ptr n off => simp only [CV.sc, decide_eq_true_eq] at *; exact Nat.lt_of_lt_of_le h hz.nn
  | elp s i zz off => simp only [CV.sc, Bool.and_eq_true, decide_eq_true_eq] at *; exact ⟨Nat.lt_of_lt_of_le h.1 hz.ns, IE.sc_mono hz i h.2⟩
  | sl s => simp only [CV.sc, decide_eq_true_eq] at *; exact Nat.lt_of_lt_of_le h hz.ns
  | nsl => rfl
  | str t => simp only [CV.sc, decide_eq_true_eq] at *; exact Nat.lt_of_lt_of_le h hz.nt
  | sk s => rfl
  | fn f => simp only [CV.sc, decide_eq_true_eq] at *; exact Nat.lt_of_lt_of_le h hz.nf
  | fc g => rfl
theorem CV.all_mono (l : List CV) (h : l.all (CV.sc z) = true) : l.all (CV.sc z') = true :=
  List.all_eq_true.2 fun x hx => CV.sc_mono hz x (List.all_eq_true.1 h x hx)
theorem PV.sc_mono (v : PV) (h : v.sc z = true) : v.sc z' = true := by
  cases v with
  | c v => exact CV.sc_mono hz v h
  | a l => exact CV.all_mono hz l h
theorem It.sc_mono (it : It) (h : it.sc z = true) : it.sc z' = true := by
  cases it with
  | blk n T cs o => simp only [It.sc, Bool.and_eq_true, decide_eq_true_eq] at *; exact ⟨Nat.lt_of_lt_of_le h.1 hz.nn, CV.all_mono hz cs h.2⟩
  | isl s T k zz o => simp only [It.sc, decide_eq_true_eq] at *; exact Nat.lt_of_lt_of_le h hz.ns
theorem It.all_mono (l : List It) (h : l.all (It.sc z) = true) : l.all (It.sc z') = true :=
  List.all_eq_true.2 fun x hx => It.sc_mono hz x (List.all_eq_true.1 h x hx)
end

theorem sz_ext (st : St) (bi : List Iv) (nb : Nat) (bS : List (Iv × Int)) (bT : List Int) : st.sz.le (st.ext bi nb bS bT).sz := by
  constructor <;> simp [St.sz, St.ext]

/-! ### entering -/
structure EInv (Γ : Ctx) (w : World) (st : St) (E : Env) (p : PE) : Prop where
  fits : E.Fits st.sz
  sim : Sim Γ ⟨[], [], [], [], [], []⟩ E p
  sc : st.h.all (It.sc st.sz) = true
  own : ∀ it ∈ st.h, it.own = false
  holds : ∀ it ∈ st.h, it.holds Γ.B E w
  ap : ∀ it ∈ st.h, ∀ k ∈ it.fp E, k ∉ Γ.S
  fs : st.fs = []

variable {Γ : Ctx} {w : World}

theorem EInv.grow {st st' : St} {E E' : Env} {p p' : PE} (h : EInv Γ w st E p) (hl : E.le E') (hz : st.sz.le st'.sz) (hf : E'.Fits st'.sz) (hs : Sim Γ ⟨[], [], [], [], [], []⟩ E' p') (hh : st'.h = st.h) (hfs : st'.fs = st.fs) : EInv Γ w st' E' p' := by
  have hsc := List.all_eq_true.1 h.sc
  refine ⟨hf, hs, by rw [hh]; exact It.all_mono hz _ h.sc, by rw [hh]; exact h.own, ?_, ?_, by rw [hfs]; exact h.fs⟩
  · rw [hh]; exact fun it hi => It.holds_le h.fits hl it (hsc it hi) Γ.B w (h.holds it hi)
  · rw [hh]; intro it hi k hk
    rw [It.fp_le h.fits hl it (hsc it hi)] at hk
    exact h.ap it hi k hk

theorem EInv.cons {st : St} {E : Env} {p : PE} (h : EInv Γ w st E p) {it : It} (h1 : it.sc st.sz = true) (h2 : it.own = false) (h3 : it.holds Γ.B E w) (h4 : ∀ k ∈ it.fp E, k ∉ Γ.S) : EInv Γ w { st with h := it :: st.h } E p := by
  refine ⟨h.fits, h.sim, ?_, ?_, ?_, ?_, h.fs⟩
  · simp only [List.all_cons, Bool.and_eq_true]; exact ⟨h1, h.sc⟩
  · intro x hx; cases hx with
    | head => exact h2
    | tail _ hx => exact h.own x hx
  · intro x hx; cases hx with
    | head => exact h3
    | tail _ hx => exact h.holds x hx
  · intro x hx; cases hx with
    | head => exact h4
    | tail _ hx => exact h.ap x hx

theorem getD_len {α : Type} (l : List α) (x d : α) {n : Nat} (h : l.length = n) : (l ++ [x]).getD n d = x := by
  subst h; simp [List.getD]

theorem bC_ok {st : St} {E : Env} {p p' : PE} {s : CSh} {a : PA} {v : Value} (hI : EInv Γ w st E p) (hw : Γ.w0 = w) (hBw : Γ.B = w.heap.size) (hfn : s = .fn → Γ.S = []) (hap : ∀ b ∈ Γ.S, apart b a v) (hr : PA.rep w a v) (hd : dC p s a = some p') :
    ∃ E', E.le E' ∧ EInv Γ w (bC st s).2 E' p' ∧ (bC st s).1.den E' = v ∧ (bC st s).1.sc (bC st s).2.sz = true ∧ st.sz.le (bC st s).2.sz := by
  have hf := hI.fits
  cases s with
  | int k iv =>
    cases a <;> simp only [dC, reduceCtorEq] at hd
    rename_i k' n
    split at hd
    · rename_i hk; subst hk
      simp only [Option.some.injEq] at hd; subst hd
      simp only [PA.rep] at hr; subst hr
      refine ⟨E.ext [n] [] [] [], Env.le_ext .., hI.grow (Env.le_ext ..) (sz_ext ..) ?_ (hI.sim.ext [n] [] [] []) rfl rfl, ?_, ?_, sz_ext ..⟩
      · constructor <;> simp [Env.ext, St.sz, St.ext, bC] <;> first | exact hf.i | exact hf.b | exact hf.n | exact hf.s | exact hf.t | exact hf.f
      · simp only [bC, CV.den, IE.den, Env.ext, getD_len (n := st.B.bi.length) E.i n 0 hf.i]
      · simp [bC, CV.sc, IE.sc, St.sz, St.ext]
    · simp at hd
  | bool =>
    cases a <;> simp only [dC, reduceCtorEq] at hd
    rename_i b
    simp only [Option.some.injEq] at hd; subst hd
    simp only [PA.rep] at hr; subst hr
    refine ⟨E.ext [] [b] [] [], Env.le_ext .., hI.grow (Env.le_ext ..) (sz_ext ..) ?_ (hI.sim.ext [] [b] [] []) rfl rfl, ?_, ?_, sz_ext ..⟩
    · constructor <;> simp [Env.ext, St.sz, St.ext, bC] <;> first | exact hf.i | exact hf.b | exact hf.n | exact hf.s | exact hf.t | exact hf.f
    · simp only [bC, CV.den, BE.den, Env.ext, getD_len (n := st.nb) E.b b false hf.b]
    · simp [bC, CV.sc, BE.sc, St.sz, St.ext]
  | sl T k z iv mx =>
    cases a <;> simp only [dC, reduceCtorEq] at hd
    rename_i T' k' z' n xs
    split at hd
    · rename_i hk
      simp only [Option.some.injEq] at hd; subst hd
      simp only [PA.rep] at hr
      obtain ⟨sl, rfl, rfl, rfl, hrd⟩ := hr
      have hrd' : Reads w k z sl := by
        rcases hk with ⟨rfl, rfl⟩ | ⟨h1, h2⟩
        · exact hrd
        · exact ⟨by rw [h1, h2]; simp, hrd.le, fun j u hu => by rw [h2] at hu; simp [ints] at hu⟩
      have e1 : (E.ext [] [] [sl] []).s.getD st.B.bs.length nilSl = sl := getD_len E.s sl nilSl hf.s
      have hI' : EInv Γ w (st.ext [] 0 [(iv, mx)] []) (E.ext [] [] [sl] []) (p.ext [] [] [psl sl.n sl.xs] []) := by
        refine hI.grow (Env.le_ext ..) (sz_ext ..) ?_ (hI.sim.ext [] [] [sl] []) rfl rfl
        constructor <;> simp [Env.ext, St.sz, St.ext, bC] <;> first | exact hf.i | exact hf.b | exact hf.n | exact hf.s | exact hf.t | exact hf.f
      refine ⟨E.ext [] [] [sl] [], Env.le_ext .., ?_, ?_, ?_, ?_⟩
      · refine hI'.cons (it := .isl st.B.bs.length T k z false) ?_ rfl ?_ ?_
        · simp [It.sc, St.sz, St.ext]
        · simp only [It.holds, e1]; exact hrd'
        · intro b hb hbS
          simp only [It.fp, e1] at hb
          split at hb
          · simp at hb
          · rename_i hne
            exact hap b hbS sl rfl (by simpa using hne) hb
      · simp only [bC, CV.den, e1]
      · simp [bC, CV.sc, St.sz, St.ext]
      · exact sz_ext ..
    · simp at hd
  | str mx =>
    cases a <;> simp only [dC, reduceCtorEq] at hd
    rename_i t
    simp only [Option.some.injEq] at hd; subst hd
    simp only [PA.rep] at hr; subst hr
    refine ⟨E.ext [] [] [] [t], Env.le_ext .., hI.grow (Env.le_ext ..) (sz_ext ..) ?_ (hI.sim.ext [] [] [] [t]) rfl rfl, ?_, ?_, sz_ext ..⟩
    · constructor <;> simp [Env.ext, St.sz, St.ext, bC] <;> first | exact hf.i | exact hf.b | exact hf.n | exact hf.s | exact hf.t | exact hf.f
    · simp only [bC, CV.den, Env.ext, getD_len (n := st.B.bt.length) E.t t ByteArray.empty hf.t]
    · simp [bC, CV.sc, St.sz, St.ext]
  | fn =>
    cases a <;> simp only [dC, reduceCtorEq] at hd
    rename_i g caps
    simp only [Option.some.injEq] at hd; subst hd
    simp only [PA.rep] at hr
    obtain ⟨cs, rfl, hcs⟩ := hr
    have hz : st.sz.le ({ st with nf := st.nf + 1 } : St).sz := by constructor <;> simp [St.sz]
    refine ⟨E.pf ⟨g, cs.toArray⟩, Env.le_pf .., hI.grow (Env.le_pf ..) hz ?_ (hI.sim.pf (c := ⟨g, cs.toArray⟩) ⟨hfn rfl, by rw [hw]; exact hBw, cs, rfl, by rw [hw]; exact hcs⟩) rfl rfl, ?_, ?_, hz⟩
    · constructor <;> simp [Env.pf, St.sz, bC] <;> first | exact hf.i | exact hf.b | exact hf.n | exact hf.s | exact hf.t | exact hf.f
    · simp only [bC, CV.den, Env.pf, getD_len (n := st.nf) E.f _ nilClo hf.f]
    · simp [bC, CV.sc, St.sz]

theorem bCs_ok (hw : Γ.w0 = w) (hBw : Γ.B = w.heap.size) : ∀ {l : List CSh} {st : St} {E : Env} {p p' : PE} {as : List PA} {vs : List Value}, EInv Γ w st E p → (∀ s ∈ l, s = .fn → Γ.S = []) → (∀ b ∈ Γ.S, aparts b as vs) → PA.reps w as vs → dCs p l as = some p' →
    ∃ E', E.le E' ∧ EInv Γ w (bCs st l).2 E' p' ∧ (bCs st l).1.map (CV.den E') = vs ∧ (bCs st l).1.all (CV.sc (bCs st l).2.sz) = true ∧ st.sz.le (bCs st l).2.sz
  | [], st, E, p, p', as, vs, hI, _, _, hr, hd => by
    cases as with
    | nil =>
      simp only [dCs, Option.some.injEq] at hd; subst hd
      simp only [PA.reps] at hr; subst hr
      exact ⟨E, Env.le_refl E, hI, rfl, rfl, ⟨Nat.le_refl _, Nat.le_refl _, Nat.le_refl _, Nat.le_refl _, Nat.le_refl _, Nat.le_refl _⟩⟩
    | cons => simp [dCs] at hd
  | s :: r, st, E, p, p', as, vs, hI, hfn, hap, hr, hd => by
    cases as with
    | nil => simp [dCs] at hd
    | cons a q =>
      simp only [dCs] at hd
      split at hd
      · rename_i p1 h1
        simp only [PA.reps] at hr
        obtain ⟨v, vq, rfl, hr1, hr2⟩ := hr
        obtain ⟨E1, l1, I1, d1, s1, z1⟩ := bC_ok hI hw hBw (hfn s (List.mem_cons_self ..)) (fun b hb => (hap b hb).1) hr1 h1
        obtain ⟨E2, l2, I2, d2, s2, z2⟩ := bCs_ok hw hBw I1 (fun s hs => hfn s (List.mem_cons_of_mem _ hs)) (fun b hb => (hap b hb).2) hr2 hd
        refine ⟨E2, l1.trans l2, I2, ?_, ?_, z1.trans z2⟩
        · simp only [bCs, List.map_cons, d2, CV.den_le I1.fits l2 _ s1, d1]
        · simp only [bCs, List.all_cons, Bool.and_eq_true]; exact ⟨CV.sc_mono z2 _ s1, s2⟩
      · simp at hd

theorem bP_ok {st : St} {E : Env} {p p' : PE} {s : PSh} {a : PA} {v : Value} (hI : EInv Γ w st E p) (hw : Γ.w0 = w) (hBw : Γ.B = w.heap.size) (hfn : (∃ c, s = .c c ∧ c ≠ .fn) ∨ (∃ l, s = .agg l) ∨ Γ.S = []) (hap : ∀ b ∈ Γ.S, apart b a v) (hr : PA.rep w a v) (hd : dP p s a = some p') :
    ∃ E', E.le E' ∧ EInv Γ w (bP st s).2 E' p' ∧ (bP st s).1.den E' = v ∧ (bP st s).1.sc (bP st s).2.sz = true ∧ st.sz.le (bP st s).2.sz := by
  have hf := hI.fits
  cases s with
  | c s =>
    exact bC_ok hI hw hBw (fun h => by
      rcases hfn with ⟨c, h1, h2⟩ | ⟨l, h1⟩ | h1
      · injection h1 with h1; subst h1; exact (h2 h).elim
      · simp at h1
      · exact h1) hap hr hd
  | agg ivs =>
    cases a <;> simp only [dP, reduceCtorEq] at hd
    rename_i xs
    split at hd
    · rename_i hl
      simp only [Option.some.injEq] at hd; subst hd
      simp only [PA.rep] at hr; subst hr
      have hk : ∀ l : List Iv, allK64 (l.map fun _ => IntKind.i64) = true := by
        intro l; induction l with
        | nil => rfl
        | cons _ _ ih => simpa [allK64] using ih
      refine ⟨E.ext xs [] [] [], Env.le_ext .., hI.grow (Env.le_ext ..) (sz_ext ..) ?_ (hI.sim.ext xs [] [] []) rfl rfl, ?_, ?_, sz_ext ..⟩
      · constructor <;> simp [Env.ext, St.sz, St.ext, bP, hl] <;> first | exact hf.i | exact hf.b | exact hf.n | exact hf.s | exact hf.t | exact hf.f
      · simp only [bP, PV.den]
        rw [aggC_den (E' := E.ext xs [] [] []) (xs := xs) (hk ivs) (by simpa using hl) (fun j hj => by
          rw [show (E.ext xs [] [] []).i = E.i ++ xs from rfl, show st.B.bi.length = E.i.length from hf.i.symm, getD_end])]
      · have : ∀ (l : List IntKind) (n m : Nat), n + l.length ≤ m → (aggC l n).all (fun c => match c with | .int _ e => (match e with | .v i => decide (i < m) | _ => false) | _ => false) = true ∧ ∀ z : Sz, m ≤ z.ni → (aggC l n).all (CV.sc z) = true := by
          intro l
          induction l with
          | nil => intro n m _; simp [aggC]
          | cons k r ih =>
            intro n m h
            simp only [List.length_cons] at h
            obtain ⟨g1, g2⟩ := ih (n + 1) m (by omega)
            refine ⟨by simp only [aggC, List.all_cons, g1, Bool.and_true, decide_eq_true_eq]; omega, fun z hz => ?_⟩
            simp only [aggC, List.all_cons, g2 z hz, Bool.and_true, CV.sc, IE.sc, decide_eq_true_eq]; omega
        exact (this _ st.B.bi.length (st.B.bi.length + ivs.length) (by simp)).2 _ (by simp [bP, St.sz, St.ext])
    · simp at hd
  | ref ty cs =>
    have hS0 : Γ.S = [] := by
      rcases hfn with ⟨c, h1, _⟩ | ⟨l, h1⟩ | h1
      · simp at h1
      · simp at h1
      · exact h1
    cases a <;> simp only [dP, reduceCtorEq] at hd
    rename_i ty' l
    split at hd
    · rename_i ht; subst ht
      split at hd
      · rename_i p1 h1
        simp only [Option.some.injEq] at hd; subst hd
        simp only [PA.rep] at hr
        obtain ⟨b, vs, rfl, hb, hrs⟩ := hr
        obtain ⟨E1, l1, I1, d1, s1, z1⟩ := bCs_ok hw hBw hI (fun _ _ _ => hS0) (fun b hb => by rw [hS0] at hb; simp at hb) hrs h1
        have hf1 := I1.fits
        have hz : (bCs st cs).2.sz.le ({ (bCs st cs).2 with nn := (bCs st cs).2.nn + 1 } : St).sz := by constructor <;> simp [St.sz]
        have e1 : (E1.pn b).n.getD (bCs st cs).2.nn 0 = b := getD_len E1.n b 0 hf1.n
        have I2 : EInv Γ w { (bCs st cs).2 with nn := (bCs st cs).2.nn + 1 } (E1.pn b) p1.pn := by
          refine I1.grow (Env.le_pn ..) hz ?_ (I1.sim.pn b) rfl rfl
          constructor <;> simp [Env.pn, St.sz] <;> first | exact hf1.i | exact hf1.b | exact hf1.n | exact hf1.s | exact hf1.t | exact hf1.f
        refine ⟨E1.pn b, l1.trans (Env.le_pn ..), ?_, ?_, ?_, z1.trans hz⟩
        · refine I2.cons (it := .blk (bCs st cs).2.nn ty (bCs st cs).1 false) ?_ rfl ?_ ?_
          · simp only [It.sc, Bool.and_eq_true, decide_eq_true_eq]; exact ⟨by simp [St.sz], CV.all_mono hz _ s1⟩
          · simp only [It.holds, e1, CV.map_le hf1 (Env.le_pn E1 b) _ s1, d1]; exact hb
          · intro k hk hkS; rw [hS0] at hkS; simp at hkS
        · simp only [bP, PV.den, CV.den, e1]
        · simp [bP, PV.sc, CV.sc, St.sz]
      · simp at hd
    · simp at hd

theorem bPs_ok (hw : Γ.w0 = w) (hBw : Γ.B = w.heap.size) : ∀ {l : List PSh} {st : St} {E : Env} {p p' : PE} {as : List PA} {vs : List Value}, EInv Γ w st E p → (∀ s ∈ l, (∃ c, s = .c c ∧ c ≠ .fn) ∨ (∃ l, s = .agg l) ∨ Γ.S = []) → (∀ b ∈ Γ.S, aparts b as vs) → PA.reps w as vs → dPs p l as = some p' →
    ∃ E', E.le E' ∧ EInv Γ w (bPs st l).2 E' p' ∧ (bPs st l).1.map (PV.den E') = vs ∧ (bPs st l).1.all (PV.sc (bPs st l).2.sz) = true ∧ st.sz.le (bPs st l).2.sz
  | [], st, E, p, p', as, vs, hI, _, _, hr, hd => by
    cases as with
    | nil =>
      simp only [dPs, Option.some.injEq] at hd; subst hd
      simp only [PA.reps] at hr; subst hr
      exact ⟨E, Env.le_refl E, hI, rfl, rfl, ⟨Nat.le_refl _, Nat.le_refl _, Nat.le_refl _, Nat.le_refl _, Nat.le_refl _, Nat.le_refl _⟩⟩
    | cons => simp [dPs] at hd
  | s :: r, st, E, p, p', as, vs, hI, hfn, hap, hr, hd => by
    cases as with
    | nil => simp [dPs] at hd
    | cons a q =>
      simp only [dPs] at hd
      split at hd
      · rename_i p1 h1
        simp only [PA.reps] at hr
        obtain ⟨v, vq, rfl, hr1, hr2⟩ := hr
        obtain ⟨E1, l1, I1, d1, s1, z1⟩ := bP_ok hI hw hBw (hfn s (List.mem_cons_self ..)) (fun b hb => (hap b hb).1) hr1 h1
        obtain ⟨E2, l2, I2, d2, s2, z2⟩ := bPs_ok hw hBw I1 (fun s hs => hfn s (List.mem_cons_of_mem _ hs)) (fun b hb => (hap b hb).2) hr2 hd
        refine ⟨E2, l1.trans l2, I2, ?_, ?_, z1.trans z2⟩
        · simp only [bPs, List.map_cons, d2, PV.den_le I1.fits l2 _ s1, d1]
        · simp only [bPs, List.all_cons, Bool.and_eq_true]; exact ⟨PV.sc_mono z2 _ s1, s2⟩
      · simp at hd

/-- ranges make an environment fit a state -/
theorem EInv.eok {st : St} {E : Env} {p : PE} (h : EInv Γ w st E p) (hok : okIv st.B.bi st.B.bs st.B.bt p.e.i p.e.s p.e.t = true) (h0 : st.B.bs.all (fun b => iv0 b.1) = true) : EOK st E := by
  have hf := h.fits
  rw [h.sim.i, h.sim.t, h.sim.e] at hok
  obtain ⟨o1, o2, o3⟩ := okIv_ok hok
  refine ⟨hf.i, hf.s, hf.t, hf.b, hf.n, hf.f, ⟨inIvs_get _ _ o1 hf.i.symm, inIvS_get _ _ o2 hf.s.symm (fun b hb => List.all_eq_true.1 h0 b hb), inIvT_get _ _ o3 hf.t.symm⟩, ?_⟩
  rw [h.fs]; intro c hc; simp at hc

theorem EInv.hok {st : St} {E : Env} {p : PE} (h : EInv Γ w st E p) : HOK Γ.B Γ.S st.h E w := by
  refine ⟨h.holds, fun it hi b hb => ?_, fun it hi ho => (by rw [h.own it hi] at ho; exact absurd ho (by simp)), ?_⟩
  · have h1 := h.holds it hi
    have h2 := h.own it hi
    cases it with
    | blk n T cs o =>
      simp only [It.fp, List.mem_singleton] at hb; subst hb
      simp only [It.holds] at h1
      exact (Array.getElem?_eq_some_iff.1 h1).1
    | isl s T k z o =>
      simp only [It.own] at h2; subst h2
      simp only [It.fp] at hb
      split at hb
      · simp at hb
      · rename_i hne
        exact reads_lt (show Reads w k z _ from h1) (by simpa using hne) b hb
  · refine List.pairwise_of_forall_mem_list (fun x hx y hy ho => ?_)
    rw [h.own x hx, h.own y hy] at ho; exact absurd ho (by simp)
end Go.Proofs.Ytelejhggpkfdoaa.SX

/-
  EV, part 6: tables of functions; what they compute holds of the program.
-/
namespace Go.Proofs.Ytelejhggpkfdoaa.SX
set_option linter.unusedVariables false
set_option linter.unusedSimpArgs false
open Go.RowKit

structure FT where
  kd : Kd
  ps : List PSh
  cs : List CSh
  ty : TypeId
  shs : List Sh
  t : T

def stZ : St := { t := [], h := [], B := ⟨[], [], []⟩, nb := 0, nn := 0, nf := 0, fs := [], lv := 0 }
def eZ : Env := ⟨[], [], [], [], [], []⟩
def pZ : PE := ⟨eZ, []⟩

def FT.cst (ft : FT) : List CV × St := bCs stZ ft.cs
def FT.pst (ft : FT) : List PV × St := match ft.kd with
  | .chg => bPs ft.cst.2 ft.ps
  | _ => bPs stZ ft.ps
def FT.args (ft : FT) : List PV := match ft.kd with
  | .chg => .c (.ptr ft.pst.2.nn 0) :: ft.pst.1
  | _ => ft.pst.1
def FT.st (ft : FT) : St := match ft.kd with
  | .chg => { ft.pst.2 with nn := ft.pst.2.nn + 1, h := .blk ft.pst.2.nn ft.ty ft.cst.1 true :: ft.pst.2.h }
  | _ => ft.pst.2
def headC : List PV → CV
  | .c c :: _ => c
  | _ => .nsl
def FT.rm (ft : FT) : RM := match ft.kd with
  | .chg => .chg ft.cst.1
  | .new => .new ft.ty (headC ft.pst.1)
  | .nrm => .nrm
def FT.enter (ft : FT) (pas : List PA) : Option PE := match ft.kd with
  | .chg => (match pas with
    | .ref ty cl :: l => if ty = ft.ty then (match dCs pZ ft.cs cl with
      | some p => (match dPs p ft.ps l with
        | some p' => some p'.pn
        | none => none)
      | none => none) else none
    | _ => none)
  | _ => dPs pZ ft.ps pas
def FT.ok (ft : FT) (p : PE) : Bool := okIv ft.pst.2.B.bi ft.pst.2.B.bs ft.pst.2.B.bt p.e.i p.e.s p.e.t
def FT.run (S : Tab) (ft : FT) (pas : List PA) : Option (List PA) :=
  match ft.enter pas with
  | some p => if ft.ok p = true then ev S ft.shs ft.rm ft.t [] p else none
  | none => none

def CSh.simple : CSh → Bool
  | .fn => false
  | _ => true
def PSh.simple : PSh → Bool
  | .c s => s.simple
  | .agg _ => true
  | .ref _ _ => false

def FT.wf (ft : FT) : Bool := ft.pst.2.B.bs.all (fun b => iv0 b.1) && (match ft.kd with
  | .chg => (shS ft.shs).isEmpty && ft.cs.all CSh.simple && ft.ps.all PSh.simple
  | .new => (match ft.ps with | .c _ :: _ => true | _ => false)
  | .nrm => true)

/-- the tree is the function's -/
structure FTOK (C : CfgX) (g : FuncId) (ft : FT) : Prop where
  call : Callable C.P g
  wf : ft.wf = true
  run : ∃ (fn : Func) (an : Nat → LA), C.P.funcs[g]? = some fn ∧ ft.args.length ≤ fn.ntmps ∧ (match ft.kd with
    | .nrm => runFn C an (drawE C) fn [] ft.args ft.st = some ft.t ∧ shapesL C.P fn.resultTypes.toList = some ft.shs
    | .chg => runFn C an (drawE C) fn [(ft.pst.2.nn, ft.ty)] ft.args ft.st = some ft.t ∧ shapesL C.P fn.resultTypes.toList = some ft.shs
    | .new => runFnP C an (drawE C) fn ft.ty ft.args ft.st = some ft.t)

theorem fits_Z : eZ.Fits stZ.sz := by constructor <;> rfl

theorem inv_Z {Γ : Ctx} {w : World} : EInv Γ w stZ eZ pZ :=
  ⟨fits_Z, ⟨Env.le_refl _, rfl, rfl, fun j x hx => by simp [pZ] at hx⟩, rfl, by simp [stZ], by simp [stZ], by simp [stZ], rfl⟩

theorem aparts_nil {b : Nat} : ∀ {l : List PA} {vs : List Value}, (∀ x ∈ ([] : List Nat), aparts x l vs) := by simp

theorem pack_inj_ret {v v' : Value} : v = v' → v = v' := id

theorem sem_nrm {C : CfgX} (hC : C.toCfg.OK) (hm : C.P.follows .mixedOrders = true) {S : Tab} (hT : TabOK C.P S) {g : FuncId} {ft : FT} (hF : FTOK C g ft) (hk : ft.kd = .nrm) {pas res : List PA} (h : ft.run S pas = some res) (w : World) (vals : List Value)
    (hr : PA.reps w pas vals) : Calls C.P g vals.toArray w (PostN w res) := by
  obtain ⟨fn, an, h1, h2, h3⟩ := hF.run
  rw [hk] at h3
  obtain ⟨h3, h4⟩ := h3
  have hwf := hF.wf
  simp only [FT.wf, Bool.and_eq_true] at hwf
  unfold FT.run at h
  split at h
  · rename_i p hp
    split at h
    · rename_i hok
      let Γ : Ctx := ⟨C.P, w.heap.size, [], w, fun v ss cs => ∃ vs, v = pack vs ∧ outs res vs ss ∧ slT res = shS ft.shs⟩
      have ep : ft.pst = bPs stZ ft.ps := by simp only [FT.pst, hk]
      have est : ft.st = ft.pst.2 := by simp only [FT.st, hk]
      have ea : ft.args = ft.pst.1 := by simp only [FT.args, hk]
      have hp' : dPs pZ ft.ps pas = some p := by simp only [FT.enter, hk] at hp; exact hp
      obtain ⟨E, l1, I1, d1, s1, z1⟩ := bPs_ok (Γ := Γ) (w := w) rfl rfl inv_Z (fun s _ => .inr (.inr rfl)) (fun b hb => by simp [Γ] at hb) hr hp'
      rw [← ep] at I1 d1 s1
      have hE : EOK ft.st E := by rw [est]; exact I1.eok hok hwf.1
      have hH : HOK Γ.B Γ.S ft.st.h E w := by rw [est]; exact I1.hok
      have hrm : ft.rm = .nrm := by simp only [FT.rm, hk]
      rw [hrm] at h
      have hden : ft.t.den Γ [] E := ev_den (Γ := Γ) hT (fun E' p' vs mb hS hev => by
        cases mb with
        | cons => simp [evRet] at hev
        | nil =>
          simp only [evRet] at hev
          obtain ⟨g1, g2⟩ := retA_ok hS hev
          exact ⟨_, rfl, g1, g2⟩) ft.t [] [] E p I1.sim ⟨rfl, fun d κ hd hx => by simp at hx⟩ h
      have hc := runFn_ok (Γ := Γ) (C := C) hC rfl (drawE_ok hC rfl hm) h1 h3 h2 h4 rfl (Nat.le_refl _) hE hH (by simp) hden
      rw [ea, d1] at hc
      refine hc.mono ?_
      rintro e w' ⟨v, ss, cs, rfl, ⟨vs, rfl, ho, hsl⟩, hkp, hown, _⟩
      exact ⟨vs, ss, rfl, ho, hkp.below, by rw [hsl]; exact hown⟩
    · simp at h
  · simp at h

theorem newA_ok {Γ : Ctx} {E0 E : Env} {p : PE} (hS : Sim Γ E0 E p) {a : CV} {v0 : Value} (ha : a.den E = v0) : ∀ {cs : List CV} {l : List PA}, newA p a cs = some l → newv v0 l (cs.map (CV.den E))
  | [], l, h => by simp [newA] at h; subst h; simp [newv]
  | c :: r, l, h => by
    cases c with
    | int k e =>
      simp only [newA] at h
      split at h
      · rename_i l' hl
        simp only [Option.some.injEq] at h; subst h
        refine ⟨_, ?_, newA_ok hS ha hl⟩
        simp [CV.den, hS.ie]
      · simp at h
    | _ =>
      simp only [newA] at h
      split at h
      · rename_i hc
        split at h
        · rename_i l' hl
          simp only [Option.some.injEq] at h; subst h
          refine ⟨_, ?_, newA_ok hS ha hl⟩
          rw [List.map_cons, hc, ha]
        · simp at h
      · simp at h

theorem sem_new {C : CfgX} (hC : C.toCfg.OK) (hm : C.P.follows .mixedOrders = true) {S : Tab} (hT : TabOK C.P S) {g : FuncId} {ft : FT} (hF : FTOK C g ft) (hk : ft.kd = .new) {pas res : List PA} (h : ft.run S pas = some res) (w : World) (vals : List Value)
    (hr : PA.reps w pas vals) : Calls C.P g vals.toArray w fun e w' => ∃ ty cl, res = [.ref ty cl] ∧ PostW w (vals.headD undef) ty cl e w' := by
  obtain ⟨fn, an, h1, h2, h3⟩ := hF.run
  rw [hk] at h3
  have hwf := hF.wf
  simp only [FT.wf, Bool.and_eq_true, hk] at hwf
  unfold FT.run at h
  split at h
  · rename_i p hp
    split at h
    · rename_i hok
      let Γ : Ctx := ⟨C.P, w.heap.size, [], w, fun v ss cs => ∃ cl vs, res = [.ref ft.ty cl] ∧ cs = [vs] ∧ newv (vals.headD undef) cl vs⟩
      have ep : ft.pst = bPs stZ ft.ps := by simp only [FT.pst, hk]
      have est : ft.st = ft.pst.2 := by simp only [FT.st, hk]
      have ea : ft.args = ft.pst.1 := by simp only [FT.args, hk]
      have hp' : dPs pZ ft.ps pas = some p := by simp only [FT.enter, hk] at hp; exact hp
      obtain ⟨E, l1, I1, d1, s1, z1⟩ := bPs_ok (Γ := Γ) (w := w) rfl rfl inv_Z (fun s _ => .inr (.inr rfl)) (fun b hb => by simp [Γ] at hb) hr hp'
      rw [← ep] at I1 d1 s1
      have hE : EOK ft.st E := by rw [est]; exact I1.eok hok hwf.1
      have hH : HOK Γ.B Γ.S ft.st.h E w := by rw [est]; exact I1.hok
      have hrm : ft.rm = .new ft.ty (headC ft.pst.1) := by simp only [FT.rm, hk]
      rw [hrm] at h
      have hhd : ∃ c r, ft.pst.1 = .c c :: r := by
        have hw2 := hwf.2
        rw [ep]
        cases hps : ft.ps with
        | nil => rw [hps] at hw2; simp at hw2
        | cons s r =>
          rw [hps] at hw2
          cases s with
          | c s => exact ⟨_, _, rfl⟩
          | agg l => simp at hw2
          | ref ty l => simp at hw2
      obtain ⟨c, r, hcr⟩ := hhd
      have hsim : Sim Γ E E p := { I1.sim with l0 := Env.le_refl E }
      have hden : ft.t.den Γ [] E := ev_den (Γ := Γ) (E0 := E) hT (fun E' p' vs mb hS hev => by
        match mb, hev with
        | [], hev => simp [evRet] at hev
        | _ :: _ :: _, hev => simp [evRet] at hev
        | [cs], hev =>
          simp only [evRet] at hev
          split at hev
          · rename_i l hl
            simp only [Option.some.injEq] at hev
            refine ⟨l, _, hev.symm, rfl, newA_ok hS ?_ hl⟩
            rw [hcr]
            simp only [headC]
            rw [CV.den_le I1.fits hS.l0 c (by rw [hcr] at s1; simp only [List.all_cons, Bool.and_eq_true] at s1; exact s1.1)]
            rw [← d1, hcr]; rfl
          · simp at hev) ft.t [] [] E p hsim ⟨rfl, fun d κ hd hx => by simp at hx⟩ h
      have hc := runFnP_ok (Γ := Γ) (C := C) hC rfl (drawE_ok hC rfl hm) h1 h3 h2 rfl (Nat.le_refl _) hE hH hden
      rw [ea, d1] at hc
      refine hc.mono ?_
      rintro e w' ⟨b, cs, rfl, ⟨cl, vs, q1, q2, q3⟩, hkp, hge, hcell⟩
      simp only [List.cons.injEq, and_true] at q2; subst q2
      exact ⟨ft.ty, cl, q1, b, cs, rfl, hkp.below, by rcases hge with h | h; exact h; simp [Γ] at h, hcell, q3⟩
    · simp at h
  · simp at h

theorem havM_ok {Γ : Ctx} {E0 E : Env} {p : PE} (hS : Sim Γ E0 E p) {z : Sz} (hf : E0.Fits z) : ∀ {cs0 cs : List CV}, cs0.all (CV.sc z) = true → havM cs0 cs = true → cs.map (CV.den E) = hav (cs0.map (CV.den E0)) (cs.flatMap fun c => intsA p [c]) ∧ (cs.flatMap fun c => intsA p [c]).length = intsN (cs0.map (CV.den E0))
  | [], [], _, _ => by simp [hav, intsN]
  | [], _ :: _, _, h => by simp [havM] at h
  | _ :: _, [], _, h => by
    rename_i c r
    cases c <;> simp [havM] at h
  | c :: r, d :: q, hs, h => by
    simp only [List.all_cons, Bool.and_eq_true] at hs
    cases c with
    | int k e =>
      cases d with
      | int k' e' =>
        simp only [havM, Bool.and_eq_true, decide_eq_true_eq] at h
        obtain ⟨g1, g2⟩ := havM_ok hS hf hs.2 h.2
        constructor
        · simp only [List.map_cons, List.flatMap_cons, intsA, List.cons_append, List.nil_append, CV.den, hav, hS.ie, h.1]
          rw [g1]
        · simp only [List.map_cons, List.flatMap_cons, intsA, List.cons_append, List.nil_append, CV.den, intsN, List.length_cons, g2]; omega
      | _ => simp [havM] at h
    | _ =>
      simp only [havM, Bool.and_eq_true, decide_eq_true_eq] at h
      obtain ⟨h0, h⟩ := h
      subst h0
      obtain ⟨g1, g2⟩ := havM_ok hS hf hs.2 h
      constructor
      · simp only [List.map_cons, List.flatMap_cons, intsA, List.nil_append, g1, CV.den_le hf hS.l0 _ hs.1]
        cases hq : (q.flatMap fun c => intsA p [c]) <;> simp [CV.den, hav, Sl.val, Clo.val]
      · simp only [List.map_cons, List.flatMap_cons, intsA, List.nil_append, g2]
        simp [CV.den, intsN, Sl.val, Clo.val]

theorem intsA_flat (p : PE) : ∀ cs : List CV, intsA p cs = cs.flatMap fun c => intsA p [c]
  | [] => rfl
  | c :: r => by
    cases c <;> simp [intsA, ← intsA_flat p r]

theorem sem_mut {C : CfgX} (hC : C.toCfg.OK) (hm : C.P.follows .mixedOrders = true) {S : Tab} (hT : TabOK C.P S) {g : FuncId} {ft : FT} (hF : FTOK C g ft) (hk : ft.kd = .chg) {pas res : List PA} (h : ft.run S pas = some res)
    (ty : TypeId) (cl l : List PA) (w : World) (b : Nat) (old rest : List Value) (hpas : pas = .ref ty cl :: l) (hcell : w.heap[b]? = some (.cells old.toArray ty (0, 0))) (hr1 : PA.reps w cl old) (hr2 : PA.reps w l rest) (ha1 : aparts b cl old) (ha2 : aparts b l rest) :
    Calls C.P g (.pointer (some ⟨b, 0, none⟩) :: rest).toArray w (PostM w b ty old res) := by
  subst hpas
  obtain ⟨fn, an, h1, h2, h3⟩ := hF.run
  rw [hk] at h3
  obtain ⟨h3, h4⟩ := h3
  have hwf := hF.wf
  simp only [FT.wf, Bool.and_eq_true, hk] at hwf
  obtain ⟨hw0, ⟨hw1, hw2⟩, hw3⟩ := hwf
  unfold FT.run at h
  split at h
  · rename_i p hp
    split at h
    · rename_i hok
      simp only [FT.enter, hk] at hp
      split at hp
      · rename_i hty; subst hty
        split at hp
        · rename_i p1 hp1
          split at hp
          · rename_i p2 hp2
            simp only [Option.some.injEq] at hp; subst hp
            let Γ : Ctx := ⟨C.P, w.heap.size, [b], w, fun v ss cs => ∃ vs rs is, res = rs ++ is ∧ is.length = intsN old ∧ v = pack vs ∧ outs rs vs [] ∧ cs = [hav old is]⟩
            obtain ⟨E1, l1, I1, d1, s1, z1⟩ := bCs_ok (Γ := Γ) (w := w) rfl rfl inv_Z (fun s hs he => by
              have := List.all_eq_true.1 hw2 s hs; subst he; simp [CSh.simple] at this) (fun x hx => by simp [Γ] at hx; subst hx; exact ha1) hr1 hp1
            obtain ⟨E2, l2, I2, d2, s2, z2⟩ := bPs_ok (Γ := Γ) (w := w) rfl rfl I1 (fun s hs => by
              have := List.all_eq_true.1 hw3 s hs
              cases s with
              | c s => exact .inl ⟨s, rfl, fun he => by subst he; simp [PSh.simple, CSh.simple] at this⟩
              | agg l => exact .inr (.inl ⟨l, rfl⟩)
              | ref ty l => simp [PSh.simple] at this) (fun x hx => by simp [Γ] at hx; subst hx; exact ha2) hr2 hp2
            have ec : bCs stZ ft.cs = ft.cst := rfl
            have ep : ft.pst = bPs ft.cst.2 ft.ps := by simp only [FT.pst, hk]
            rw [ec] at I1 d1 s1 I2 d2 s2 z1 z2
            rw [← ep] at I2 d2 s2 z2
            have est : ft.st = { ft.pst.2 with nn := ft.pst.2.nn + 1, h := .blk ft.pst.2.nn ft.ty ft.cst.1 true :: ft.pst.2.h } := by simp only [FT.st, hk]
            have ea : ft.args = .c (.ptr ft.pst.2.nn 0) :: ft.pst.1 := by simp only [FT.args, hk]
            have hf2 := I2.fits
            have e1 : (E2.pn b).n.getD ft.pst.2.nn 0 = b := getD_len E2.n b 0 hf2.n
            have hz : ft.pst.2.sz.le ({ ft.pst.2 with nn := ft.pst.2.nn + 1 } : St).sz := by constructor <;> simp [St.sz]
            have I3 : EInv Γ w { ft.pst.2 with nn := ft.pst.2.nn + 1 } (E2.pn b) p2.pn := by
              refine I2.grow (Env.le_pn ..) hz ?_ (I2.sim.pn b) rfl rfl
              constructor <;> simp [Env.pn, St.sz] <;> first | exact hf2.i | exact hf2.b | exact hf2.n | exact hf2.s | exact hf2.t | exact hf2.f
            have hE3 := I3.eok hok hw0
            have hE : EOK ft.st (E2.pn b) := by
              rw [est]; exact ⟨hE3.li, hE3.ls, hE3.lt, hE3.lb, hE3.ln, hE3.lf, hE3.bd, hE3.fs⟩
            have hle : E1.le (E2.pn b) := l2.trans (Env.le_pn ..)
            have hH : HOK Γ.B Γ.S ft.st.h (E2.pn b) w := by
              rw [est]
              refine I3.hok.cons (it := .blk ft.pst.2.nn ft.ty ft.cst.1 true) ?_ ?_ ?_ ?_
              · simp only [It.holds, e1, CV.map_le I1.fits hle _ s1, d1]; exact hcell
              · intro k hk'; simp only [It.fp, e1, List.mem_singleton] at hk'; subst hk'; exact (Array.getElem?_eq_some_iff.1 hcell).1
              · intro _ k hk'; simp only [It.fp, e1, List.mem_singleton] at hk'; subst hk'; exact .inr (by simp [Γ])
              · intro y hy _ k hk' hky
                simp only [It.fp, e1, List.mem_singleton] at hk'; subst hk'
                exact I3.ap y hy _ hky (by simp [Γ])
            have hrm : ft.rm = .chg ft.cst.1 := by simp only [FT.rm, hk]
            rw [hrm] at h
            have hsim : Sim Γ E1 (E2.pn b) p2.pn := { I3.sim with l0 := hle }
            have hden : ft.t.den Γ [] (E2.pn b) := ev_den (Γ := Γ) (E0 := E1) hT (fun E' p' vs mb hS hev => by
              match mb, hev with
              | [], hev => simp [evRet] at hev
              | _ :: _ :: _, hev => simp [evRet] at hev
              | [cs], hev =>
                simp only [evRet] at hev
                split at hev
                · rename_i hhm
                  split at hev
                  · rename_i q hq
                    simp only [Option.some.injEq] at hev
                    obtain ⟨g1, g2⟩ := retA_ok hS hq
                    obtain ⟨m1, m2⟩ := havM_ok hS I1.fits s1 hhm
                    rw [← intsA_flat, d1] at m1 m2
                    have hss : vs.flatMap (PV.sls E') = [] := by
                      have : ∀ {rs : List PA} {us : List Value} {ss : List Sl}, outs rs us ss → ss.length = (slT rs).length := by
                        intro rs
                        induction rs with
                        | nil => intro us ss ho; simp only [outs] at ho; rw [ho.2]; rfl
                        | cons x rs ih =>
                          intro us ss ho
                          cases x with
                          | sl T k z n xs => obtain ⟨q, s, ss', rfl, rfl, _, _, ho⟩ := ho; simp [slT, ih ho]
                          | int k n => obtain ⟨q, rfl, ho⟩ := ho; simpa [slT] using ih ho
                          | bool n => obtain ⟨q, rfl, ho⟩ := ho; simpa [slT] using ih ho
                          | agg n => obtain ⟨q, rfl, ho⟩ := ho; simpa [slT] using ih ho
                          | str n => obtain ⟨q, rfl, ho⟩ := ho; simpa [slT] using ih ho
                          | fn g c => exact ho.elim
                          | ref g c => exact ho.elim
                      have hl := this g1
                      rw [g2] at hl
                      have h0 : (shS ft.shs).length = 0 := by simpa using hw1
                      exact List.eq_nil_of_length_eq_zero (by omega)
                    rw [hss] at g1 ⊢
                    exact ⟨_, q, intsA p' cs, hev.symm, m2, rfl, g1, by simp only [List.map_cons, List.map_nil, m1]⟩
                  · simp at hev
                · simp at hev) ft.t [] [] (E2.pn b) p2.pn hsim ⟨rfl, fun d κ hd hx => by simp at hx⟩ h
            have hc := runFn_ok (Γ := Γ) (C := C) hC rfl (drawE_ok hC rfl hm) h1 h3 h2 h4 rfl (Nat.le_refl _) hE hH (fun n ty hn => by
              simp only [List.mem_singleton, Prod.mk.injEq] at hn
              obtain ⟨rfl, _⟩ := hn
              simp only [Env.pn, List.length_append, List.length_singleton, hf2.n]; show ft.pst.2.nn < ft.pst.2.nn + 1; omega) hden
            have earr : (ft.args.map (PV.den (E2.pn b))) = (.pointer (some ⟨b, 0, none⟩) :: rest) := by
              rw [ea]
              simp only [List.map_cons, PV.den, CV.den, e1, PV.map_le hf2 (Env.le_pn E2 b) _ s2, d2]
            rw [earr] at hc
            refine hc.mono ?_
            rintro e w' ⟨v, ss, cs, rfl, ⟨vs, rs, is, q1, q2, q3, q4, q5⟩, hkp, hown, hmb⟩
            have := hmb 0 ft.pst.2.nn ft.ty (by simp)
            rw [e1, q5] at this
            exact ⟨vs, rs, is, q1, q2, by rw [q3], q4, hkp, by simpa using this⟩
          · simp at hp
        · simp at hp
      · simp at hp
    · simp at h
  · simp at h

/-! ### by depth -/
def sem (tb : FuncId → Option FT) : Nat → Tab
  | 0, _, _, _ => none
  | n + 1, kd, g, pas => match tb g with
    | some ft => if ft.kd = kd then ft.run (sem tb n) pas else none
    | none => none

theorem sem_ok {C : CfgX} (hC : C.toCfg.OK) (hm : C.P.follows .mixedOrders = true) {tb : FuncId → Option FT} (htb : ∀ g ft, tb g = some ft → FTOK C g ft) : ∀ n, TabOK C.P (sem tb n) := by
  intro n
  induction n with
  | zero => constructor <;> intro g pas res h <;> simp [sem] at h
  | succ n ih =>
    have get : ∀ {kd g pas res}, sem tb (n + 1) kd g pas = some res → ∃ ft, tb g = some ft ∧ ft.kd = kd ∧ ft.run (sem tb n) pas = some res := by
      intro kd g pas res h
      simp only [sem] at h
      split at h
      · rename_i ft hft
        split at h
        · rename_i hk; exact ⟨ft, hft, hk, h⟩
        · simp at h
      · simp at h
    constructor
    · intro g pas res h
      obtain ⟨ft, h1, h2, h3⟩ := get h
      exact ⟨(htb g ft h1).call, fun w vals hr => sem_nrm hC hm ih (htb g ft h1) h2 h3 w vals hr⟩
    · intro g pas res h
      obtain ⟨ft, h1, h2, h3⟩ := get h
      exact ⟨(htb g ft h1).call, fun w vals hr => sem_new hC hm ih (htb g ft h1) h2 h3 w vals hr⟩
    · intro g pas res h
      obtain ⟨ft, h1, h2, h3⟩ := get h
      exact ⟨(htb g ft h1).call, fun ty cl l w b old rest q1 q2 q3 q4 q5 q6 => sem_mut hC hm ih (htb g ft h1) h2 h3 ty cl l w b old rest q1 q2 q3 q4 q5 q6⟩
end Go.Proofs.Ytelejhggpkfdoaa.SX

/-
  EV, part 7: the least table that its own trees yield.
-/
namespace Go.Proofs.Ytelejhggpkfdoaa.SX
set_option linter.unusedVariables false
set_option linter.unusedSimpArgs false
open Go.RowKit

def TLe (S S' : Tab) : Prop := ∀ kd g pas r, S kd g pas = some r → S' kd g pas = some r
def KtLe (κ κ' : Kt) : Prop := ∀ a b c d r, κ a b c d = some r → κ' a b c d = some r
def KsLe (K K' : List Kt) : Prop := K.length = K'.length ∧ ∀ (d : Nat) (κ κ' : Kt), K[d]? = some κ → K'[d]? = some κ' → KtLe κ κ'

theorem KsLe.refl (K : List Kt) : KsLe K K := ⟨rfl, fun d κ κ' h h' a b c e r hr => by rw [h] at h'; injection h' with h'; subst h'; exact hr⟩
theorem getElem?_snoc {α : Type} {l : List α} {x y : α} {d : Nat} (h : (l ++ [x])[d]? = some y) : (d < l.length ∧ l[d]? = some y) ∨ (d = l.length ∧ y = x) := by
  rcases Nat.lt_or_ge d l.length with hj | hj
  · rw [List.getElem?_append_left hj] at h; exact .inl ⟨hj, h⟩
  · rw [List.getElem?_append_right hj] at h
    have hj0 : d - l.length = 0 := by
      refine Classical.byContradiction fun hn => ?_
      rw [List.getElem?_eq_none (by simp; omega)] at h
      simp at h
    rw [hj0] at h; simp at h
    exact .inr ⟨by omega, h.symm⟩
theorem KsLe.add {K K' : List Kt} (h : KsLe K K') {κ κ' : Kt} (hk : KtLe κ κ') : KsLe (K ++ [κ]) (K' ++ [κ']) := by
  refine ⟨by simp [h.1], fun d x x' h1 h2 => ?_⟩
  rcases getElem?_snoc h1 with ⟨g1, g2⟩ | ⟨g1, rfl⟩
  · rcases getElem?_snoc h2 with ⟨g3, g4⟩ | ⟨g3, _⟩
    · exact h.2 d x x' g2 g4
    · rw [← h.1] at g3; omega
  · rcases getElem?_snoc h2 with ⟨g3, g4⟩ | ⟨g3, rfl⟩
    · rw [← h.1] at g3; omega
    · exact hk

theorem callK_mono {S S' : Tab} (hS : TLe S S') {kd g pas shs bi bS bT} {k k' : Kt} (hk : KtLe k k') {r : List PA} (h : callK S kd g pas shs bi bS bT k = some r) : callK S' kd g pas shs bi bS bT k' = some r := by
  obtain ⟨r0, q, h1, h2, h3, h4⟩ := callK_ok h
  unfold callK
  simp only [hS _ _ _ _ h1, h2, h3, if_true]
  exact hk _ _ _ _ _ h4

theorem callW_mono {S S' : Tab} (hS : TLe S S') {g l ty cs bi} {k k' : List Int → Option (List PA)} (hk : ∀ a r, k a = some r → k' a = some r) {r : List PA} (h : callW S g l ty cs bi k = some r) : callW S' g l ty cs bi k' = some r := by
  unfold callW at h ⊢
  split at h
  · rename_i e2
    simp only [hS _ _ _ _ e2]
    split at h
    · split at h
      · rename_i hc
        rw [if_pos hc]
        exact hk _ _ h
      · simp at h
    · simp at h
  · simp at h

theorem lp_mono {b b' : Kt → Kt} (h : ∀ κ κ', KtLe κ κ' → KtLe (b κ) (b' κ')) : ∀ m, KtLe (lp m b) (lp m b')
  | 0 => fun _ _ _ _ r hr => by simp [lp] at hr
  | m + 1 => h _ _ (lp_mono h m)

theorem ev_mono {S S' : Tab} (hS : TLe S S') {shs : List Sh} {rm : RM} : ∀ (t : T) (K K' : List Kt) (p : PE) (r : List PA), KsLe K K' → ev S shs rm t K p = some r → ev S' shs rm t K' p = some r := by
  intro t
  induction t with
  | ret vs mb => intro K K' p r hK h; exact h
  | need c k ih =>
    intro K K' p r hK h
    simp only [ev, Bool.cond_eq_ite] at h ⊢
    split at h
    · rename_i hc; rw [if_pos hc]; exact ih K K' p r hK h
    · simp at h
  | br c x y ihx ihy =>
    intro K K' p r hK h
    simp only [ev, Bool.cond_eq_ite] at h ⊢
    split at h
    · rename_i hc; rw [if_pos hc]; exact ihx K K' p r hK h
    · rename_i hc; rw [if_neg hc]; exact ihy K K' p r hK h
  | blk k ih => intro K K' p r hK h; exact ih K K' _ r hK h
  | clo g caps k ih =>
    intro K K' p r hK h
    simp only [ev] at h ⊢
    split at h
    · rename_i hc; rw [if_pos hc]; exact ih K K' _ r hK h
    · simp at h
  | dsl e k ih => intro K K' p r hK h; exact ih K K' _ r hK h
  | fs n e k ih => intro K K' p r hK h; exact ih K K' _ r hK h
  | set s i es k ih => intro K K' p r hK h; exact ih K K' _ r hK h
  | callD g args shs' bi h0 k ih =>
    intro K K' p r hK h
    simp only [ev] at h ⊢
    split at h
    · split at h
      · rename_i hc
        rw [if_pos hc]
        exact callK_mono hS (fun a b c d r hr => ih K K' _ r hK hr) h
      · simp at h
    · simp at h
  | callG g args shs' hv bi bS bT h0 k ih =>
    intro K K' p r hK h
    simp only [ev] at h ⊢
    split at h
    · rename_i hlen
      rw [if_pos hlen]
      split at h
      · split at h
        · split at h
          · rename_i hc
            rw [if_pos hc]
            exact callK_mono hS (fun a b c d r hr => ih K K' _ r hK hr) h
          · simp at h
        · simp at h
      · split at h
        · split at h
          · rename_i hn
            rw [if_pos hn]
            split at h
            · rename_i e1 e2
              try simp only [e1, e2]
              split at h
              · rename_i e3
                try simp only [e3]
                split at h
                · rename_i hc
                  rw [if_pos hc]
                  exact callK_mono hS (fun a b c d r hr => ih K K' _ r hK hr) h
                · simp at h
              · simp at h
            · simp at h
          · simp at h
        · simp at h
      · simp at h
    · simp at h
  | callP g args ty cs bi h0 k ih =>
    intro K K' p r hK h
    simp only [ev] at h ⊢
    split at h
    · split at h
      · rename_i hc
        rw [if_pos hc]
        exact callW_mono hS (fun a r hr => ih K K' _ r hK hr) h
      · simp at h
    · simp at h
  | loop is bs ss ts bi bS bT k ih =>
    intro K K' p r hK h
    simp only [ev] at h ⊢
    refine lp_mono (fun κ κ' hκ a b c d r hr => ?_) LF _ _ _ _ r h
    rw [Bool.cond_eq_ite] at hr ⊢
    split at hr
    · rename_i hc; rw [if_pos hc]; exact ih _ _ _ r (hK.add hκ) hr
    · simp at hr
  | again d is bs ss ts =>
    intro K K' p r hK h
    simp only [ev] at h ⊢
    split at h
    · rename_i κ hκ
      have hd : d < K'.length := by rw [← hK.1]; exact (List.getElem?_eq_some_iff.1 hκ).1
      rw [List.getElem?_eq_getElem hd]
      exact hK.2 d κ _ hκ (List.getElem?_eq_getElem hd) _ _ _ _ r h
    · simp at h
  | cut ni nb ns nt bi bS bT x y ihx ihy =>
    intro K K' p r hK h
    simp only [ev] at h ⊢
    refine ihx _ _ p r (hK.add fun a b c d r hr => ?_) h
    rw [Bool.cond_eq_ite] at hr ⊢
    split at hr
    · rename_i hc; rw [if_pos hc]; exact ihy _ _ _ r (hK.add fun _ _ _ _ _ h => h) hr
    · simp at hr

theorem FT.run_mono {S S' : Tab} (hS : TLe S S') (ft : FT) {pas r : List PA} (h : ft.run S pas = some r) : ft.run S' pas = some r := by
  unfold FT.run at h ⊢
  split at h
  · split at h
    · rename_i hc; rw [if_pos hc]; exact ev_mono hS ft.t [] [] _ r (KsLe.refl _) h
    · simp at h
  · simp at h

/-! ### what a limit yields, one of the tables yields -/
section
variable {S : Tab} {Sn : Nat → Tab} (hm : ∀ n m, n ≤ m → TLe (Sn n) (Sn m)) (hc : ∀ kd g pas r, S kd g pas = some r → ∃ n, Sn n kd g pas = some r)

def KCont (K : List Kt) (Kn : Nat → List Kt) : Prop :=
  (∀ n, (Kn n).length = K.length) ∧ (∀ n m, n ≤ m → KsLe (Kn n) (Kn m)) ∧
  ∀ (d : Nat) (κ : Kt), K[d]? = some κ → ∀ a b c e r, κ a b c e = some r → ∃ (n : Nat) (κ' : Kt), (Kn n)[d]? = some κ' ∧ κ' a b c e = some r

theorem KCont.add {K : List Kt} {Kn : Nat → List Kt} (h : KCont K Kn) {κ : Kt} {κn : Nat → Kt} (h1 : ∀ n m, n ≤ m → KtLe (κn n) (κn m)) (h2 : ∀ a b c e r, κ a b c e = some r → ∃ n, κn n a b c e = some r) :
    KCont (K ++ [κ]) (fun n => Kn n ++ [κn n]) := by
  refine ⟨fun n => by simp [h.1 n], fun n m hnm => (h.2.1 n m hnm).add (h1 n m hnm), fun d κ' hd a b c e r hr => ?_⟩
  rcases getElem?_snoc hd with ⟨g1, g2⟩ | ⟨g1, rfl⟩
  · obtain ⟨n, κ'', q1, q2⟩ := h.2.2 d κ' g2 a b c e r hr
    refine ⟨n, κ'', ?_, q2⟩
    show (Kn n ++ [κn n])[d]? = some κ''
    rw [List.getElem?_append_left (by rw [h.1 n]; exact g1)]; exact q1
  · obtain ⟨n, q⟩ := h2 a b c e r hr
    refine ⟨n, κn n, ?_, q⟩
    show (Kn n ++ [κn n])[d]? = some (κn n)
    rw [List.getElem?_append_right (by rw [h.1 n]; omega), h.1 n, g1]; simp

 include hm hc

theorem callK_cont {kd g pas shs bi bS bT} {k : Kt} {kn : Nat → Kt} (h1 : ∀ n m, n ≤ m → KtLe (kn n) (kn m)) (h2 : ∀ a b c e r, k a b c e = some r → ∃ n, kn n a b c e = some r) {r : List PA} (h : callK S kd g pas shs bi bS bT k = some r) :
    ∃ n, callK (Sn n) kd g pas shs bi bS bT (kn n) = some r := by
  obtain ⟨r0, q, g1, g2, g3, g4⟩ := callK_ok h
  obtain ⟨n, hn⟩ := hc _ _ _ _ g1
  obtain ⟨m, hm'⟩ := h2 _ _ _ _ _ g4
  refine ⟨max n m, ?_⟩
  unfold callK
  simp only [hm n (max n m) (Nat.le_max_left ..) _ _ _ _ hn, g2, g3, if_true]
  exact h1 m (max n m) (Nat.le_max_right ..) _ _ _ _ _ hm'

theorem ev_cont {shs : List Sh} {rm : RM} : ∀ (t : T) (K : List Kt) (Kn : Nat → List Kt) (p : PE) (r : List PA), KCont K Kn → ev S shs rm t K p = some r → ∃ n, ev (Sn n) shs rm t (Kn n) p = some r := by
  intro t
  have up : ∀ (k : T) (Kn : Nat → List Kt) (f : Kt → PE) , True := fun _ _ _ => trivial
  have mono : ∀ (k : T) (K : List Kt) (Kn : Nat → List Kt), KCont K Kn → ∀ (f : List Int → List Bool → List Sl → List ByteArray → PE) (n m : Nat), n ≤ m → KtLe (fun a b c d => ev (Sn n) shs rm k (Kn n) (f a b c d)) (fun a b c d => ev (Sn m) shs rm k (Kn m) (f a b c d)) :=
    fun k K Kn hK f n m hnm a b c d r hr => ev_mono (hm n m hnm) k _ _ _ r (hK.2.1 n m hnm) hr
  induction t with
  | ret vs mb => intro K Kn p r hK h; exact ⟨0, h⟩
  | need c k ih =>
    intro K Kn p r hK h
    simp only [ev, Bool.cond_eq_ite] at h ⊢
    split at h
    · rename_i hc'; simp only [if_pos hc']; exact ih K Kn p r hK h
    · simp at h
  | br c x y ihx ihy =>
    intro K Kn p r hK h
    simp only [ev, Bool.cond_eq_ite] at h ⊢
    split at h
    · rename_i hc'; simp only [if_pos hc']; exact ihx K Kn p r hK h
    · rename_i hc'; simp only [if_neg hc']; exact ihy K Kn p r hK h
  | blk k ih => intro K Kn p r hK h; exact ih K Kn _ r hK h
  | clo g caps k ih =>
    intro K Kn p r hK h
    simp only [ev] at h ⊢
    split at h
    · rename_i hc'; simp only [if_pos hc']; exact ih K Kn _ r hK h
    · simp at h
  | dsl e k ih => intro K Kn p r hK h; exact ih K Kn _ r hK h
  | fs n e k ih => intro K Kn p r hK h; exact ih K Kn _ r hK h
  | set s i es k ih => intro K Kn p r hK h; exact ih K Kn _ r hK h
  | callD g args shs' bi h0 k ih =>
    intro K Kn p r hK h
    simp only [ev] at h ⊢
    split at h
    · split at h
      · rename_i hc'
        simp only [if_pos hc']
        exact callK_cont hm hc (mono k K Kn hK fun is bs _ _ => p.ext (nI _ is) (nB _ bs) [] []) (fun a b c e r hr => ih K Kn _ r hK hr) h
      · simp at h
    · simp at h
  | callG g args shs' hv bi bS bT h0 k ih =>
    intro K Kn p r hK h
    simp only [ev] at h ⊢
    split at h
    · rename_i hlen
      simp only [if_pos hlen]
      split at h
      · split at h
        · split at h
          · rename_i hc'
            simp only [if_pos hc']
            exact callK_cont hm hc (mono k K Kn hK fun is bs ss ts => p.ext (nI _ is) (nB _ bs) (nS _ ss) (nT _ ts)) (fun a b c e r hr => ih K Kn _ r hK hr) h
          · simp at h
        · simp at h
      · split at h
        · split at h
          · rename_i hn
            simp only [if_pos hn]
            split at h
            · rename_i e1 e2
              try simp only [e1, e2]
              split at h
              · rename_i e3
                try simp only [e3]
                split at h
                · rename_i hc'
                  simp only [if_pos hc']
                  exact callK_cont hm hc (mono k K Kn hK fun is bs _ _ => p.ext (nI _ is) (nB _ bs) [] []) (fun a b c e r hr => ih K Kn _ r hK hr) h
                · simp at h
              · simp at h
            · simp at h
          · simp at h
        · simp at h
      · simp at h
    · simp at h
  | callP g args ty cs bi h0 k ih =>
    intro K Kn p r hK h
    simp only [ev] at h ⊢
    split at h
    · split at h
      · rename_i hc'
        simp only [if_pos hc']
        unfold callW at h
        split at h
        · rename_i e2
          split at h
          · rename_i e3
            split at h
            · rename_i hc2
              obtain ⟨n, hn⟩ := hc _ _ _ _ e2
              obtain ⟨m, hm'⟩ := ih K Kn _ r hK h
              refine ⟨max n m, ?_⟩
              unfold callW
              simp only [hm n (max n m) (Nat.le_max_left ..) _ _ _ _ hn, e3, if_pos hc2]
              exact ev_mono (hm m (max n m) (Nat.le_max_right ..)) k _ _ _ r (hK.2.1 m (max n m) (Nat.le_max_right ..)) hm'
            · simp at h
          · simp at h
        · simp at h
      · simp at h
    · simp at h
  | loop is bs ss ts bi bS bT k ih =>
    intro K Kn p r hK h
    simp only [ev] at h ⊢
    generalize is.map (IE.den p.e) = i0 at *
    generalize bs.map (BE.den p.e) = b0 at *
    generalize ss.map (p.e.s.getD · nilSl) = s0 at *
    generalize ts.map (p.e.t.getD · ByteArray.empty) = t0 at *
    revert i0 b0 s0 t0 r
    generalize LF = m
    have hmono : ∀ (m : Nat) (n n' : Nat), n ≤ n' → KtLe (lp m (fun (κ : Kt) (is' : List Int) (bs' : List Bool) (ss' : List Sl) (ts' : List ByteArray) => bif okIv bi bS bT is' ss' ts' then ev (Sn n) shs rm k (Kn n ++ [κ]) (p.ext (nI is.length is') (nB bs.length bs') (nS ss.length ss') (nT ts.length ts')) else none))
        (lp m (fun (κ : Kt) (is' : List Int) (bs' : List Bool) (ss' : List Sl) (ts' : List ByteArray) => bif okIv bi bS bT is' ss' ts' then ev (Sn n') shs rm k (Kn n' ++ [κ]) (p.ext (nI is.length is') (nB bs.length bs') (nS ss.length ss') (nT ts.length ts')) else none)) := by
      intro m n n' hnn
      refine lp_mono (fun κ κ' hκ a b c d r hr => ?_) m
      rw [Bool.cond_eq_ite] at hr ⊢
      split at hr
      · rename_i hc'; rw [if_pos hc']; exact ev_mono (hm n n' hnn) k _ _ _ r ((hK.2.1 n n' hnn).add hκ) hr
      · simp at hr
    induction m with
    | zero => intro r i0 b0 s0 t0 h; simp [lp] at h
    | succ m ihm =>
      intro r i0 b0 s0 t0 h
      rw [lp_succ, Bool.cond_eq_ite] at h
      split at h
      · rename_i hok
        obtain ⟨n, hn⟩ := ih _ (fun n => Kn n ++ [lp m (fun (κ : Kt) (is' : List Int) (bs' : List Bool) (ss' : List Sl) (ts' : List ByteArray) => bif okIv bi bS bT is' ss' ts' then ev (Sn n) shs rm k (Kn n ++ [κ]) (p.ext (nI is.length is') (nB bs.length bs') (nS ss.length ss') (nT ts.length ts')) else none)]) _ r
          (hK.add (hmono m) (fun a b c e r hr => ihm r a b c e hr)) h
        exact ⟨n, by rw [lp_succ, Bool.cond_eq_ite, if_pos hok]; exact hn⟩
      · simp at h
  | again d is bs ss ts =>
    intro K Kn p r hK h
    simp only [ev] at h ⊢
    split at h
    · rename_i κ hκ
      obtain ⟨n, κ', q1, q2⟩ := hK.2.2 d κ hκ _ _ _ _ r h
      exact ⟨n, by simp only [q1]; exact q2⟩
    · simp at h
  | cut ni nb ns nt bi bS bT x y ihx ihy =>
    intro K Kn p r hK h
    simp only [ev] at h ⊢
    have hK' : KCont (K ++ [fun _ _ _ _ => none]) (fun n => Kn n ++ [fun _ _ _ _ => none]) := hK.add (fun _ _ _ _ _ _ _ _ h => h) (fun _ _ _ _ _ h => by simp at h)
    refine ihx _ (fun n => Kn n ++ [fun is bs ss ts => bif okIv bi bS bT is ss ts then ev (Sn n) shs rm y (Kn n ++ [fun _ _ _ _ => none]) (p.ext (nI ni is) (nB nb bs) (nS ns ss) (nT nt ts)) else none]) p r (hK.add (fun n m hnm a b c d r hr => ?_) (fun a b c d r hr => ?_)) h
    · rw [Bool.cond_eq_ite] at hr ⊢
      split at hr
      · rename_i hc'; rw [if_pos hc']; exact ev_mono (hm n m hnm) y _ _ _ r (hK'.2.1 n m hnm) hr
      · simp at hr
    · simp only [Bool.cond_eq_ite] at hr ⊢
      split at hr
      · rename_i hc'; simp only [if_pos hc']; exact ihy _ _ _ r hK' hr
      · simp at hr

theorem FT.run_cont (ft : FT) {pas r : List PA} (h : ft.run S pas = some r) : ∃ n, ft.run (Sn n) pas = some r := by
  unfold FT.run at h ⊢
  split at h
  · split at h
    · rename_i hc'; simp only [if_pos hc']
      exact ev_cont hm hc ft.t [] (fun _ => []) _ r ⟨fun _ => rfl, fun _ _ _ => KsLe.refl _, fun d κ hd => by simp at hd⟩ h
    · simp at h
  · simp at h
end

/-! ### the limit -/
noncomputable def limT (F : Nat → Tab) : Tab := fun kd g pas => by
  classical exact if h : ∃ r, ∃ n, F n kd g pas = some r then some (Classical.choose h) else none

theorem limT_ex {F : Nat → Tab} {kd g pas r} (h : limT F kd g pas = some r) : ∃ n, F n kd g pas = some r := by
  unfold limT at h
  split at h
  · rename_i hx
    simp only [Option.some.injEq] at h
    rw [← h]; exact Classical.choose_spec hx
  · simp at h

theorem limT_of {F : Nat → Tab} (hm : ∀ n m, n ≤ m → TLe (F n) (F m)) {kd g pas r n} (h : F n kd g pas = some r) : limT F kd g pas = some r := by
  have hx : ∃ r, ∃ n, F n kd g pas = some r := ⟨r, n, h⟩
  have e : limT F kd g pas = some (Classical.choose hx) := by unfold limT; rw [dif_pos hx]
  obtain ⟨m, hm'⟩ := Classical.choose_spec hx
  have h1 := hm n (max n m) (Nat.le_max_left ..) _ _ _ _ h
  have h2 := hm m (max n m) (Nat.le_max_right ..) _ _ _ _ hm'
  rw [e, ← h2, h1]

theorem sem_succ (tb : FuncId → Option FT) (n : Nat) : TLe (sem tb n) (sem tb (n + 1)) := by
  induction n with
  | zero => intro kd g pas r h; simp [sem] at h
  | succ n ih =>
    intro kd g pas r h
    simp only [sem] at h
    rw [sem]
    split at h
    · rename_i ft hft
      split at h
      · rename_i hk; rw [if_pos hk]; exact ft.run_mono ih h
      · simp at h
    · simp at h
theorem sem_le (tb : FuncId → Option FT) (n m : Nat) (h : n ≤ m) : TLe (sem tb n) (sem tb m) := by
  induction h with
  | refl => exact fun _ _ _ _ h => h
  | step _ ih => exact fun kd g pas r h => sem_succ tb _ kd g pas r (ih kd g pas r h)

/-- the calls' table -/
noncomputable def fixT (tb : FuncId → Option FT) : Tab := limT (sem tb)

theorem fixT_eq (tb : FuncId → Option FT) {kd : Kd} {g : FuncId} {ft : FT} (hft : tb g = some ft) (hk : ft.kd = kd) (pas : List PA) : fixT tb kd g pas = ft.run (fixT tb) pas := by
  have key : ∀ r, fixT tb kd g pas = some r ↔ ft.run (fixT tb) pas = some r := by
    intro r
    constructor
    · intro h
      obtain ⟨n, hn⟩ := limT_ex h
      cases n with
      | zero => simp [sem] at hn
      | succ n =>
        simp only [sem, hft, hk, if_true] at hn
        exact ft.run_mono (fun kd g pas r h => limT_of (sem_le tb) h) hn
    · intro h
      obtain ⟨n, hn⟩ := ft.run_cont (Sn := sem tb) (sem_le tb) (fun kd g pas r h => limT_ex h) h
      refine limT_of (sem_le tb) (n := n + 1) ?_
      simp only [sem, hft, hk, if_true]; exact hn
  cases h1 : fixT tb kd g pas with
  | some r => exact ((key r).1 h1).symm
  | none =>
    cases h2 : ft.run (fixT tb) pas with
    | none => rfl
    | some r => rw [(key r).2 h2] at h1; simp at h1

theorem fixT_ok {C : CfgX} (hC : C.toCfg.OK) (hm : C.P.follows .mixedOrders = true) {tb : FuncId → Option FT} (htb : ∀ g ft, tb g = some ft → FTOK C g ft) : TabOK C.P (fixT tb) := by
  constructor
  · intro g pas res h
    obtain ⟨n, hn⟩ := limT_ex h
    exact (sem_ok hC hm htb n).nrm g pas res hn
  · intro g pas res h
    obtain ⟨n, hn⟩ := limT_ex h
    exact (sem_ok hC hm htb n).new g pas res hn
  · intro g pas res h
    obtain ⟨n, hn⟩ := limT_ex h
    exact (sem_ok hC hm htb n).chg g pas res hn
end Go.Proofs.Ytelejhggpkfdoaa.SX
namespace Go.Proofs.Ytelejhggpkfdoaa.SX
theorem run_eq {S : Tab} {ft : FT} {pas : List PA} {p : PE} {r : Option (List PA)} (h1 : ft.enter pas = some p) (h2 : ft.ok p = true) (h3 : ev S ft.shs ft.rm ft.t [] p = r) : ft.run S pas = r := by
  unfold FT.run; rw [h1]; simp only [h2, if_true]; exact h3
end Go.Proofs.Ytelejhggpkfdoaa.SX

