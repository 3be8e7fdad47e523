import Derived.Test.YtelejhggpkfdoaaSXC
import Derived.Test.YtelejhggpkfdoaaProg
import Derived.Test.YtelejhggpkfdoaaRows
import Derived.WalkKit
import Derived.ProofKit
import Derived.OpenShut
import Derived.Carry
namespace Go.Proofs.Ytelejhggpkfdoaa.SX
set_option linter.unusedVariables false
open Go.RowKit Go.Proofs

def md0 : CallMode := { det := true, hv := false, bi := [], bs := [], bt := [] }
def mdI (bi : List Iv) : CallMode := { det := true, hv := false, bi := bi, bs := [], bt := [] }
def num : Iv := some (0, 30)
/-- hands back a slice of at most n -/
def mdS (n : Int) : CallMode := { det := false, hv := false, bi := [], bs := [(none, n)], bt := [] }
def mdT : FuncId → CallMode
  | 182 => mdI [num]
  | 176 => mdI [num]
  | 181 => mdI [num]
  | 296 => mdI [num]
  | 294 => mdI [num]
  | 15 => mdS 1048576
  | _ => md0
noncomputable def cfg : CfgX := { P := Try.prog, eqn := fun _ => none, mode := mdT }
def an0 : Nat → LA := fun _ => .unroll 12
def st2 (l : List Iv) : St := { t := [], h := [], B := ⟨l, [], []⟩, nb := 0, nn := 0, nf := 0, fs := [], lv := 0 }
theorem cfg_ok : cfg.toCfg.OK := ⟨fun t n h => by simp [cfg] at h, fun t n h => by simp [cfg] at h⟩
def lp (l : List (Tmp × Iv × Int)) : Nat → LA := fun _ => .inv ⟨l, []⟩
def aI (n : Nat) : PV := .c (.int .i64 (.v n))
def prm : Iv := some (3,31)
end Go.Proofs.Ytelejhggpkfdoaa.SX

namespace Go.Proofs.Ytelejhggpkfdoaa.SX
set_option linter.unusedVariables false
open Go.RowKit Go.Proofs

/-- a call that hands back r and keeps old memory -/
def RetAt (f : FuncId) (args : Array Value) (w : World) (r : Value) : Prop := Calls Try.prog f args w fun e w' => e = .returned r ∧ Below w.heap.size w w'

noncomputable def Γ0 (w : World) (r : Value) : Ctx := ⟨Try.prog, w.heap.size, [], w, fun v _ _ => v = r⟩

theorem draw_cfg {Γ : Ctx} (hP : Γ.P = Try.prog) : DrawOK Γ Try.prog (drawE cfg) := drawE_ok (C := cfg) cfg_ok hP rfl

theorem ret_of {an : Nat → LA} {f : FuncId} {fn : Func} {args : List PV} {E : Env} {st0 : St} {t : T} {r : Value} {w : World}
    (h : runFn cfg an (drawE cfg) fn [] args st0 = some t) (hf : Try.prog.funcs[f]? = some fn) (hn : args.length ≤ fn.ntmps) {shs : List Sh} (hsh : shapesL Try.prog fn.resultTypes.toList = some shs)
    (hE : EOK st0 E) (hH : HOK w.heap.size [] st0.h E w) (hd : t.den (Γ0 w r) [] E) : RetAt f (args.map (PV.den E)).toArray w r := by
  have := runFn_ok (Γ := Γ0 w r) (C := cfg) cfg_ok rfl (draw_cfg rfl) hf h hn hsh (w := w) rfl (Nat.le_refl _) hE hH (by simp) hd
  refine Calls.mono this ?_
  rintro e w' ⟨v, ss, cs, rfl, hq, hk, -, -⟩
  exact ⟨by rw [show v = r from hq], hk.below⟩

def stG (ivs : List Iv) (nb : Nat) (bS : List (Iv × Int)) (nn nf : Nat) (h : List It) : St := { t := [], h := h, B := ⟨ivs, bS, []⟩, nb := nb, nn := nn, nf := nf, fs := [], lv := 0 }

theorem eokG {ivs : List Iv} {bS : List (Iv × Int)} {is : List Int} {bs : List Bool} {ns : List Nat} {ss : List Sl} {fs : List Clo} {nb nn nf : Nat} {h : List It}
    (hl : is.length = ivs.length) (hi : inIvs ivs is) (hs : ss.length = bS.length) (hS : inIvS bS ss) (h0 : ∀ b ∈ bS, iv0 b.1 = true) (hb : bs.length = nb) (hn : ns.length = nn) (hf : fs.length = nf) :
    EOK (stG ivs nb bS nn nf h) ⟨is, bs, ns, ss, [], fs⟩ := by
  have base : EOK (stG [] 0 [] nn nf h) ⟨[], [], ns, [], [], fs⟩ := by
    refine ⟨rfl, rfl, rfl, rfl, hn, hf, ⟨fun j => by simp [stG, inIv], fun j => ⟨fun k => by simp [stG, inIv], fun h => by simp [stG] at h⟩, fun j h => by simp [stG] at h⟩, by simp [stG]⟩
  have := base.ext (fun _ _ => by simp [stG]) (is := is) (bs := bs) (ss := ss) (ts := []) (bi := ivs) (bS := bS) (bT := []) (nb := nb) hl hb hs rfl hi hS h0 trivial
  simpa [St.ext, Env.ext, stG] using this



/-- integers alone -/
theorem eokI {ivs : List Iv} {is : List Int} (hl : is.length = ivs.length) (hi : inIvs ivs is) : EOK (stG ivs 0 [] 0 0 []) ⟨is, [], [], [], [], []⟩ :=
  eokG hl hi rfl trivial (by simp) rfl rfl rfl

theorem callable_of {f : FuncId} {fn : Func} (hf : Try.prog.funcs[f]? = some fn) (hn : (fn.name == "runtime.NumGoroutine") = false) (hb : fn.body.isNone = false) : Callable Try.prog f := by
  intro args w
  simp only [callFunc, Sem.run_bind, run_program, Result.andThen_ok, hf, hn, hb, Bool.false_eq_true, ↓reduceIte, Sem.run_pure]

variable {Γ : Ctx} {H : List Hd} {E : Env}

/-- a call with one outcome, applied -/
theorem callD_at (hP : Γ.P = Try.prog) {g : FuncId} {args : List PV} {shs : List Sh} {bi : List Iv} {h : List It} {k : T} (is : List Int) (bs : List Bool) {r : Value}
    (hc : ∀ w, HOK Γ.B Γ.S h E w → Γ.B ≤ w.heap.size → Kp Γ.B Γ.S Γ.w0 w → RetAt g (args.map (PV.den E)).toArray w r) (hcl : Callable Try.prog g)
    (l1 : is.length = shI shs) (l2 : bs.length = shB shs) (hi : inIvs bi is) (hr : r = pack ((shPV shs E.i.length E.b.length 0 0).map (PV.den (E.ext is bs [] []))))
    (hk : k.den Γ H (E.ext is bs [] [])) : (T.callD (.fc g) args shs bi h k).den Γ H E := by
  refine ⟨is, bs, l1, l2, hi, by rw [hP]; exact hcl, fun w h1 h2 h3 => ?_, hk⟩
  have := hc w h1 h2 h3
  rw [hP, ← hr]
  simpa [Tgt.caps, Tgt.g, RetAt] using this


def HdN (bi : List Iv) (I : List Int → Prop) (μ : List Int → Nat) (xs : List Int) : Hd := fun i _ s t => (inIvs bi i ∧ inIvS [] s ∧ inIvT [] t ∧ I i) ∧ μ i < μ xs

theorem HdN.ok {bi : List Iv} {I : List Int → Prop} {μ : List Int → Nat} {xs i : List Int} {b : List Bool} (h1 : inIvs bi i) (h2 : I i) (h3 : μ i < μ xs) : HdN bi I μ xs i b [] [] :=
  ⟨⟨h1, trivial, trivial, h2⟩, h3⟩

theorem loopN {bi : List Iv} {es : List IE} {k : T} (I : List Int → Prop) (μ : List Int → Nat) (h0 : inIvs bi (es.map (IE.den E))) (h1 : I (es.map (IE.den E)))
    (hk : ∀ xs, xs.length = es.length → inIvs bi xs → I xs → k.den Γ (H ++ [HdN bi I μ xs]) (E.ext xs [] [] [])) :
    (T.loop es [] [] [] bi [] [] k).den Γ H E := by
  refine ⟨fun i _ _ _ => I i, fun i _ _ _ => μ i, ⟨h0, trivial, trivial, h1⟩, ?_⟩
  intro is bs ss ts l1 l2 l3 l4 g1 g2 g3 hI
  cases bs with
  | cons _ _ => simp at l2
  | nil => cases ss with
    | cons _ _ => simp at l3
    | nil => cases ts with
      | cons _ _ => simp at l4
      | nil => exact hk is l1 g1 hI

theorem den_again {d : Nat} {bi : List Iv} {I : List Int → Prop} {μ : List Int → Nat} {xs : List Int} {es : List IE} (hH : H.getD d (fun _ _ _ _ => False) = HdN bi I μ xs)
    (h1 : inIvs bi (es.map (IE.den E))) (h2 : I (es.map (IE.den E))) (h3 : μ (es.map (IE.den E)) < μ xs) : (T.again d es [] [] []).den Γ H E := by
  show (H.getD d fun _ _ _ _ => False) _ _ _ _
  rw [hH]; exact HdN.ok h1 h2 h3

theorem list1 {α : Type} {l : List α} (h : l.length = 1) : ∃ x, l = [x] := by
  match l, h with
  | [x], _ => exact ⟨x, rfl⟩
theorem list2 {α : Type} {l : List α} (h : l.length = 2) : ∃ x y, l = [x, y] := by
  match l, h with
  | [x, y], _ => exact ⟨x, y, rfl⟩
theorem list3 {α : Type} {l : List α} (h : l.length = 3) : ∃ x y z, l = [x, y, z] := by
  match l, h with
  | [x, y, z], _ => exact ⟨x, y, z, rfl⟩


theorem callB (hP : Γ.P = Try.prog) {g : FuncId} {args : List PV} {bi : List Iv} {h : List It} {k : T} (b : Bool)
    (hc : ∀ w, HOK Γ.B Γ.S h E w → Γ.B ≤ w.heap.size → Kp Γ.B Γ.S Γ.w0 w → RetAt g (args.map (PV.den E)).toArray w (.bool b)) (hcl : Callable Try.prog g)
    (hk : k.den Γ H (E.ext [] [b] [] [])) : (T.callD (.fc g) args [.bool] bi h k).den Γ H E := by
  refine callD_at hP [] [b] hc hcl rfl rfl (by cases bi <;> trivial) ?_ hk
  simp [shPV, pack, PV.den, CV.den, BE.den, Env.ext]

theorem callI (hP : Γ.P = Try.prog) {g : FuncId} {args : List PV} {b : Iv} {h : List It} {k : T} (x : Int)
    (hc : ∀ w, HOK Γ.B Γ.S h E w → Γ.B ≤ w.heap.size → Kp Γ.B Γ.S Γ.w0 w → RetAt g (args.map (PV.den E)).toArray w (.int .i64 x)) (hcl : Callable Try.prog g)
    (hi : inIv b x) (hk : k.den Γ H (E.ext [x] [] [] [])) : (T.callD (.fc g) args [.int .i64] [b] h k).den Γ H E := by
  refine callD_at hP [x] [] hc hcl rfl rfl ⟨hi, trivial⟩ ?_ hk
  simp [shPV, pack, PV.den, CV.den, IE.den, Env.ext]

theorem callB_fn (hP : Γ.P = Try.prog) {f : Nat} {args : List PV} {bi : List Iv} {h : List It} {k : T} (b : Bool)
    (hc : ∀ w, HOK Γ.B Γ.S h E w → Γ.B ≤ w.heap.size → Kp Γ.B Γ.S Γ.w0 w → RetAt (E.f.getD f nilClo).g ((args.map (PV.den E)).toArray ++ (E.f.getD f nilClo).caps) w (.bool b)) (hcl : Callable Try.prog (E.f.getD f nilClo).g)
    (hk : k.den Γ H (E.ext [] [b] [] [])) : (T.callD (.fn f) args [.bool] bi h k).den Γ H E := by
  refine ⟨[], [b], rfl, rfl, by cases bi <;> trivial, by rw [hP]; exact hcl, fun w h1 h2 h3 => ?_, hk⟩
  have := hc w h1 h2 h3
  rw [hP]
  simpa [Tgt.caps, Tgt.g, RetAt, shPV, pack, PV.den, CV.den, BE.den, Env.ext] using this

theorem Reads.lt {w : World} {k : IntKind} {z : Nat} {s : Sl} (h : Reads w k z s) (hne : s.xs ≠ []) : ∀ b ∈ s.fp, b < w.heap.size := by
  intro b hb
  obtain ⟨x, r, hx⟩ := List.exists_cons_of_ne_nil hne
  obtain ⟨a, ha, hc⟩ := h.cell 0 (.int k x) (by simp [ints, hx])
  have e : b = a.block := by simp [Sl.fp, ha] at hb; exact hb
  have e2 : (a.add 0).block = a.block := by unfold Addr.add; split <;> rfl
  rw [e, ← e2]
  refine Classical.byContradiction fun hlt => ?_
  have : w.heap[(a.add 0).block]? = none := Array.getElem?_eq_none (by omega)
  simp [World.cell?, this] at hc

/-- borrowed memory -/
theorem HOK.rd {B : Nat} {S : List Nat} {h : List It} {E : Env} {w : World} (ho : ∀ it ∈ h, it.own = false) (hh : ∀ it ∈ h, it.holds B E w) : HOK B S h E w := by
  refine ⟨hh, fun it hi b hb => ?_, fun it hi h => (by rw [ho it hi] at h; exact absurd h (by simp)), ?_⟩
  · have h1 := hh it hi
    have h2 := ho it hi
    cases it with
    | blk n T cs o =>
      simp only [It.fp, List.mem_singleton] at hb; subst hb
      simp only [It.holds] at h1
      exact (Array.getElem?_eq_some_iff.1 h1).1
    | isl s T k z o =>
      simp only [It.own] at h2; subst h2
      simp only [It.fp] at hb
      split at hb
      · simp at hb
      · rename_i hne
        exact (show Reads w k z _ from h1).lt (by simpa using hne) b hb
  · refine List.pairwise_of_forall_mem_list (fun x hx y hy h => ?_)
    rw [ho x hx, ho y hy] at h; exact absurd h (by simp)

theorem Reads.below {w w' : World} {k : IntKind} {z : Nat} {s : Sl} (h : Reads w k z s) (hb : Below w.heap.size w w') : Reads w' k z s :=
  h.same fun hne b hbm => hb.block b (h.lt (by simpa using hne) b hbm)

/-- a call that hands back a slice of its own with Q, and keeps old memory -/
def RetS (f : FuncId) (args : Array Value) (w : World) (T : TypeId) (z : Nat) (Q : Sl → Prop) : Prop :=
  Calls Try.prog f args w fun e w' => ∃ s, e = .returned s.val ∧ Q s ∧ Below w.heap.size w w' ∧ OwnL w.heap.size w' [(T, .i64, z)] [s]

noncomputable def ΓS (w : World) (Q : Sl → Prop) : Ctx := ⟨Try.prog, w.heap.size, [], w, fun v ss _ => ∃ s, v = s.val ∧ ss = [s] ∧ Q s⟩

theorem rets_of {an : Nat → LA} {f : FuncId} {fn : Func} {args : List PV} {E : Env} {st0 : St} {t : T} {Q : Sl → Prop} {w : World} {T' : TypeId} {z : Nat}
    (h : runFn cfg an (drawE cfg) fn [] args st0 = some t) (hf : Try.prog.funcs[f]? = some fn) (hn : args.length ≤ fn.ntmps) (hsh : shapesL Try.prog fn.resultTypes.toList = some [.sl T' .i64 z])
    (hE : EOK st0 E) (hH : HOK w.heap.size [] st0.h E w) (hd : t.den (ΓS w Q) [] E) : RetS f (args.map (PV.den E)).toArray w T' z Q := by
  have := runFn_ok (Γ := ΓS w Q) (C := cfg) cfg_ok rfl (draw_cfg rfl) hf h hn hsh (w := w) rfl (Nat.le_refl _) hE hH (by simp) hd
  refine Calls.mono this ?_
  rintro e w' ⟨v, ss, cs, rfl, ⟨s, rfl, rfl, hq⟩, hk, ho, -⟩
  exact ⟨s, rfl, hq, hk.below, ho⟩

theorem callS (hP : Γ.P = Try.prog) {g : FuncId} {args : List PV} {b : Iv × Int} {h : List It} {k : T} {T' : TypeId} {z : Nat} {Q : Sl → Prop}
    (hc : ∀ w, HOK Γ.B Γ.S h E w → Γ.B ≤ w.heap.size → Kp Γ.B Γ.S Γ.w0 w → RetS g (args.map (PV.den E)).toArray w T' z Q) (hcl : Callable Try.prog g)
    (hi : ∀ s, Q s → inIvS [b] [s]) (hk : ∀ s, Q s → k.den Γ H (E.ext [] [] [s] [])) : (T.callG (.fc g) args [.sl T' .i64 z] [] [] [b] [] h k).den Γ H E := by
  refine ⟨by rw [hP]; exact hcl, fun w h1 h2 h3 => ?_⟩
  have := hc w h1 h2 h3
  rw [hP]
  have e : (args.map (PV.den E)).toArray ++ Tgt.caps E (.fc g) = (args.map (PV.den E)).toArray := by simp [Tgt.caps]
  rw [e]
  refine Calls.mono this ?_
  rintro e w' ⟨s, rfl, hq, hb, ho⟩
  refine ⟨[], [], [s], [], rfl, by simp [shI], rfl, rfl, rfl, rfl, rfl, trivial, hi s hq, trivial, ?_, ⟨hb.os, hb.tape, hb.output, hb.size, fun k hk _ => hb.block k hk⟩, own_items (l := [(T', .i64, z)]) ho (fun j hj => ?_), by simp, hk s hq⟩
  · simp [shPV, pack, PV.den, CV.den, Env.ext]
  · have : j = 0 := by simp at hj; omega
    subst this
    simp [Env.ext]
end Go.Proofs.Ytelejhggpkfdoaa.SX

namespace Go.Proofs.Ytelejhggpkfdoaa.SX
set_option linter.unusedVariables false
set_option linter.unusedSimpArgs false
open Go.RowKit Go.Proofs
theorem mod_eq {p x : Int} (h : 0 < p) : (x.tmod p + p).tmod p = x % p := by
  have h1 : 0 ≤ x.tmod p + p := by have := Int.lt_tmod_of_pos x h; omega
  rw [Int.tmod_eq_emod_of_nonneg h1, Int.add_emod_right, Int.tmod_eq_emod]
  split
  · simp
  · rw [show ((p.natAbs : Nat) : Int) = p by omega, Int.sub_emod, Int.emod_self]; simp

/-- the primes of the program -/
def Fld (p : Int) : Prop := p = 3 ∨ p = 5 ∨ p = 7 ∨ p = 11 ∨ p = 13 ∨ p = 17 ∨ p = 19 ∨ p = 23 ∨ p = 29 ∨ p = 31
instance : DecidablePred Fld := fun p => by unfold Fld; infer_instance
theorem Fld.ge {p : Int} (h : Fld p) : 3 ≤ p := by unfold Fld at h; omega
theorem Fld.le {p : Int} (h : Fld p) : p ≤ 31 := by unfold Fld at h; omega

theorem mod_bds {p : Int} (x : Int) (h1 : 3 ≤ p) (h2 : p ≤ 31) : 0 ≤ x % p ∧ x % p ≤ 30 := by
  have := Int.emod_nonneg x (b := p) (by omega)
  have := Int.emod_lt_of_pos x (b := p) (by omega)
  omega

theorem t182 : runFn cfg an0 (drawE cfg) Try.f182 [] [.c (.int .i64 (.v 0)), .c (.int .i64 (.v 1))] (stG [some (3,31), none] 0 [] 0 0 []) = some (.ret [(.c (.int .i64 (.rem (.add (.rem (.v 1) (.v 0)) (.v 0)) (.v 0))))] []) := by decide +kernel
theorem call182 : Callable Try.prog 182 := callable_of Try.func182 (by decide +kernel) (by decide +kernel)
theorem rest_at {p x : Int} (h1 : 3 ≤ p) (h2 : p ≤ 31) (w : World) : RetAt 182 #[.int .i64 p, .int .i64 x] w (.int .i64 (x % p)) := by
  have K := ret_of (E := ⟨[p, x], [], [], [], [], []⟩) (w := w) (r := .int .i64 (x % p)) t182 Try.func182 (by decide +kernel) (shs := [.int .i64]) (by decide +kernel) (eokI rfl ⟨⟨h1,h2⟩, trivial, trivial⟩) HOK.nil
  refine K ?_
  show Value.int .i64 ((x.tmod p + p).tmod p) = _
  exact congrArg _ (mod_eq (by omega))
theorem t176 : runFn cfg an0 (drawE cfg) Try.f176 [] [.c (.int .i64 (.v 0)), .c (.int .i64 (.v 1))] (stG [none, some (3,31)] 0 [] 0 0 []) = some (.ret [(.c (.int .i64 (.rem (.add (.rem (.v 0) (.v 1)) (.v 1)) (.v 1))))] []) := by decide +kernel
theorem call176 : Callable Try.prog 176 := callable_of Try.func176 (by decide +kernel) (by decide +kernel)
theorem mod_at {p x : Int} (h1 : 3 ≤ p) (h2 : p ≤ 31) (w : World) : RetAt 176 #[.int .i64 x, .int .i64 p] w (.int .i64 (x % p)) := by
  have K := ret_of (E := ⟨[x, p], [], [], [], [], []⟩) (w := w) (r := .int .i64 (x % p)) t176 Try.func176 (by decide +kernel) (shs := [.int .i64]) (by decide +kernel) (eokI rfl ⟨trivial, ⟨h1,h2⟩, trivial⟩) HOK.nil
  refine K ?_
  show Value.int .i64 ((x.tmod p + p).tmod p) = _
  exact congrArg _ (mod_eq (by omega))

section
variable {Γ : Ctx} {H : List Hd} {E : Env}

theorem ext_last (E : Env) (y : Int) : (E.ext [y] [] [] []).i.getD E.i.length 0 = y := by simp [Env.ext]

theorem den_rest (hP : Γ.P = Try.prog) {pe xe : IE} {h : List It} {k : T} (h1 : 3 ≤ pe.den E) (h2 : pe.den E ≤ 31) (hk : ∀ y, y = xe.den E % pe.den E → 0 ≤ y → y ≤ 30 → k.den Γ H (E.ext [y] [] [] [])) :
    (T.callD (.fc 182) [.c (.int .i64 pe), .c (.int .i64 xe)] [.int .i64] [some (0, 30)] h k).den Γ H E := by
  have hb := mod_bds (xe.den E) h1 h2
  refine callD_at hP [xe.den E % pe.den E] [] (fun w _ _ _ => rest_at h1 h2 w) call182 rfl rfl ⟨hb, trivial⟩ ?_ (hk _ rfl hb.1 hb.2)
  show _ = Value.int .i64 ((E.ext [_] [] [] []).i.getD E.i.length 0)
  rw [ext_last]
theorem den_mod (hP : Γ.P = Try.prog) {pe xe : IE} {h : List It} {k : T} (h1 : 3 ≤ pe.den E) (h2 : pe.den E ≤ 31) (hk : ∀ y, y = xe.den E % pe.den E → 0 ≤ y → y ≤ 30 → k.den Γ H (E.ext [y] [] [] [])) :
    (T.callD (.fc 176) [.c (.int .i64 xe), .c (.int .i64 pe)] [.int .i64] [some (0, 30)] h k).den Γ H E := by
  have hb := mod_bds (xe.den E) h1 h2
  refine callD_at hP [xe.den E % pe.den E] [] (fun w _ _ _ => mod_at h1 h2 w) call176 rfl rfl ⟨hb, trivial⟩ ?_ (hk _ rfl hb.1 hb.2)
  show _ = Value.int .i64 ((E.ext [_] [] [] []).i.getD E.i.length 0)
  rw [ext_last]
end
end Go.Proofs.Ytelejhggpkfdoaa.SX

namespace Go.Proofs.Ytelejhggpkfdoaa.SX
set_option linter.unusedVariables false
set_option linter.unusedSimpArgs false
open Go.RowKit Go.Proofs
/-- the inverse, 0 for 0 -/
def InvN (p a : Nat) : Nat := a ^ (p - 2) % p
def Inv (p a : Int) : Int := InvN p.toNat (a % p).toNat
def primes : List Nat := [3, 5, 7, 11, 13, 17, 19, 23, 29, 31]
theorem Fld.mem {p : Int} (h : Fld p) : p.toNat ∈ primes ∧ (p.toNat : Int) = p := by
  unfold Fld at h
  rcases h with h | h | h | h | h | h | h | h | h | h <;> subst h <;> decide
theorem inv_uniq : ∀ p ∈ primes, ∀ a ∈ List.range p, ∀ x ∈ List.range p, a * x % p = 1 → InvN p a = x := by decide +kernel
theorem inv_none : ∀ p ∈ primes, ∀ a ∈ List.range p, (∀ x ∈ List.range p, a * x % p ≠ 1) → InvN p a = 0 := by decide +kernel
theorem inv_mul : ∀ p ∈ primes, ∀ a ∈ List.range p, a ≠ 0 → a * InvN p a % p = 1 := by decide +kernel

theorem emod_mul_l (a x p : Int) : a % p * x % p = a * x % p := by rw [Int.mul_emod, Int.emod_emod, ← Int.mul_emod]

theorem emod_toNat {p a : Int} (hp : Fld p) : ((a % p).toNat : Int) = a % p ∧ (a % p).toNat ∈ List.range p.toNat := by
  have h1 := hp.ge
  have := Int.emod_nonneg a (b := p) (by omega)
  have := Int.emod_lt_of_pos a (b := p) (by omega)
  refine ⟨by omega, by rw [List.mem_range]; omega⟩

theorem Inv_of {p a x : Int} (hp : Fld p) (hx : 0 ≤ x) (hx2 : x < p) (h : a * x % p = 1) : Inv p a = x := by
  obtain ⟨m1, m2⟩ := hp.mem
  obtain ⟨e1, e2⟩ := emod_toNat (a := a) hp
  have := inv_uniq _ m1 _ e2 x.toNat (by rw [List.mem_range]; omega) (by
    apply Int.ofNat_inj.1
    rw [Int.natCast_emod, Int.natCast_mul, e1, m2, Int.toNat_of_nonneg hx, emod_mul_l]
    exact h)
  unfold Inv; rw [this]; omega
theorem Inv_zero {p a : Int} (hp : Fld p) (h : ∀ x, 0 ≤ x → x < p → a * x % p ≠ 1) : Inv p a = 0 := by
  obtain ⟨m1, m2⟩ := hp.mem
  obtain ⟨e1, e2⟩ := emod_toNat (a := a) hp
  have := inv_none _ m1 _ e2 (fun x hx hh => h x (by omega) (by rw [List.mem_range] at hx; omega) (by
    have := congrArg (Nat.cast : Nat → Int) hh
    rw [Int.natCast_emod, Int.natCast_mul, e1, m2, emod_mul_l] at this
    exact this))
  unfold Inv; rw [this]; rfl
theorem Inv_mul {p a : Int} (hp : Fld p) (h : a % p ≠ 0) : a * Inv p a % p = 1 := by
  obtain ⟨m1, m2⟩ := hp.mem
  obtain ⟨e1, e2⟩ := emod_toNat (a := a) hp
  have := inv_mul _ m1 _ e2 (by omega)
  have := congrArg (Nat.cast : Nat → Int) this
  rw [Int.natCast_emod, Int.natCast_mul, e1, m2, emod_mul_l] at this
  exact this
theorem Inv_bds {p : Int} (a : Int) (hp : Fld p) : 0 ≤ Inv p a ∧ Inv p a < p := by
  obtain ⟨m1, m2⟩ := hp.mem
  have := hp.ge
  have : InvN p.toNat (a % p).toNat < p.toNat := Nat.mod_lt _ (by omega)
  unfold Inv; omega
theorem Inv_mod {p a : Int} : Inv p (a % p) = Inv p a := by unfold Inv; rw [Int.emod_emod]

theorem t181 : runFn cfg (fun _ => .inv ⟨[(5, some (1,31), -1)], []⟩) (drawE cfg) Try.f181 [] [.c (.int .i64 (.v 0)), .c (.int .i64 (.v 1))] (stG [some (3,31), some (0,1000000000000)] 0 [] 0 0 []) =
  (some (.loop [(.c 1)] [] [] [] [(some (1, 31))] [] [] (.br (.lt (.v 2) (.v 0)) (.br (.eq (.rem (.mul (.v 1) (.v 2)) (.v 0)) (.c 1)) (.ret [(.c (.int .i64 (.v 2)))] []) (.again 0 [(.add (.v 2) (.c 1))] [] [] [])) (.ret [(.c (.int .i64 (.c 0)))] [])))) := by decide +kernel
theorem call181 : Callable Try.prog 181 := callable_of Try.func181 (by decide +kernel) (by decide +kernel)
theorem inverse_at {p a : Int} (hp : Fld p) (h1 : 0 ≤ a) (h2 : a ≤ 1000000000000) (w : World) : RetAt 181 #[.int .i64 p, .int .i64 a] w (.int .i64 (Inv p a)) := by
  have K := ret_of (E := ⟨[p, a], [], [], [], [], []⟩) (w := w) (r := .int .i64 (Inv p a)) t181 Try.func181 (by decide +kernel) (shs := [.int .i64]) (by decide +kernel) (eokI rfl ⟨⟨hp.ge,hp.le⟩, ⟨h1, h2⟩, trivial⟩) HOK.nil
  refine K ?_
  refine loopN (fun xs => ∀ y, 1 ≤ y → y < xs.getD 0 0 → (a * y) % p ≠ 1) (fun xs => (p - xs.getD 0 0).toNat) ⟨by simp [IE.den, inIv], trivial⟩ (by intro y h1 h2; simp [IE.den] at h2; omega) ?_
  intro xs hl hb hI
  obtain ⟨x, rfl⟩ := list1 hl
  have hb1 : 1 ≤ x ∧ x ≤ 31 := hb.1
  have hge := hp.ge
  refine ⟨fun hc => ⟨fun he => ?_, fun he => ?_⟩, fun hc => ?_⟩
  · have hc : x < p := hc
    have he : (a * x).tmod p = 1 := he
    rw [Int.tmod_eq_emod_of_nonneg (Int.mul_nonneg h1 (by omega))] at he
    show Value.int .i64 x = Value.int .i64 (Inv p a)
    rw [Inv_of hp (by omega) hc he]
  · have hc : x < p := hc
    have he : ¬ (a * x).tmod p = 1 := he
    rw [Int.tmod_eq_emod_of_nonneg (Int.mul_nonneg h1 (by omega))] at he
    have hle := hp.le
    refine den_again rfl ⟨⟨show 1 ≤ x + 1 by omega, show x + 1 ≤ 31 by omega⟩, trivial⟩ ?_ (by show (p - (x+1)).toNat < (p - x).toNat; omega)
    intro y h1 h2
    have h2 : y < x + 1 := h2
    rcases Int.lt_or_eq_of_le (show y ≤ x by omega) with h | h
    · exact hI y h1 h
    · subst h; exact he
  · have hc : ¬ x < p := hc
    show Value.int .i64 0 = Value.int .i64 (Inv p a)
    rw [Inv_zero hp]
    intro y h1 h2 h3
    rcases Int.lt_or_eq_of_le h1 with h | h
    · exact hI y (by omega) (show y < x by omega) h3
    · subst h; simp at h3

section
variable {Γ : Ctx} {H : List Hd} {E : Env}
theorem den_inverse (hP : Γ.P = Try.prog) {pe xe : IE} {h : List It} {k : T} (hp : Fld (pe.den E)) (h1 : 0 ≤ xe.den E) (h2 : xe.den E ≤ 1000000000000) (hk : ∀ y, y = Inv (pe.den E) (xe.den E) → 0 ≤ y → y < pe.den E → k.den Γ H (E.ext [y] [] [] [])) :
    (T.callD (.fc 181) [.c (.int .i64 pe), .c (.int .i64 xe)] [.int .i64] [some (0, 30)] h k).den Γ H E := by
  have hb := Inv_bds (xe.den E) hp
  have := hp.le
  refine callD_at hP [Inv (pe.den E) (xe.den E)] [] (fun w _ _ _ => inverse_at hp h1 h2 w) call181 rfl rfl ⟨⟨hb.1, show _ ≤ 30 by omega⟩, trivial⟩ ?_ (hk _ rfl hb.1 hb.2)
  show _ = Value.int .i64 ((E.ext [_] [] [] []).i.getD E.i.length 0)
  rw [ext_last]
end
/-- the quotient -/
def Div (p a b : Int) : Int := a * Inv p b % p
theorem t294 : runFn cfg an0 (drawE cfg) Try.f294 [] [.c (.int .i64 (.v 0)), .c (.int .i64 (.v 1)), .c (.int .i64 (.v 2))] (stG [some (3,31), some (-1000000000000,1000000000000), some (0,1000000000000)] 0 [] 0 0 []) =
  (some (.callD (.fc 181) [(.c (.int .i64 (.v 0))), (.c (.int .i64 (.v 2)))] [(.int .i64)] [(some (0, 30))] [] (.callD (.fc 182) [(.c (.int .i64 (.v 0))), (.c (.int .i64 (.mul (.v 1) (.v 3))))] [(.int .i64)] [(some (0, 30))] [] (.ret [(.c (.int .i64 (.v 4)))] [])))) := by decide +kernel
theorem call294 : Callable Try.prog 294 := callable_of Try.func294 (by decide +kernel) (by decide +kernel)
theorem divide_at {p a b : Int} (hp : Fld p) (h1 : -1000000000000 ≤ a) (h2 : a ≤ 1000000000000) (h3 : 0 ≤ b) (h4 : b ≤ 1000000000000) (w : World) : RetAt 294 #[.int .i64 p, .int .i64 a, .int .i64 b] w (.int .i64 (Div p a b)) := by
  have K := ret_of (E := ⟨[p, a, b], [], [], [], [], []⟩) (w := w) (r := .int .i64 (Div p a b)) t294 Try.func294 (by decide +kernel) (shs := [.int .i64]) (by decide +kernel) (eokI rfl ⟨⟨hp.ge,hp.le⟩, ⟨h1, h2⟩, ⟨h3, h4⟩, trivial⟩) HOK.nil
  refine K (den_inverse rfl hp h3 h4 fun y hy _ _ => den_rest rfl hp.ge hp.le fun z hz _ _ => ?_)
  show Value.int .i64 z = _
  rw [hz, hy]; rfl
section
variable {Γ : Ctx} {H : List Hd} {E : Env}
theorem den_divide (hP : Γ.P = Try.prog) {pe ae be : IE} {h : List It} {k : T} (hp : Fld (pe.den E)) (h1 : -1000000000000 ≤ ae.den E) (h2 : ae.den E ≤ 1000000000000) (h3 : 0 ≤ be.den E) (h4 : be.den E ≤ 1000000000000) (hk : ∀ y, y = Div (pe.den E) (ae.den E) (be.den E) → 0 ≤ y → y ≤ 30 → k.den Γ H (E.ext [y] [] [] [])) :
    (T.callD (.fc 294) [.c (.int .i64 pe), .c (.int .i64 ae), .c (.int .i64 be)] [.int .i64] [some (0, 30)] h k).den Γ H E := by
  have hb := mod_bds (ae.den E * Inv (pe.den E) (be.den E)) hp.ge hp.le
  refine callD_at hP [Div (pe.den E) (ae.den E) (be.den E)] [] (fun w _ _ _ => divide_at hp h1 h2 h3 h4 w) call294 rfl rfl ⟨hb, trivial⟩ ?_ (hk _ rfl hb.1 hb.2)
  show _ = Value.int .i64 ((E.ext [_] [] [] []).i.getD E.i.length 0)
  rw [ext_last]
theorem den_divide30 (hP : Γ.P = Try.prog) {pe ae be : IE} {h : List It} {k : T} (hp : Fld (pe.den E)) (h1 : 0 ≤ ae.den E) (h2 : ae.den E ≤ 30) (h3 : 0 ≤ be.den E) (h4 : be.den E ≤ 30) (hk : ∀ y, y = Div (pe.den E) (ae.den E) (be.den E) → 0 ≤ y → y ≤ 30 → k.den Γ H (E.ext [y] [] [] [])) :
    (T.callD (.fc 294) [.c (.int .i64 pe), .c (.int .i64 ae), .c (.int .i64 be)] [.int .i64] [some (0, 30)] h k).den Γ H E :=
  den_divide hP hp (by omega) (by omega) h3 (by omega) hk
end
end Go.Proofs.Ytelejhggpkfdoaa.SX

namespace Go.Proofs.Ytelejhggpkfdoaa.SX
set_option linter.unusedVariables false
open Go.ChangeShapes Go.WideShapes Go.ChangeAt Go.RowKit Go.Proofs

theorem own : ownKnob Try.prog.godebug = none := by kernel_rfl

theorem trodAll_stays {H : Type} {enc : TypeId × Value → H} {P : Program} (hl : laidOutB P = true) {W W' : World} {sp : Nat → Bool} (hb : Below W.heap.size W W') (hsp : ∀ n, n < W.heap.size → sp n = true) :
    ∀ {ts : List TypeId} {vs : List Value} {ds : List (DataW H)} {ps : List MemPlace}, (∀ u ∈ ts, P.readableRec u = true ∧ u < P.types.size) →
      DataW.TrodAll enc P W 0 (fun _ => true) true ts vs ds ps → DataW.TrodAll enc P W' 0 sp true ts vs ds ps
  | [], vs, ds, ps, _, h => by
    obtain ⟨rfl, rfl, rfl⟩ := trodAll_nil h
    exact trodAll_mk0
  | t :: ts, vs, ds, ps, hr, h => by
    have hlt := h.lt
    obtain ⟨v, vs', d, ds', p, q, rfl, rfl, rfl, h0, r0⟩ := trodAll_cons h
    exact trodAll_cons_mk (WideElems.Trod_stays hl (hr t (List.mem_cons_self ..)).1 (hr t (List.mem_cons_self ..)).2 h0 (fun x hx => hb.same (hlt x (List.mem_append_left _ hx))) (fun x hx => hsp _ (hlt x (List.mem_append_left _ hx))))
      (trodAll_stays hl hb hsp (fun u hu => hr u (List.mem_cons_of_mem _ hu)) r0)

theorem law_post {H : Type} {enc : TypeId × Value → H} {P : Program} {f : Func} {s : ChangeSpec} {fresh handsOn : Bool} {W W' : World} {args : Array Value} {ds gs : List (DataW H)} {before : List MemPlace} {t : TypeId}
    (hl : laidOutB P = true) (hr : (f.params.toList.all fun u => P.readableRec u && decide (u < P.types.size)) = true) (hv : s.vars = []) (hrt : f.resultTypes = #[t]) (ht : P.underlying t = some .bool)
    (hW : DataW.Whole enc P f.params.toList s.vars false W args.toList ds gs before)
    (hres : (s.fn H (ds ++ gs)).results = [.lit (.bool true)]) (hargs : (s.fn H (ds ++ gs)).args = ds) (hvars : (s.fn H (ds ++ gs)).vars = [])
    (hb : Below W.heap.size W W') : s.post enc P f false fresh handsOn false W args (.bool true) W' := by
  have hW' := hW
  obtain ⟨p, q, hA, hV, rfl, hfz, hnd⟩ := hW
  rw [hv] at hV
  obtain ⟨rfl, rfl⟩ := trodVars_none hV
  refine ⟨ds, [], p ++ [], [], p, [], hW', ?_, ?_, ?_, hb.frame _, fun h => by cases h⟩
  · rw [hres, hrt]
    exact trodAll_cons_mk (shut_bool ht _) trodAll_mk0
  · rw [hargs]
    refine trodAll_stays hl hb (fun n hn => by simpa using hn) (fun u hu => ?_) hA
    have := List.all_eq_true.1 hr u hu
    simpa using this
  · rw [hvars, hv]; trivial

/-- an argument's slice of integers, to read -/
theorem reads_of {H : Type} {enc : TypeId × Value → H} {P : Program} {W : World} {t e : TypeId} {k : IntKind} {v : Value} {d : DataW H} {ps : List MemPlace} {base : Nat}
    (ht : P.underlying t = some (.slice e)) (he : P.underlying e = some (.int k)) (hc : P.cellsOf e = 1) (hok : Value.okWide P W .any base t v) (h : DataW.Trod enc P W 0 (fun _ => true) true t v d ps) :
    ∃ s : Sl, v = s.val ∧ Reads W k 1 s ∧ s.n ≤ maxLen ∧ (∀ x ∈ s.xs, (Lit.int k x).wf = true) := by
  obtain ⟨a, len, cap, rfl⟩ := okWide_slice ht hok
  obtain ⟨fuel, hf⟩ := h
  rcases open_ints ht he hc hf with ⟨hcs, _⟩ | ⟨a', len', cap', zs, hcs, _, hl, hm, hz, _, hcell, hwf⟩
  · have e1 : Value.slice a len cap = .slice none 0 0 := by
      have : (Value.slice a len cap).cells = #[Value.slice a len cap] := rfl
      first
      | (rw [this] at hcs; simpa using hcs)
      | simpa [Value.cells] using hcs
    injection e1 with e1 e2 e3
    subst e1; subst e2; subst e3
    exact ⟨⟨none, 0, 0, []⟩, rfl, ⟨rfl, Nat.le_refl _, fun j u hu => by simp [ints] at hu⟩, by simp [maxLen], by simp⟩
  · have e1 : Value.slice a len cap = .slice (some a') len' cap' := by
      simpa [Value.cells] using hcs
    injection e1 with e1 e2 e3
    subst e1; subst e2; subst e3
    have hzl : len ≤ zs.length := by simp at hz; omega
    refine ⟨⟨some a', len, cap, zs.take len⟩, rfl, ⟨by simp; omega, hl, fun j u hu => ⟨a', rfl, ?_⟩⟩, by show len ≤ _; omega, fun x hx => hwf x (List.mem_of_mem_take hx)⟩
    unfold ints at hu
    rw [List.getElem?_map, List.getElem?_take] at hu
    split at hu
    · rename_i hj
      have hj' : j < zs.length := by omega
      rw [hcell j hj']
      rw [List.getElem?_eq_getElem hj'] at hu
      simp at hu
      rw [List.getD_eq_getElem?_getD, List.getElem?_eq_getElem hj', ← hu]; rfl
    · simp at hu
end Go.Proofs.Ytelejhggpkfdoaa.SX

namespace Go.Proofs.Ytelejhggpkfdoaa.SX
open Go.ChangeShapes Go.WideShapes Go.ChangeAt Go.RowKit Go.Proofs

theorem p_laid : laidOutB Try.prog = true := by kernel_rfl
theorem p_maps : mapsRowed Try.prog = true := by kernel_rfl
theorem p_stops : (Try.prog.stops == []) = true := by kernel_rfl
theorem p_knobs : (Try.prog.stopKnobs == []) = true := by kernel_rfl
theorem p_heard : Try.prog.stopsHeard = true := by kernel_rfl
theorem p_may : Try.prog.mayEnter = true := by kernel_rfl

theorem joined_of {P : Program} {f : FuncId} {fn : Func} {s : ChangeSpec} {c : OpenClaim} (p1 : laidOutB P = true) (p2 : mapsRowed P = true) (p3 : (P.stops == []) = true) (p4 : (P.stopKnobs == []) = true) (p5 : P.stopsHeard = true) (p6 : P.mayEnter = true)
    (h1 : c.wf (OpenSpec.ofChange s) = true) (h2 : fn.params.all (P.readableRec ·) = true) (h3 : namedTie P c.named s.vars = true) (h4 : (c.stops == []) = true) (h5 : (c.knobs == []) = true)
    (h6 : (c.inPlace == P.inPlace f) = true) (h7 : (c.unfollowed == P.unfollowed f) = true) (h8 : (c.recurses == P.recurses f) = true) (h9 : (c.named == P.varsNamed f) = true)
    (h10 : (c.maps == (fn.params.toList ++ s.plain.varTypes P).any (P.mapsRec ·)) = true) (h11 : (c.ifaces == (fn.params.toList ++ s.plain.varTypes P).any (P.ifacesRec ·)) = true) (h12 : (c.mapsOut == P.mapsAmong fn.resultTypes.toList) = true)
    (h13 : (c.loops == (fn.params.toList ++ s.plain.varTypes P).any (P.loopsFrom ·)) = true) (h14 : (c.wideKeys == (fn.params.toList ++ s.plain.varTypes P ++ fn.resultTypes.toList).any (P.wideKeysFrom ·)) = true)
    (h15 : s.vars.all (P.varReadable ·) = true) (h16 : fn.resultTypes.all (fun t => P.readableRec t && decide (t < P.types.size)) = true) (h17 : (c.ifacesOut == fn.resultTypes.toList.any (P.ifacesRec ·)) = true) (h18 : (c.loopsOut == fn.resultTypes.toList.any (P.loopsFrom ·)) = true)
    (h19 : (c.plainKeys == P.plainKeys) = true) (h20 : c.shortTexts.isNone = true) (h21 : (c.lifted == P.liftsFinal) = true) (h22 : (P.make == some c.make) = true)
    (h23 : (c.domain.isEmpty && (c.kinds == [])) = true) (h24 : (c.pinned == c.pinnedBy) = true)
    (h25 : (c.veiled == (fn.params.toList ++ s.plain.varTypes P ++ fn.resultTypes.toList).any (P.veiledRec ·)) = true) (h26 : c.veiledFits P fn.params.toList (fn.params.toList ++ s.plain.varTypes P ++ fn.resultTypes.toList) = true) :
    joinedFacts P f fn s c = true := by
  unfold joinedFacts
  simp only [Bool.and_eq_true] at h23 ⊢
  obtain ⟨h23a, h23b⟩ := h23
  rw [h23a]
  replace h23 : (c.kinds == if true = true then [] else List.map (fun t => match P.underlying t with | some (TypeDesc.int k) => some k | _ => none) fn.params.toList) = true := h23b
  exact ⟨⟨⟨⟨⟨⟨⟨⟨⟨⟨⟨⟨⟨⟨⟨⟨⟨⟨⟨⟨⟨⟨⟨⟨⟨⟨⟨⟨⟨⟨⟨h1, p1⟩, p2⟩, h2⟩, h3⟩, h4⟩, p3⟩, h5⟩, p4⟩, h6⟩, h7⟩, h8⟩, h9⟩, h10⟩, h11⟩, h12⟩, h13⟩, h14⟩, h15⟩, h16⟩, h17⟩, h18⟩, h19⟩, h20⟩, p5⟩, p6⟩, h21⟩, h22⟩, h23⟩, h24⟩, h25⟩, h26⟩
end Go.Proofs.Ytelejhggpkfdoaa.SX

