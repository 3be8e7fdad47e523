/- part of a proof: no condition of its own -/
import Derived.Test.YtelejhggpkfdoaaSXB
/-
  SX, part 19: code: rows, tests, blocks, loops.
-/
namespace Go.Proofs.Ytelejhggpkfdoaa.SX
set_option linter.unusedVariables false
set_option linter.unusedSimpArgs false
open Go.RowKit

inductive Ex where
  | nrm
  | ex (id : Nat)
  | ret
  deriving DecidableEq, Inhabited
def Ex.toExit : Ex → Exit
  | .nrm => .normal
  | .ex id => .exit id
  | .ret => .ret

abbrev KE := Ex → St → Option T

structure LSpec where
  /-- temporaries that live through a round: an integer's (elements') bounds; a slice's greatest length -/
  live : List (Tmp × Iv × Int)
  /-- blocks whose integers and bools turn -/
  blks : List (Nat × Iv)
  deriving Inhabited

inductive LA where
  | unroll (n : Nat)
  | inv (s : LSpec)
  /-- the ways of a test meet again -/
  | join (s : LSpec)
  deriving Inhabited

structure Acc where
  σ : Sg
  bi : List Iv
  bS : List (Iv × Int)
  bT : List Int
  ren : List (Nat × Nat)

def absC (z : Sz) (b : Iv) (len : Int) (c : CV) (q : Acc) : CV × Acc :=
  match c with
  | .int k e => (.int k (.v (z.ni + q.σ.i.length)), { q with σ := { q.σ with i := q.σ.i ++ [e] }, bi := q.bi ++ [b] })
  | .bool e => (.bool (.v (z.nb + q.σ.b.length)), { q with σ := { q.σ with b := q.σ.b ++ [e] } })
  | .sl s => (.sl (z.ns + q.σ.s.length), { q with σ := { q.σ with s := q.σ.s ++ [s] }, bS := q.bS ++ [(b, len)], ren := q.ren ++ [(s, z.ns + q.σ.s.length)] })
  | .str t => (.str (z.nt + q.σ.t.length), { q with σ := { q.σ with t := q.σ.t ++ [t] }, bT := q.bT ++ [len] })
  | c => (c, q)
def absL (z : Sz) (b : Iv) (len : Int) : List CV → Acc → List CV × Acc
  | [], q => ([], q)
  | c :: r, q => let (c', q) := absC z b len c q; let (r', q) := absL z b len r q; (c' :: r', q)
/-- a block's cells: slices stay -/
def absLB (z : Sz) (b : Iv) : List CV → Acc → List CV × Acc
  | [], q => ([], q)
  | .sl s :: r, q => let (r', q) := absLB z b r q; (.sl s :: r', q)
  | c :: r, q => let (c', q) := absC z b (-1) c q; let (r', q) := absLB z b r q; (c' :: r', q)
def absP (z : Sz) (b : Iv) (len : Int) : PV → Acc → PV × Acc
  | .c c, q => let (c', q) := absC z b len c q; (.c c', q)
  | .a l, q => let (l', q) := absL z b len l q; (.a l', q)
def absTmps (z : Sz) : List (Tmp × Iv × Int) → List TV → Acc → List TV × Acc
  | [], t, q => (t, q)
  | (d, b, len) :: r, t, q => match t.getD d .junk with
    | .p v => let (v', q) := absP z b len v q; absTmps z r (t.set d (.p v')) q
    | _ => absTmps z r t q
def absBlks (z : Sz) : List (Nat × Iv) → List It → Acc → List It × Acc
  | [], h, q => (h, q)
  | (n, b) :: r, h, q => match findBlk h n with
    | some (_, cs, _) => let (cs', q) := absLB z b cs q; absBlks z r (setBlk h n cs') q
    | none => absBlks z r h q
def renAll : List (Nat × Nat) → List It → List It
  | [], h => h
  | (s, n) :: r, h => renAll r (h.map fun it => match it with | .isl q T k z o => if q = s then .isl n T k z o else .isl q T k z o | x => x)

def junkAll (mods : List Tmp) (live : List (Tmp × Iv × Int)) (t : List TV) : List TV :=
  mods.foldl (fun t d => if live.any (fun x => x.1 == d) then t else t.set d .junk) t

def absAll (z : Sz) (sp : LSpec) (mods : List Tmp) (t : List TV) (h : List It) : List TV × List It × Acc :=
  let (t1, q) := absTmps z sp.live (junkAll mods sp.live t) ⟨⟨[], [], [], []⟩, [], [], [], []⟩
  let (h1, q) := absBlks z sp.blks h q
  (t1, renAll q.ren h1, q)

def modsOf : Code → List Tmp
  | .region _ ops _ => ops.toList.filterMap (·.dst)
  | .seq a b => modsOf a ++ modsOf b
  | .cond _ a b => modsOf a ++ modsOf b
  | .block _ c => modsOf c
  | .loop c => modsOf c
  | .scope c => modsOf c
  | _ => []
def keyOf : Code → Nat
  | .region id _ _ => id
  | .seq a _ => keyOf a
  | .block _ c => keyOf c
  | .loop c => keyOf c
  | _ => 0

def unr : Nat → (St → KE → Option T) → St → KE → Option T
  | 0, _, _, _ => none
  | n + 1, f, st, k => f st fun e st => match e with
    | .nrm => unr n f st k
    | e => k e st

def sameLen (a b : Sg) : Bool := decide (a.i.length = b.i.length ∧ a.b.length = b.b.length ∧ a.s.length = b.s.length ∧ a.t.length = b.t.length)

/-- a loop by an invariant -/
def invL (f : St → KE → Option T) (mods : List Tmp) (sp : LSpec) (st : St) (k : KE) : Option T :=
  let (t1, h1, q) := absAll st.sz sp mods st.t st.h
  if st.sc = true ∧ chkTs st.sz q.σ t1 st.t = true ∧ chkIts st.sz q.σ h1 st.h = true ∧ q.σ.i.length = q.bi.length ∧ q.σ.s.length = q.bS.length ∧ q.σ.t.length = q.bT.length ∧ q.bS.all (fun b => iv0 b.1) = true then
    (match f { st.ext q.bi q.σ.b.length q.bS q.bT with t := t1, h := h1, lv := st.lv + 1 } (fun e st' => match e with
      | .nrm =>
        let (_, _, q') := absAll st.sz sp mods st'.t st'.h
        if chkTs st.sz q'.σ t1 st'.t = true ∧ chkIts st.sz q'.σ h1 st'.h = true ∧ sameLen q'.σ q.σ = true then some (.again st.lv q'.σ.i q'.σ.b q'.σ.s q'.σ.t) else none
      | e => k e st') with
    | some t => some (.loop q.σ.i q.σ.b q.σ.s q.σ.t q.bi q.bS q.bT t)
    | none => none)
  else none

/-- a place where ways meet -/
def joinL (f : St → KE → Option T) (mods : List Tmp) (sp : LSpec) (st : St) (k : KE) : Option T :=
  let (t1, h1, q) := absAll st.sz sp mods st.t st.h
  if st.sc = true ∧ q.σ.i.length = q.bi.length ∧ q.σ.s.length = q.bS.length ∧ q.σ.t.length = q.bT.length ∧ q.bS.all (fun b => iv0 b.1) = true then
    (match f { st with lv := st.lv + 1 } (fun e st' => match e with
      | .nrm =>
        let (_, _, q') := absAll st.sz sp mods st'.t st'.h
        if chkTs st.sz q'.σ t1 st'.t = true ∧ chkIts st.sz q'.σ h1 st'.h = true ∧ sameLen q'.σ q.σ = true then some (.again st.lv q'.σ.i q'.σ.b q'.σ.s q'.σ.t) else none
      | e => k e st'), k .nrm { st.ext q.bi q.σ.b.length q.bS q.bT with t := t1, h := h1, lv := st.lv + 1 } with
    | some x, some y => some (.cut q.σ.i.length q.σ.b.length q.σ.s.length q.σ.t.length q.bi q.bS q.bT x y)
    | _, _ => none)
  else none

abbrev DrawF := Array Oper → St → K1 → Option T

def eng (C : CfgX) (an : Nat → LA) (dr : DrawF) : Code → St → KE → Option T
  | .skip, st, k => k .nrm st
  | .region _ ops false, st, k => seqOps C ops ops.toList st (k .nrm)
  | .region _ ops true, st, k => dr ops st (k .nrm)
  | .seq x y, st, k => eng C an dr x st fun e st => match e with
    | .nrm => eng C an dr y st k
    | e => k e st
  | .cond c x y, st, k => match an (keyOf x) with
    | .join sp => joinL (fun st k => match st.getC c with
      | some (.bool e) => branch e st (fun st => eng C an dr x st k) (fun st => eng C an dr y st k)
      | _ => none) (modsOf x ++ modsOf y) sp st k
    | _ => match st.getC c with
      | some (.bool e) => branch e st (fun st => eng C an dr x st k) (fun st => eng C an dr y st k)
      | _ => none
  | .block id c, st, k => eng C an dr c st fun e st => if e = .ex id then k .nrm st else k e st
  | .exit id, st, k => k (.ex id) st
  | .ret, st, k => k .ret st
  | .loop c, st, k => match an (keyOf c) with
    | .unroll n => unr n (eng C an dr c) st k
    | .inv sp => invL (eng C an dr c) (modsOf c) sp st k
    | .join _ => none
  | _, _, _ => none

section
variable {Γ : Ctx}

def ContE (Γ : Ctx) (H : List Hd) (E : Env) (k : KE) (Q : Exit → Act → World → Prop) : Prop :=
  ∀ x st' t' H' E' a' w', k x st' = some t' → RelΓ Γ st' E' a' w' → st'.lv = H'.length → H <+: H' → E.le E' → t'.den Γ H' E' → Q x.toExit a' w'

def CodeOK (Γ : Ctx) (P : Program) (c : Code) (f : St → KE → Option T) : Prop :=
  ∀ st k t H E a w Q, f st k = some t → RelΓ Γ st E a w → st.lv = H.length → t.den Γ H E → ContE Γ H E k Q → c.wp P Q a w

def DrawOK (Γ : Ctx) (P : Program) (dr : DrawF) : Prop :=
  ∀ id ops st k t H E a w Q, dr ops st k = some t → RelΓ Γ st E a w → st.lv = H.length → t.den Γ H E → Cont Γ H st.lv E k (fun a w => Q Exit.normal a w) → (Code.region id ops true).wp P Q a w

theorem unr_ok {P : Program} {c : Code} {f : St → KE → Option T} (hf : CodeOK Γ P c f) {Q : Exit → Act → World → Prop} : ∀ (n : Nat) st k t H E a w, unr n f st k = some t → RelΓ Γ st E a w → st.lv = H.length → t.den Γ H E →
    ContE Γ H E k Q → (∀ a w, Q .normal a w ∨ True) → Code.rounds P c Q n a w
  | 0, st, k, t, H, E, a, w, h, _, _, _, _, _ => by simp [unr] at h
  | n + 1, st, k, t, H, E, a, w, h, hr, hlv, hd, hk, hQ => by
    simp only [unr] at h
    rw [rounds_succ]
    refine hf st _ t H E a w _ h hr hlv hd ?_
    intro x st' t' H' E' a' w' g1 g2 g3 g4 g5 g6
    cases x with
    | nrm =>
      exact unr_ok hf n st' k t' H' E' a' w' g1 g2 g3 g6 (fun x st'' t'' H'' E'' a'' w'' e1 e2 e3 e4 e5 e6 => hk x st'' t'' H'' E'' a'' w'' e1 e2 e3 (g4.trans e4) (g5.trans e5) e6) hQ
    | ex id => exact hk (.ex id) st' t' H' E' a' w' g1 g2 g3 g4 g5 g6
    | ret => exact hk .ret st' t' H' E' a' w' g1 g2 g3 g4 g5 g6

theorem invL_ok {P : Program} {c : Code} {f : St → KE → Option T} (hf : CodeOK Γ P c f) {mods : List Tmp} {sp : LSpec} {st : St} {k : KE} {t : T} {H : List Hd} {E : Env} {a : Act} {w : World} {Q : Exit → Act → World → Prop}
    (h : invL f mods sp st k = some t) (hr : RelΓ Γ st E a w) (hlv : st.lv = H.length) (hd : t.den Γ H E) (hk : ContE Γ H E k Q) : (Code.loop c).wp P Q a w := by
  unfold invL at h
  generalize hq : absAll st.sz sp mods st.t st.h = r at h
  obtain ⟨t1, h1, q⟩ := r
  simp only at h
  split at h
  · rename_i hc
    obtain ⟨hs, c1, c2, l1, l3, l4, hiv⟩ := hc
    split at h
    · rename_i t' ht
      simp at h; subst h
      obtain ⟨I, μ, ⟨b1, b3, b4, hI⟩, hround⟩ := hd
      have hfs := fun E' hl => hr.fs_le hs (E' := E') hl
      have hiv' : ∀ b ∈ q.bS, iv0 b.1 = true := fun b hb => List.all_eq_true.1 hiv b hb
      -- all rounds
      have key : ∀ N is bs ss ts a w, is.length = q.σ.i.length → bs.length = q.σ.b.length → ss.length = q.σ.s.length → ts.length = q.σ.t.length →
          inIvs q.bi is → inIvS q.bS ss → inIvT q.bT ts → I is bs ss ts → μ is bs ss ts < N →
          RelΓ Γ { st.ext q.bi q.σ.b.length q.bS q.bT with t := t1, h := h1, lv := st.lv + 1 } (E.ext is bs ss ts) a w → Code.rounds P c Q N a w := by
        intro N
        induction N with
        | zero => intro is bs ss ts a w _ _ _ _ _ _ _ _ hμ; omega
        | succ N ih =>
          intro is bs ss ts a w e1 e2 e3 e4 i1 i3 i4 hI hμ hrel
          rw [rounds_succ]
          refine hf _ _ t' (H ++ [fun i b s t => (inIvs q.bi i ∧ inIvS q.bS s ∧ inIvT q.bT t ∧ I i b s t) ∧ μ i b s t < μ is bs ss ts]) _ a w _ ht hrel (by simp [hlv]) (hround is bs ss ts e1 e2 e3 e4 i1 i3 i4 hI) ?_
          intro x st' t'' H' E' a' w' g1 g2 g3 g4 g5 g6
          have hpre : H <+: H' := (List.prefix_append H _).trans g4
          have hEE' : E.le E' := (Env.le_ext E is bs ss ts).trans g5
          cases x with
          | nrm =>
            simp only at g1
            generalize hq' : absAll st.sz sp mods st'.t st'.h = r' at g1
            obtain ⟨t2, h2, q'⟩ := r'
            simp only at g1
            split at g1
            · rename_i hcc
              obtain ⟨d1, d2, d3⟩ := hcc
              simp at g1; subst g1
              have hget : H'.getD st.lv (fun _ _ _ _ => False) = fun i b s t => (inIvs q.bi i ∧ inIvS q.bS s ∧ inIvT q.bT t ∧ I i b s t) ∧ μ i b s t < μ is bs ss ts := by
                obtain ⟨l, rfl⟩ := g4
                rw [hlv]; simp [List.getD]
              simp only [T.den, hget] at g6
              obtain ⟨⟨i1', i3', i4', hI'⟩, hμ'⟩ := g6
              simp only [sameLen, decide_eq_true_eq] at d3
              obtain ⟨s1, s2, s3, s4⟩ := d3
              refine ih _ _ _ _ a' w' (by simpa using s1) (by simpa using s2) (by simpa using s3) (by simpa using s4) i1' i3' i4' hI' (by omega) ?_
              have := conc_ok (lv := st.lv + 1) hr.e hfs hEE' g2 d1 d2 (by omega) (by omega) (by omega) i1' i3' hiv' i4'
              rw [s2] at this
              exact this
            · simp at g1
          | ex id => exact hk (.ex id) st' t'' H' E' a' w' g1 g2 g3 hpre hEE' g6
          | ret => exact hk .ret st' t'' H' E' a' w' g1 g2 g3 hpre hEE' g6
      refine wp_loop_rounds (μ (q.σ.i.map (IE.den E)) (q.σ.b.map (BE.den E)) (q.σ.s.map (E.s.getD · nilSl)) (q.σ.t.map (E.t.getD · ByteArray.empty)) + 1) ?_
      refine key _ _ _ _ _ a w (by simp) (by simp) (by simp) (by simp) b1 b3 b4 hI (Nat.lt_succ_self _) ?_
      exact conc_ok (lv := st.lv + 1) hr.e hfs (Env.le_refl E) hr c1 c2 l1 l3 l4 b1 b3 hiv' b4
    · simp at h
  · simp at h

theorem joinL_ok {P : Program} {c : Code} {f : St → KE → Option T} (hf : CodeOK Γ P c f) {mods : List Tmp} {sp : LSpec} {st : St} {k : KE} {t : T} {H : List Hd} {E : Env} {a : Act} {w : World} {Q : Exit → Act → World → Prop}
    (h : joinL f mods sp st k = some t) (hr : RelΓ Γ st E a w) (hlv : st.lv = H.length) (hd : t.den Γ H E) (hk : ContE Γ H E k Q) : c.wp P Q a w := by
  unfold joinL at h
  generalize hq : absAll st.sz sp mods st.t st.h = r at h
  obtain ⟨t1, h1, q⟩ := r
  simp only at h
  split at h
  · rename_i hc
    obtain ⟨hs, l1, l3, l4, hiv⟩ := hc
    split at h
    · rename_i tx ty htx hty
      simp at h; subst h
      obtain ⟨J, hx, hy⟩ := hd
      have hfs := fun E' hl => hr.fs_le hs (E' := E') hl
      have hiv' : ∀ b ∈ q.bS, iv0 b.1 = true := fun b hb => List.all_eq_true.1 hiv b hb
      have hr' : RelΓ Γ { st with lv := st.lv + 1 } E a w := ⟨⟨hr.e.li, hr.e.ls, hr.e.lt, hr.e.lb, hr.e.ln, hr.e.lf, hr.e.bd, hr.e.fs⟩, hr.size, hr.tm, hr.df, hr.heap, hr.le, hr.kp⟩
      refine hf _ _ tx (H ++ [fun i b s t => inIvs q.bi i ∧ inIvS q.bS s ∧ inIvT q.bT t ∧ J i b s t]) E a w Q htx hr' (by simp [hlv]) hx ?_
      intro x st' t'' H' E' a' w' g1 g2 g3 g4 g5 g6
      have hpre : H <+: H' := (List.prefix_append H _).trans g4
      cases x with
      | nrm =>
        simp only at g1
        generalize hq' : absAll st.sz sp mods st'.t st'.h = r' at g1
        obtain ⟨t2, h2, q'⟩ := r'
        simp only at g1
        split at g1
        · rename_i hcc
          obtain ⟨d1, d2, d3⟩ := hcc
          simp at g1; subst g1
          have hget : H'.getD st.lv (fun _ _ _ _ => False) = fun i b s t => inIvs q.bi i ∧ inIvS q.bS s ∧ inIvT q.bT t ∧ J i b s t := by
            obtain ⟨l, rfl⟩ := g4
            rw [hlv]; simp [List.getD]
          simp only [T.den, hget] at g6
          obtain ⟨i1', i3', i4', hJ'⟩ := g6
          simp only [sameLen, decide_eq_true_eq] at d3
          obtain ⟨s1, s2, s3, s4⟩ := d3
          have hrel := conc_ok (lv := st.lv + 1) hr.e hfs g5 g2 d1 d2 (by omega) (by omega) (by omega) i1' i3' hiv' i4'
          rw [s2] at hrel
          exact hk .nrm _ ty (H ++ [fun _ _ _ _ => False]) _ a' w' hty hrel (by simp [hlv]) (List.prefix_append H _) (Env.le_ext E _ _ _ _)
            (hy _ _ _ _ (by simpa using s1) (by simpa using s2) (by simpa using s3) (by simpa using s4) i1' i3' i4' hJ')
        · simp at g1
      | ex id => exact hk (.ex id) st' t'' H' E' a' w' g1 g2 g3 hpre g5 g6
      | ret => exact hk .ret st' t'' H' E' a' w' g1 g2 g3 hpre g5 g6
    · simp at h
  · simp at h

theorem eng_ok {C : CfgX} (hC : C.toCfg.OK) (hP : Γ.P = C.P) {an : Nat → LA} {dr : DrawF} (hdr : DrawOK Γ C.P dr) : ∀ c : Code, CodeOK Γ C.P c (eng C an dr c) := by
  intro c
  induction c with
  | skip => intro st k t H E a w Q h hr hlv hd hk; exact wp_skip (hk .nrm st t H E a w h hr hlv (List.prefix_refl _) (Env.le_refl E) hd)
  | region id ops draw =>
    intro st k t H E a w Q h hr hlv hd hk
    cases draw with
    | false =>
      simp only [eng] at h
      refine wp_region_list (seqOps_ok hC hP _ st _ t E a w h hr hd ?_)
      intro st' t' E' a' w' h1 h2 h3 h4 h5
      exact hk .nrm st' t' H E' a' w' h1 h2 (h3.trans hlv) (List.prefix_refl _) h4 h5
    | true =>
      simp only [eng] at h
      refine hdr id ops st _ t H E a w Q h hr hlv hd ?_
      intro st' t' E' a' w' h1 h2 h3 h4 h5
      exact hk .nrm st' t' H E' a' w' h1 h2 (h3.trans hlv) (List.prefix_refl _) h4 h5
  | seq x y ihx ihy =>
    intro st k t H E a w Q h hr hlv hd hk
    simp only [eng] at h
    refine wp_seq (ihx st _ t H E a w _ h hr hlv hd ?_)
    intro e st' t' H' E' a' w' g1 g2 g3 g4 g5 g6
    cases e with
    | nrm => exact ihy st' k t' H' E' a' w' Q g1 g2 g3 g6 fun x st'' t'' H'' E'' a'' w'' e1 e2 e3 e4 e5 e6 => hk x st'' t'' H'' E'' a'' w'' e1 e2 e3 (g4.trans e4) (g5.trans e5) e6
    | ex id => exact hk (.ex id) st' t' H' E' a' w' g1 g2 g3 g4 g5 g6
    | ret => exact hk .ret st' t' H' E' a' w' g1 g2 g3 g4 g5 g6
  | cond c x y ihx ihy =>
    intro st k t H E a w Q h hr hlv hd hk
    have plain : CodeOK Γ C.P (.cond c x y) (fun st k => match st.getC c with
      | some (.bool e) => branch e st (fun st => eng C an dr x st k) (fun st => eng C an dr y st k)
      | _ => none) := by
      intro st k t H E a w Q h hr hlv hd hk
      simp only at h
      split at h
      · rename_i e he
        have hval : a.eval c = .bool (e.den E) := getC_ok hr.ev he
        rcases branch_ok h hr hd with ⟨hb, fs', t', h1, h2, h3⟩ | ⟨hb, fs', t', h1, h2, h3⟩
        · rw [hb] at hval
          exact wp_cond_true hval (ihx _ k t' H E a w Q h1 h2 hlv h3 hk)
        · rw [hb] at hval
          exact wp_cond_false hval (ihy _ k t' H E a w Q h1 h2 hlv h3 hk)
      · simp at h
    unfold eng at h
    split at h
    · exact joinL_ok plain h hr hlv hd hk
    · exact plain st k t H E a w Q h hr hlv hd hk
  | block id c ih =>
    intro st k t H E a w Q h hr hlv hd hk
    simp only [eng] at h
    refine wp_block (ih st _ t H E a w _ h hr hlv hd ?_)
    intro e st' t' H' E' a' w' g1 g2 g3 g4 g5 g6
    dsimp only at g1
    split at g1
    · rename_i he; subst he
      simp only [Ex.toExit, Exit.inBlock, ↓reduceIte]
      exact hk .nrm st' t' H' E' a' w' g1 g2 g3 g4 g5 g6
    · rename_i hne
      have := hk e st' t' H' E' a' w' g1 g2 g3 g4 g5 g6
      cases e with
      | nrm => exact this
      | ex id' =>
        simp only [Ex.toExit, Exit.inBlock]
        rw [if_neg (by rintro rfl; exact hne rfl)]; exact this
      | ret => exact this
  | loop c ih =>
    intro st k t H E a w Q h hr hlv hd hk
    simp only [eng] at h
    split at h
    · rename_i n hn
      exact wp_loop_rounds n (unr_ok ih n st k t H E a w h hr hlv hd hk fun _ _ => .inr trivial)
    · rename_i sp hn
      exact invL_ok ih h hr hlv hd hk
    · simp at h
  | rangeFunc f ps as body _ _ => intro st k t H E a w Q h; simp [eng] at h
  | exit id => intro st k t H E a w Q h hr hlv hd hk; exact wp_exit (hk (.ex id) st t H E a w h hr hlv (List.prefix_refl _) (Env.le_refl E) hd)
  | scope c _ => intro st k t H E a w Q h; simp [eng] at h
  | label l => intro st k t H E a w Q h; simp [eng] at h
  | goto l => intro st k t H E a w Q h; simp [eng] at h
  | ret => intro st k t H E a w Q h hr hlv hd hk; exact wp_ret (hk .ret st t H E a w h hr hlv (List.prefix_refl _) (Env.le_refl E) hd)
  | refuse s => intro st k t H E a w Q h; simp [eng] at h
end
end Go.Proofs.Ytelejhggpkfdoaa.SX

/-
  SX, part 20: a function's call.
-/
namespace Go.Proofs.Ytelejhggpkfdoaa.SX
set_option linter.unusedVariables false
set_option linter.unusedSimpArgs false
open Go.RowKit

/-- slices of the call's own, no two over one block -/
def OwnL (B : Nat) (w : World) : List (TypeId × IntKind × Nat) → List Sl → Prop
  | [], [] => True
  | (T, k, z) :: r, s :: q => w.ownsRow B T z s.val s.n (ints k s.xs) ∧ (∀ b ∈ s.fp, b < w.heap.size) ∧ (∀ s' ∈ q, ∀ b ∈ s.fp, b ∉ s'.fp) ∧ OwnL B w r q
  | _, _ => False

theorem OwnL.len {B : Nat} {w : World} : ∀ {l : List (TypeId × IntKind × Nat)} {ss : List Sl}, OwnL B w l ss → ss.length = l.length
  | [], [], _ => rfl
  | (T, k, z) :: r, s :: q, h => by simp [OwnL.len h.2.2.2]
  | [], _ :: _, h => h.elim
  | _ :: _, [], h => h.elim

theorem ownsRow_fp {w : World} {B : Nat} {T : TypeId} {z : Nat} {s : Sl} {n : Nat} {xs : List Value} (h : w.ownsRow B T z s.val n xs) : ∀ b ∈ s.fp, B ≤ b ∧ b < w.heap.size := by
  intro b hb
  refine h.lt b ?_
  unfold Sl.val Value.ownBlock
  unfold Sl.fp at hb
  split at hb
  · rename_i ad had; simp at hb; subst hb; rw [had]
  · simp at hb

theorem own_items {B : Nat} {w : World} {E : Env} : ∀ {l : List (TypeId × IntKind × Nat)} {ss : List Sl} {n : Nat}, OwnL B w l ss → (∀ j, j < ss.length → E.s.getD (n + j) nilSl = ss.getD j nilSl) → HOK B [] (islItems l n) E w
  | [], [], n, _, _ => HOK.nil
  | (T, k, z) :: r, s :: q, n, h, he => by
    obtain ⟨h1, h2, h3, h4⟩ := h
    have ih := own_items (E := E) (n := n + 1) h4 (fun j hj => by have := he (j + 1) (by simp; omega); rw [← Nat.add_assoc, Nat.add_right_comm] at this; simpa using this)
    have e0 : E.s.getD n nilSl = s := by simpa using he 0 (by simp)
    simp only [islItems]
    refine ih.cons (by simp only [It.holds, e0]; exact h1) (by simp only [It.fp, e0]; exact h2) (fun _ b hb => ?_) ?_
    · simp only [It.fp, e0] at hb; exact .inl (ownsRow_fp h1 b hb).1
    · intro y hy _ b hb hm
      simp only [It.fp, e0] at hb
      obtain ⟨T', k', z', j, rfl, hj1, hj2⟩ := islItems_sc _ _ y hy
      have hlen := h4.len
      have e1 : E.s.getD j nilSl = q.getD (j - (n + 1)) nilSl := by
        have := he (j - n) (by simp; omega)
        rw [show n + (j - n) = j by omega] at this
        rw [this, show j - n = (j - (n + 1)) + 1 by omega]; simp
      simp only [It.fp, e1] at hm
      refine h3 _ ?_ b hb hm
      rw [List.getD_eq_getElem?_getD, List.getElem?_eq_getElem (by omega)]
      exact List.getElem_mem _
  | [], _ :: _, _, h, _ => h.elim
  | _ :: _, [], _, h, _ => h.elim

/-- the slices that come back are among the call's own -/
def retChk : List Sh → List PV → List It → Bool
  | [], [], _ => true
  | .sl T k z :: r, v :: q, h => (match v with
    | .c (.sl s) => decide (It.isl s T k z true ∈ h) && retChk r q (h.erase (.isl s T k z true))
    | .c .nsl => retChk r q h
    | _ => false)
  | _ :: r, v :: q, h => (match v with | .c (.sl _) => false | .c .nsl => false | _ => true) && retChk r q h
  | _, _, _ => false

theorem sls_none {E : Env} {v : PV} (h : (match v with | .c (.sl _) => false | .c .nsl => false | _ => true) = true) : v.sls E = [] := by
  cases v with
  | a l => rfl
  | c x => cases x <;> first | rfl | simp at h

theorem retChk_ok {B : Nat} {S : List Nat} {E : Env} {w : World} : ∀ {shs : List Sh} {vs : List PV} {h : List It}, retChk shs vs h = true → HOK B S h E w →
    OwnL B w (shS shs) (vs.flatMap (PV.sls E)) ∧ ∀ s ∈ vs.flatMap (PV.sls E), ∀ b ∈ s.fp, ∃ it ∈ h, it.own = true ∧ b ∈ it.fp E
  | [], [], h, _, _ => ⟨trivial, by simp⟩
  | .sl T k z :: r, v :: q, h, hc, hh => by
    simp only [retChk] at hc
    split at hc
    · rename_i s
      simp only [Bool.and_eq_true, decide_eq_true_eq] at hc
      obtain ⟨hm, hc⟩ := hc
      have hp := List.perm_cons_erase hm
      have hh2 := hh.perm hp
      have hsep := hh2.sep
      obtain ⟨g1, g2⟩ := retChk_ok hc (hh2.sub (List.sublist_cons_self _ _))
      have hhold := hh.holds _ hm
      simp only [It.holds] at hhold
      simp only [List.flatMap_cons, PV.sls, shS, List.singleton_append]
      cases hsep with
      | cons hs1 hs2 =>
        refine ⟨⟨hhold, fun b hb => (ownsRow_fp hhold b hb).2, fun s' hs' b hb hb' => ?_, g1⟩, ?_⟩
        · obtain ⟨it, hit, ho, hbi⟩ := g2 s' hs' b hb'
          exact hs1 it hit (by simp [It.own]) b (by simpa [It.fp] using hb) hbi
        · intro s' hs' b hb
          cases hs' with
          | head => exact ⟨_, hm, rfl, by simpa [It.fp] using hb⟩
          | tail _ hs' => obtain ⟨it, hit, x⟩ := g2 s' hs' b hb; exact ⟨it, List.mem_of_mem_erase hit, x⟩
    · obtain ⟨g1, g2⟩ := retChk_ok hc hh
      simp only [List.flatMap_cons, PV.sls, shS, List.singleton_append]
      refine ⟨⟨⟨by simp [nilSl, ints], .inl ⟨rfl, rfl⟩⟩, by simp [nilSl, Sl.fp], by simp [nilSl, Sl.fp], g1⟩, ?_⟩
      intro s' hs' b hb
      cases hs' with
      | head => simp [nilSl, Sl.fp] at hb
      | tail _ hs' => exact g2 s' hs' b hb
    · simp at hc
  | .int k :: r, v :: q, h, hc, hh => by
    simp only [retChk, Bool.and_eq_true] at hc
    simp only [List.flatMap_cons, sls_none hc.1, List.nil_append, shS]; exact retChk_ok hc.2 hh
  | .bool :: r, v :: q, h, hc, hh => by
    simp only [retChk, Bool.and_eq_true] at hc
    simp only [List.flatMap_cons, sls_none hc.1, List.nil_append, shS]; exact retChk_ok hc.2 hh
  | .agg ks :: r, v :: q, h, hc, hh => by
    simp only [retChk, Bool.and_eq_true] at hc
    simp only [List.flatMap_cons, sls_none hc.1, List.nil_append, shS]; exact retChk_ok hc.2 hh
  | .str :: r, v :: q, h, hc, hh => by
    simp only [retChk, Bool.and_eq_true] at hc
    simp only [List.flatMap_cons, sls_none hc.1, List.nil_append, shS]; exact retChk_ok hc.2 hh
  | [], _ :: _, h, hc, _ => by simp [retChk] at hc
  | .sl _ _ _ :: _, [], h, hc, _ => by simp [retChk] at hc
  | .int _ :: _, [], h, hc, _ => by simp [retChk] at hc
  | .bool :: _, [], h, hc, _ => by simp [retChk] at hc
  | .agg _ :: _, [], h, hc, _ => by simp [retChk] at hc
  | .str :: _, [], h, hc, _ => by simp [retChk] at hc

def resV (P : Program) (st : St) : ResultVar → Option PV
  | .tmp t => match st.t.getD t .junk with
    | .p v => some v
    | _ => none
  | .cell a ty => match st.t.getD a .junk with
    | .p (.c (.ptr n off)) => (match loadV P st ty (.ptr n off) with | some ([], v) => some v | _ => none)
    | _ => none
def resVs (P : Program) (st : St) : List ResultVar → Option (List PV)
  | [] => some []
  | r :: q => match resV P st r, resVs P st q with
    | some v, some l => some (v :: l)
    | _, _ => none

/-- borrowed blocks: their cells at the end -/
def mbOf (h : List It) : List (Nat × TypeId) → Option (List (List CV))
  | [] => some []
  | (n, ty) :: r => match findBlk h n, mbOf h r with
    | some (ty', cs, true), some l => if ty = ty' then some (cs :: l) else none
    | _, _ => none

def retK (C : CfgX) (fn : Func) (shs : List Sh) (mb : List (Nat × TypeId)) : KE := fun e st =>
  match e with
  | .ex _ => none
  | _ => match resVs C.P st fn.results.toList, mbOf st.h mb with
    | some vs, some cs => if retChk shs vs st.h = true then some (.ret vs cs) else none
    | _, _ => none

/-- the tree of a function -/
def runFn (C : CfgX) (an : Nat → LA) (dr : DrawF) (fn : Func) (mb : List (Nat × TypeId)) (args : List PV) (st0 : St) : Option T :=
  match fn.body, shapesL C.P fn.resultTypes.toList with
  | some c, some shs =>
    let st := { st0 with t := args.map TV.p ++ List.replicate (fn.ntmps - args.length) .junk, lv := 0 }
    eng C an dr c st (retK C fn shs mb)
  | _, _ => none

def rv (tmps : Array Value) : ResultVar → Sem Value
  | .tmp t => pure (tmps.getD t undef)
  | .cell x t => do loadVar t (← asAddr (tmps.getD x undef))
theorem results_eq (fn : Func) (tmps : Array Value) : results fn tmps = (do
    let vs ← fn.results.mapM (rv tmps)
    pure (if h : vs.size = 1 then vs[0] else .tuple vs)) := by
  unfold results
  congr 2

section
variable {Γ : Ctx}

theorem resV_ok {C : CfgX} {st : St} {E : Env} {a : Act} {w : World} (hr : RelΓ Γ st E a w) {r : ResultVar} {v : PV} (h : resV C.P st r = some v) :
    (rv a.tmps r).run C.P w = .ok (v.den E) w := by
  have get : ∀ t p, st.t.getD t .junk = .p p → a.tmps.getD t undef = p.den E := by
    intro t p hp
    have := hr.ev (.tmp t)
    simp only [St.ev, hp, Act.eval] at this
    rcases this with h | h
    · cases h
    · exact h
  cases r with
  | tmp t =>
    simp only [resV] at h
    split at h
    · rename_i p hp; simp at h; subst h
      simp only [rv, get t _ hp, Sem.run_pure]
    · simp at h
  | cell x ty =>
    simp only [resV] at h
    split at h
    · rename_i n off hp
      split at h
      · rename_i p hl
        simp at h; subst h
        have := loadV_ok (C := C.toCfg) hr.e.bd hr.heap hl (by simp)
        have e1 : a.tmps.getD x undef = .pointer (some ⟨E.n.getD n 0, off, none⟩) := get x _ hp
        simp only [rv, e1, asAddr, pure_bind]
        simpa [Instr.loadAt, CV.den, Instr.sureAddr] using this
      · simp at h
    · simp at h

theorem resVs_ok {C : CfgX} {st : St} {E : Env} {a : Act} {w : World} (hr : RelΓ Γ st E a w) : ∀ {rs : List ResultVar} {vs : List PV}, resVs C.P st rs = some vs →
    (rs.mapM (rv a.tmps)).run C.P w = .ok (vs.map (PV.den E)) w
  | [], vs, h => by simp [resVs] at h; subst h; rfl
  | r :: q, vs, h => by
    simp only [resVs] at h
    split at h
    · rename_i v l hv hl
      simp at h; subst h
      simp only [List.mapM_cons, Sem.run_bind, resV_ok hr hv, Result.andThen_ok, resVs_ok hr hl, Sem.run_pure, List.map_cons]
    · simp at h

theorem mbOf_ok {E : Env} {B : Nat} {S : List Nat} {w : World} : ∀ {h : List It} {mb : List (Nat × TypeId)} {l : List (List CV)}, mbOf h mb = some l → HOK B S h E w →
    ∀ j n ty, mb[j]? = some (n, ty) → w.heap[E.n.getD n 0]? = some (.cells (((l.map (·.map (CV.den E))).getD j []).toArray) ty (0, 0))
  | h, [], l, _, _, j, n, ty, hj => by simp at hj
  | h, (n0, ty0) :: r, l, hm, hh, j, n, ty, hj => by
    simp only [mbOf] at hm
    split at hm
    · rename_i ty' cs l' hf hr
      split at hm
      · rename_i e; subst e
        simp at hm; subst hm
        cases j with
        | zero =>
          simp at hj; obtain ⟨rfl, rfl⟩ := hj
          have := hh.holds _ (findBlk_mem hf)
          simpa [It.holds] using this
        | succ j => simpa using mbOf_ok hr hh j n ty (by simpa using hj)
      · simp at hm
    · simp at hm

/-- what a call comes to -/
def Post (Γ : Ctx) (w : World) (sl : List (TypeId × IntKind × Nat)) (mb : List (Nat × TypeId)) (E : Env) (e : Ending) (w' : World) : Prop :=
  ∃ v ss cs, e = .returned v ∧ Γ.Q v ss cs ∧ Kp Γ.B Γ.S w w' ∧ OwnL Γ.B w' sl ss ∧ ∀ j n ty, mb[j]? = some (n, ty) → w'.heap[E.n.getD n 0]? = some (.cells ((cs.getD j []).toArray) ty (0, 0))

theorem runFn_ok {C : CfgX} (hC : C.toCfg.OK) (hP : Γ.P = C.P) {an : Nat → LA} {dr : DrawF} (hdr : DrawOK Γ C.P dr) {f : FuncId} {fn : Func} (hf : C.P.funcs[f]? = some fn)
    {mb : List (Nat × TypeId)} {args : List PV} {st0 : St} {t : T} (h : runFn C an dr fn mb args st0 = some t) (hn : args.length ≤ fn.ntmps)
    {shs : List Sh} (hsh : shapesL C.P fn.resultTypes.toList = some shs)
    {E : Env} {w : World} (hw : Γ.w0 = w) (hB : Γ.B ≤ w.heap.size) (hE : EOK st0 E) (hH : HOK Γ.B Γ.S st0.h E w) (hmb : ∀ n ty, (n, ty) ∈ mb → n < E.n.length) (hd : t.den Γ [] E) :
    Calls C.P f (args.map (PV.den E)).toArray w (Post Γ w (shS shs) mb E) := by
  unfold runFn at h
  split at h
  · rename_i c shs' hb hs'
    rw [hsh] at hs'; injection hs' with hs'; subst hs'
    simp only at h
    refine calls_of_wp hf hb ?_
    have hr : RelΓ Γ { st0 with t := args.map TV.p ++ List.replicate (fn.ntmps - args.length) .junk, lv := 0 } E
        { tmps := (args.map (PV.den E)).toArray ++ Array.replicate (fn.ntmps - (args.map (PV.den E)).toArray.size) undef, defers := [] } w := by
      refine ⟨⟨hE.li, hE.ls, hE.lt, hE.lb, hE.ln, hE.lf, hE.bd, hE.fs⟩, by simp, ?_, rfl, hH, hB, by rw [hw]; exact Kp.refl _ _ _⟩
      intro i tv hi
      rw [List.getElem?_append] at hi
      split at hi
      · rename_i hlt
        simp only [List.length_map] at hlt
        simp only [List.getElem?_map, List.getElem?_eq_getElem hlt, Option.map_some, Option.some.injEq] at hi
        subst hi
        refine .inr ?_
        simp only [Array.getD_eq_getD_getElem?]
        rw [Array.getElem?_append_left (by simpa using hlt)]
        simp [TV.val, hlt]
      · rw [List.getElem?_replicate] at hi
        split at hi
        · simp at hi; subst hi; exact .inl rfl
        · simp at hi
    refine eng_ok hC hP hdr c _ _ t [] E _ w _ h hr rfl hd ?_
    intro x st' t' H' E' a' w' g1 g2 g3 g4 g5 g6
    have done : ∀ (hne : ∀ id, x ≠ .ex id), a'.defers = [] ∧ ∃ v, (results fn a'.tmps).run C.P w' = .ok v w' ∧ Post Γ w (shS shs) mb E (.returned v) w' := by
      intro hne
      have g1' : (match resVs C.P st' fn.results.toList, mbOf st'.h mb with
        | some vs, some cs => if retChk shs vs st'.h = true then some (T.ret vs cs) else none
        | _, _ => none) = some t' := by
        cases x with
        | ex id => exact (hne id rfl).elim
        | nrm => exact g1
        | ret => exact g1
      split at g1'
      · rename_i vs cs hvs hcs
        split at g1'
        · rename_i hrc
          simp at g1'; subst g1'
          refine ⟨g2.df, pack (vs.map (PV.den E')), ?_, pack (vs.map (PV.den E')), _, _, rfl, g6, by rw [← hw]; exact g2.kp, (retChk_ok hrc g2.heap).1, ?_⟩
          · rw [results_eq, Sem.run_bind, Array.mapM_eq_mapM_toList, Sem.run_map, resVs_ok g2 hvs]
            simp only [Result.andThen_ok, Sem.run_pure]
            congr 1
            match hv : vs.map (PV.den E') with
            | [] => rfl
            | [x] => rfl
            | x :: y :: r => simp [pack]
          · intro j n ty hj
            have hlt := hmb n ty (List.mem_of_getElem? hj)
            have := mbOf_ok hcs g2.heap j n ty hj
            obtain ⟨l, hl⟩ := g5.n
            rwa [hl, getD_app hlt] at this
        · simp at g1'
      · simp at g1'
    cases x with
    | nrm => exact done (by simp)
    | ret => exact done (by simp)
    | ex id => simp [retK] at g1
  · simp at h
end
end Go.Proofs.Ytelejhggpkfdoaa.SX

/-
  SX, part 21: a row whose order is open: what is ready in it, and what it waits for.
-/
namespace Go.Proofs.Ytelejhggpkfdoaa.SX
set_option linter.unusedVariables false
set_option linter.unusedSimpArgs false
open Go.RowKit

/-- direct waits -/
def dirs (o : Oper) : List Nat := o.after.toList.filterMap fun e => if Region.binds .any e = true then some e.on else none

/-- all that is waited for, op by op -/
def closOf : List Oper → List (List Nat) → List (List Nat)
  | [], acc => acc
  | o :: r, acc => closOf r (acc ++ [(dirs o ++ (dirs o).flatMap fun d => acc.getD d []).eraseDups])

/-- what is listed is closed -/
def Closed (ops : Array Oper) (listed : Array Bool) : Prop := listed.size = ops.size ∧ ∀ (j : Nat) (o : Oper), ops[j]? = some o → listed.getD j false = true → ∀ d ∈ dirs o, listed.getD d false = true

/-- the certificate: each wait is direct, or of a direct one with a smaller number -/
def okClos (ops : Array Oper) (c : List (List Nat)) : Bool :=
  (List.range ops.size).all fun j => match ops[j]? with
    | some o => (c.getD j []).all fun i => (dirs o).contains i || (dirs o).any fun d => decide (d < j) && (c.getD d []).contains i
    | none => true

theorem okClos_listed {ops : Array Oper} {c : List (List Nat)} (h : okClos ops c = true) {listed : Array Bool} (hc : Closed ops listed) : ∀ (j : Nat), j < ops.size → (∀ o, ops[j]? = some o → ∀ d ∈ dirs o, listed.getD d false = true) → ∀ i ∈ c.getD j [], listed.getD i false = true := by
  intro j
  induction j using Nat.strongRecOn with
  | _ j ih =>
    intro hj hd i hi
    have h1 := List.all_eq_true.1 h j (List.mem_range.2 hj)
    have ho : ops[j]? = some ops[j] := Array.getElem?_eq_getElem hj
    rw [ho] at h1
    have h2 := List.all_eq_true.1 h1 i hi
    rw [Bool.or_eq_true] at h2
    rcases h2 with h2 | h2
    · exact hd _ ho i (by simpa using h2)
    · obtain ⟨d, hd1, hd2⟩ := List.any_eq_true.1 h2
      simp only [Bool.and_eq_true, decide_eq_true_eq] at hd2
      have hl := hd _ ho d hd1
      exact ih d hd2.1 (by omega) (fun o ho' x hx => hc.2 d o ho' hl x hx) i (by simpa using hd2.2)

theorem ready_dirs {ops : Array Oper} {listed : Array Bool} {i : Nat} (h : i ∈ Region.ready .any ops listed) : listed.getD i true = false ∧ ∃ o, ops[i]? = some o ∧ ∀ d ∈ dirs o, listed.getD d false = true := by
  obtain ⟨h1, o, h2, h3⟩ := mem_ready.1 h
  refine ⟨h1, o, h2, fun d hd => ?_⟩
  unfold dirs at hd
  rw [List.mem_filterMap] at hd
  obtain ⟨e, he, hd⟩ := hd
  split at hd
  · rename_i hb
    simp at hd; subst hd
    exact h3 e (by simpa using he) hb
  · simp at hd

theorem getD_set_self {listed : Array Bool} {i : Nat} (h : listed.getD i true = false) (d : Bool) : (listed.setIfInBounds i true).getD i d = true := by
  have hlt : i < listed.size := by
    rcases Nat.lt_or_ge i listed.size with h' | h'
    · exact h'
    · simp [Array.getD, Nat.not_lt.2 h'] at h
  simp [Array.getD, hlt]

theorem Closed.set {ops : Array Oper} {listed : Array Bool} (hc : Closed ops listed) {i : Nat} {o : Oper} (h0 : listed.getD i true = false) (ho : ops[i]? = some o) (hd : ∀ d ∈ dirs o, listed.getD d false = true) :
    Closed ops (listed.setIfInBounds i true) := by
  refine ⟨by simpa using hc.1, ?_⟩
  intro j o' ho' hl d hd'
  have mono : ∀ x, listed.getD x false = true → (listed.setIfInBounds i true).getD x false = true := fun x hx => by
    by_cases e : i = x
    · subst e; exact getD_set_self h0 false
    · rw [getD_set_ne false e]; exact hx
  by_cases e : i = j
  · subst e
    rw [ho] at ho'; injection ho' with e'; subst e'
    exact mono d (hd d hd')
  · rw [getD_set_ne false e] at hl
    exact mono d (hc.2 j o' ho' hl d hd')

/-- ANY ORDER: an assertion that each ready operation hands on serves. -/
theorem region_by {P : Program} {ops : Array Oper} {Q : Exit → Act → World → Prop} (J : Array Bool → Act → World → Prop)
    (hstep : ∀ listed a w i, J listed a w → Closed ops listed → i ∈ Region.ready .any ops listed → wpOp P ops Q i (J (listed.setIfInBounds i true)) a w)
    (hend : ∀ listed a w, J listed a w → Closed ops listed → Region.ready .any ops listed = [] → Q .normal a w) :
    ∀ (fuel : Nat) (listed : Array Bool) (a : Act) (w : World), (listed.toList.filter (· == false)).length ≤ fuel → listed.size = ops.size → Closed ops listed → J listed a w → wpAny P .any ops Q fuel listed a w := by
  intro fuel
  induction fuel with
  | zero =>
    intro listed a w hf hsz hc hj
    have hr : Region.ready .any ops listed = [] := by
      rw [List.eq_nil_iff_forall_not_mem]
      intro i hi
      obtain ⟨h1, o, ho, _⟩ := ready_dirs hi
      have hlt : i < listed.size := by
        rcases Nat.lt_or_ge i listed.size with h' | h'
        · exact h'
        · simp [Array.getD, Nat.not_lt.2 h'] at h1
      have hmem : listed[i] ∈ listed.toList.filter (· == false) := by
        rw [List.mem_filter]
        refine ⟨by simp, ?_⟩
        simp only [Array.getD, hlt, ↓reduceDIte] at h1
        simpa using h1
      have : 0 < (listed.toList.filter (· == false)).length := List.length_pos_of_mem hmem
      omega
    exact ⟨hr, hend listed a w hj hc hr⟩
  | succ fuel ih =>
    intro listed a w hf hsz hc hj
    refine ⟨fun hr => hend listed a w hj hc hr, fun i hi => ?_⟩
    obtain ⟨h1, o, ho, hd⟩ := ready_dirs hi
    refine wpOp_mono (fun a' w' hj' => ih _ a' w' ?_ (by simpa using hsz) (hc.set h1 ho hd) hj') (hstep listed a w i hj hc hi)
    have hlt : i < listed.size := by
      rcases Nat.lt_or_ge i listed.size with h' | h'
      · exact h'
      · simp [Array.getD, Nat.not_lt.2 h'] at h1
    have hval : listed[i] = false := by simpa [Array.getD, hlt] using h1
    have hlist : listed.toList = listed.toList.take i ++ listed[i] :: listed.toList.drop (i + 1) := by
      rw [← Array.getElem_toList (by simpa using hlt), List.getElem_cons_drop, List.take_append_drop]
    have hset : (listed.setIfInBounds i true).toList = listed.toList.take i ++ true :: listed.toList.drop (i + 1) := by
      rw [Array.toList_setIfInBounds, List.set_eq_take_append_cons_drop, if_pos (by simpa using hlt)]
    rw [hlist, hval] at hf
    rw [hset]
    simp only [List.filter_append, List.length_append, List.filter_cons] at *
    simp at *
    omega
end Go.Proofs.Ytelejhggpkfdoaa.SX

/-
  SX, part 22: a row whose order is open: what only computes may come late; the rest in turn.
-/
namespace Go.Proofs.Ytelejhggpkfdoaa.SX
set_option linter.unusedVariables false
set_option linter.unusedSimpArgs false
open Go.RowKit

/-- the operation, carried out in this state, yields v: and the world is as it was, or a callee has made memory -/
def YldAt (P : Program) (o : Oper) (a : Act) (w : World) (v : Value) : Prop :=
  (execOp a.eval o).run P w = .ok (.value v) w ∨
  ∃ f args, (execOp a.eval o).run P w = .ok (.enter f args) w ∧ Calls P f args w fun e w' => e = .returned v ∧ Below w.heap.size w w'

theorem YldAt.wp {P : Program} {o : Oper} {a : Act} {w : World} {v : Value} (h : YldAt P o a w v) {K : Act → World → Prop} (hK : ∀ w', Below w.heap.size w w' → K (a.put o.dst v) w') (Q : Exit → Act → World → Prop) : o.wp P a w K Q := by
  rcases h with h | ⟨f, args, h, hc⟩
  · exact wp_value h (hK w (Below.refl _ _))
  · unfold Oper.wp
    rw [h]
    refine hc.mono ?_
    rintro e w' ⟨rfl, hb⟩
    exact hK w' hb

/-- not yet listed -/
def Pend (q : Nat → Bool) (listed : Array Bool) (i : Nat) : Prop := q i = true ∧ listed.getD i true = false

structure Fill (ops : Array Oper) (q : Nat → Bool) (listed : Array Bool) (a b : Act) : Prop where
  size : a.tmps.size = b.tmps.size
  df : a.defers = b.defers
  tm : ∀ t, (∀ i o, Pend q listed i → ops[i]? = some o → o.dst ≠ some t) → a.tmps.getD t undef = b.tmps.getD t undef

theorem Fill.eval {ops : Array Oper} {q : Nat → Bool} {listed : Array Bool} {a b : Act} (h : Fill ops q listed a b) {x : Operand} (hx : ∀ t, x = .tmp t → ∀ i o, Pend q listed i → ops[i]? = some o → o.dst ≠ some t) : a.eval x = b.eval x := by
  cases x with
  | tmp t => exact h.tm t (hx t rfl)
  | _ => rfl

theorem Fill.exec {ops : Array Oper} {q : Nat → Bool} {listed : Array Bool} {a b : Act} (h : Fill ops q listed a b) {o : Oper} (hs : ∀ cs c, o.op ≠ .select cs c)
    (hx : ∀ t ∈ o.looksAt ops, ∀ i o', Pend q listed i → ops[i]? = some o' → o'.dst ≠ some t) : execOp a.eval o = execOp b.eval o :=
  execOp_congr o hs fun x hx' => h.eval fun t ht => hx t (by subst ht; exact List.mem_append_left _ (List.mem_filterMap.2 ⟨.tmp t, by simpa using hx', rfl⟩))

theorem Fill.wanted {ops : Array Oper} {q : Nat → Bool} {listed : Array Bool} {a b : Act} (h : Fill ops q listed a b) {o : Oper}
    (hx : ∀ t ∈ o.looksAt ops, ∀ i o', Pend q listed i → ops[i]? = some o' → o'.dst ≠ some t) : Region.wanted o (yielded ops a.tmps) = Region.wanted o (yielded ops b.tmps) := by
  unfold Region.wanted
  cases hg : o.guard with
  | none => rfl
  | some g =>
    obtain ⟨j, want⟩ := g
    simp only
    have : yielded ops a.tmps j = yielded ops b.tmps j := by
      unfold yielded
      cases hd : (ops[j]?).bind (·.dst) with
      | none => rfl
      | some d =>
        have hmem : d ∈ o.looksAt ops := by
          unfold Oper.looksAt
          refine List.mem_append_right _ ?_
          rw [hg]; simp [hd]
        have ht := h.tm d (hx d hmem)
        simp only [Option.bind_some]
        rcases Nat.lt_or_ge d a.tmps.size with hlt | hge
        · have hlt' : d < b.tmps.size := by rw [← h.size]; exact hlt
          rw [Array.getElem?_eq_getElem hlt, Array.getElem?_eq_getElem hlt']
          simp only [Array.getD, hlt, hlt', ↓reduceDIte] at ht
          have ht' : a.tmps[d] = b.tmps[d] := by simpa using ht
          rw [ht']
        · rw [Array.getElem?_eq_none hge, Array.getElem?_eq_none (by rw [← h.size]; exact hge)]
    rw [this]

theorem put_getD {a : Act} {d : Option Tmp} {v : Value} (t : Tmp) : (a.put d v).tmps.getD t undef = if d = some t ∧ t < a.tmps.size then v else a.tmps.getD t undef := by
  cases d with
  | none => simp [Act.put]
  | some d =>
    simp only [Act.put, Array.getD_eq_getD_getElem?, Array.getElem?_setIfInBounds, Option.some.injEq]
    by_cases hd : d = t
    · subst hd
      by_cases hl : d < a.tmps.size
      · simp [hl]
      · simp [hl]
    · simp [hd]

theorem Pend.set {q : Nat → Bool} {listed : Array Bool} {i j : Nat} (h : Pend q (listed.setIfInBounds i true) j) : Pend q listed j ∧ j ≠ i := by
  obtain ⟨h1, h2⟩ := h
  by_cases e : i = j
  · subst e
    exfalso
    rcases Nat.lt_or_ge i listed.size with h' | h'
    · simp [Array.getD, h'] at h2
    · simp [Array.getD, Nat.not_lt.2 h'] at h2
  · rw [getD_set_ne true e] at h2
    exact ⟨⟨h1, h2⟩, fun e' => e e'.symm⟩

section
variable {P : Program} {ops : Array Oper} {Q : Exit → Act → World → Prop}

theorem draw_gen (q : Nat → Bool) (v : Nat → Value) (Z : Array Bool → Act → World → Prop) (hsel : ∀ (i : Nat) (o : Oper) cs c, ops[i]? = some o → o.op ≠ .select cs c)
    (h1 : ∀ listed a w i o, Z listed a w → Closed ops listed → Pend q listed i → i ∈ Region.ready .any ops listed → ops[i]? = some o →
      (∀ d, o.dst = some d → d < a.tmps.size → a.tmps.getD d undef = v i) ∧
      ((Region.wanted o (yielded ops a.tmps) = true ∧ YldAt P o a w (v i)) ∨ (Region.wanted o (yielded ops a.tmps) = false ∧ v i = undef)))
    (h2 : ∀ listed a w i w', Z listed a w → Closed ops listed → Pend q listed i → i ∈ Region.ready .any ops listed → Below w.heap.size w w' → Z (listed.setIfInBounds i true) a w')
    (h3 : ∀ listed a w j o, Z listed a w → Closed ops listed → q j = false → j ∈ Region.ready .any ops listed → ops[j]? = some o → o.guard = none ∧ ∀ Q, o.wp P a w (Z (listed.setIfInBounds j true)) Q)
    (hend : ∀ listed a w, Z listed a w → Closed ops listed → Region.ready .any ops listed = [] → (∀ i, ¬ Pend q listed i) ∧ Q .normal a w)
    (sc1 : ∀ listed i o k o', Closed ops listed → i ∈ Region.ready .any ops listed → ops[i]? = some o → Pend q listed k → ops[k]? = some o' → ∀ t ∈ o.looksAt ops, o'.dst ≠ some t)
    (sc2 : ∀ i o k o', ops[i]? = some o → ops[k]? = some o' → q k = true → i ≠ k → o.dst ≠ none → o.dst ≠ o'.dst)
    {a : Act} {w : World} {a0 : Act} (hz : Z (Array.replicate ops.size false) a w) (hfill : Fill ops q (Array.replicate ops.size false) a0 a) :
    wpAny P .any ops Q ops.size (Array.replicate ops.size false) a0 w := by
  refine region_by (fun listed a w => ∃ b, Fill ops q listed a b ∧ Z listed b w) ?_ ?_ _ _ _ _ ?_ (by simp) ?_ ⟨a, hfill, hz⟩
  · rintro listed a w i ⟨b, hf, hz⟩ hc hi
    obtain ⟨hi0, o, ho, hd⟩ := ready_dirs hi
    have hlook : ∀ t ∈ o.looksAt ops, ∀ k o', Pend q listed k → ops[k]? = some o' → o'.dst ≠ some t := fun t ht k o' hk ho' => sc1 listed i o k o' hc hi ho hk ho' t ht
    have hex := hf.exec (fun cs c => hsel i o cs c ho) hlook
    have hwa := hf.wanted hlook
    unfold wpOp
    rw [ho]
    simp only
    by_cases hq : q i = true
    · have hp : Pend q listed i := ⟨hq, hi0⟩
      obtain ⟨hv, hy⟩ := h1 listed b w i o hz hc hp hi ho
      -- the frame with the value laid is filled by the same
      have hfill' : Fill ops q (listed.setIfInBounds i true) (a.put o.dst (v i)) b := by
        refine ⟨by rw [Act.put_size]; exact hf.size, by cases o.dst <;> exact hf.df, fun t ht => ?_⟩
        rw [put_getD]
        split
        · rename_i hc'
          exact (hv t hc'.1 (by rw [← hf.size]; exact hc'.2)).symm
        · rename_i hc'
          by_cases hlt : t < a.tmps.size
          · refine hf.tm t fun k o' hk ho' => ?_
            by_cases e : k = i
            · subst e; rw [ho] at ho'; injection ho' with e'; subst e'
              intro e2; exact hc' ⟨e2, hlt⟩
            · refine ht k o' ⟨hk.1, ?_⟩ ho'
              rw [getD_set_ne true (fun e' => e e'.symm)]; exact hk.2
          · have h1' : a.tmps.getD t undef = undef := by simp [Array.getD, hlt]
            have h2' : b.tmps.getD t undef = undef := by simp [Array.getD, show ¬ t < b.tmps.size by rw [← hf.size]; exact hlt]
            rw [h1', h2']
      rcases hy with ⟨hw, hy⟩ | ⟨hw, hy⟩
      · rw [hwa, hw, if_pos rfl]
        refine .inl ?_
        have hy' : YldAt P o a w (v i) := by
          unfold YldAt at *; rw [hex]; exact hy
        exact hy'.wp (fun w' hb => ⟨b, hfill', h2 listed b w i w' hz hc hp hi hb⟩) Q
      · rw [hwa, hw, if_neg (by simp)]
        rw [← hy]
        exact ⟨b, hfill', h2 listed b w i w hz hc hp hi (Below.refl _ _)⟩
    · have hq' : q i = false := by simpa using hq
      obtain ⟨hg, hwp⟩ := h3 listed b w i o hz hc hq' hi ho
      have hw : Region.wanted o (yielded ops a.tmps) = true := by unfold Region.wanted; rw [hg]
      rw [hw, if_pos rfl]
      refine .inl ?_
      have hwp' := hwp (fun _ _ _ => False)
      unfold Oper.wp at *
      rw [hex]
      have hfill' : ∀ u, Fill ops q (listed.setIfInBounds i true) (a.put o.dst u) (b.put o.dst u) := by
        intro u
        refine ⟨by rw [Act.put_size, Act.put_size]; exact hf.size, by cases o.dst <;> exact hf.df, fun t ht => ?_⟩
        rw [put_getD, put_getD, hf.size]
        split
        · rfl
        · refine hf.tm t fun k o' hk ho' => ?_
          refine ht k o' ⟨hk.1, ?_⟩ ho'
          have e : k ≠ i := by rintro rfl; exact absurd hk.1 (by rw [hq']; simp)
          rw [getD_set_ne true (fun e' => e e'.symm)]; exact hk.2
      generalize hr : (execOp b.eval o).run P w = r at *
      cases r with
      | ok n w' =>
        cases n <;> simp only [Oper.upon] at hwp' ⊢
        case value u => exact ⟨_, hfill' u, hwp'⟩
        case skip => exact ⟨_, hfill' undef, hwp'⟩
        case defer d =>
          refine ⟨{ (b.put o.dst undef) with defers := d :: b.defers }, ?_, ?_⟩
          · have := hfill' undef
            refine ⟨?_, ?_, ?_⟩
            · rw [Act.put_size]; show a.tmps.size = _; rw [show ({ (b.put o.dst undef) with defers := d :: b.defers } : Act).tmps.size = (b.put o.dst undef).tmps.size from rfl, Act.put_size]; exact hf.size
            · cases o.dst <;> simp [Act.put, hf.df]
            · intro t ht
              have := this.tm t ht
              cases hdst : o.dst <;> rw [hdst] at this <;> simpa [Act.put] using this
          · cases hdst : o.dst <;> rw [hdst] at hwp' <;> simpa [Act.put] using hwp'
        case enter f args =>
          refine Calls.mono hwp' fun e w'' he => ?_
          cases e with
          | returned u => exact ⟨_, hfill' u, he⟩
          | panicked c => exact he.elim
          | outgrown => obtain ⟨_, _, h⟩ := he; exact h.elim
        case row row args => exact Rows.mono hwp' fun u w'' he => ⟨_, hfill' u, he⟩
      | halt x w' =>
        cases x <;> simp only [Oper.upon] at hwp' ⊢
  · rintro listed a w ⟨b, hf, hz⟩ hc hr
    obtain ⟨hp, hQ⟩ := hend listed b w hz hc hr
    have e : a = b := by
      cases a with | mk at' ad => cases b with | mk bt bd =>
      have h1 := hf.df
      simp only at h1
      subst h1
      have : at' = bt := by
        apply Array.ext hf.size
        intro i h1 h2
        have := hf.tm i fun k o hk _ => (hp k hk).elim
        simp only [Array.getD, h1, h2, ↓reduceDIte] at this
        simpa using this
      rw [this]
    rw [e]; exact hQ
  · simp
  · refine ⟨by simp, ?_⟩
    intro j o ho hl
    rcases Nat.lt_or_ge j ops.size with h' | h'
    · simp [Array.getD, h'] at hl
    · simp [Array.getD, Nat.not_lt.2 h'] at hl
end
end Go.Proofs.Ytelejhggpkfdoaa.SX

/-
  SX, part 23: a row whose order is open: the operations that only compute.
-/
namespace Go.Proofs.Ytelejhggpkfdoaa.SX
set_option linter.unusedVariables false
set_option linter.unusedSimpArgs false
open Go.RowKit

/-- a call that hands back one value whatever the world, under the heap h -/
def callD (C : CfgX) (h : List It) (o : Oper) (st : St) (k : K1) : Option T :=
  match o.op with
  | .call { callee := .value f, args, argTypes } => (match st.getC f, getPs st args.toList, shapesOf C.P o.type with
    | some fv, some l, some shs => (match tgtOf fv with
      | some tg =>
        let m := modeOf C shs tg
        if st.sc = true ∧ m.det = true ∧ (shS shs).isEmpty = true ∧ shT shs = 0 then
          let bi := padIv m.bi (shI shs)
          (match k { st.ext bi (shB shs) [] [] with t := putT st.t o.dst (resTV (shPV shs st.B.bi.length st.nb 0 0)) } with
          | some t => some (.callD tg l shs bi (heapFor tg l h) t)
          | none => none)
        else none
      | none => none)
    | _, _, _ => none)
  | _ => none

def qStep (C : CfgX) (h : List It) (o : Oper) (st : St) (k : K1) : Option T :=
  match o.op with
  | .makeFunc _ _ _ => stClo o st k
  | .call { callee := .value _, .. } => callD C h o st k
  | _ => match valOp C.toCfg { st with h := h } o.op with
    | some (ns, tv) => needs ns st fun st => k (st.put o.dst tv)
    | none => none

structure QOp where
  i : Nat
  o : Oper
  h : List It

def qSeq (C : CfgX) (ops : Array Oper) : List QOp → St → K1 → Option T
  | [], st, k => k st
  | q :: r, st, k =>
    match q.o.guard with
    | none => qStep C q.h q.o st fun st => qSeq C ops r st k
    | some (j, want) => match guardTmp ops j with
      | some d => (match st.t.getD d .junk with
        | .p (.c (.bool e)) => if d < st.t.length then
            branch e st
              (fun st => if want = true then qStep C q.h q.o (setB st d true) fun st => qSeq C ops r st k else qSeq C ops r ((setB st d true).put q.o.dst .junk) k)
              (fun st => if want = true then qSeq C ops r ((setB st d false).put q.o.dst .junk) k else qStep C q.h q.o (setB st d false) fun st => qSeq C ops r st k)
            else none
        | _ => none)
      | none => none

section
variable {Γ : Ctx} {H : List Hd}

/-- the class of worlds in which an operation must yield its value -/
def Cl (Γ : Ctx) (h : List It) (E : Env) (w : World) : Prop := HOK Γ.B Γ.S h E w ∧ Γ.B ≤ w.heap.size ∧ Kp Γ.B Γ.S Γ.w0 w

def QFact (Γ : Ctx) (P : Program) (ops : Array Oper) (E0 : Env) (q : QOp) (a : Act) (v : Value) : Prop :=
  (∀ d, q.o.dst = some d → d < a.tmps.size → a.tmps.getD d undef = v) ∧
  ((Region.wanted q.o (yielded ops a.tmps) = true ∧ ∀ w, Cl Γ q.h E0 w → YldAt P q.o a w v) ∨ (Region.wanted q.o (yielded ops a.tmps) = false ∧ v = undef))

theorem Cl.le {h : List It} {E0 E : Env} {w : World} {z : Sz} (hf : E0.Fits z) (hs : h.all (It.sc z) = true) (hl : E0.le E) (hc : Cl Γ h E0 w) : Cl Γ h E w := ⟨hc.1.le hf hl hs, hc.2⟩

/-- one such operation -/
theorem qStep_ok {C : CfgX} (hC : C.toCfg.OK) (hP : Γ.P = C.P) {h : List It} {o : Oper} {st : St} {k : K1} {t : T} {E0 E : Env} {z : Sz} {a : Act} {w : World}
    (hf : E0.Fits z) (hs : h.all (It.sc z) = true) (hl : E0.le E)
    (hq : qStep C h o st k = some t) (hr : RelΓ Γ st E a w) (hd : t.den Γ H E) :
    ∃ st' t' E' v, k st' = some t' ∧ RelΓ Γ st' E' (a.put o.dst v) w ∧ st'.lv = st.lv ∧ st'.h = st.h ∧ E.le E' ∧ t'.den Γ H E' ∧ ∀ w', Cl Γ h E0 w' → YldAt C.P o a w' v := by
  unfold qStep at hq
  split at hq
  · rename_i fn fst caps ho
    unfold stClo at hq
    rw [ho] at hq
    cases fn <;> simp only [reduceCtorEq] at hq
    rename_i g
    split at hq
    · rename_i l hl'
      split at hq
      · rename_i hc
        split at hq
        · rename_i t' ht
          simp at hq; subst hq
          have hrun := fun w' => stClo_run (C := C.toCfg) hr.ev ho hl' hc.2 w'
          refine ⟨_, t', E.pf ⟨g, (l.map (PV.den E)).toArray⟩, _, ht, hr.next hc.1 (Env.le_pf E _) rfl ?_ (hr.heap_le hc.1 (Env.le_pf E _)) ?_ hr.le hr.kp, rfl, rfl, Env.le_pf E _, hd, fun w' _ => .inl (hrun w')⟩
          · have := hr.e.pf (fun E' hl => hr.fs_le hc.1 hl) ⟨g, (l.map (PV.den E)).toArray⟩
            exact ⟨this.li, this.ls, this.lt, this.lb, this.ln, this.lf, this.bd, this.fs⟩
          · refine .inr ?_
            have e : (E.pf ⟨g, (l.map (PV.den E)).toArray⟩).f.getD st.nf nilClo = ⟨g, (l.map (PV.den E)).toArray⟩ := by
              simp only [Env.pf, getD_app2, hr.e.lf]; simp
            simp only [TV.val, PV.den, CV.den, e]
        · simp at hq
      · simp at hq
    · simp at hq
  · rename_i f args tys ho
    unfold callD at hq
    rw [ho] at hq
    simp only at hq
    split at hq
    · rename_i fv l shs hfv hl' hsh
      split at hq
      · rename_i tg htg
        split at hq
        · rename_i hc
          split at hq
          · rename_i t' ht
            simp at hq; subst hq
            obtain ⟨is, bs, l1, l2, hiv, hcall, hcalls, hd'⟩ := hd
            rw [hP] at hcall hcalls
            have hlen : (padIv (modeOf C shs tg).bi (shI shs)).length = shI shs := padIv_len _ _
            have hE := hr.e.ext (fun E' hl => hr.fs_le hc.1 hl) (is := is) (bs := bs) (ss := []) (ts := []) (bS := []) (bT := []) (l1.trans hlen.symm) l2 rfl rfl hiv trivial (by simp) trivial
            have hle := Env.le_ext E is bs [] []
            refine ⟨_, t', _, pack ((shPV shs E.i.length E.b.length 0 0).map (PV.den (E.ext is bs [] []))), ht, hr.next (st' := { st.ext (padIv (modeOf C shs tg).bi (shI shs)) (shB shs) [] [] with t := putT st.t o.dst (resTV (shPV shs st.B.bi.length st.nb 0 0)) }) hc.1 hle rfl
                  ⟨hE.li, hE.ls, hE.lt, hE.lb, hE.ln, hE.lf, hE.bd, hE.fs⟩ (hr.heap_le hc.1 hle) (.inr ?_) hr.le hr.kp, rfl, rfl, hle, hd', ?_⟩
            · rw [resTV_val, hr.e.li, hr.e.lb]
            · intro w' hcl
              have hcl' := hcl.le hf hs hl
              exact .inr ⟨_, _, tgt_run hr.ev ho hfv htg hl' hcall w', hcalls w' (hcl'.1.sub (heapFor_sub tg l h)) hcl'.2.1 hcl'.2.2⟩
          · simp at hq
        · simp at hq
      · simp at hq
    · simp at hq
  · split at hq
    · rename_i ns tv hv
      obtain ⟨h1, fs', t', h2, h3, h4⟩ := needs_ok ns st _ t hq hr hd
      have hrun := fun w' (hcl : Cl Γ h E0 w') => valOp_ok (st := { st with h := h }) hC hr.e.bd (hcl.le hf hs hl).1 hr.ev hv h1
      refine ⟨_, t', E, tv.val E, h2, h3.put (.inr rfl), rfl, rfl, Env.le_refl E, h4, fun w' hcl => .inl (hrun w' hcl).1⟩
    · simp at hq

theorem YldAt.put {P : Program} {ops : Array Oper} {o : Oper} (hs : ∀ cs c, o.op ≠ .select cs c) {a : Act} {w : World} {v : Value} (h : YldAt P o a w v) {dst : Option Tmp} {u : Value} (hn : ∀ d, dst = some d → d ∉ o.looksAt ops) : YldAt P o (a.put dst u) w v := by
  unfold YldAt at *
  rw [execOp_put o hs a dst u hn]; exact h

theorem QFact.put {P : Program} {ops : Array Oper} {E0 : Env} {q : QOp} {a : Act} {v : Value} (h : QFact Γ P ops E0 q a v) (hs : ∀ cs c, q.o.op ≠ .select cs c) {dst : Option Tmp} {u : Value}
    (hn : ∀ d, dst = some d → d ∉ q.o.looksAt ops) (hne : ∀ d, dst = some d → q.o.dst ≠ some d) : QFact Γ P ops E0 q (a.put dst u) v := by
  obtain ⟨h1, h2⟩ := h
  refine ⟨fun d hd hlt => ?_, ?_⟩
  · rw [put_getD, if_neg]
    · exact h1 d hd (by rw [Act.put_size] at hlt; exact hlt)
    · rintro ⟨e, _⟩; exact hne d e hd
  · rcases h2 with ⟨h2, h3⟩ | ⟨h2, h3⟩
    · exact .inl ⟨by rw [wanted_put q.o a dst u hn]; exact h2, fun w hw => (h3 w hw).put hs hn⟩
    · exact .inr ⟨by rw [wanted_put q.o a dst u hn]; exact h2, h3⟩

/-- later ones touch nothing that the earlier ones look at or wrote -/
def QApart (ops : Array Oper) : List QOp → Prop
  | [] => True
  | q :: r => (∀ cs c, q.o.op ≠ .select cs c) ∧ (∀ d, q.o.dst = some d → d ∉ q.o.looksAt ops) ∧ (∀ p ∈ r, ∀ d, p.o.dst = some d → d ∉ q.o.looksAt ops ∧ q.o.dst ≠ some d) ∧ QApart ops r

theorem qSeq_ok {C : CfgX} (hC : C.toCfg.OK) (hP : Γ.P = C.P) {ops : Array Oper} {E0 : Env} {z : Sz} (hf : E0.Fits z) : ∀ (l : List QOp) (st : St) (k : K1) (t : T) (E : Env) (a : Act) (w : World),
    QApart ops l → (∀ q ∈ l, q.h.all (It.sc z) = true) → E0.le E → qSeq C ops l st k = some t → RelΓ Γ st E a w → t.den Γ H E →
    ∃ st' t' E' a', k st' = some t' ∧ RelΓ Γ st' E' a' w ∧ st'.lv = st.lv ∧ st'.h = st.h ∧ E.le E' ∧ t'.den Γ H E' ∧ (∀ q ∈ l, ∃ v, QFact Γ C.P ops E0 q a' v) ∧
      (∀ (q : QOp) v, QFact Γ C.P ops E0 q a v → (∀ cs c, q.o.op ≠ .select cs c) → (∀ p ∈ l, ∀ d, p.o.dst = some d → d ∉ q.o.looksAt ops ∧ q.o.dst ≠ some d) → QFact Γ C.P ops E0 q a' v) ∧
      (a'.tmps.size = a.tmps.size ∧ ∀ t, (∀ p ∈ l, p.o.dst ≠ some t) → a'.tmps.getD t undef = a.tmps.getD t undef)
  | [], st, k, t, E, a, w, _, _, _, h, hr, hd => ⟨st, t, E, a, h, hr, rfl, rfl, Env.le_refl E, hd, by simp, fun q v hq _ _ => hq, rfl, fun t _ => rfl⟩
  | q :: r, st, k, t, E, a, w, hap, hsc, hl, h, hr, hd => by
    obtain ⟨hsel, hself, hap1, hap2⟩ := hap
    -- what follows one step
    have go : ∀ (st1 : St) (t1 : T), RelΓ Γ st1 E a w → t1.den Γ H E → st1.lv = st.lv → st1.h = st.h → Region.wanted q.o (yielded ops a.tmps) = true →
        qStep C q.h q.o st1 (fun st => qSeq C ops r st k) = some t1 →
        ∃ st' t' E' a', k st' = some t' ∧ RelΓ Γ st' E' a' w ∧ st'.lv = st.lv ∧ st'.h = st.h ∧ E.le E' ∧ t'.den Γ H E' ∧ (∀ p ∈ q :: r, ∃ v, QFact Γ C.P ops E0 p a' v) ∧
          (∀ (p : QOp) v, QFact Γ C.P ops E0 p a v → (∀ cs c, p.o.op ≠ .select cs c) → (∀ x ∈ q :: r, ∀ d, x.o.dst = some d → d ∉ p.o.looksAt ops ∧ p.o.dst ≠ some d) → QFact Γ C.P ops E0 p a' v) ∧
          (a'.tmps.size = a.tmps.size ∧ ∀ t, (∀ p ∈ q :: r, p.o.dst ≠ some t) → a'.tmps.getD t undef = a.tmps.getD t undef) := by
      intro st1 t1 hr1 hd1 hlv1 hh1 hw hq
      obtain ⟨st2, t2, E2, v, g1, g2, g3, g4, g5, g6, g7⟩ := qStep_ok hC hP hf (hsc q (List.mem_cons_self ..)) hl hq hr1 hd1
      obtain ⟨st3, t3, E3, a3, k1, k2, k3, k4, k5, k6, k7, k8, k9s, k9⟩ := qSeq_ok hC hP hf r st2 k t2 E2 _ w hap2 (fun p hp => hsc p (List.mem_cons_of_mem _ hp)) (hl.trans g5) g1 g2 g6
      have hqf : QFact Γ C.P ops E0 q (a.put q.o.dst v) v := by
        refine ⟨fun d hd' hlt => ?_, .inl ⟨by rw [wanted_put q.o a q.o.dst v hself]; exact hw, fun w' hcl => (g7 w' hcl).put hsel hself⟩⟩
        rw [put_getD, if_pos ⟨hd', by rw [Act.put_size] at hlt; exact hlt⟩]
      refine ⟨st3, t3, E3, a3, k1, k2, k3.trans (g3.trans hlv1), k4.trans (g4.trans hh1), g5.trans k5, k6, ?_, ?_, by rw [k9s, Act.put_size], ?_⟩
      · intro p hp
        cases hp with
        | head => exact ⟨v, k8 q v hqf hsel hap1⟩
        | tail _ hp => exact k7 p hp
      · intro p u hp hps hpa
        exact k8 p u (hp.put hps (fun d hd' => (hpa q (List.mem_cons_self ..) d hd').1) (fun d hd' => (hpa q (List.mem_cons_self ..) d hd').2)) hps (fun x hx => hpa x (List.mem_cons_of_mem _ hx))
      · intro t ht
        rw [k9 t (fun p hp => ht p (List.mem_cons_of_mem _ hp)), put_getD, if_neg]
        rintro ⟨e, _⟩; exact ht q (List.mem_cons_self ..) e
    have skip : ∀ (st1 : St) (t1 : T), RelΓ Γ st1 E a w → t1.den Γ H E → st1.lv = st.lv → st1.h = st.h → Region.wanted q.o (yielded ops a.tmps) = false →
        qSeq C ops r (st1.put q.o.dst .junk) k = some t1 →
        ∃ st' t' E' a', k st' = some t' ∧ RelΓ Γ st' E' a' w ∧ st'.lv = st.lv ∧ st'.h = st.h ∧ E.le E' ∧ t'.den Γ H E' ∧ (∀ p ∈ q :: r, ∃ v, QFact Γ C.P ops E0 p a' v) ∧
          (∀ (p : QOp) v, QFact Γ C.P ops E0 p a v → (∀ cs c, p.o.op ≠ .select cs c) → (∀ x ∈ q :: r, ∀ d, x.o.dst = some d → d ∉ p.o.looksAt ops ∧ p.o.dst ≠ some d) → QFact Γ C.P ops E0 p a' v) ∧
          (a'.tmps.size = a.tmps.size ∧ ∀ t, (∀ p ∈ q :: r, p.o.dst ≠ some t) → a'.tmps.getD t undef = a.tmps.getD t undef) := by
      intro st1 t1 hr1 hd1 hlv1 hh1 hw hq
      have hr2 := hr1.put (dst := q.o.dst) (tv := .junk) (v := undef) (.inl rfl)
      obtain ⟨st3, t3, E3, a3, k1, k2, k3, k4, k5, k6, k7, k8, k9s, k9⟩ := qSeq_ok hC hP hf r _ k t1 E _ w hap2 (fun p hp => hsc p (List.mem_cons_of_mem _ hp)) hl hq hr2 hd1
      have hqf : QFact Γ C.P ops E0 q (a.put q.o.dst undef) undef := by
        refine ⟨fun d hd' hlt => ?_, .inr ⟨by rw [wanted_put q.o a q.o.dst undef hself]; exact hw, rfl⟩⟩
        rw [put_getD, if_pos ⟨hd', by rw [Act.put_size] at hlt; exact hlt⟩]
      refine ⟨st3, t3, E3, a3, k1, k2, k3.trans hlv1, k4.trans hh1, k5, k6, ?_, ?_, by rw [k9s, Act.put_size], ?_⟩
      · intro p hp
        cases hp with
        | head => exact ⟨undef, k8 q undef hqf hsel hap1⟩
        | tail _ hp => exact k7 p hp
      · intro p u hp hps hpa
        exact k8 p u (hp.put hps (fun d hd' => (hpa q (List.mem_cons_self ..) d hd').1) (fun d hd' => (hpa q (List.mem_cons_self ..) d hd').2)) hps (fun x hx => hpa x (List.mem_cons_of_mem _ hx))
      · intro t ht
        rw [k9 t (fun p hp => ht p (List.mem_cons_of_mem _ hp)), put_getD, if_neg]
        rintro ⟨e, _⟩; exact ht q (List.mem_cons_self ..) e
    simp only [qSeq] at h
    split at h
    · rename_i hg
      exact go st t hr hd rfl rfl (by unfold Region.wanted; rw [hg]) h
    · rename_i j want hg
      split at h
      · rename_i d hd'
        split at h
        · rename_i e he
          split at h
          · rename_i hlt
            have hsz : d < a.tmps.size := by rw [hr.size]; exact hlt
            have hval : a.tmps.getD d undef = .bool (e.den E) := by
              have hget : st.t[d]? = some (.p (.c (.bool e))) := by
                rw [List.getD_eq_getElem?_getD, List.getElem?_eq_getElem hlt, Option.getD_some] at he
                rw [List.getElem?_eq_getElem hlt, he]
              rcases hr.tm d _ hget with h' | h'
              · cases h'
              · exact h'
            rcases branch_ok h hr hd with ⟨hb, fs', t', h1, h2, h3⟩ | ⟨hb, fs', t', h1, h2, h3⟩
            · rw [hb] at hval
              have hr2 := h2.setB hval
              have hy := yielded_of hd' hsz hval
              cases want with
              | true => exact go _ t' hr2 h3 rfl rfl (by unfold Region.wanted; rw [hg]; simp [hy]) (by simpa using h1)
              | false => exact skip _ t' hr2 h3 rfl rfl (by unfold Region.wanted; rw [hg]; simp [hy]) (by simpa using h1)
            · rw [hb] at hval
              have hr2 := h2.setB hval
              have hy := yielded_of hd' hsz hval
              cases want with
              | true => exact skip _ t' hr2 h3 rfl rfl (by unfold Region.wanted; rw [hg]; simp [hy]) (by simpa using h1)
              | false => exact go _ t' hr2 h3 rfl rfl (by unfold Region.wanted; rw [hg]; simp [hy]) (by simpa using h1)
          · simp at h
        · simp at h
      · simp at h
end
end Go.Proofs.Ytelejhggpkfdoaa.SX

/-
  SX, part 24: new memory that may come at any place of such a row.
-/
namespace Go.Proofs.Ytelejhggpkfdoaa.SX
set_option linter.unusedVariables false
set_option linter.unusedSimpArgs false
open Go.RowKit

structure FS where
  i : Nat
  o : Oper
  ty : TypeId
  cs : List CV
  sl : Option (Nat × IntKind × Nat)

def FS.val (f : FS) (b : Nat) : Value :=
  match f.sl with
  | none => .pointer (some ⟨b, 0, none⟩)
  | some (n, _, _) => .slice (some ⟨b, 0, none⟩) n n

def floatOf (C : Cfg) (st : St) (i : Nat) (o : Oper) : Option FS :=
  match o.op with
  | .alloc ty => (match zeroC C.P ty with
    | some cs => some ⟨i, o, ty, cs, none⟩
    | none => none)
  | .box ty x => (match st.getP x with
    | some v => some ⟨i, o, ty, v.cs, none⟩
    | none => none)
  | .buildSlice ty n ps => (match sliceOf C.P ty with
    | some e => (match szT C.P e, zeroC C.P e, partsC st ps.toList with
      | some z, some zs, some l => (match fillC (fun i => some (i * z, z)) (zeroAt zs (n * z)) l, kindL zs with
        | some cs, some kd => if allK kd cs = true ∧ 0 < z ∧ 0 < zs.length ∧ n * z ≤ 16777216 ∧ n ≤ 1048576 ∧ cs.length = n * z then some ⟨i, o, e, cs, some (n, kd, z)⟩ else none
        | _, _ => none)
      | _, _, _ => none)
    | none => none)
  | _ => none

theorem floatOf_run {C : Cfg} {st : St} {i : Nat} {o : Oper} {f : FS} (h : floatOf C st i o = some f) {E : Env} {a : Act} (ha : ∀ x, (st.ev x).ok E (a.eval x)) (w : World) :
    f.i = i ∧ f.o = o ∧ (∀ n kd z, f.sl = some (n, kd, z) → allK kd f.cs = true ∧ 0 < z ∧ n ≤ 1048576 ∧ f.cs.length = n * z) ∧
    (execOp a.eval o).run C.P w = .ok (.value (f.val w.heap.size)) (w.alloc (.cells (f.cs.map (CV.den E)).toArray f.ty)) := by
  unfold floatOf at h
  split at h
  · rename_i ty ho
    split at h
    · rename_i cs hz
      simp at h; subst h
      obtain ⟨z, hz1, hz2⟩ := zeroC_ok hz E w
      refine ⟨rfl, rfl, by simp, ?_⟩
      unfold execOp; rw [ho]
      apply run_v
      rw [run_alloc hz1, hz2]; rfl
    · simp at h
  · rename_i ty x ho
    split at h
    · rename_i v hx
      simp at h; subst h
      refine ⟨rfl, rfl, by simp, ?_⟩
      unfold execOp; rw [ho]
      apply run_v
      rw [run_box, getP_ok ha hx, PV.den_cells]; rfl
    · simp at h
  · rename_i ty n ps ho
    split at h
    · rename_i e he
      split at h
      · rename_i z zs l hz hzs hl
        split at h
        · rename_i cs kd hcs hkd
          split at h
          · rename_i hc
            obtain ⟨hak, hz0, hzs0, hsz1, hsz2, hlen⟩ := hc
            simp at h; subst h
            refine ⟨rfl, rfl, ?_, ?_⟩
            · intro n' kd' z' hq
              simp only [Option.some.injEq, Prod.mk.injEq] at hq
              obtain ⟨rfl, rfl, rfl⟩ := hq
              exact ⟨hak, hz0, hsz2, hlen⟩
            · obtain ⟨zv, hzr, hzc⟩ := zeroC_ok hzs E w
              have hfill := fillC_ok E _ _ _ _ hcs
              have hparts := partsC_ok ha _ _ hl
              have hparts' : (ps.map fun (i, x) => (i, a.eval x)).toList = l.map fun x => (x.1, x.2.den E) := by rw [Array.toList_map]; exact hparts
              unfold execOp; rw [ho]
              apply run_v
              have hgt : ¬ n * z > 2 ^ 24 := by omega
              simp only [Instr.buildSlice, Sem.run_bind, run_underlying (sliceOf_ok he), Result.andThen_ok, run_szT hz, hgt, ↓reduceIte, Sem.run_pure]
              by_cases hn0 : n * z = 0
              · have hnil : zeroAt zs (n * z) = [] := by rw [hn0]; rfl
                rw [hnil] at hfill
                have hr0 : ((Array.range (n * z)).map fun x => (#[] : Array Value)[x % (#[] : Array Value).size]!) = (([] : List CV).map (CV.den E)).toArray := by rw [hn0]; simp
                simp only [hn0, ↓reduceIte, Sem.run_bind, Sem.run_pure, Result.andThen_ok]
                rw [hn0] at hr0
                rw [hr0, hparts', hfill]
                simp only [newRow, Sem.run_bind, run_newObj, Result.andThen_ok, Sem.run_pure, World.alloc_eq, FS.val]
              · simp only [hn0, ↓reduceIte, Sem.run_bind, hzr, Result.andThen_ok, Sem.run_pure]
                rw [zeroAt_ok hzc hzs0, hparts', hfill]
                simp only [newRow, Sem.run_bind, run_newObj, Result.andThen_ok, Sem.run_pure, World.alloc_eq, FS.val]
          · simp at h
        · simp at h
      · simp at h
    · simp at h
  · simp at h

def flPhase : List FS → St → K1 → Option T
  | [], st, k => k st
  | f :: r, st, k => match f.sl with
    | none => newBlk st f.o.dst f.ty f.cs fun st => flPhase r st k
    | some (n, kd, z) =>
      if st.sc = true ∧ f.cs.all (CV.sc st.sz) = true then
        (match flPhase r { st.ext [] 0 [(ivJoin st.B (iesOf f.cs), (n : Int))] [] with h := .isl st.B.bs.length f.ty kd z true :: st.h, t := putT st.t f.o.dst (.p (.c (.sl st.B.bs.length))) } k with
        | some t => some (.fs (.c n) (.lit (iesOf f.cs)) t)
        | none => none)
      else none

section
variable {Γ : Ctx} {H : List Hd}

/-- what is known of such memory once it has been made -/
structure FFact (Γ : Ctx) (f : FS) (b : Nat) (E : Env) (w : World) : Prop where
  cells : w.heap[b]? = some (.cells (f.cs.map (CV.den E)).toArray f.ty (0, 0))
  ge : Γ.B ≤ b
  lt : b < w.heap.size

theorem flPhase_ok {EQ : Env} {zQ : Sz} (hfQ : EQ.Fits zQ) {β : Nat → Nat} : ∀ (l : List FS) (st : St) (k : K1) (t : T) (E : Env) (a : Act) (w : World),
    (∀ f ∈ l, ∀ n kd z, f.sl = some (n, kd, z) → allK kd f.cs = true ∧ 0 < z ∧ n ≤ 1048576 ∧ f.cs.length = n * z) → (∀ f ∈ l, f.cs.all (CV.sc zQ) = true) → EQ.le E →
    flPhase l st k = some t → RelΓ Γ st E a w → t.den Γ H E → (∀ f ∈ l, FFact Γ f (β f.i) EQ w ∧ ∀ y ∈ st.h, β f.i ∉ y.fp E) → l.Pairwise (fun f g => β f.i ≠ β g.i ∧ ∀ d, f.o.dst = some d → g.o.dst ≠ some d) →
    ∃ st' t' E' a', k st' = some t' ∧ RelΓ Γ st' E' a' w ∧ st'.lv = st.lv ∧ E.le E' ∧ t'.den Γ H E' ∧ a'.tmps.size = a.tmps.size ∧
      (∀ t, (∀ f ∈ l, f.o.dst ≠ some t) → a'.tmps.getD t undef = a.tmps.getD t undef) ∧ (∀ f ∈ l, ∀ d, f.o.dst = some d → d < a.tmps.size → a'.tmps.getD d undef = f.val (β f.i))
  | [], st, k, t, E, a, w, _, _, _, h, hr, hd, _, _ => ⟨st, t, E, a, h, hr, rfl, Env.le_refl E, hd, rfl, fun t _ => rfl, by simp⟩
  | f :: r, st, k, t, E, a, w, hk, hsc, hl, h, hr, hd, hF, hp => by
    obtain ⟨hFf, hsepf⟩ := hF f (List.mem_cons_self ..)
    have hcs : f.cs.map (CV.den E) = f.cs.map (CV.den EQ) := CV.map_le hfQ hl f.cs (hsc f (List.mem_cons_self ..))
    cases hp with
    | cons hp1 hp2 =>
      -- one piece adopted, then the rest
      have rest : ∀ (st1 : St) (t1 : T) (E1 : Env), flPhase r st1 k = some t1 → RelΓ Γ st1 E1 (a.put f.o.dst (f.val (β f.i))) w → st1.lv = st.lv → E.le E1 → t1.den Γ H E1 → (∀ y ∈ st1.h, ∀ q ∈ y.fp E1, q = β f.i ∨ ∃ x ∈ st.h, q ∈ x.fp E) →
          ∃ st' t' E' a', k st' = some t' ∧ RelΓ Γ st' E' a' w ∧ st'.lv = st.lv ∧ E.le E' ∧ t'.den Γ H E' ∧ a'.tmps.size = a.tmps.size ∧
            (∀ t, (∀ g ∈ f :: r, g.o.dst ≠ some t) → a'.tmps.getD t undef = a.tmps.getD t undef) ∧ (∀ g ∈ f :: r, ∀ d, g.o.dst = some d → d < a.tmps.size → a'.tmps.getD d undef = g.val (β g.i)) := by
        intro st1 t1 E1 g1 g2 g3 g4 g5 g6
        obtain ⟨st', t', E', a', k1, k2, k3, k4, k5, k6, k7, k8⟩ := flPhase_ok hfQ r st1 k t1 E1 _ w (fun g hg => hk g (List.mem_cons_of_mem _ hg)) (fun g hg => hsc g (List.mem_cons_of_mem _ hg)) (hl.trans g4) g1 g2 g5
          (fun g hg => ⟨(hF g (List.mem_cons_of_mem _ hg)).1, fun y hy hm => by
            rcases g6 y hy _ hm with e | ⟨x, hx, hm'⟩
            · exact (hp1 g hg).1 e.symm
            · exact (hF g (List.mem_cons_of_mem _ hg)).2 x hx hm'⟩) hp2
        refine ⟨st', t', E', a', k1, k2, k3.trans g3, g4.trans k4, k5, by rw [k6, Act.put_size], ?_, ?_⟩
        · intro x hx
          rw [k7 x (fun g hg => hx g (List.mem_cons_of_mem _ hg)), put_getD, if_neg]
          rintro ⟨e, _⟩; exact hx f (List.mem_cons_self ..) e
        · intro g hg d hd' hlt
          cases hg with
          | head =>
            rw [k7 d (fun g hg e => (hp1 g hg).2 d hd' e), put_getD, if_pos ⟨hd', hlt⟩]
          | tail _ hg => exact k8 g hg d hd' (by rw [Act.put_size]; exact hlt)
      simp only [flPhase] at h
      split at h
      · rename_i hsl
        obtain ⟨st1, t1, E1, g1, g2, g3, g4, g5, g6⟩ := newBlk_adopt h hr hd (by rw [hcs]; exact hFf.cells) hFf.ge hFf.lt hsepf
        have hv : f.val (β f.i) = .pointer (some ⟨β f.i, 0, none⟩) := by unfold FS.val; rw [hsl]
        exact rest st1 t1 E1 g1 (by rw [hv]; exact g2) g3 g4 g5 g6
      · rename_i n kd z hsl
        obtain ⟨hak, hz0, hn, hlen⟩ := hk f (List.mem_cons_self ..) n kd z hsl
        split at h
        · rename_i hc
          obtain ⟨hs, hcsc⟩ := hc
          split at h
          · rename_i t1 ht
            simp at h; subst h
            have hfits := hr.e.fits
            have hscl := List.all_eq_true.1 (St.sc_parts hs).2.1
            have hv : f.val (β f.i) = (⟨some ⟨β f.i, 0, none⟩, n, n, (iesOf f.cs).map (IE.den E)⟩ : Sl).val := by unfold FS.val; rw [hsl]; rfl
            generalize hS : (⟨some ⟨β f.i, 0, none⟩, n, n, (iesOf f.cs).map (IE.den E)⟩ : Sl) = s at hv
            have hd' := hd s (by rw [← hS]; simp [IE.den]) (by rw [← hS]; rfl)
            have hle := Env.le_ext E [] [] [s] []
            have e : (E.ext [] [] [s] []).s.getD st.B.bs.length nilSl = s := by simp only [Env.ext, getD_app2, hr.e.ls]; simp
            have hE := hr.e.ext (fun E' hl => hr.fs_le hs hl) (is := []) (bs := []) (ss := [s]) (ts := []) (bi := []) (bS := [(ivJoin st.B (iesOf f.cs), (n : Int))]) (bT := []) (nb := 0) rfl rfl rfl rfl trivial
              ⟨⟨by rw [← hS]; exact ivJoin_ok hr.e.bd _, fun _ => by rw [← hS]; exact Int.le_refl _⟩, trivial⟩ (by simpa using iv0_of (ivJoin_0 st.B (iesOf f.cs))) trivial
            have hfp : s.fp = [β f.i] := by rw [← hS]; rfl
            refine rest _ t1 _ ht (hr.next (st' := { st.ext [] 0 [(ivJoin st.B (iesOf f.cs), (n : Int))] [] with h := .isl st.B.bs.length f.ty kd z true :: st.h, t := putT st.t f.o.dst (.p (.c (.sl st.B.bs.length))) }) hs hle rfl
              ⟨hE.li, hE.ls, hE.lt, hE.lb, hE.ln, hE.lf, hE.bd, hE.fs⟩ ?_ ?_ hr.le hr.kp) rfl hle hd' ?_
            · refine HOK.cons (hr.heap_le hs hle) ?_ ?_ ?_ ?_
              · simp only [It.holds, e]
                have hcells := hFf.cells
                rw [← hcs] at hcells
                refine ⟨by rw [← hS]; simp [ints, allK_len hak, hlen], .inr ⟨β f.i, n, _, by rw [← hS]; rfl, hFf.ge, hcells, by rw [← hS]; exact Nat.le_refl _, by unfold maxLen; omega, by simp [hlen], ?_⟩⟩
                rw [← hS]
                show (List.take (n * z) _) = _
                rw [List.take_of_length_le (by simp [hlen])]
                exact allK_den E hak
              · intro q hq; simp only [It.fp, e, hfp, List.mem_singleton] at hq; subst hq; exact hFf.lt
              · intro _ q hq; simp only [It.fp, e, hfp, List.mem_singleton] at hq; subst hq; exact .inl hFf.ge
              · intro y hy _ q hq
                simp only [It.fp, e, hfp, List.mem_singleton] at hq; subst hq
                rw [It.fp_le hfits hle y (hscl y hy)]; exact hsepf y hy
            · refine .inr ?_; simp only [TV.val, PV.den, CV.den, e, hv]
            · intro y hy q hq
              cases hy with
              | head => simp only [It.fp, e, hfp, List.mem_singleton] at hq; exact .inl hq
              | tail _ hy => rw [It.fp_le hfits hle y (hscl y hy)] at hq; exact .inr ⟨y, hy, hq⟩
          · simp at h
        · simp at h
end
end Go.Proofs.Ytelejhggpkfdoaa.SX

/-
  SX, part 25: a row whose order is open, whole.
-/
namespace Go.Proofs.Ytelejhggpkfdoaa.SX
set_option linter.unusedVariables false
set_option linter.unusedSimpArgs false
open Go.RowKit

def kindQ (C : CfgX) (o : Oper) : Bool :=
  match o.op with
  | .move _ | .pick _ _ _ | .nilCheck _ | .binOp _ _ _ _ _ | .unOp _ _ _ | .convert _ _ _ | .load _ _ | .fieldAddr _ _ _ | .indexAddr _ _ _ | .index _ _ _ | .field _ _ _ | .extract _ _ | .build _ _ | .sliceToArrayPointer _ _ | .makeFunc _ _ _ => true
  | .call { callee := .builtin .len, .. } => true
  | .call { callee := .value (.func g), .. } => (C.mode g).det
  | .call { callee := .value _, .. } => (match shapesOf C.P o.type with | some shs => (shS shs).isEmpty && decide (shT shs = 0) | none => false)
  | _ => false
def kindF (o : Oper) : Bool :=
  match o.op with
  | .alloc _ | .box _ _ | .buildSlice _ _ _ => true
  | _ => false

abbrev NO := Nat × Oper

def clsOf (C : CfgX) (ops : Array Oper) : List NO → List Tmp → List (Nat × NO)
  | [], _ => []
  | (i, o) :: r, acc =>
    let c := if (o.looksAt ops).any (acc.contains ·) then 2 else if kindQ C o then 0 else if kindF o then 1 else 2
    (c, i, o) :: clsOf C ops r (if c = 0 then acc else o.dst.toList ++ acc)

def pick' (n : Nat) (l : List (Nat × NO)) : List NO := l.filterMap fun x => if x.1 = n then some x.2 else none

def noSel (o : Oper) : Bool := match o.op with | .select _ _ => false | _ => true

def chainB (c : List (List Nat)) : List NO → Bool
  | (i, _) :: (j, o) :: r => (c.getD j []).contains i && chainB c ((j, o) :: r)
  | _ => true

def qApartB (ops : Array Oper) : List NO → Bool
  | [] => true
  | q :: r => noSel q.2 && (match q.2.dst with | some t => !(q.2.looksAt ops).contains t | none => true) &&
      r.all (fun p => match p.2.dst with | some t => !(q.2.looksAt ops).contains t && decide (q.2.dst ≠ some t) | none => true) && qApartB ops r
def flApartB : List NO → Bool
  | [] => true
  | x :: r => r.all (fun y => decide (x.1 ≠ y.1) && (match x.2.dst with | some t => decide (y.2.dst ≠ some t) | none => true)) && flApartB r

def flApartB' : List NO → Bool
  | [] => true
  | x :: r => r.all (fun y => decide (x.1 ≠ y.1)) && flApartB' r

structure DP where
  all : List NO
  qs : List NO
  fl : List NO
  bl : List NO
  c : List (List Nat)

def okDP (ops : Array Oper) (d : DP) : Bool :=
  okClos ops d.c &&
  decide (d.all.map (·.1) = List.range ops.size) &&
  d.all.all (fun x => decide (d.qs.any (fun y => y.1 == x.1) = true ∨ d.fl.any (fun y => y.1 == x.1) = true ∨ d.bl.any (fun y => y.1 == x.1) = true)) &&
  d.all.all (fun x => noSel x.2 && (dirs x.2).all (fun e => decide (e < x.1))) &&
  -- who looks at a q's value waits for it
  d.all.all (fun x => d.qs.all fun k => match k.2.dst with | some t => !(x.2.looksAt ops).contains t || (d.c.getD x.1 []).contains k.1 | none => true) &&
  -- a q's place is its own
  d.all.all (fun x => d.qs.all fun k => x.1 == k.1 || (match x.2.dst with | some t => decide (k.2.dst ≠ some t) | none => true)) &&
  -- who writes what a q or a float looks at waits for it
  (d.qs ++ d.fl).all (fun x => (d.fl ++ d.bl).all fun j => match j.2.dst with | some t => !(x.2.looksAt ops).contains t || (d.c.getD j.1 []).contains x.1 | none => true) &&
  chainB d.c d.bl &&
  d.bl.all (fun b => d.fl.all fun f => (d.c.getD b.1 []).contains f.1) &&
  (d.fl ++ d.bl).all (fun x => x.2.guard.isNone && !d.qs.any (fun y => y.1 == x.1)) &&
  d.fl.all (fun x => !d.bl.any (fun y => y.1 == x.1)) &&
  flApartB d.fl && qApartB ops d.qs && flApartB' d.bl

def resO (ops : Array Oper) (st : St) (x : Operand) : Option CV :=
  match x with
  | .tmp t => (match ops.toList.find? (fun o => o.dst == some t) with
    | some o => (match o.op with | .move y => st.getC y | _ => none)
    | none => st.getC x)
  | _ => none
def touches (ops : Array Oper) (st : St) (o : Oper) : List CV :=
  match o.op with
  | .store _ x _ => (resO ops st x).toList
  | .call c => c.args.toList.filterMap (resO ops st)
  | _ => []
def untouched (l : List CV) : It → Bool
  | .blk n _ _ _ => !l.any fun c => match c with | .ptr m _ => m == n | _ => false
  | .isl s _ _ _ _ => !l.any fun c => match c with | .sl m => m == s | .elp m _ _ _ => m == s | _ => false

def keeps (hC h : List It) : Bool := decide (h.filter (fun it => decide (it ∈ hC)) = hC)

def bSeq (C : CfgX) (hC : List It) : List Oper → St → K1 → Option T
  | [], st, k => k st
  | o :: r, st, k => stepOp C o st fun st' => if keeps hC st'.h = true then bSeq C hC r st' k else none

def floatsOf (C : CfgX) (st : St) : List NO → Option (List FS)
  | [] => some []
  | (i, o) :: r => match floatOf C.toCfg st i o, floatsOf C st r with
    | some f, some l => some (f :: l)
    | _, _ => none

def dpOf (C : CfgX) (ops : Array Oper) : DP :=
  let all := (List.range ops.size).zip ops.toList
  let cl := clsOf C ops all []
  ⟨all, pick' 0 cl, pick' 1 cl, pick' 2 cl, closOf ops.toList []⟩

def earlyB (d : DP) (i : Nat) : Bool := match d.bl with | b :: _ => (d.c.getD b.1 []).contains i | [] => true

def drawE (C : CfgX) : DrawF := fun ops st k =>
  let d := dpOf C ops
  if okDP ops d = true ∧ st.sc = true then
    let hC := if d.qs.all (fun q => earlyB d q.1) = true then [] else st.h.filter (untouched (d.bl.flatMap fun b => touches ops st b.2))
    qSeq C ops (d.qs.map fun q => ⟨q.1, q.2, if earlyB d q.1 = true then st.h else hC⟩) st fun stQ =>
      match floatsOf C stQ d.fl with
      | some fs => if fs.all (fun f => f.cs.all (CV.sc stQ.sz)) = true then
          flPhase fs stQ fun stF => if keeps hC stF.h = true then bSeq C hC (d.bl.map (·.2)) stF k else none
        else none
      | none => none
  else none

end Go.Proofs.Ytelejhggpkfdoaa.SX

/-
  SX, part 26: such a row is walked rightly.
-/
namespace Go.Proofs.Ytelejhggpkfdoaa.SX
set_option linter.unusedVariables false
set_option linter.unusedSimpArgs false
open Go.RowKit

theorem wp_put {P : Program} {o : Oper} {a : Act} {w : World} {K : Act → World → Prop} {Q : Exit → Act → World → Prop} (h : o.wp P a w K Q) :
    o.wp P a w (fun a' w' => K a' w' ∧ ∃ v, a'.tmps = (a.put o.dst v).tmps) Q := by
  unfold Oper.wp at *
  generalize (execOp a.eval o).run P w = r at *
  cases r with
  | ok n w' =>
    cases n <;> simp only [Oper.upon] at h ⊢
    case value u => exact ⟨h, u, rfl⟩
    case skip => exact ⟨h, undef, rfl⟩
    case defer d => exact ⟨h, undef, by cases o.dst <;> rfl⟩
    case enter f args =>
      refine Calls.mono h fun e w'' he => ?_
      cases e with
      | returned u => exact ⟨he, u, rfl⟩
      | panicked c => exact he
      | outgrown => exact he
    case row row args => exact Rows.mono h fun u w'' he => ⟨he, u, rfl⟩
  | halt x w' =>
    cases x <;> simp only [Oper.upon] at h ⊢
    case panic u => exact h

theorem It.holds_ge {E E' : Env} {z : Sz} (hf : E.Fits z) (hl : E.le E') (it : It) (h : it.sc z = true) (B : Nat) (w : World) (hx : it.holds B E' w) : it.holds B E w := by
  cases it with
  | blk n T cs o =>
    simp only [It.sc, Bool.and_eq_true, decide_eq_true_eq] at h
    have hc := CV.map_le hf hl cs h.2
    obtain ⟨l, hl'⟩ := hl.n
    simp only [It.holds] at *
    rw [hc, hl', getD_app (by rw [hf.n]; exact h.1)] at hx; exact hx
  | isl s T k zz o =>
    simp only [It.sc, decide_eq_true_eq] at h
    obtain ⟨l, hl'⟩ := hl.s
    have e : E'.s.getD s nilSl = E.s.getD s nilSl := by rw [hl', getD_app (by rw [hf.s]; exact h)]
    cases o <;> (simp only [It.holds] at *; rw [e] at hx; exact hx)

theorem HOK.ge {B : Nat} {S : List Nat} {h : List It} {E E' : Env} {w : World} {z : Sz} (hf : E.Fits z) (hl : E.le E') (hs : h.all (It.sc z) = true) (hh : HOK B S h E' w) : HOK B S h E w := by
  have hs' := List.all_eq_true.1 hs
  have fpe : ∀ it ∈ h, it.fp E' = it.fp E := fun it hi => It.fp_le hf hl it (hs' it hi)
  refine ⟨fun it hi => It.holds_ge hf hl it (hs' it hi) B w (hh.holds it hi), fun it hi k hk => hh.lt it hi k (by rw [fpe it hi]; exact hk),
    fun it hi ho k hk => hh.own it hi ho k (by rw [fpe it hi]; exact hk), ?_⟩
  refine List.Pairwise.imp_of_mem (fun {x y} hx hy hxy ho k hk => ?_) hh.sep
  rw [← fpe y hy]
  exact hxy ho k (by rw [fpe x hx]; exact hk)

theorem Rel.below {B : Nat} {S : List Nat} {w0 : World} {st : St} {E : Env} {a : Act} {w w' : World} (h : Rel B S w0 st E a w) (hb : Below w.heap.size w w') : Rel B S w0 st E a w' :=
  ⟨h.e, h.size, h.tm, h.df, h.heap.below hb, Nat.le_trans h.le hb.size, h.kp.trans (.of_below (hb.mono h.le))⟩

theorem keeps_ok {hC h : List It} (hk : keeps hC h = true) : hC.Sublist h := by
  unfold keeps at hk
  simp only [decide_eq_true_eq] at hk
  rw [← hk]
  exact List.filter_sublist

section
variable {Γ : Ctx} {H : List Hd}

theorem bStep {C : CfgX} (hC : C.toCfg.OK) (hP : Γ.P = C.P) {hCl : List It} {o : Oper} {r : List Oper} {st1 : St} {k : K1} {t1 : T} {E1 : Env} {b : Act} {w : World} (Q : Exit → Act → World → Prop)
    (h : bSeq C hCl (o :: r) st1 k = some t1) (hr : RelΓ Γ st1 E1 b w) (hd : t1.den Γ H E1) :
    o.wp C.P b w (fun b' w' => (∃ st' t' E', bSeq C hCl r st' k = some t' ∧ RelΓ Γ st' E' b' w' ∧ st'.lv = st1.lv ∧ E1.le E' ∧ t'.den Γ H E' ∧ keeps hCl st'.h = true) ∧ ∃ v, b'.tmps = (b.put o.dst v).tmps) Q := by
  simp only [bSeq] at h
  refine wp_put (stepOp_ok hC hP Q h hr hd fun st' t' E' a' w' g1 g2 g3 g4 g5 => ?_)
  split at g1
  · rename_i hk
    exact ⟨st', t', E', g1, g2, g3, g4, g5, hk⟩
  · simp at g1

theorem clsOf_mem (C : CfgX) (ops : Array Oper) : ∀ (l : List NO) (acc : List Tmp), ∀ x ∈ clsOf C ops l acc, x.2 ∈ l
  | [], _, x, h => by simp [clsOf] at h
  | (i, o) :: r, acc, x, h => by
    simp only [clsOf] at h
    cases h with
    | head => exact List.mem_cons_self ..
    | tail _ h => exact List.mem_cons_of_mem _ (clsOf_mem C ops r _ x h)
theorem pick'_mem {n : Nat} {l : List (Nat × NO)} {x : NO} (h : x ∈ pick' n l) : ∃ y ∈ l, y.2 = x := by
  unfold pick' at h
  rw [List.mem_filterMap] at h
  obtain ⟨y, hy, h⟩ := h
  split at h
  · simp at h; exact ⟨y, hy, h⟩
  · simp at h
theorem all_get {ops : Array Oper} {x : NO} (h : x ∈ (List.range ops.size).zip ops.toList) : ops[x.1]? = some x.2 := by
  obtain ⟨j, hj, he⟩ := List.getElem_of_mem h
  have : x = (j, ops[j]'(by simpa using (by simp at hj; exact hj))) := by
    rw [← he]; simp
  rw [this]; simp

theorem dp_get (C : CfgX) (ops : Array Oper) {x : NO} (h : x ∈ (dpOf C ops).qs ∨ x ∈ (dpOf C ops).fl ∨ x ∈ (dpOf C ops).bl) : ops[x.1]? = some x.2 := by
  have key : ∀ n, x ∈ pick' n (clsOf C ops ((List.range ops.size).zip ops.toList) []) → ops[x.1]? = some x.2 := by
    intro n hx
    obtain ⟨y, hy, rfl⟩ := pick'_mem hx
    exact all_get (clsOf_mem C ops _ _ y hy)
  rcases h with h | h | h
  · exact key 0 h
  · exact key 1 h
  · exact key 2 h

theorem floatsOf_map {C : CfgX} {st : St} {E : Env} {a : Act} (ha : ∀ x, (st.ev x).ok E (a.eval x)) : ∀ {l : List NO} {fs : List FS}, floatsOf C st l = some fs →
    fs.map (fun f => (f.i, f.o)) = l ∧ ∀ f ∈ fs, floatOf C.toCfg st f.i f.o = some f
  | [], fs, h => by simp [floatsOf] at h; subst h; exact ⟨rfl, by simp⟩
  | (i, o) :: r, fs, h => by
    simp only [floatsOf] at h
    split at h
    · rename_i f l hf hl
      simp at h; subst h
      obtain ⟨h1, h2⟩ := floatsOf_map ha hl
      obtain ⟨e1, e2, _⟩ := floatOf_run hf ha default
      refine ⟨by simp [e1, e2, h1], fun g hg => ?_⟩
      cases hg with
      | head => rw [e1, e2]; exact hf
      | tail _ hg => exact h2 g hg
    · simp at h

theorem qApartB_ok {ops : Array Oper} {f : NO → List It} : ∀ {l : List NO}, qApartB ops l = true → QApart ops (l.map fun q => ⟨q.1, q.2, f q⟩)
  | [], _ => trivial
  | q :: r, h => by
    simp only [qApartB, Bool.and_eq_true] at h
    obtain ⟨⟨⟨h1, h2⟩, h3⟩, h4⟩ := h
    refine ⟨fun cs c e => ?_, fun d hd hm => ?_, fun p hp d hd => ?_, qApartB_ok h4⟩
    · simp only at e; unfold noSel at h1; rw [e] at h1; simp at h1
    · simp only at hd hm; rw [hd] at h2; simp at h2; exact h2 hm
    · obtain ⟨p', hp', rfl⟩ := List.mem_map.1 hp
      have := List.all_eq_true.1 h3 p' hp'
      simp only at hd
      rw [hd] at this
      simp only [Bool.and_eq_true, decide_eq_true_eq, Bool.not_eq_true'] at this
      refine ⟨fun hm => ?_, this.2⟩
      have h5 := this.1
      simp at h5
      exact h5 hm

theorem flApartB_ok : ∀ {l : List NO}, flApartB l = true → l.Pairwise fun x y => x.1 ≠ y.1 ∧ ∀ d, x.2.dst = some d → y.2.dst ≠ some d
  | [], _ => List.Pairwise.nil
  | x :: r, h => by
    simp only [flApartB, Bool.and_eq_true] at h
    refine List.Pairwise.cons (fun y hy => ?_) (flApartB_ok h.2)
    have := List.all_eq_true.1 h.1 y hy
    simp only [Bool.and_eq_true, decide_eq_true_eq] at this
    refine ⟨this.1, fun d hd => ?_⟩
    have h2 := this.2
    rw [hd] at h2; simpa using h2
theorem flApartB'_ok : ∀ {l : List NO}, flApartB' l = true → l.Pairwise fun x y => x.1 ≠ y.1
  | [], _ => List.Pairwise.nil
  | x :: r, h => by
    simp only [flApartB', Bool.and_eq_true] at h
    refine List.Pairwise.cons (fun y hy => ?_) (flApartB'_ok h.2)
    simpa using List.all_eq_true.1 h.1 y hy

theorem chainB_ok {c : List (List Nat)} : ∀ {l : List NO}, chainB c l = true → ∀ m x y, l[m]? = some x → l[m + 1]? = some y → x.1 ∈ c.getD y.1 []
  | [], _, m, x, y, hx, _ => by simp at hx
  | [p], _, m, x, y, hx, hy => by
    cases m with
    | zero => simp at hy
    | succ m => simp at hx
  | p :: p' :: r, h, m, x, y, hx, hy => by
    obtain ⟨i, oi⟩ := p
    obtain ⟨j, oj⟩ := p'
    simp only [chainB, Bool.and_eq_true] at h
    cases m with
    | zero =>
      simp at hx hy; subst hx; subst hy
      simpa using h.1
    | succ m => exact chainB_ok h.2 m x y (by simpa using hx) (by simpa using hy)

/-- all is listed where nothing is ready -/
theorem all_listed {ops : Array Oper} (hd : ∀ (j : Nat) (o : Oper), ops[j]? = some o → ∀ e ∈ dirs o, e < j) {listed : Array Bool} (hc : Closed ops listed) (hr : Region.ready .any ops listed = []) :
    ∀ (j : Nat), j < ops.size → listed.getD j false = true := by
  intro j
  induction j using Nat.strongRecOn with
  | _ j ih =>
    intro hj
    refine Classical.byContradiction fun hne => ?_
    have hlt : j < listed.size := by rw [hc.1]; exact hj
    have h0 : listed.getD j true = false := by
      simp [Array.getD, hlt] at hne ⊢; exact hne
    have ho : ops[j]? = some ops[j] := Array.getElem?_eq_getElem hj
    have : j ∈ Region.ready .any ops listed := by
      refine mem_ready.2 ⟨h0, ops[j], ho, fun e he hb => ?_⟩
      have hmem : e.on ∈ dirs ops[j] := by
        unfold dirs; rw [List.mem_filterMap]
        exact ⟨e, by simpa using he, by simp [hb]⟩
      have hlt' := hd j _ ho e.on hmem
      exact ih e.on hlt' (by omega)
    rw [hr] at this; simp at this

theorem listed_of_true {listed : Array Bool} {j : Nat} (h : listed.getD j true = false) : listed.getD j false = false := by
  by_cases hlt : j < listed.size
  · simp [Array.getD, hlt] at h ⊢; exact h
  · simp [Array.getD, hlt]
end
end Go.Proofs.Ytelejhggpkfdoaa.SX

/-
  SX, part 27: the theorem on rows whose order is open.
-/
namespace Go.Proofs.Ytelejhggpkfdoaa.SX
set_option linter.unusedVariables false
set_option linter.unusedSimpArgs false
open Go.RowKit

theorem pw_sym {α : Type} {R : α → α → Prop} (hs : ∀ x y, R x y → R y x) (hr : ∀ x, R x x) : ∀ {l : List α}, l.Pairwise R → ∀ x ∈ l, ∀ y ∈ l, R x y
  | [], _, x, hx, _, _ => by simp at hx
  | z :: r, h, x, hx, y, hy => by
    cases h with
    | cons h1 h2 =>
      cases hx with
      | head => cases hy with
        | head => exact hr _
        | tail _ hy => exact h1 y hy
      | tail _ hx => cases hy with
        | head => exact hs _ _ (h1 x hx)
        | tail _ hy => exact pw_sym hs hr h2 x hx y hy

structure DPOK (ops : Array Oper) (d : DP) : Prop where
  clos : okClos ops d.c = true
  cover : ∀ (i : Nat) (o : Oper), ops[i]? = some o → (∃ y ∈ d.qs, y.1 = i) ∨ (∃ y ∈ d.fl, y.1 = i) ∨ (∃ y ∈ d.bl, y.1 = i)
  nosel : ∀ (i : Nat) (o : Oper), ops[i]? = some o → noSel o = true ∧ ∀ e ∈ dirs o, e < i
  look : ∀ (i : Nat) (o : Oper), ops[i]? = some o → ∀ k ∈ d.qs, ∀ t, k.2.dst = some t → t ∈ o.looksAt ops → k.1 ∈ d.c.getD i []
  own : ∀ (i : Nat) (o : Oper), ops[i]? = some o → ∀ k ∈ d.qs, k.1 ≠ i → ∀ t, o.dst = some t → k.2.dst ≠ some t
  wr : ∀ x ∈ d.qs ++ d.fl, ∀ j ∈ d.fl ++ d.bl, ∀ t, j.2.dst = some t → t ∈ x.2.looksAt ops → x.1 ∈ d.c.getD j.1 []
  chain : chainB d.c d.bl = true
  fbl : ∀ b ∈ d.bl, ∀ f ∈ d.fl, f.1 ∈ d.c.getD b.1 []
  guard : ∀ x ∈ d.fl ++ d.bl, x.2.guard = none ∧ ∀ y ∈ d.qs, y.1 ≠ x.1
  disj : ∀ x ∈ d.fl, ∀ y ∈ d.bl, y.1 ≠ x.1
  flA : flApartB d.fl = true
  qA : qApartB ops d.qs = true
  blA : flApartB' d.bl = true
  get : ∀ x, (x ∈ d.qs ∨ x ∈ d.fl ∨ x ∈ d.bl) → ops[x.1]? = some x.2

theorem okDP_ok {C : CfgX} {ops : Array Oper} (h : okDP ops (dpOf C ops) = true) : DPOK ops (dpOf C ops) := by
  have hget : ∀ x, (x ∈ (dpOf C ops).qs ∨ x ∈ (dpOf C ops).fl ∨ x ∈ (dpOf C ops).bl) → ops[x.1]? = some x.2 := fun x hx => dp_get C ops hx
  have hall : ∀ (i : Nat) (o : Oper), ops[i]? = some o → (i, o) ∈ (dpOf C ops).all := by
    intro i o ho
    have hlt := (Array.getElem?_eq_some_iff.1 ho).1
    have he := (Array.getElem?_eq_some_iff.1 ho).2
    have h1 : ((List.range ops.size).zip ops.toList)[i]'(by simp; exact hlt) = (i, o) := by simp [he]
    show (i, o) ∈ (List.range ops.size).zip ops.toList
    rw [← h1]; exact List.getElem_mem _
  generalize dpOf C ops = d at *
  unfold okDP at h
  simp only [Bool.and_eq_true] at h
  obtain ⟨⟨⟨⟨⟨⟨⟨⟨⟨⟨⟨⟨⟨h1, _⟩, h2⟩, h3⟩, h4⟩, h5⟩, h6⟩, h7⟩, h8⟩, h9⟩, h10⟩, h11⟩, h12⟩, h13⟩ := h
  refine ⟨h1, ?_, ?_, ?_, ?_, ?_, h7, ?_, ?_, ?_, h11, h12, h13, hget⟩
  · intro i o ho
    have := List.all_eq_true.1 h2 _ (hall i o ho)
    simp only [decide_eq_true_eq] at this
    rcases this with h | h | h
    · obtain ⟨y, hy, he⟩ := List.any_eq_true.1 h; exact .inl ⟨y, hy, by simpa using he⟩
    · obtain ⟨y, hy, he⟩ := List.any_eq_true.1 h; exact .inr (.inl ⟨y, hy, by simpa using he⟩)
    · obtain ⟨y, hy, he⟩ := List.any_eq_true.1 h; exact .inr (.inr ⟨y, hy, by simpa using he⟩)
  · intro i o ho
    have := List.all_eq_true.1 h3 _ (hall i o ho)
    simp only [Bool.and_eq_true] at this
    exact ⟨this.1, fun e he => by simpa using List.all_eq_true.1 this.2 e he⟩
  · intro i o ho k hk t hkt ht
    have := List.all_eq_true.1 (List.all_eq_true.1 h4 _ (hall i o ho)) k hk
    rw [hkt] at this
    simp only [Bool.or_eq_true, Bool.not_eq_true'] at this
    rcases this with h | h
    · simp at h; exact (h ht).elim
    · simpa using h
  · intro i o ho k hk hne t hot
    have := List.all_eq_true.1 (List.all_eq_true.1 h5 _ (hall i o ho)) k hk
    simp only [hot, Bool.or_eq_true] at this
    rcases this with h | h
    · simp at h; exact (hne h.symm).elim
    · simpa using h
  · intro x hx j hj t hjt ht
    have := List.all_eq_true.1 (List.all_eq_true.1 h6 x hx) j hj
    rw [hjt] at this
    simp only [Bool.or_eq_true, Bool.not_eq_true'] at this
    rcases this with h | h
    · simp at h; exact (h ht).elim
    · simpa using h
  · intro b hb f hf
    simpa using List.all_eq_true.1 (List.all_eq_true.1 h8 b hb) f hf
  · intro x hx
    have := List.all_eq_true.1 h9 x hx
    simp only [Bool.and_eq_true, Option.isNone_iff_eq_none, Bool.not_eq_true'] at this
    refine ⟨this.1, fun y hy e => ?_⟩
    have h2 := this.2
    rw [List.any_eq_false] at h2
    exact h2 y hy (by simp [e])
  · intro x hx y hy e
    have h2 := List.all_eq_true.1 h10 x hx
    simp only [Bool.not_eq_true'] at h2
    rw [List.any_eq_false] at h2
    exact h2 y hy (by simp [e])

section
variable {Γ : Ctx} {H : List Hd}

theorem Closed.mem {ops : Array Oper} {d : DP} (hD : DPOK ops d) {listed : Array Bool} (hc : Closed ops listed) {j : Nat} {o : Oper} (ho : ops[j]? = some o) (hl : listed.getD j false = true) : ∀ i ∈ d.c.getD j [], listed.getD i false = true :=
  okClos_listed hD.clos hc j (Array.getElem?_eq_some_iff.1 ho).1 fun o' ho' e he => hc.2 j o' ho' hl e he

theorem Closed.ready {ops : Array Oper} {d : DP} (hD : DPOK ops d) {listed : Array Bool} (hc : Closed ops listed) {j : Nat} (hr : j ∈ Region.ready .any ops listed) : ∀ i ∈ d.c.getD j [], listed.getD i false = true := by
  obtain ⟨_, o, ho, hd⟩ := ready_dirs hr
  exact okClos_listed hD.clos hc j (Array.getElem?_eq_some_iff.1 ho).1 fun o' ho' e he => by
    rw [ho] at ho'; injection ho' with e'; subst e'; exact hd e he

theorem drawE_ok {C : CfgX} (hC : C.toCfg.OK) (hP : Γ.P = C.P) (hm : C.P.follows .mixedOrders = true) : DrawOK Γ C.P (drawE C) := by
  intro id ops st k t H E a w Q h hr hlv hd hk
  unfold drawE at h
  simp only at h
  split at h
  · rename_i hcnd
    obtain ⟨hok, hs⟩ := hcnd
    have hD := okDP_ok hok
    generalize dpOf C ops = d at *
    generalize hCl' : (if d.qs.all (fun q => earlyB d q.1) = true then [] else st.h.filter (untouched (d.bl.flatMap fun b => touches ops st b.2))) = hCl at h
    have hClsub : hCl.Sublist st.h := by
      rw [← hCl']; split
      · exact List.nil_sublist _
      · exact List.filter_sublist
    have hfit := hr.e.fits
    have hsch := (St.sc_parts hs).2.1
    have hscC : hCl.all (It.sc st.sz) = true := List.all_eq_true.2 fun it hit => List.all_eq_true.1 hsch it (hClsub.subset hit)
    -- the world behind the draw
    have hr0 : RelΓ Γ st E a w.drew := ⟨hr.e, hr.size, hr.tm, hr.df, hr.heap.same (Nat.le_refl _) fun _ _ _ _ => rfl, hr.le, hr.kp.trans ⟨rfl, rfl, rfl, Nat.le_refl _, fun _ _ _ => rfl⟩⟩
    have hQh : ∀ q ∈ d.qs.map fun q => (⟨q.1, q.2, if earlyB d q.1 = true then st.h else hCl⟩ : QOp), q.h.all (It.sc st.sz) = true := by
      intro q hq
      obtain ⟨q', _, rfl⟩ := List.mem_map.1 hq
      simp only; split
      · exact hsch
      · exact hscC
    obtain ⟨stQ, tQ, EQ, aQ, k1, k2, k3, k4, k5, k6, k7, _, k9s, k9⟩ := qSeq_ok hC hP (ops := ops) (E0 := E) hfit _ st _ t E a w.drew (qApartB_ok hD.qA) hQh (Env.le_refl E) h hr0 hd
    split at k1
    · rename_i FL hFL
      split at k1
      · rename_i hFsc
        obtain ⟨hFLm, hFLf⟩ := floatsOf_map k2.ev hFL
        have hflmem : ∀ f ∈ FL, (f.i, f.o) ∈ d.fl := fun f hf => by rw [← hFLm]; exact List.mem_map.2 ⟨f, hf, rfl⟩
        have hmemfl : ∀ x ∈ d.fl, ∃ f ∈ FL, f.i = x.1 ∧ f.o = x.2 := fun x hx => by
          rw [← hFLm] at hx; obtain ⟨f, hf, rfl⟩ := List.mem_map.1 hx; exact ⟨f, hf, rfl, rfl⟩
        have hFLp : FL.Pairwise fun f g => f.i ≠ g.i ∧ ∀ dd, f.o.dst = some dd → g.o.dst ≠ some dd := by
          have := flApartB_ok hD.flA
          rw [← hFLm, List.pairwise_map] at this; exact this
        -- the values of what only computes
        have hv : ∀ i, ∃ v, ∀ q ∈ d.qs, q.1 = i → QFact Γ C.P ops E ⟨q.1, q.2, if earlyB d q.1 = true then st.h else hCl⟩ aQ v := by
          intro i
          by_cases hex : ∃ q ∈ d.qs, q.1 = i
          · obtain ⟨q, hq, hqi⟩ := hex
            obtain ⟨v, hv⟩ := k7 _ (List.mem_map.2 ⟨q, hq, rfl⟩)
            refine ⟨v, fun q' hq' hqi' => ?_⟩
            have e1 := hD.get q (.inl hq)
            have e2 := hD.get q' (.inl hq')
            rw [hqi] at e1; rw [hqi', e1] at e2; injection e2 with e2
            have : q' = q := Prod.ext (hqi'.trans hqi.symm) e2.symm
            rw [this]; exact hv
          · exact ⟨undef, fun q hq hqi => (hex ⟨q, hq, hqi⟩).elim⟩
        obtain ⟨v, hv⟩ := Classical.axiomOfChoice hv
        let q : Nat → Bool := fun i => d.qs.any fun y => y.1 == i
        have hqmem : ∀ i, q i = true → ∃ y ∈ d.qs, y.1 = i := fun i hi => by
          obtain ⟨y, hy, he⟩ := List.any_eq_true.1 hi; exact ⟨y, hy, by simpa using he⟩
        have hqof : ∀ i o, q i = true → ops[i]? = some o → (i, o) ∈ d.qs := fun i o hi ho => by
          obtain ⟨y, hy, rfl⟩ := hqmem i hi
          have := hD.get y (.inl hy)
          rw [ho] at this; injection this with e; rw [e]; exact hy
        have hnq : ∀ i o, q i = false → ops[i]? = some o → (i, o) ∈ d.fl ∨ (i, o) ∈ d.bl := fun i o hi ho => by
          rcases hD.cover i o ho with ⟨y, hy, rfl⟩ | ⟨y, hy, rfl⟩ | ⟨y, hy, rfl⟩
          · have : q y.1 = true := List.any_eq_true.2 ⟨y, hy, by simp⟩
            rw [hi] at this; cases this
          · have := hD.get y (.inr (.inl hy)); rw [ho] at this; injection this with e; rw [e]; exact .inl hy
          · have := hD.get y (.inr (.inr hy)); rw [ho] at this; injection this with e; rw [e]; exact .inr hy
        have hnq' : ∀ x ∈ d.fl ++ d.bl, q x.1 = false := fun x hx => by
          cases hq' : q x.1 with
          | false => rfl
          | true => obtain ⟨y, hy, he⟩ := hqmem x.1 hq'; exact ((hD.guard x hx).2 y hy he).elim
        -- the assertion
        let Cm : Array Bool → Act → Prop := fun listed b => b.tmps.size = aQ.tmps.size ∧ b.defers = [] ∧
          ∀ t, (∀ x ∈ d.fl ++ d.bl, listed.getD x.1 false = true → x.2.dst ≠ some t) → b.tmps.getD t undef = aQ.tmps.getD t undef
        let Z1 : Array Bool → Act → World → Prop := fun listed b w => Cm listed b ∧ (∀ x ∈ d.bl, listed.getD x.1 false = false) ∧ Cl Γ st.h E w ∧
          ∃ β : Nat → Nat, (∀ f ∈ FL, listed.getD f.i false = true → FFact Γ f (β f.i) EQ w ∧ (∀ y ∈ st.h, β f.i ∉ y.fp E) ∧ ∀ dd, f.o.dst = some dd → dd < b.tmps.size → b.tmps.getD dd undef = f.val (β f.i)) ∧
            (∀ f ∈ FL, ∀ g ∈ FL, listed.getD f.i false = true → listed.getD g.i false = true → f.i ≠ g.i → β f.i ≠ β g.i)
        let Z2 : Array Bool → Act → World → Prop := fun listed b w => Cm listed b ∧ ∃ n st' t' E', 0 < n ∧ n ≤ d.bl.length ∧ bSeq C hCl ((d.bl.drop n).map (·.2)) st' k = some t' ∧ RelΓ Γ st' E' b w ∧ st'.lv = st.lv ∧ E.le E' ∧ t'.den Γ H E' ∧
          keeps hCl st'.h = true ∧ ∀ m x, d.bl[m]? = some x → (listed.getD x.1 false = true ↔ m < n)
        -- what looks at what
        have agree : ∀ listed b i o, Cm listed b → Closed ops listed → (i, o) ∈ d.qs ++ d.fl → listed.getD i false = false → ∀ x ∈ o.looksAt ops, b.tmps.getD x undef = aQ.tmps.getD x undef := by
          intro listed b i o hcm hc hmem hl x hx
          refine hcm.2.2 x fun y hy hly hdy => ?_
          have := hD.wr (i, o) hmem y hy x hdy hx
          have hy' : ops[y.1]? = some y.2 := hD.get y (by rcases List.mem_append.1 hy with h | h; exact .inr (.inl h); exact .inr (.inr h))
          have := Closed.mem hD hc hy' hly i this
          rw [hl] at this; cases this
        have execEq : ∀ listed b i o, Cm listed b → Closed ops listed → (i, o) ∈ d.qs ++ d.fl → listed.getD i false = false → execOp b.eval o = execOp aQ.eval o := by
          intro listed b i o hcm hc hmem hl
          have ho : ops[i]? = some o := by
            rcases List.mem_append.1 hmem with h | h
            · exact hD.get (i, o) (.inl h)
            · exact hD.get (i, o) (.inr (.inl h))
          refine execOp_congr o (fun cs c e => ?_) fun x hx => ?_
          · have := (hD.nosel i o ho).1; unfold noSel at this; rw [e] at this; simp at this
          · cases x with
            | tmp t => exact agree listed b i o hcm hc hmem hl t (List.mem_append_left _ (List.mem_filterMap.2 ⟨.tmp t, by simpa using hx, rfl⟩))
            | _ => rfl
        have wantEq : ∀ listed b i o, Cm listed b → Closed ops listed → (i, o) ∈ d.qs ++ d.fl → listed.getD i false = false → Region.wanted o (yielded ops b.tmps) = Region.wanted o (yielded ops aQ.tmps) := by
          intro listed b i o hcm hc hmem hl
          unfold Region.wanted
          cases hg : o.guard with
          | none => rfl
          | some g =>
            obtain ⟨j, want⟩ := g
            simp only
            have : yielded ops b.tmps j = yielded ops aQ.tmps j := by
              unfold yielded
              cases hdj : (ops[j]?).bind (·.dst) with
              | none => rfl
              | some dd =>
                have hmem' : dd ∈ o.looksAt ops := by
                  unfold Oper.looksAt
                  refine List.mem_append_right _ ?_
                  rw [hg]; simp [hdj]
                have ht := agree listed b i o hcm hc hmem hl dd hmem'
                simp only [Option.bind_some]
                rcases Nat.lt_or_ge dd b.tmps.size with hlt | hge
                · have hlt' : dd < aQ.tmps.size := by rw [← hcm.1]; exact hlt
                  rw [Array.getElem?_eq_getElem hlt, Array.getElem?_eq_getElem hlt']
                  simp only [Array.getD, hlt, hlt', ↓reduceDIte] at ht
                  have ht' : b.tmps[dd] = aQ.tmps[dd] := by simpa using ht
                  rw [ht']
                · rw [Array.getElem?_eq_none hge, Array.getElem?_eq_none (by rw [← hcm.1]; exact hge)]
            rw [this]
        -- a q that waits
        have h1g : ∀ listed b w i o, Cm listed b → Closed ops listed → Pend q listed i → ops[i]? = some o → Cl Γ (if earlyB d i = true then st.h else hCl) E w →
            (∀ dd, o.dst = some dd → dd < b.tmps.size → b.tmps.getD dd undef = v i) ∧
            ((Region.wanted o (yielded ops b.tmps) = true ∧ YldAt C.P o b w (v i)) ∨ (Region.wanted o (yielded ops b.tmps) = false ∧ v i = undef)) := by
          intro listed b w i o hcm hc hp ho hcl
          have hmem := hqof i o hp.1 ho
          have hl : listed.getD i false = false := listed_of_true hp.2
          obtain ⟨f1, f2⟩ := hv i (i, o) hmem rfl
          have hmem' : (i, o) ∈ d.qs ++ d.fl := List.mem_append_left _ hmem
          refine ⟨fun dd hdd hlt => ?_, ?_⟩
          · rw [hcm.2.2 dd fun x hx _ hxd => ?_]
            · exact f1 dd hdd (by rw [← hcm.1]; exact hlt)
            · have hx' : ops[x.1]? = some x.2 := hD.get x (by rcases List.mem_append.1 hx with h | h; exact .inr (.inl h); exact .inr (.inr h))
              exact hD.own x.1 x.2 hx' (i, o) hmem ((hD.guard x hx).2 _ hmem) dd hxd hdd
          · rw [wantEq listed b i o hcm hc hmem' hl]
            rcases f2 with ⟨f2, f3⟩ | ⟨f2, f3⟩
            · refine .inl ⟨f2, ?_⟩
              have := f3 w hcl
              unfold YldAt at *
              rw [execEq listed b i o hcm hc hmem' hl]; exact this
            · exact .inr ⟨f2, f3⟩
        have hsetne : ∀ listed : Array Bool, ∀ i j, i ≠ j → (listed.setIfInBounds i true).getD j false = listed.getD j false := fun listed i j hne => getD_set_ne false hne
        have hblP : ∀ x ∈ d.bl, ∀ y ∈ d.bl, x.1 = y.1 → x = y := fun x hx y hy e => by
          have e1 := hD.get x (.inr (.inr hx)); have e2 := hD.get y (.inr (.inr hy))
          rw [e, e2] at e1; injection e1 with e1
          exact Prod.ext e e1.symm
        have hFLi : ∀ f ∈ FL, ∀ g ∈ FL, f.i = g.i → f = g := pw_sym (R := fun f g => f.i = g.i → f = g) (fun x y h e => (h e.symm).symm) (fun x _ => rfl) (hFLp.imp fun {x y} h e => (h.1 e).elim)
        have hFLd : ∀ f ∈ FL, ∀ g ∈ FL, f.i ≠ g.i → ∀ dd, f.o.dst = some dd → g.o.dst ≠ some dd :=
          pw_sym (R := fun f g => f.i ≠ g.i → ∀ dd, f.o.dst = some dd → g.o.dst ≠ some dd) (fun x y h e dd h1 h2 => h (Ne.symm e) dd h2 h1) (fun x e => (e rfl).elim) (hFLp.imp fun {x y} h _ => h.2)
        have hposm : ∀ (m : Nat) (x : NO) n (y : NO), d.bl[m]? = some x → d.bl[n]? = some y → x.1 = y.1 → m = n := by
          have hp : d.bl.Pairwise fun x y => x.1 ≠ y.1 := flApartB'_ok hD.blA
          rw [List.pairwise_iff_getElem] at hp
          intro m x n y hx hy e
          obtain ⟨hm1, hm2⟩ := List.getElem?_eq_some_iff.1 hx
          obtain ⟨hn1, hn2⟩ := List.getElem?_eq_some_iff.1 hy
          rcases Nat.lt_trichotomy m n with h | h | h
          · exact (hp m n hm1 hn1 h (by rw [hm2, hn2]; exact e)).elim
          · exact h
          · exact (hp n m hn1 hm1 h (by rw [hm2, hn2]; exact e.symm)).elim
        -- all the floating memory is taken in
        have adopt : ∀ listed b w, Z1 listed b w → (∀ f ∈ FL, listed.getD f.i false = true) →
            ∃ st' t' E', bSeq C hCl (d.bl.map (·.2)) st' k = some t' ∧ RelΓ Γ st' E' b w ∧ st'.lv = st.lv ∧ E.le E' ∧ t'.den Γ H E' ∧ keeps hCl st'.h = true := by
          intro listed b w hz hall
          obtain ⟨hcm, hbln, hcl, β, hb1, hb2⟩ := hz
          have hrQ : RelΓ Γ stQ EQ aQ w := ⟨k2.e, k2.size, k2.tm, k2.df, by rw [k4]; exact hcl.1.le hfit k5 hsch, hcl.2.1, hcl.2.2⟩
          have hfps : ∀ y ∈ st.h, y.fp EQ = y.fp E := fun y hy => It.fp_le hfit k5 y (List.all_eq_true.1 hsch y hy)
          obtain ⟨st', t', E', a', g1, g2, g3, g4, g5, g6, g7, g8⟩ := flPhase_ok (EQ := EQ) k2.e.fits (β := β) FL stQ _ tQ EQ aQ w
            (fun f hf => (floatOf_run (hFLf f hf) k2.ev w).2.2.1) (fun f hf => List.all_eq_true.1 hFsc f hf) (Env.le_refl EQ) k1 hrQ k6
            (fun f hf => ⟨(hb1 f hf (hall f hf)).1, fun y hy => by rw [k4] at hy; rw [hfps y hy]; exact (hb1 f hf (hall f hf)).2.1 y hy⟩)
            (hFLp.imp_of_mem fun {f g} hf hg h => ⟨hb2 f hf g hg (hall f hf) (hall g hg) h.1, h.2⟩)
          have eab : a' = b := by
            have hd1 := g2.df
            have hd2 := hcm.2.1
            cases a' with | mk at' ad => cases b with | mk bt bd =>
            simp only at hd1 hd2
            subst hd1; subst hd2
            have hsz : at'.size = bt.size := g6.trans hcm.1.symm
            have : at' = bt := by
              apply Array.ext hsz
              intro i h1 h2
              have hkey : at'.getD i undef = bt.getD i undef := by
                by_cases hex : ∃ f ∈ FL, f.o.dst = some i
                · obtain ⟨f, hf, hfd⟩ := hex
                  have e1 := g8 f hf i hfd (by rw [← g6]; exact h1)
                  have e2 := (hb1 f hf (hall f hf)).2.2 i hfd h2
                  exact e1.trans e2.symm
                · rw [g7 i fun f hf e => hex ⟨f, hf, e⟩]
                  refine (hcm.2.2 i fun x hx hxl hxd => ?_).symm
                  rcases List.mem_append.1 hx with hx | hx
                  · obtain ⟨f, hf, _, hfo⟩ := hmemfl x hx
                    exact hex ⟨f, hf, by rw [hfo]; exact hxd⟩
                  · have := hbln x hx
                    rw [hxl] at this; cases this
              simp only [Array.getD, h1, h2, ↓reduceDIte] at hkey
              simpa using hkey
            rw [this]
          split at g1
          · rename_i hkeep
            rw [eab] at g2
            exact ⟨st', t', E', g1, g2, g3.trans k3, k5.trans g4, g5, hkeep⟩
          · simp at g1
        -- one of the rest
        have bGo : ∀ listed b w n j o st1 t1 E1 Q, Cm listed b → Closed ops listed → listed.getD j true = false → d.bl[n]? = some (j, o) → bSeq C hCl ((d.bl.drop n).map (·.2)) st1 k = some t1 → RelΓ Γ st1 E1 b w → st1.lv = st.lv → E.le E1 → t1.den Γ H E1 →
            (∀ m x, d.bl[m]? = some x → (listed.getD x.1 false = true ↔ m < n)) → o.wp C.P b w (Z2 (listed.setIfInBounds j true)) Q := by
          intro listed b w n j o st1 t1 E1 Q' hcm hc hjl hn hb hr1 hlv1 hl1 hd1 hiff
          obtain ⟨hn1, hn2⟩ := List.getElem?_eq_some_iff.1 hn
          rw [List.drop_eq_getElem_cons hn1, hn2, List.map_cons] at hb
          refine Oper.wp_mono (fun b' w' hb' => ?_) (bStep hC hP Q' hb hr1 hd1)
          obtain ⟨⟨st', t', E', g1, g2, g3, g4, g5, g6⟩, u, hu⟩ := hb'
          have hjmem : (j, o) ∈ d.bl := List.mem_of_getElem? hn
          refine ⟨⟨?_, g2.df, ?_⟩, n + 1, st', t', E', Nat.succ_pos _, hn1, g1, g2, g3.trans hlv1, hl1.trans g4, g5, g6, ?_⟩
          · rw [hu, Act.put_size]; exact hcm.1
          · intro t ht
            rw [hu, put_getD, if_neg]
            · refine hcm.2.2 t fun x hx hxl => ht x hx ?_
              by_cases e : j = x.1
              · rw [← e]; exact getD_set_self hjl false
              · rw [hsetne _ _ _ e]; exact hxl
            · rintro ⟨e, _⟩
              exact ht (j, o) (List.mem_append_right _ hjmem) (getD_set_self hjl false) e
          · intro m x hx
            by_cases e : m = n
            · subst e
              rw [hn] at hx; injection hx with hx; subst hx
              exact ⟨fun _ => Nat.lt_succ_self _, fun _ => getD_set_self hjl false⟩
            · have hne : j ≠ x.1 := fun e' => e (hposm m x n (j, o) hx hn e'.symm)
              rw [hsetne _ _ _ hne, hiff m x hx]
              omega
        have lateCl : ∀ st1 E1 b w, RelΓ Γ st1 E1 b w → E.le E1 → keeps hCl st1.h = true → Cl Γ hCl E w := fun st1 E1 b w hr1 hl1 hk1 =>
          ⟨HOK.ge hfit hl1 hscC (hr1.heap.sub (keeps_ok hk1)), hr1.le, hr1.kp⟩
        have hq_notfl : ∀ i, q i = true → ∀ x ∈ d.fl ++ d.bl, i ≠ x.1 := fun i hi x hx e => by
          have := hnq' x hx; rw [← e, hi] at this; cases this
        refine wp_region_any hm (draw_gen q v (fun listed b w => Z1 listed b w ∨ Z2 listed b w) ?_ ?_ ?_ ?_ ?_ ?_ ?_ (a := aQ) (w := w.drew) ?_ ?_)
        · intro i o cs c ho e
          have := (hD.nosel i o ho).1
          unfold noSel at this; rw [e] at this; simp at this
        · rintro listed b w' i o (hz | hz) hc hp hi ho
          · refine h1g listed b w' i o hz.1 hc hp ho ?_
            split
            · exact hz.2.2.1
            · exact ⟨hz.2.2.1.1.sub hClsub, hz.2.2.1.2⟩
          · obtain ⟨hcm, n, st1, t1, E1, hn0, hnl, hb, hr1, hlv1, hl1, hd1, hk1, hiff⟩ := hz
            refine h1g listed b w' i o hcm hc hp ho ?_
            have hlate : earlyB d i = false := by
              cases hbl : d.bl with
              | nil => rw [hbl] at hnl; simp at hnl; omega
              | cons b0 r =>
                have hb0 : d.bl[0]? = some b0 := by rw [hbl]; rfl
                unfold earlyB; rw [hbl]; simp only
                cases hcon : (d.c.getD b0.1 []).contains i with
                | false => rfl
                | true =>
                  have hl0 := (hiff 0 b0 hb0).2 hn0
                  have := Closed.mem hD hc (hD.get b0 (.inr (.inr (by rw [hbl]; exact List.mem_cons_self ..)))) hl0 i (by simpa using hcon)
                  have h2 := listed_of_true hp.2
                  rw [this] at h2; cases h2
            rw [hlate, if_neg (by simp)]
            exact lateCl st1 E1 b w' hr1 hl1 hk1
        · rintro listed b w' i w'' (hz | hz) hc hp hi hbel
          · obtain ⟨hcm, hbl, hcl, β, hb1, hb2⟩ := hz
            have hset : ∀ x ∈ d.fl ++ d.bl, (listed.setIfInBounds i true).getD x.1 false = listed.getD x.1 false := fun x hx => hsetne _ _ _ (hq_notfl i hp.1 x hx)
            refine .inl ⟨⟨hcm.1, hcm.2.1, fun t ht => hcm.2.2 t fun x hx hxl => ht x hx (by rw [hset x hx]; exact hxl)⟩, fun x hx => by rw [hset x (List.mem_append_right _ hx)]; exact hbl x hx,
              ⟨hcl.1.below hbel, Nat.le_trans hcl.2.1 hbel.size, hcl.2.2.trans (.of_below (hbel.mono hcl.2.1))⟩, β, fun f hf hfl => ?_, fun f hf g hg hfl hgl => ?_⟩
            · have := hset _ (List.mem_append_left _ (hflmem f hf))
              rw [this] at hfl
              obtain ⟨c1, c2, c3⟩ := hb1 f hf hfl
              exact ⟨⟨by rw [hbel.block _ c1.lt]; exact c1.cells, c1.ge, Nat.lt_of_lt_of_le c1.lt hbel.size⟩, c2, c3⟩
            · rw [hset _ (List.mem_append_left _ (hflmem f hf))] at hfl
              rw [hset _ (List.mem_append_left _ (hflmem g hg))] at hgl
              exact hb2 f hf g hg hfl hgl
          · obtain ⟨hcm, n, st1, t1, E1, hn0, hnl, hb, hr1, hlv1, hl1, hd1, hk1, hiff⟩ := hz
            have hset : ∀ x ∈ d.fl ++ d.bl, (listed.setIfInBounds i true).getD x.1 false = listed.getD x.1 false := fun x hx => hsetne _ _ _ (hq_notfl i hp.1 x hx)
            refine .inr ⟨⟨hcm.1, hcm.2.1, fun t ht => hcm.2.2 t fun x hx hxl => ht x hx (by rw [hset x hx]; exact hxl)⟩, n, st1, t1, E1, hn0, hnl, hb, Rel.below hr1 hbel, hlv1, hl1, hd1, hk1, fun m x hx => ?_⟩
            rw [hset x (List.mem_append_right _ (List.mem_of_getElem? hx))]; exact hiff m x hx
        · intro listed b w' j o hz hc hqj hj ho
          obtain ⟨hj0, _⟩ := ready_dirs hj
          have hjf := listed_of_true hj0
          rcases hnq j o hqj ho with hfl | hbl
          · refine ⟨(hD.guard (j, o) (List.mem_append_left _ hfl)).1, fun Q' => ?_⟩
            rcases hz with hz | hz
            · obtain ⟨hcm, hbln, hcl, β, hb1, hb2⟩ := hz
              obtain ⟨f, hf, hfi, hfo⟩ := hmemfl (j, o) hfl
              simp only at hfi hfo
              obtain ⟨_, _, _, hrun⟩ := floatOf_run (hFLf f hf) k2.ev w'
              rw [hfo, ← execEq listed b j o hcm hc (List.mem_append_right _ hfl) hjf] at hrun
              refine wp_value hrun (.inl ?_)
              have hbel : Below w'.heap.size w' (w'.alloc (.cells (f.cs.map (CV.den EQ)).toArray f.ty)) := (Below.refl _ _).alloc (Nat.le_refl _) _
              have hbl' : ∀ x ∈ d.bl, j ≠ x.1 := fun x hx e => hD.disj (j, o) hfl x hx e.symm
              have hfn : ∀ g ∈ FL, g.i ≠ j → (listed.setIfInBounds j true).getD g.i false = true → listed.getD g.i false = true := fun g hg hne hgl => by
                rw [hsetne _ _ _ (Ne.symm hne)] at hgl; exact hgl
              refine ⟨⟨by rw [Act.put_size]; exact hcm.1, by cases o.dst <;> exact hcm.2.1, fun t ht => ?_⟩, fun x hx => by rw [hsetne _ _ _ (hbl' x hx)]; exact hbln x hx,
                ⟨hcl.1.below hbel, Nat.le_trans hcl.2.1 hbel.size, hcl.2.2.trans (.of_below (hbel.mono hcl.2.1))⟩, fun i => if i = j then w'.heap.size else β i, fun g hg hgl => ?_, fun g hg g' hg' hgl hgl' hne => ?_⟩
              · rw [put_getD, if_neg]
                · refine hcm.2.2 t fun x hx hxl => ht x hx ?_
                  by_cases e : j = x.1
                  · rw [← e]; exact getD_set_self hj0 false
                  · rw [hsetne _ _ _ e]; exact hxl
                · rintro ⟨e, _⟩
                  exact ht (j, o) (List.mem_append_left _ hfl) (getD_set_self hj0 false) e
              · by_cases e : g.i = j
                · have eg : g = f := hFLi g hg f hf (e.trans hfi.symm)
                  subst eg
                  simp only [e, ↓reduceIte]
                  refine ⟨⟨heap_alloc_new w' _, hcl.2.1, by simp⟩, fun y hy hm => absurd (hcl.1.lt y hy _ hm) (Nat.lt_irrefl _), fun dd hdd hlt => ?_⟩
                  rw [put_getD, if_pos ⟨by rw [← hfo]; exact hdd, by rw [Act.put_size] at hlt; exact hlt⟩]
                · simp only [if_neg e]
                  obtain ⟨c1, c2, c3⟩ := hb1 g hg (hfn g hg e hgl)
                  refine ⟨⟨by rw [hbel.block _ c1.lt]; exact c1.cells, c1.ge, Nat.lt_of_lt_of_le c1.lt hbel.size⟩, c2, fun dd hdd hlt => ?_⟩
                  rw [put_getD, if_neg]
                  · exact c3 dd hdd (by rw [Act.put_size] at hlt; exact hlt)
                  · rintro ⟨e', _⟩
                    exact hFLd g hg f hf (fun e2 => e (e2.trans hfi)) dd hdd (by rw [hfo]; exact e')
              · by_cases e : g.i = j
                · have e' : g'.i ≠ j := fun e' => hne (e.trans e'.symm)
                  simp only [if_pos e, if_neg e']
                  have := (hb1 g' hg' (hfn g' hg' e' hgl')).1.lt
                  omega
                · by_cases e' : g'.i = j
                  · simp only [if_neg e, if_pos e']
                    have := (hb1 g hg (hfn g hg e hgl)).1.lt
                    omega
                  · simp only [if_neg e, if_neg e']
                    exact hb2 g hg g' hg' (hfn g hg e hgl) (hfn g' hg' e' hgl') hne
            · obtain ⟨hcm, n, st1, t1, E1, hn0, hnl, hb, hr1, hlv1, hl1, hd1, hk1, hiff⟩ := hz
              exfalso
              cases hbl : d.bl with
              | nil => rw [hbl] at hnl; simp at hnl; omega
              | cons b0 r =>
                have hb0 : d.bl[0]? = some b0 := by rw [hbl]; rfl
                have hmem0 : b0 ∈ d.bl := by rw [hbl]; exact List.mem_cons_self ..
                have := Closed.mem hD hc (hD.get b0 (.inr (.inr hmem0))) ((hiff 0 b0 hb0).2 hn0) j (hD.fbl b0 hmem0 (j, o) hfl)
                rw [hjf] at this; cases this
          · refine ⟨(hD.guard (j, o) (List.mem_append_right _ hbl)).1, fun Q' => ?_⟩
            obtain ⟨m, hm⟩ := List.mem_iff_getElem?.1 hbl
            have hprev : ∀ m', m = m' + 1 → ∃ x, d.bl[m']? = some x ∧ listed.getD x.1 false = true := by
              intro m' e
              subst e
              obtain ⟨hm1, _⟩ := List.getElem?_eq_some_iff.1 hm
              have hx : d.bl[m']? = some (d.bl[m']'(by omega)) := List.getElem?_eq_getElem (by omega)
              exact ⟨_, hx, Closed.ready hD hc hj _ (chainB_ok hD.chain m' _ _ hx hm)⟩
            refine Oper.wp_mono (fun _ _ h => Or.inr h) ?_
            rcases hz with hz | hz
            · have hm0 : m = 0 := by
                cases m with
                | zero => rfl
                | succ m' =>
                  obtain ⟨x, hx, hxl⟩ := hprev m' rfl
                  have := hz.2.1 x (List.mem_of_getElem? hx)
                  rw [hxl] at this; cases this
              subst hm0
              obtain ⟨st1, t1, E1, g1, g2, g3, g4, g5, g6⟩ := adopt listed b w' hz fun f hf => Closed.ready hD hc hj _ (hD.fbl (j, o) hbl (f.i, f.o) (hflmem f hf))
              refine bGo listed b w' 0 j o st1 t1 E1 Q' hz.1 hc hj0 hm (by simpa using g1) g2 g3 g4 g5 fun m x hx => ?_
              rw [hz.2.1 x (List.mem_of_getElem? hx)]; simp
            · obtain ⟨hcm, n, st1, t1, E1, hn0, hnl, hb, hr1, hlv1, hl1, hd1, hk1, hiff⟩ := hz
              have hge : ¬ m < n := fun hlt => by
                have := (hiff m (j, o) hm).2 hlt
                simp only at this
                rw [hjf] at this; cases this
              have hmn : m = n := by
                cases m with
                | zero => omega
                | succ m' =>
                  obtain ⟨x, hx, hxl⟩ := hprev m' rfl
                  have := (hiff m' x hx).1 hxl
                  omega
              subst hmn
              exact bGo listed b w' m j o st1 t1 E1 Q' hcm hc hj0 hm hb hr1 hlv1 hl1 hd1 hiff
        · intro listed b w' hz hc hr0'
          have hall := all_listed (ops := ops) (fun j o ho => (hD.nosel j o ho).2) hc hr0'
          have hallm : ∀ x, (x ∈ d.qs ∨ x ∈ d.fl ∨ x ∈ d.bl) → listed.getD x.1 false = true := fun x hx =>
            hall x.1 (Array.getElem?_eq_some_iff.1 (hD.get x hx)).1
          refine ⟨fun i hp => ?_, ?_⟩
          · obtain ⟨y, hy, rfl⟩ := hqmem i hp.1
            have := hallm y (.inl hy)
            rw [listed_of_true hp.2] at this; cases this
          · rcases hz with hz | hz
            · obtain ⟨st1, t1, E1, g1, g2, g3, g4, g5, g6⟩ := adopt listed b w' hz fun f hf => hallm _ (.inr (.inl (hflmem f hf)))
              have hnil : d.bl = [] := by
                cases hbl : d.bl with
                | nil => rfl
                | cons b0 r =>
                  have hmem0 : b0 ∈ d.bl := by rw [hbl]; exact List.mem_cons_self ..
                  have := hallm b0 (.inr (.inr hmem0))
                  rw [hz.2.1 b0 hmem0] at this; cases this
              rw [hnil] at g1
              exact hk st1 t1 E1 b w' g1 g2 g3 g4 g5
            · obtain ⟨hcm, n, st1, t1, E1, hn0, hnl, hb, hr1, hlv1, hl1, hd1, hk1, hiff⟩ := hz
              have hn : n = d.bl.length := by
                rcases Nat.lt_or_ge n d.bl.length with h | h
                · have hx : d.bl[n]? = some d.bl[n] := List.getElem?_eq_getElem h
                  have := (hiff n _ hx).1 (hallm _ (.inr (.inr (List.getElem_mem h))))
                  omega
                · omega
              rw [hn, List.drop_length] at hb
              exact hk st1 t1 E1 b w' hb hr1 hlv1 hl1 hd1
        · intro listed i o kk o' hc hi ho hp ho' t ht hdt
          have := Closed.ready hD hc hi kk (hD.look i o ho (kk, o') (hqof kk o' hp.1 ho') t hdt ht)
          rw [listed_of_true hp.2] at this; cases this
        · intro i o kk o' ho ho' hkq hne hdn e
          cases hdo : o.dst with
          | none => exact hdn hdo
          | some t => exact hD.own i o ho (kk, o') (hqof kk o' hkq ho') (Ne.symm hne) t hdo (by rw [← hdo]; exact e.symm)
        · have hrep : ∀ i, (Array.replicate ops.size false).getD i false = false := fun i => by
            by_cases hi : i < ops.size <;> simp [Array.getD, hi]
          refine .inl ⟨⟨rfl, k2.df, fun t _ => rfl⟩, fun x _ => hrep _, ⟨hr0.heap, hr0.le, hr0.kp⟩, fun _ => 0, fun f _ hfl => ?_, fun f _ g _ hfl => ?_⟩
          · rw [hrep] at hfl; cases hfl
          · rw [hrep] at hfl; cases hfl
        · refine ⟨k9s.symm, by rw [hr.df, k2.df], fun t ht => (k9 t fun p hp e => ?_).symm⟩
          obtain ⟨y, hy, rfl⟩ := List.mem_map.1 hp
          have hy' := hD.get y (.inl hy)
          refine ht y.1 y.2 ⟨List.any_eq_true.2 ⟨y, hy, by simp⟩, ?_⟩ hy' e
          have := (Array.getElem?_eq_some_iff.1 hy').1
          simp [Array.getD, this]
      · simp at k1
    · simp at k1
  · simp at h
end
end Go.Proofs.Ytelejhggpkfdoaa.SX

/-
  SX, part 28: a function that hands back a pointer to a block of its own.
-/
namespace Go.Proofs.Ytelejhggpkfdoaa.SX
set_option linter.unusedVariables false
set_option linter.unusedSimpArgs false
open Go.RowKit

def retP (fn : Func) (ty : TypeId) : KE := fun e st =>
  match e with
  | .ex _ => none
  | _ => match fn.results.toList with
    | [.tmp t] => (match st.t.getD t .junk with
      | .p (.c (.ptr n 0)) => (match findBlk st.h n with
        | some (ty', cs, true) => if ty = ty' then some (.ret [.c (.ptr n 0)] [cs]) else none
        | _ => none)
      | _ => none)
    | _ => none

def runFnP (C : CfgX) (an : Nat → LA) (dr : DrawF) (fn : Func) (ty : TypeId) (args : List PV) (st0 : St) : Option T :=
  match fn.body with
  | some c =>
    let st := { st0 with t := args.map TV.p ++ List.replicate (fn.ntmps - args.length) .junk, lv := 0 }
    eng C an dr c st (retP fn ty)
  | none => none

def PostP (Γ : Ctx) (w : World) (ty : TypeId) (e : Ending) (w' : World) : Prop :=
  ∃ b cs, e = .returned (.pointer (some ⟨b, 0, none⟩)) ∧ Γ.Q (.pointer (some ⟨b, 0, none⟩)) [] [cs] ∧ Kp Γ.B Γ.S w w' ∧ (Γ.B ≤ b ∨ b ∈ Γ.S) ∧ w'.heap[b]? = some (.cells cs.toArray ty (0, 0))

section
variable {Γ : Ctx}
theorem runFnP_ok {C : CfgX} (hC : C.toCfg.OK) (hP : Γ.P = C.P) {an : Nat → LA} {dr : DrawF} (hdr : DrawOK Γ C.P dr) {f : FuncId} {fn : Func} (hf : C.P.funcs[f]? = some fn)
    {ty : TypeId} {args : List PV} {st0 : St} {t : T} (h : runFnP C an dr fn ty args st0 = some t) (hn : args.length ≤ fn.ntmps)
    {E : Env} {w : World} (hw : Γ.w0 = w) (hB : Γ.B ≤ w.heap.size) (hE : EOK st0 E) (hH : HOK Γ.B Γ.S st0.h E w) (hd : t.den Γ [] E) :
    Calls C.P f (args.map (PV.den E)).toArray w (PostP Γ w ty) := by
  unfold runFnP at h
  split at h
  · rename_i c hb
    simp only at h
    refine calls_of_wp hf hb ?_
    have hr : RelΓ Γ { st0 with t := args.map TV.p ++ List.replicate (fn.ntmps - args.length) .junk, lv := 0 } E
        { tmps := (args.map (PV.den E)).toArray ++ Array.replicate (fn.ntmps - (args.map (PV.den E)).toArray.size) undef, defers := [] } w := by
      refine ⟨⟨hE.li, hE.ls, hE.lt, hE.lb, hE.ln, hE.lf, hE.bd, hE.fs⟩, by simp, ?_, rfl, hH, hB, by rw [hw]; exact Kp.refl _ _ _⟩
      intro i tv hi
      rw [List.getElem?_append] at hi
      split at hi
      · rename_i hlt
        simp only [List.length_map] at hlt
        simp only [List.getElem?_map, List.getElem?_eq_getElem hlt, Option.map_some, Option.some.injEq] at hi
        subst hi
        refine .inr ?_
        simp only [Array.getD_eq_getD_getElem?]
        rw [Array.getElem?_append_left (by simpa using hlt)]
        simp [TV.val, hlt]
      · rw [List.getElem?_replicate] at hi
        split at hi
        · simp at hi; subst hi; exact .inl rfl
        · simp at hi
    refine eng_ok hC hP hdr c _ _ t [] E _ w _ h hr rfl hd ?_
    intro x st' t' H' E' a' w' g1 g2 g3 g4 g5 g6
    have done : ∀ (hne : ∀ id, x ≠ .ex id), a'.defers = [] ∧ ∃ v, (results fn a'.tmps).run C.P w' = .ok v w' ∧ PostP Γ w ty (.returned v) w' := by
      intro hne
      have g1' : (match fn.results.toList with
        | [.tmp t] => (match st'.t.getD t .junk with
          | .p (.c (.ptr n 0)) => (match findBlk st'.h n with
            | some (ty', cs, true) => if ty = ty' then some (T.ret [.c (.ptr n 0)] [cs]) else none
            | _ => none)
          | _ => none)
        | _ => none) = some t' := by
        cases x with
        | ex id => exact (hne id rfl).elim
        | nrm => exact g1
        | ret => exact g1
      split at g1'
      · rename_i t0 hres
        split at g1'
        · rename_i n hp
          split at g1'
          · rename_i ty' cs hfb
            split at g1'
            · rename_i hty; subst hty
              simp at g1'; subst g1'
              have hval : a'.tmps.getD t0 undef = .pointer (some ⟨E'.n.getD n 0, 0, none⟩) := by
                have := g2.ev (.tmp t0)
                simp only [St.ev, hp, Act.eval] at this
                rcases this with h | h
                · cases h
                · exact h
              have hm := findBlk_mem hfb
              refine ⟨g2.df, _, ?_, E'.n.getD n 0, cs.map (CV.den E'), rfl, ?_, by rw [← hw]; exact g2.kp, ?_, ?_⟩
              · rw [results_eq, Sem.run_bind, Array.mapM_eq_mapM_toList, Sem.run_map, hres]
                simp [rv, hval, Sem.run_pure, Sem.run_bind, Result.andThen_ok]
              · exact g6
              · exact g2.heap.own _ hm rfl _ (by simp [It.fp])
              · have := g2.heap.holds _ hm
                simpa [It.holds] using this
            · simp at g1'
          · simp at g1'
        · simp at g1'
      · simp at g1'
    cases x with
    | nrm => exact done (by simp)
    | ret => exact done (by simp)
    | ex id => simp [retP] at g1
  · simp at h
end
end Go.Proofs.Ytelejhggpkfdoaa.SX

