/- part of a proof: no condition of its own -/
import Derived.Test.YtelejhggpkfdoaaSXA
/-
  SX, part 10: states grow with environments.
-/
namespace Go.Proofs.Ytelejhggpkfdoaa.SX
set_option linter.unusedVariables false
set_option linter.unusedSimpArgs false
open Go.RowKit

def putT (t : List TV) (dst : Option Tmp) (tv : TV) : List TV :=
  match dst with
  | some d => t.set d tv
  | none => t

def St.put (st : St) (dst : Option Tmp) (tv : TV) : St := { st with t := putT st.t dst tv }

theorem putT_len (t : List TV) (dst : Option Tmp) (tv : TV) : (putT t dst tv).length = t.length := by cases dst <;> simp [putT]

theorem Act.put_size (a : Act) (dst : Option Tmp) (v : Value) : (a.put dst v).tmps.size = a.tmps.size := by cases dst <;> simp [Act.put]

theorem put_tm {E : Env} {t : List TV} {a : Act} (hsz : a.tmps.size = t.length) (h : ∀ (i : Nat) (tv : TV), t[i]? = some tv → tv.ok E (a.tmps.getD i undef))
    {dst : Option Tmp} {tv : TV} {v : Value} (hv : tv.ok E v) : ∀ (i : Nat) (x : TV), (putT t dst tv)[i]? = some x → x.ok E ((a.put dst v).tmps.getD i undef) := by
  intro i x hx
  cases dst with
  | none => exact h i x hx
  | some d =>
    simp only [putT] at hx
    simp only [Act.put]
    rw [List.getElem?_set] at hx
    split at hx
    · rename_i hd
      subst hd
      split at hx
      · rename_i hlt
        simp at hx; subst hx
        have : (a.tmps.setIfInBounds d v).getD d undef = v := by simp [Array.getD, hsz, hlt]
        rw [this]; exact hv
      · simp at hx
    · rename_i hd
      have : (a.tmps.setIfInBounds d v).getD i undef = a.tmps.getD i undef := by
        simp only [Array.getD_eq_getD_getElem?]; rw [Array.getElem?_setIfInBounds_ne hd]
      rw [this]; exact h i x hx

section
variable {B : Nat} {S : List Nat} {w0 : World} {st : St} {E : Env} {a : Act} {w : World}

/-- a value laid into its temporary; the world as it was -/
theorem Rel.put (h : Rel B S w0 st E a w) {dst : Option Tmp} {tv : TV} {v : Value} (hv : tv.ok E v) : Rel B S w0 (st.put dst tv) E (a.put dst v) w :=
  ⟨⟨h.e.li, h.e.ls, h.e.lt, h.e.lb, h.e.ln, h.e.lf, h.e.bd, h.e.fs⟩, by rw [Act.put_size, h.size]; exact (putT_len _ _ _).symm, put_tm h.size h.tm hv, by cases dst <;> exact h.df, h.heap, h.le, h.kp⟩

theorem St.sc_parts (h : st.sc = true) : st.t.all (TV.sc st.sz) = true ∧ st.h.all (It.sc st.sz) = true ∧ st.fs.all (BE.sc st.sz) = true := by
  unfold St.sc at h
  simp only [Bool.and_eq_true] at h
  exact ⟨h.1.1, h.1.2, h.2⟩

theorem Rel.tm_le (h : Rel B S w0 st E a w) (hs : st.sc = true) {E' : Env} (hl : E.le E') : ∀ (i : Nat) (tv : TV), st.t[i]? = some tv → tv.ok E' (a.tmps.getD i undef) := fun i tv hi =>
  TV.ok_le h.e.fits hl tv (List.all_eq_true.1 (St.sc_parts hs).1 tv (List.mem_of_getElem? hi)) _ (h.tm i tv hi)
theorem Rel.heap_le (h : Rel B S w0 st E a w) (hs : st.sc = true) {E' : Env} (hl : E.le E') : HOK B S st.h E' w :=
  h.heap.le h.e.fits hl (St.sc_parts hs).2.1
theorem Rel.fs_le (h : Rel B S w0 st E a w) (hs : st.sc = true) {E' : Env} (hl : E.le E') : ∀ c ∈ st.fs, c.P E' := fun c hc =>
  (BE.P_le h.e.fits hl c (List.all_eq_true.1 (St.sc_parts hs).2.2 c hc)).2 (h.e.fs c hc)

/-- a step that grows the environment -/
theorem Rel.next (h : Rel B S w0 st E a w) (hs : st.sc = true) {E' : Env} (hl : E.le E') {st' : St} {dst : Option Tmp} {tv : TV} {v : Value}
    (ht : st'.t = putT st.t dst tv) (hE : EOK st' E') {w' : World} (hH : HOK B S st'.h E' w') (hv : tv.ok E' v) (hsz : B ≤ w'.heap.size) (hk : Kp B S w0 w') :
    Rel B S w0 st' E' (a.put dst v) w' :=
  ⟨hE, by rw [Act.put_size, h.size, ht, putT_len], by rw [ht]; exact put_tm h.size (h.tm_le hs hl) hv, by cases dst <;> exact h.df, hH, hsz, hk⟩

theorem Env.le.trans {E E' E'' : Env} (h : E.le E') (k : E'.le E'') : E.le E'' := by
  obtain ⟨⟨l1, h1⟩, ⟨l2, h2⟩, ⟨l3, h3⟩, ⟨l4, h4⟩, ⟨l5, h5⟩, ⟨l6, h6⟩⟩ := h
  obtain ⟨⟨m1, k1⟩, ⟨m2, k2⟩, ⟨m3, k3⟩, ⟨m4, k4⟩, ⟨m5, k5⟩, ⟨m6, k6⟩⟩ := k
  exact ⟨⟨l1 ++ m1, by rw [k1, h1, List.append_assoc]⟩, ⟨l2 ++ m2, by rw [k2, h2, List.append_assoc]⟩, ⟨l3 ++ m3, by rw [k3, h3, List.append_assoc]⟩, ⟨l4 ++ m4, by rw [k4, h4, List.append_assoc]⟩,
    ⟨l5 ++ m5, by rw [k5, h5, List.append_assoc]⟩, ⟨l6 ++ m6, by rw [k6, h6, List.append_assoc]⟩⟩
theorem Env.le_refl (E : Env) : E.le E := ⟨⟨[], by simp⟩, ⟨[], by simp⟩, ⟨[], by simp⟩, ⟨[], by simp⟩, ⟨[], by simp⟩, ⟨[], by simp⟩⟩
theorem Env.le_pn (E : Env) (b : Nat) : E.le (E.pn b) := ⟨⟨[], by simp [Env.pn]⟩, ⟨[], by simp [Env.pn]⟩, ⟨[b], rfl⟩, ⟨[], by simp [Env.pn]⟩, ⟨[], by simp [Env.pn]⟩, ⟨[], by simp [Env.pn]⟩⟩
theorem Env.le_pf (E : Env) (b : Clo) : E.le (E.pf b) := ⟨⟨[], by simp [Env.pf]⟩, ⟨[], by simp [Env.pf]⟩, ⟨[], by simp [Env.pf]⟩, ⟨[], by simp [Env.pf]⟩, ⟨[], by simp [Env.pf]⟩, ⟨[b], rfl⟩⟩
theorem Env.le_ext (E : Env) (is : List Int) (bs : List Bool) (ss : List Sl) (ts : List ByteArray) : E.le (E.ext is bs ss ts) :=
  ⟨⟨is, rfl⟩, ⟨bs, rfl⟩, ⟨[], by simp [Env.ext]⟩, ⟨ss, rfl⟩, ⟨ts, rfl⟩, ⟨[], by simp [Env.ext]⟩⟩

/-- new variables' bounds -/
def St.ext (st : St) (bi : List Iv) (nb : Nat) (bS : List (Iv × Int)) (bT : List Int) : St :=
  { st with B := ⟨st.B.bi ++ bi, st.B.bs ++ bS, st.B.bt ++ bT⟩, nb := st.nb + nb }

theorem inIvs_get : ∀ (bi : List Iv) (is : List Int), inIvs bi is → bi.length = is.length → ∀ j, inIv (bi.getD j none) (is.getD j 0)
  | [], [], _, _, j => by simp [inIv]
  | b :: r, x :: q, h, hl, 0 => h.1
  | b :: r, x :: q, h, hl, j + 1 => by simpa using inIvs_get r q h.2 (by simpa using hl) j
  | [], _ :: _, _, hl, _ => by simp at hl
  | _ :: _, [], _, hl, _ => by simp at hl

theorem getD_mem_or {l : List Int} (k : Nat) (P : Int → Prop) (h0 : P 0) (h : ∀ v ∈ l, P v) : P (l.getD k 0) := by
  rcases Nat.lt_or_ge k l.length with hk | hk
  · rw [List.getD_eq_getElem?_getD, List.getElem?_eq_getElem hk]; exact h _ (List.getElem_mem hk)
  · rw [List.getD_eq_getElem?_getD, List.getElem?_eq_none hk]; exact h0

/-- bounds of elements must let 0 in (what is read outside is 0) -/
def iv0 : Iv → Bool
  | some (l, h) => decide (l ≤ 0 ∧ 0 ≤ h)
  | none => true
theorem iv0_ok {b : Iv} (h : iv0 b = true) : inIv b 0 := by
  cases b with
  | none => trivial
  | some p => simpa [iv0, inIv] using h

theorem inIvS_get : ∀ (bi : List (Iv × Int)) (ss : List Sl), inIvS bi ss → bi.length = ss.length → (∀ b ∈ bi, iv0 b.1 = true) →
    ∀ j, (∀ k, inIv (bi.getD j (none, -1)).1 ((ss.getD j nilSl).xs.getD k 0)) ∧ (0 ≤ (bi.getD j (none, -1)).2 → ((ss.getD j nilSl).n : Int) ≤ (bi.getD j (none, -1)).2)
  | [], [], _, _, _, j => by simp [inIv]
  | b :: r, x :: q, h, hl, h0, 0 => ⟨fun k => by simpa using getD_mem_or k (inIv b.1) (iv0_ok (h0 b (List.mem_cons_self ..))) h.1.1, h.1.2⟩
  | b :: r, x :: q, h, hl, h0, j + 1 => by simpa using inIvS_get r q h.2 (by simpa using hl) (fun b hb => h0 b (List.mem_cons_of_mem _ hb)) j
  | [], _ :: _, _, hl, _, _ => by simp at hl
  | _ :: _, [], _, hl, _, _ => by simp at hl

theorem inIvT_get : ∀ (bi : List Int) (ts : List ByteArray), inIvT bi ts → bi.length = ts.length → ∀ j, 0 ≤ bi.getD j (-1) → ((ts.getD j ByteArray.empty).size : Int) ≤ bi.getD j (-1)
  | [], [], _, _, j => by simp
  | b :: r, x :: q, h, hl, 0 => h.1
  | b :: r, x :: q, h, hl, j + 1 => by simpa using inIvT_get r q h.2 (by simpa using hl) j
  | [], _ :: _, _, hl, _ => by simp at hl
  | _ :: _, [], _, hl, _ => by simp at hl

theorem getD_app2 {α : Type} (l l' : List α) (d : α) (j : Nat) : (l ++ l').getD j d = if j < l.length then l.getD j d else l'.getD (j - l.length) d := by
  split
  · rename_i h; exact getD_app h
  · rename_i h; simp [List.getD, List.getElem?_append_right (Nat.le_of_not_lt h)]

theorem EOK.ext (h : EOK st E) (hf : ∀ (E' : Env), E.le E' → ∀ c ∈ st.fs, c.P E') {is : List Int} {bs : List Bool} {ss : List Sl} {ts : List ByteArray} {bi : List Iv} {bS : List (Iv × Int)} {bT : List Int} {nb : Nat}
    (l1 : is.length = bi.length) (l2 : bs.length = nb) (l3 : ss.length = bS.length) (l4 : ts.length = bT.length)
    (h1 : inIvs bi is) (h3 : inIvS bS ss) (h30 : ∀ b ∈ bS, iv0 b.1 = true) (h4 : inIvT bT ts) : EOK (st.ext bi nb bS bT) (E.ext is bs ss ts) := by
  refine ⟨by simp [St.ext, Env.ext, h.li, l1], by simp [St.ext, Env.ext, h.ls, l3], by simp [St.ext, Env.ext, h.lt, l4], by simp [St.ext, Env.ext, h.lb, l2], h.ln, h.lf, ⟨?_, ?_, ?_⟩, hf _ (Env.le_ext E is bs ss ts)⟩
  · intro j
    simp only [St.ext, Env.ext, getD_app2, h.li]
    split
    · exact h.bd.i j
    · exact inIvs_get bi is h1 l1.symm _
  · intro j
    simp only [St.ext, Env.ext, getD_app2, h.ls]
    split
    · exact h.bd.s j
    · exact inIvS_get bS ss h3 l3.symm h30 _
  · intro j
    simp only [St.ext, Env.ext, getD_app2, h.lt]
    split
    · exact h.bd.t j
    · exact inIvT_get bT ts h4 l4.symm _

theorem EOK.pn (h : EOK st E) (hf : ∀ (E' : Env), E.le E' → ∀ c ∈ st.fs, c.P E') (b : Nat) : EOK { st with nn := st.nn + 1 } (E.pn b) :=
  ⟨h.li, h.ls, h.lt, h.lb, by simp [Env.pn, h.ln], h.lf, ⟨h.bd.i, h.bd.s, h.bd.t⟩, hf _ (Env.le_pn E b)⟩
theorem EOK.pf (h : EOK st E) (hf : ∀ (E' : Env), E.le E' → ∀ c ∈ st.fs, c.P E') (c : Clo) : EOK { st with nf := st.nf + 1 } (E.pf c) :=
  ⟨h.li, h.ls, h.lt, h.lb, h.ln, by simp [Env.pf, h.lf], ⟨h.bd.i, h.bd.s, h.bd.t⟩, hf _ (Env.le_pf E c)⟩

end

theorem Kp.alloc {B : Nat} {S : List Nat} {w0 w : World} (h : Kp B S w0 w) (hB : B ≤ w.heap.size) (o : Obj) : Kp B S w0 (w.alloc o) :=
  h.trans (.of_below ((Below.refl B w).alloc hB o))

/-- a new block of cells -/
theorem HOK.alloc {B : Nat} {S : List Nat} {h : List It} {E : Env} {w : World} {z : Sz} (hf : E.Fits z) (hs : h.all (It.sc z) = true) (hh : HOK B S h E w) (hB : B ≤ w.heap.size)
    (T : TypeId) (cs : List CV) (hcs : cs.all (CV.sc z) = true) :
    HOK B S (.blk z.nn T cs true :: h) (E.pn w.heap.size) (w.alloc (.cells (cs.map (CV.den E)).toArray T)) := by
  have h1 : HOK B S h (E.pn w.heap.size) (w.alloc (.cells (cs.map (CV.den E)).toArray T)) :=
    (hh.le hf (Env.le_pn E _) hs).same (by simp) fun it hi k hk => by
      have hk' : k ∈ it.fp E := by rw [← It.fp_le hf (Env.le_pn E w.heap.size) it (List.all_eq_true.1 hs it hi)]; exact hk
      exact Below.heap_alloc _ _ _ (hh.lt it hi k hk')
  have e : (E.pn w.heap.size).n.getD z.nn 0 = w.heap.size := by
    simp only [Env.pn, getD_app2, hf.n]; simp
  refine h1.cons ?_ ?_ ?_ ?_
  · simp only [It.holds, e]
    rw [CV.map_le hf (Env.le_pn E _) cs hcs]
    exact heap_alloc_new w _
  · intro k hk; simp only [It.fp, e, List.mem_singleton] at hk; subst hk; simp
  · intro _ k hk; simp only [It.fp, e, List.mem_singleton] at hk; subst hk; exact .inl hB
  · intro y hy _ k hk
    simp only [It.fp, e, List.mem_singleton] at hk; subst hk
    intro hm
    have hm' : w.heap.size ∈ y.fp E := by rw [← It.fp_le hf (Env.le_pn E w.heap.size) y (List.all_eq_true.1 hs y hy)]; exact hm
    have := hh.lt y hy _ hm'
    omega

end Go.Proofs.Ytelejhggpkfdoaa.SX

/-
  SX, part 11: steps that make or write memory; what has to hold; closures.
-/
namespace Go.Proofs.Ytelejhggpkfdoaa.SX
set_option linter.unusedVariables false
set_option linter.unusedSimpArgs false
open Go.RowKit

abbrev K1 := St → Option T

def needs : List BE → St → K1 → Option T
  | [], st, k => k st
  | c :: r, st, k => if c = .c true ∨ c ∈ st.fs then needs r st k else match needs r { st with fs := c :: st.fs } k with
    | some t => some (.need c t)
    | none => none

abbrev RelΓ (Γ : Ctx) := Rel Γ.B Γ.S Γ.w0

section
variable {Γ : Ctx} {H : List Hd}

theorem Rel.addFact {B : Nat} {S : List Nat} {w0 : World} {st : St} {E : Env} {a : Act} {w : World} (h : Rel B S w0 st E a w) {c : BE} (hc : c.P E) : Rel B S w0 { st with fs := c :: st.fs } E a w :=
  ⟨⟨h.e.li, h.e.ls, h.e.lt, h.e.lb, h.e.ln, h.e.lf, h.e.bd, fun x hx => by cases hx with | head => exact hc | tail _ h' => exact h.e.fs x h'⟩, h.size, h.tm, h.df, h.heap, h.le, h.kp⟩

theorem needs_ok : ∀ (ns : List BE) (st : St) (k : K1) (t : T) {E : Env} {a : Act} {w : World}, needs ns st k = some t → RelΓ Γ st E a w → t.den Γ H E →
    (∀ c ∈ ns, c.P E) ∧ ∃ fs' t', k { st with fs := fs' } = some t' ∧ RelΓ Γ { st with fs := fs' } E a w ∧ t'.den Γ H E
  | [], st, k, t, E, a, w, h, hr, hd => ⟨by simp, st.fs, t, h, hr, hd⟩
  | c :: r, st, k, t, E, a, w, h, hr, hd => by
    simp only [needs] at h
    split at h
    · rename_i hc
      obtain ⟨h1, h2⟩ := needs_ok r st k t h hr hd
      refine ⟨fun x hx => ?_, h2⟩
      cases hx with
      | head => rcases hc with rfl | hc; exact rfl; exact hr.e.fs _ hc
      | tail _ hx => exact h1 x hx
    · split at h
      · rename_i t' ht
        simp at h; subst h
        obtain ⟨hc, hd'⟩ := hd
        obtain ⟨h1, fs', t'', h2, h3, h4⟩ := needs_ok r _ k t' ht (hr.addFact hc) (hd' hc)
        refine ⟨fun x hx => ?_, fs', t'', h2, h3, h4⟩
        cases hx with
        | head => exact hc
        | tail _ hx => exact h1 x hx
      · simp at h

/-- what a continuation owes -/
def Cont (Γ : Ctx) (H : List Hd) (lv : Nat) (E : Env) (k : K1) (K : Act → World → Prop) : Prop :=
  ∀ st' t' E' a' w', k st' = some t' → RelΓ Γ st' E' a' w' → st'.lv = lv → E.le E' → t'.den Γ H E' → K a' w'

theorem Cont.le {lv : Nat} {E E' : Env} {k : K1} {K : Act → World → Prop} (h : Cont Γ H lv E k K) (hl : E.le E') : Cont Γ H lv E' k K :=
  fun st' t' E'' a' w' h1 h2 h3 h4 h5 => h st' t' E'' a' w' h1 h2 h3 (hl.trans h4) h5

theorem wp_value {P : Program} {o : Oper} {a : Act} {w w' : World} {K : Act → World → Prop} {Q : Exit → Act → World → Prop} {v : Value}
    (h : (execOp a.eval o).run P w = .ok (.value v) w') (hK : K (a.put o.dst v) w') : o.wp P a w K Q := by
  unfold Oper.wp; rw [h]; exact hK
theorem wp_skip' {P : Program} {o : Oper} {a : Act} {w w' : World} {K : Act → World → Prop} {Q : Exit → Act → World → Prop}
    (h : (execOp a.eval o).run P w = .ok .skip w') (hK : K (a.put o.dst undef) w') : o.wp P a w K Q := by
  unfold Oper.wp; rw [h]; exact hK

/-! ### computing -/
def stVal (C : Cfg) (o : Oper) (st : St) (k : K1) : Option T :=
  match valOp C st o.op with
  | some (ns, tv) => needs ns st fun st => k (st.put o.dst tv)
  | none => match o.op with
    | .assign (.const _) => k (st.put o.dst .junk)
    | _ => none

theorem stVal_ok {C : Cfg} (hC : C.OK) (hP : Γ.P = C.P) {o : Oper} {st : St} {k : K1} {t : T} {E : Env} {a : Act} {w : World} {K : Act → World → Prop} {Q : Exit → Act → World → Prop}
    (h : stVal C o st k = some t) (hr : RelΓ Γ st E a w) (hd : t.den Γ H E) (hk : Cont Γ H st.lv E k K) : o.wp C.P a w K Q := by
  unfold stVal at h
  split at h
  · rename_i ns tv hv
    obtain ⟨h1, fs', t', h2, h3, h4⟩ := needs_ok ns st _ t h hr hd
    have hrun := valOp_ok hC hr.e.bd hr.heap hr.ev hv h1
    exact wp_value hrun.1 (hk _ _ _ _ _ h2 (h3.put (.inr rfl)) rfl (Env.le_refl E) h4)
  · split at h
    · rename_i v ho
      have hrun : (execOp a.eval o).run C.P w = .ok (.value v) w := by unfold execOp; rw [ho]; rfl
      exact wp_value hrun (hk _ _ _ _ _ h (hr.put (.inl rfl)) rfl (Env.le_refl E) hd)
    · simp at h

/-! ### a new block -/
def newBlk (st : St) (dst : Option Tmp) (ty : TypeId) (cs : List CV) (k : K1) : Option T :=
  if st.sc = true ∧ cs.all (CV.sc st.sz) = true then
    match k { st with h := .blk st.nn ty cs true :: st.h, nn := st.nn + 1, t := putT st.t dst (.p (.c (.ptr st.nn 0))) } with
    | some t => some (.blk t)
    | none => none
  else none

theorem newBlk_ok {st : St} {dst : Option Tmp} {ty : TypeId} {cs : List CV} {k : K1} {t : T} {E : Env} {a : Act} {w : World} {K : Act → World → Prop}
    (h : newBlk st dst ty cs k = some t) (hr : RelΓ Γ st E a w) (hd : t.den Γ H E) (hk : Cont Γ H st.lv E k K) :
    K (a.put dst (.pointer (some ⟨w.heap.size, 0, none⟩))) (w.alloc (.cells (cs.map (CV.den E)).toArray ty)) := by
  unfold newBlk at h
  split at h
  · rename_i hc
    obtain ⟨hs, hcs⟩ := hc
    split at h
    · rename_i t' ht
      simp at h; subst h
      have hd' := hd w.heap.size
      refine hk _ _ _ _ _ ht (hr.next hs (Env.le_pn E _) rfl ?_ ?_ ?_ ?_ ?_) rfl (Env.le_pn E _) hd'
      · have := hr.e.pn (fun E' hl => hr.fs_le hs hl) w.heap.size
        exact ⟨this.li, this.ls, this.lt, this.lb, this.ln, this.lf, this.bd, this.fs⟩
      · exact hr.heap.alloc hr.e.fits (St.sc_parts hs).2.1 hr.le ty cs hcs
      · refine .inr ?_
        have e : (E.pn w.heap.size).n.getD st.nn 0 = w.heap.size := by
          simp only [Env.pn, getD_app2, hr.e.ln]; simp
        simp only [TV.val, PV.den, CV.den, e]
      · have := hr.le; simp only [World.size_alloc]; omega
      · exact hr.kp.alloc hr.le _
    · simp at h
  · simp at h

def stAlloc (C : Cfg) (o : Oper) (st : St) (k : K1) : Option T :=
  match o.op with
  | .alloc ty => (match zeroC C.P ty with
    | some cs => newBlk st o.dst ty cs k
    | none => none)
  | .box ty x => (match st.getP x with
    | some v => newBlk st o.dst ty v.cs k
    | none => none)
  | _ => none

theorem run_alloc {P : Program} {ty : TypeId} {z : Value} {w : World} (h : (zeroValue ty).run P w = .ok z w) :
    (Instr.alloc ty true (.tuple #[])).run P w = .ok (.pointer (some ⟨w.heap.size, 0, none⟩)) (w.alloc (.cells z.cells ty)) := by
  simp only [Instr.alloc, Sem.run_bind, h, Result.andThen_ok, newVar, newRow, run_newObj, Sem.run_pure, World.alloc_eq]
theorem run_box {P : Program} {ty : TypeId} {v : Value} {w : World} :
    (Instr.box ty v).run P w = .ok (.pointer (some ⟨w.heap.size, 0, none⟩)) (w.alloc (.cells v.cells ty)) := by
  simp only [Instr.box, Sem.run_bind, Result.andThen_ok, newVar, newRow, run_newObj, Sem.run_pure, World.alloc_eq]

theorem stAlloc_ok {C : Cfg} {o : Oper} {st : St} {k : K1} {t : T} {E : Env} {a : Act} {w : World} {K : Act → World → Prop} {Q : Exit → Act → World → Prop}
    (h : stAlloc C o st k = some t) (hr : RelΓ Γ st E a w) (hd : t.den Γ H E) (hk : Cont Γ H st.lv E k K) : o.wp C.P a w K Q := by
  unfold stAlloc at h
  split at h
  · rename_i ty ho
    split at h
    · rename_i cs hz
      obtain ⟨z, hz1, hz2⟩ := zeroC_ok hz E w
      have hK := newBlk_ok h hr hd hk
      refine wp_value (w' := w.alloc (.cells (cs.map (CV.den E)).toArray ty)) ?_ hK
      unfold execOp; rw [ho]
      apply run_v
      rw [run_alloc hz1, hz2]
    · simp at h
  · rename_i ty x ho
    split at h
    · rename_i v hx
      have hK := newBlk_ok h hr hd hk
      refine wp_value (w' := w.alloc (.cells (v.cs.map (CV.den E)).toArray ty)) ?_ hK
      unfold execOp; rw [ho]
      apply run_v
      rw [run_box, getP_ok hr.ev hx, PV.den_cells]
    · simp at h
  · simp at h

/-! ### a store -/
def setBlk : List It → Nat → List CV → List It
  | [], _, _ => []
  | .blk m T cs o :: r, n, cs' => if m = n then .blk m T cs' o :: r else .blk m T cs o :: setBlk r n cs'
  | x :: r, n, cs' => x :: setBlk r n cs'

theorem setBlk_fp (E : Env) (cs' : List CV) : ∀ (h : List It) (n : Nat), ∀ y ∈ setBlk h n cs', ∃ x ∈ h, y.fp E = x.fp E ∧ y.own = x.own
  | [], _, y, hy => by simp [setBlk] at hy
  | .blk m T cs o :: r, n, y, hy => by
    simp only [setBlk] at hy
    split at hy
    · cases hy with
      | head => exact ⟨_, List.mem_cons_self .., rfl, rfl⟩
      | tail _ hy => exact ⟨y, List.mem_cons_of_mem _ hy, rfl, rfl⟩
    · cases hy with
      | head => exact ⟨_, List.mem_cons_self .., rfl, rfl⟩
      | tail _ hy => obtain ⟨x, hx, h⟩ := setBlk_fp E cs' r n y hy; exact ⟨x, List.mem_cons_of_mem _ hx, h⟩
  | .isl s T k z o :: r, n, y, hy => by
    simp only [setBlk] at hy
    cases hy with
    | head => exact ⟨_, List.mem_cons_self .., rfl, rfl⟩
    | tail _ hy => obtain ⟨x, hx, h⟩ := setBlk_fp E cs' r n y hy; exact ⟨x, List.mem_cons_of_mem _ hx, h⟩

theorem setBlk_sep (E : Env) (cs' : List CV) : ∀ (h : List It) (n : Nat), h.Pairwise (fun x y => (x.own || y.own) = true → ∀ k ∈ x.fp E, k ∉ y.fp E) →
    (setBlk h n cs').Pairwise (fun x y => (x.own || y.own) = true → ∀ k ∈ x.fp E, k ∉ y.fp E)
  | [], _, _ => List.Pairwise.nil
  | .blk m T cs o :: r, n, hp => by
    cases hp with
    | cons h1 h2 =>
      simp only [setBlk]
      split
      · exact List.Pairwise.cons h1 h2
      · refine List.Pairwise.cons (fun y hy => ?_) (setBlk_sep E cs' r n h2)
        obtain ⟨x, hx, e1, e2⟩ := setBlk_fp E cs' r n y hy
        rw [e1, e2]; exact h1 x hx
  | .isl s T k z o :: r, n, hp => by
    cases hp with
    | cons h1 h2 =>
      simp only [setBlk]
      refine List.Pairwise.cons (fun y hy => ?_) (setBlk_sep E cs' r n h2)
      obtain ⟨x, hx, e1, e2⟩ := setBlk_fp E cs' r n y hy
      rw [e1, e2]; exact h1 x hx

theorem setBlk_holds {B : Nat} {E : Env} {w w' : World} {cs' : List CV} : ∀ (h : List It) (n : Nat) (T : TypeId) (cs : List CV), findBlk h n = some (T, cs, true) →
    (∀ it ∈ h, it.holds B E w) → h.Pairwise (fun x y => (x.own || y.own) = true → ∀ k ∈ x.fp E, k ∉ y.fp E) →
    (∀ it ∈ h, ∀ k ∈ it.fp E, k ≠ E.n.getD n 0 → w'.heap[k]? = w.heap[k]?) → w'.heap[E.n.getD n 0]? = some (.cells (cs'.map (CV.den E)).toArray T (0, 0)) → ∀ it ∈ setBlk h n cs', it.holds B E w'
  | [], _, _, _, hf, _, _, _, _, _, _ => by simp [findBlk] at hf
  | .blk m T0 cs0 o :: r, n, T, cs, hf, hh, hp, hoth, hnew, it, hi => by
    cases hp with
    | cons h1 h2 =>
      simp only [setBlk] at hi
      simp only [findBlk] at hf
      split at hi
      · rename_i e; subst e
        simp only [↓reduceIte, Option.some.injEq, Prod.mk.injEq] at hf
        obtain ⟨rfl, rfl, rfl⟩ := hf
        cases hi with
        | head => exact hnew
        | tail _ hi =>
          refine It.holds_same (hh it (List.mem_cons_of_mem _ hi)) fun k hk => hoth it (List.mem_cons_of_mem _ hi) k hk ?_
          intro e
          exact h1 it hi (by simp [It.own]) (E.n.getD m 0) (by simp [It.fp]) (by rw [← e]; exact hk)
      · rename_i e
        simp only [e, ↓reduceIte] at hf
        have hm := findBlk_mem hf
        cases hi with
        | head =>
          refine It.holds_same (hh _ (List.mem_cons_self ..)) fun k hk => hoth _ (List.mem_cons_self ..) k hk ?_
          intro e'
          exact h1 _ hm (by simp [It.own]) k hk (by rw [e']; simp [It.fp])
        | tail _ hi => exact setBlk_holds r n T cs hf (fun x hx => hh x (List.mem_cons_of_mem _ hx)) h2 (fun x hx => hoth x (List.mem_cons_of_mem _ hx)) hnew it hi
  | .isl s T0 k0 z0 o :: r, n, T, cs, hf, hh, hp, hoth, hnew, it, hi => by
    cases hp with
    | cons h1 h2 =>
      simp only [setBlk] at hi
      simp only [findBlk] at hf
      have hm := findBlk_mem hf
      cases hi with
      | head =>
        refine It.holds_same (hh _ (List.mem_cons_self ..)) fun k hk => hoth _ (List.mem_cons_self ..) k hk ?_
        intro e'
        exact h1 _ hm (by simp [It.own]) k hk (by rw [e']; simp [It.fp])
      | tail _ hi => exact setBlk_holds r n T cs hf (fun x hx => hh x (List.mem_cons_of_mem _ hx)) h2 (fun x hx => hoth x (List.mem_cons_of_mem _ hx)) hnew it hi

theorem setSeg_split (cs : List CV) : ∀ (vs : List CV) (off : Nat), off + vs.length ≤ cs.length → setSeg cs off vs = cs.take off ++ vs ++ cs.drop (off + vs.length) := by
  intro vs
  induction vs generalizing cs with
  | nil => intro off _; simp [setSeg]
  | cons c r ih =>
    intro off h
    simp only [List.length_cons] at h
    simp only [setSeg]
    rw [ih (cs.set off c) (off + 1) (by simp; omega)]
    simp only [List.length_cons]
    have e1 : (cs.set off c).take (off + 1) = cs.take off ++ [c] := by
      rw [List.take_set, List.take_succ_eq_append_getElem (by omega)]
      rw [List.set_append_right _ _ (by simp; omega)]
      simp [Nat.min_eq_left (show off ≤ cs.length by omega)]
    have e2 : (cs.set off c).drop (off + 1 + r.length) = cs.drop (off + (r.length + 1)) := by
      rw [List.drop_set_of_lt (by omega)]; congr 1; omega
    rw [e1, e2]; simp

def stStore (C : Cfg) (o : Oper) (st : St) (k : K1) : Option T :=
  match o.op, o.dst with
  | .store ty x y, none => (match st.getC x, st.getP y, szT C.P ty with
    | some (.ptr n off), some v, some m => (match findBlk st.h n with
      | some (_, cs, true) => if v.cs.length = m ∧ off + m ≤ cs.length then k { st with h := setBlk st.h n (setSeg cs off v.cs) } else none
      | _ => none)
    | _, _, _ => none)
  | _, _ => none

theorem stStore_ok {C : Cfg} {o : Oper} {st : St} {k : K1} {t : T} {E : Env} {a : Act} {w : World} {K : Act → World → Prop} {Q : Exit → Act → World → Prop}
    (h : stStore C o st k = some t) (hr : RelΓ Γ st E a w) (hd : t.den Γ H E) (hk : Cont Γ H st.lv E k K) : o.wp C.P a w K Q := by
  unfold stStore at h
  split at h
  · rename_i ty x y ho hdst
    split at h
    · rename_i n off v m hx hy hm
      split at h
      · rename_i T0 cs hf
        split at h
        · rename_i hc
          obtain ⟨rfl, hlen⟩ := hc
          have hb := hr.heap.holds _ (findBlk_mem hf)
          simp only [It.holds] at hb
          have hlt := hr.heap.lt _ (findBlk_mem hf) (E.n.getD n 0) (by simp [It.fp])
          have hown := hr.heap.own _ (findBlk_mem hf) rfl (E.n.getD n 0) (by simp [It.fp])
          have hst := run_storeCells_at C.P (E.n.getD n 0) off T0 (v.cs.map (CV.den E)) 0 _ w hb (by simpa using hlen) (fun u hu => by
            obtain ⟨c, _, rfl⟩ := List.mem_map.1 hu; exact CV.den_one E c)
          have hnewc : ((cs.map (CV.den E)).toArray.toList.take (off + 0) ++ v.cs.map (CV.den E) ++ (cs.map (CV.den E)).toArray.toList.drop (off + 0 + (v.cs.map (CV.den E)).length)) = (setSeg cs off v.cs).map (CV.den E) := by
            rw [setSeg_split cs v.cs off hlen]; simp
          rw [hnewc] at hst
          have hrun : (execOp a.eval o).run C.P w = .ok .skip (w.setRow (E.n.getD n 0) ((setSeg cs off v.cs).map (CV.den E)).toArray) := by
            unfold execOp; rw [ho]
            have e1 : a.eval x = .pointer (some ⟨E.n.getD n 0, off, none⟩) := getC_ok hr.ev hx
            simp only [e1, getP_ok hr.ev hy, Instr.storeAt, Instr.sureAddr, storeVar, PV.den_cells, List.size_toArray, List.length_map, Sem.run_bind, Sem.run_pure, Result.andThen_ok, run_szT hm, ne_eq, not_true_eq_false, ↓reduceIte, Sem.run_ite]
            rw [hst]
            rfl
          refine wp_skip' hrun (hk _ _ _ _ _ h ⟨⟨hr.e.li, hr.e.ls, hr.e.lt, hr.e.lb, hr.e.ln, hr.e.lf, hr.e.bd, hr.e.fs⟩, ?_, ?_, ?_, ?_, ?_, ?_⟩ rfl (Env.le_refl E) hd)
          · rw [hdst]; exact hr.size
          · rw [hdst]; exact hr.tm
          · rw [hdst]; exact hr.df
          · have hoth : ∀ k, k ≠ E.n.getD n 0 → (w.setRow (E.n.getD n 0) ((setSeg cs off v.cs).map (CV.den E)).toArray).heap[k]? = w.heap[k]? := fun k hk => setRow_other w _ k _ hk
            refine ⟨setBlk_holds _ _ _ _ hf hr.heap.holds hr.heap.sep (fun it hi k _ hk => hoth k hk) (setRow_heap w _ _ _ _ _ hb), ?_, ?_, setBlk_sep E _ _ _ hr.heap.sep⟩
            · intro it hi q hq
              obtain ⟨x', hx', e1, _⟩ := setBlk_fp E _ _ _ it hi
              rw [setRow_size]; exact hr.heap.lt x' hx' q (by rw [← e1]; exact hq)
            · intro it hi ho' q hq
              obtain ⟨x', hx', e1, e2⟩ := setBlk_fp E _ _ _ it hi
              exact hr.heap.own x' hx' (by rw [← e2]; exact ho') q (by rw [← e1]; exact hq)
          · rw [setRow_size]; exact hr.le
          · refine hr.kp.trans ⟨rfl, rfl, rfl, by rw [setRow_size]; exact Nat.le_refl _, fun q hq hqs => setRow_other w _ q _ ?_⟩
            rintro rfl
            rcases hown with h1 | h1
            · omega
            · exact hqs h1
        · simp at h
      · simp at h
    · simp at h
  · simp at h

/-! ### a closure -/
def getPs (st : St) : List Operand → Option (List PV)
  | [] => some []
  | x :: r => match st.getP x, getPs st r with
    | some v, some l => some (v :: l)
    | _, _ => none

theorem getPs_ok {st : St} {E : Env} {a : Act} (ha : ∀ x, (st.ev x).ok E (a.eval x)) : ∀ (xs : List Operand) (l : List PV), getPs st xs = some l → xs.map a.eval = l.map (PV.den E)
  | [], l, h => by simp [getPs] at h; subst h; rfl
  | x :: r, l, h => by
    simp only [getPs] at h
    split at h
    · rename_i v q hv hq
      simp at h; subst h
      simp only [List.map_cons, getP_ok ha hv, getPs_ok ha r q hq]
    · simp at h

def stClo (o : Oper) (st : St) (k : K1) : Option T :=
  match o.op with
  | .makeFunc (.func g) fst caps => (match getPs st caps.toList with
    | some l => if st.sc = true ∧ fst.toList.isEmpty = true then
        (match k { st with nf := st.nf + 1, t := putT st.t o.dst (.p (.c (.fn st.nf))) } with
        | some t => some (.clo g l t)
        | none => none) else none
    | none => none)
  | _ => none

theorem stClo_run {C : Cfg} {o : Oper} {st : St} {g : FuncId} {fst caps : Array Operand} {l : List PV} {E : Env} {a : Act} (ha : ∀ x, (st.ev x).ok E (a.eval x)) (ho : o.op = .makeFunc (.func g) fst caps)
    (hl : getPs st caps.toList = some l) (hf : fst.toList.isEmpty = true) (w : World) : (execOp a.eval o).run C.P w = .ok (.value (Clo.val ⟨g, (l.map (PV.den E)).toArray⟩)) w := by
  unfold execOp; rw [ho]
  apply run_v
  have h1 : caps.map a.eval = (l.map (PV.den E)).toArray := by
    apply Array.ext'; rw [Array.toList_map, getPs_ok ha _ _ hl]
  have h2 : fst = #[] := by cases fst; simp_all
  subst h2
  simp only [Instr.makeFunc, h1, Sem.run_pure, Clo.val, List.map_toArray, List.map_nil]

theorem stClo_ok {C : Cfg} {o : Oper} {st : St} {k : K1} {t : T} {E : Env} {a : Act} {w : World} {K : Act → World → Prop} {Q : Exit → Act → World → Prop}
    (h : stClo o st k = some t) (hr : RelΓ Γ st E a w) (hd : t.den Γ H E) (hk : Cont Γ H st.lv E k K) : o.wp C.P a w K Q := by
  unfold stClo at h
  split at h
  · rename_i g fst caps ho
    split at h
    · rename_i l hl
      split at h
      · rename_i hc
        split at h
        · rename_i t' ht
          simp at h; subst h
          have hd' : t'.den Γ H (E.pf ⟨g, (l.map (PV.den E)).toArray⟩) := hd
          refine wp_value (stClo_run hr.ev ho hl hc.2 w) (hk _ _ _ _ _ ht (hr.next hc.1 (Env.le_pf E _) rfl ?_ (hr.heap_le hc.1 (Env.le_pf E _)) ?_ hr.le hr.kp) rfl (Env.le_pf E _) hd')
          · have := hr.e.pf (fun E' hl => hr.fs_le hc.1 hl) ⟨g, (l.map (PV.den E)).toArray⟩
            exact ⟨this.li, this.ls, this.lt, this.lb, this.ln, this.lf, this.bd, this.fs⟩
          · refine .inr ?_
            have e : (E.pf ⟨g, (l.map (PV.den E)).toArray⟩).f.getD st.nf nilClo = ⟨g, (l.map (PV.den E)).toArray⟩ := by
              simp only [Env.pf, getD_app2, hr.e.lf]; simp
            simp only [TV.val, PV.den, CV.den, e]
        · simp at h
      · simp at h
    · simp at h
  · simp at h
end
end Go.Proofs.Ytelejhggpkfdoaa.SX

/-
  SX, part 12: slices of integers: literals, make, append, an array seen as a slice, an element written.
-/
namespace Go.Proofs.Ytelejhggpkfdoaa.SX
set_option linter.unusedVariables false
set_option linter.unusedSimpArgs false
open Go.RowKit

def allK (k : IntKind) : List CV → Bool
  | [] => true
  | .int k' _ :: r => decide (k = k') && allK k r
  | _ => false
def kindL : List CV → Option IntKind
  | .int k _ :: _ => some k
  | _ => none
theorem allK_den {k : IntKind} {l : List CV} (E : Env) (h : allK k l = true) : l.map (CV.den E) = ints k ((iesOf l).map (IE.den E)) := by
  induction l with
  | nil => rfl
  | cons c r ih =>
    cases c with
    | int k' e =>
      simp only [allK, Bool.and_eq_true, decide_eq_true_eq] at h
      obtain ⟨rfl, h⟩ := h
      have := ih h
      unfold ints at *
      simp [iesOf, CV.den, this]
    | _ => simp [allK] at h
theorem allK_len {k : IntKind} {l : List CV} (h : allK k l = true) : (iesOf l).length = l.length := by
  induction l with
  | nil => rfl
  | cons c r ih =>
    cases c with
    | int k' e => simp only [allK, Bool.and_eq_true] at h; simp [iesOf, ih h.2]
    | _ => simp [allK] at h

/-- the smallest bounds around some expressions; 0 within -/
def ivJoin (B : Bd) : List IE → Iv
  | [] => some (0, 0)
  | e :: r => match e.iv B, ivJoin B r with
    | some x, some y => some (min x.1 y.1, max x.2 y.2)
    | _, _ => none
theorem ivJoin_0 (B : Bd) (l : List IE) : inIv (ivJoin B l) 0 := by
  induction l with
  | nil => exact ⟨Int.le_refl _, Int.le_refl _⟩
  | cons e r ih =>
    simp only [ivJoin]; split
    · rename_i x y hx hy; rw [hy] at ih; simp only [inIv] at *; omega
    · trivial
theorem ivJoin_ok {B : Bd} {E : Env} (hB : BdOK B E) (l : List IE) : ∀ v ∈ l.map (IE.den E), inIv (ivJoin B l) v := by
  induction l with
  | nil => simp
  | cons e r ih =>
    intro v hv
    have h0 := IE.iv_ok hB e
    simp only [ivJoin]; split
    · rename_i x y hx hy
      rw [hx] at h0; rw [hy] at ih
      simp only [List.map_cons, List.mem_cons] at hv
      rcases hv with rfl | hv
      · simp only [inIv] at *; omega
      · have := ih v hv; simp only [inIv] at *; omega
    · trivial
theorem iv0_of {b : Iv} (h : inIv b 0) : iv0 b = true := by
  cases b with
  | none => rfl
  | some p => simpa [iv0, inIv] using h

section
variable {Γ : Ctx} {H : List Hd}

/-- a slice made anew (or grown) takes its place among the items -/
theorem fresh_ok {st : St} {dst : Option Tmp} {h' : List It} {ty : TypeId} {k : IntKind} {z : Nat} {b : Iv} {len : Int} {kk : K1} {n : IE} {le : LE} {t : T} {E : Env} {a : Act} {w w' : World} {K : Act → World → Prop} {s : Sl} {own : Bool}
    (hs : st.sc = true) (hsub : ∀ it ∈ h', it.sc st.sz = true)
    (h : kk { st.ext [] 0 [(b, len)] [] with h := .isl st.B.bs.length ty k z own :: h', t := putT st.t dst (.p (.c (.sl st.B.bs.length))) } = some t) (hb0 : iv0 b = true)
    (hr : RelΓ Γ st E a w) (hd : (T.fs n le t).den Γ H E) (hk : Cont Γ H st.lv E kk K)
    (hn : s.n = (n.den E).toNat) (hx : s.xs = le.den E) (hb : ∀ v ∈ s.xs, inIv b v) (hl : 0 ≤ len → (s.n : Int) ≤ len)
    (hH : HOK Γ.B Γ.S h' E w') (hit : (It.isl 0 ty k z own).holds Γ.B { E with s := [s] } w')
    (hlt : ∀ q ∈ s.fp, q < w'.heap.size) (hown : own = true → ∀ q ∈ s.fp, Γ.B ≤ q) (hsep : ∀ y ∈ h', (own || y.own) = true → ∀ q ∈ s.fp, q ∉ y.fp E)
    (hsz : Γ.B ≤ w'.heap.size) (hkp : Kp Γ.B Γ.S Γ.w0 w') : K (a.put dst s.val) w' := by
  have hd' := hd s hn hx
  have e : (E.ext [] [] [s] []).s.getD st.B.bs.length nilSl = s := by
    simp only [Env.ext, getD_app2, hr.e.ls]; simp
  have hfits := hr.e.fits
  have hle := Env.le_ext E [] [] [s] []
  have hE := hr.e.ext (fun E' hl => hr.fs_le hs hl) (is := []) (bs := []) (ss := [s]) (ts := []) (bi := []) (bS := [(b, len)]) (bT := []) (nb := 0) rfl rfl rfl rfl trivial ⟨⟨hb, hl⟩, trivial⟩ (by simpa using hb0) trivial
  have hfpsub : ∀ q ∈ (It.isl st.B.bs.length ty k z own).fp (E.ext [] [] [s] []), q ∈ s.fp := by
    intro q hq
    cases own with
    | true => simp only [It.fp, e] at hq; exact hq
    | false =>
      simp only [It.fp, e] at hq
      split at hq
      · simp at hq
      · exact hq
  refine hk _ _ _ _ _ h (hr.next (st' := { st.ext [] 0 [(b, len)] [] with h := .isl st.B.bs.length ty k z own :: h', t := putT st.t dst (.p (.c (.sl st.B.bs.length))) }) hs hle rfl ⟨hE.li, hE.ls, hE.lt, hE.lb, hE.ln, hE.lf, hE.bd, hE.fs⟩ ?_ ?_ hsz hkp) rfl hle hd'
  · refine HOK.cons (hH.le hfits hle (List.all_eq_true.2 hsub)) ?_ ?_ ?_ ?_
    · cases own with
      | true => simp only [It.holds, e]; simpa [It.holds] using hit
      | false => simp only [It.holds, e]; simpa [It.holds] using hit
    · exact fun q hq => hlt q (hfpsub q hq)
    · exact fun ho q hq => .inl (hown ho q (hfpsub q hq))
    · intro y hy ho q hq
      rw [It.fp_le hfits hle y (hsub y hy)]
      exact hsep y hy ho q (hfpsub q hq)
  · refine .inr ?_
    simp only [TV.val, PV.den, CV.den, e]

def zeroAt (zs : List CV) (m : Nat) : List CV := (List.range m).map fun j => zs.getD (j % zs.length) (.bool (.c false))

theorem zeroAt_ok {zs : List CV} {m : Nat} {zc : Array Value} {E : Env} (hz : zc = (zs.map (CV.den E)).toArray) (hp : 0 < zs.length) :
    ((Array.range m).map fun i => zc[i % zc.size]!) = ((zeroAt zs m).map (CV.den E)).toArray := by
  apply Array.ext'
  subst hz
  simp only [Array.toList_map, Array.toList_range, zeroAt, List.map_map]
  apply List.map_congr_left
  intro i _
  have hlt : i % zs.length < zs.length := Nat.mod_lt _ hp
  simp [Function.comp, List.getD, hlt, getElem!_pos]

def stLit (C : Cfg) (o : Oper) (st : St) (k : K1) : Option T :=
  match o.op with
  | .buildSlice ty n ps => (match sliceOf C.P ty with
    | some e => (match szT C.P e, zeroC C.P e, partsC st ps.toList with
      | some z, some zs, some l => (match fillC (fun i => some (i * z, z)) (zeroAt zs (n * z)) l, kindL zs with
        | some cs, some kd =>
          if st.sc = true ∧ allK kd cs = true ∧ 0 < z ∧ 0 < zs.length ∧ n * z ≤ 16777216 ∧ n ≤ 1048576 then
            (match k { st.ext [] 0 [(ivJoin st.B (iesOf cs), n)] [] with h := .isl st.B.bs.length e kd z true :: st.h, t := putT st.t o.dst (.p (.c (.sl st.B.bs.length))) } with
            | some t => some (.fs (.c n) (.lit (iesOf cs)) t)
            | none => none) else none
        | _, _ => none)
      | _, _, _ => none)
    | none => none)
  | _ => none

theorem fillC_len {place : Nat → Option (Nat × Nat)} : ∀ (ps : List (Nat × PV)) (cells r : List CV), fillC place cells ps = some r → r.length = cells.length
  | [], cells, r, h => by simp [fillC] at h; subst h; rfl
  | (i, v) :: rest, cells, r, h => by
    simp only [fillC] at h
    split at h
    · simp at h
    · split at h
      · simp at h
      · have := fillC_len rest _ r h; rw [this, setSeg_len]

theorem stLit_ok {C : Cfg} {o : Oper} {st : St} {k : K1} {t : T} {E : Env} {a : Act} {w : World} {K : Act → World → Prop} {Q : Exit → Act → World → Prop}
    (h : stLit C o st k = some t) (hr : RelΓ Γ st E a w) (hd : t.den Γ H E) (hk : Cont Γ H st.lv E k K) : o.wp C.P a w K Q := by
  unfold stLit at h
  split at h
  · rename_i ty n ps ho
    split at h
    · rename_i e he
      split at h
      · rename_i z zs l hz hzs hl
        split at h
        · rename_i cs kd hcs hkd
          split at h
          · rename_i hc
            obtain ⟨hs, hak, hz0, hzs0, hsz1, hsz2⟩ := hc
            split at h
            · rename_i t' ht
              simp at h; subst h
              obtain ⟨zv, hzr, hzc⟩ := zeroC_ok hzs E w
              have hlen : cs.length = n * z := by rw [fillC_len _ _ _ hcs]; simp [zeroAt]
              have hfill := fillC_ok E _ _ _ _ hcs
              have hparts := partsC_ok hr.ev _ _ hl
              have hparts' : (ps.map fun (i, x) => (i, a.eval x)).toList = l.map fun x => (x.1, x.2.den E) := by rw [Array.toList_map]; exact hparts
              have hrun : (execOp a.eval o).run C.P w = .ok (.value (.slice (some ⟨w.heap.size, 0, none⟩) n n)) (w.alloc (.cells (cs.map (CV.den E)).toArray e)) := by
                unfold execOp; rw [ho]
                apply run_v
                have hgt : ¬ n * z > 2 ^ 24 := by omega
                simp only [Instr.buildSlice, Sem.run_bind, run_underlying (sliceOf_ok he), Result.andThen_ok, run_szT hz, hgt, ↓reduceIte, Sem.run_pure]
                by_cases hn0 : n * z = 0
                · have hnil : zeroAt zs (n * z) = [] := by rw [hn0]; rfl
                  rw [hnil] at hfill
                  have hr0 : ((Array.range (n * z)).map fun x => (#[] : Array Value)[x % (#[] : Array Value).size]!) = (([] : List CV).map (CV.den E)).toArray := by rw [hn0]; simp
                  simp only [hn0, ↓reduceIte, Sem.run_bind, Sem.run_pure, Result.andThen_ok]
                  rw [hn0] at hr0
                  rw [hr0, hparts', hfill]
                  simp only [newRow, Sem.run_bind, run_newObj, Result.andThen_ok, Sem.run_pure, World.alloc_eq]
                · simp only [hn0, ↓reduceIte, Sem.run_bind, hzr, Result.andThen_ok, Sem.run_pure]
                  rw [zeroAt_ok hzc hzs0, hparts', hfill]
                  simp only [newRow, Sem.run_bind, run_newObj, Result.andThen_ok, Sem.run_pure, World.alloc_eq]
              have hsame : ∀ it ∈ st.h, ∀ q ∈ it.fp E, (w.alloc (.cells (cs.map (CV.den E)).toArray e)).heap[q]? = w.heap[q]? := fun it hi q hq => Below.heap_alloc _ _ _ (hr.heap.lt it hi q hq)
              refine wp_value hrun (fresh_ok (s := ⟨some ⟨w.heap.size, 0, none⟩, n, n, (iesOf cs).map (IE.den E)⟩) hs (List.all_eq_true.1 (St.sc_parts hs).2.1) ht (iv0_of (ivJoin_0 _ _)) hr hd hk (by simp [IE.den]) rfl (ivJoin_ok hr.e.bd _) (fun _ => Int.le_refl _)
                (hr.heap.same (by simp) hsame) ?_ ?_ ?_ ?_ ?_ (hr.kp.alloc hr.le _))
              · refine ⟨by simp [ints, allK_len hak, hlen], .inr ⟨w.heap.size, n, _, rfl, hr.le, heap_alloc_new w _, Nat.le_refl _, by unfold maxLen; omega, by simp [hlen], ?_⟩⟩
                rw [List.take_of_length_le (by simp [hlen])]
                exact allK_den E hak
              · intro q hq; simp [Sl.fp] at hq; subst hq; simp
              · intro _ q hq; simp [Sl.fp] at hq; subst hq; exact hr.le
              · intro y hy _ q hq hm; simp [Sl.fp] at hq; subst hq; have := hr.heap.lt y hy _ hm; omega
              · have := hr.le; simp only [World.size_alloc]; omega
            · simp at h
          · simp at h
        · simp at h
      · simp at h
    · simp at h
  · simp at h

end
end Go.Proofs.Ytelejhggpkfdoaa.SX

/-
  SX, part 13: make, append, an array seen as a slice.
-/
namespace Go.Proofs.Ytelejhggpkfdoaa.SX
set_option linter.unusedVariables false
set_option linter.unusedSimpArgs false
open Go.RowKit

section
variable {Γ : Ctx} {H : List Hd}

def bytesT (P : Program) (t : TypeId) : Option Nat := (P.info? t).map (·.bytes)

def hiOf (B : Bd) (e : IE) (d : Int) : Int := match e.iv B with | some (_, h) => min h d | none => d
def leN (B : Bd) (e : IE) (m : Int) : List BE := match e.iv B with
  | some (_, h) => if h ≤ m then [] else [.le e (.c m)]
  | none => [.le e (.c m)]
theorem leN_ok {B : Bd} {E : Env} (hB : BdOK B E) {e : IE} {m : Int} (h : ∀ c ∈ leN B e m, c.P E) : e.den E ≤ m := by
  have hi := IE.iv_ok hB e
  unfold leN at h
  split at h
  · rename_i l u he
    rw [he] at hi; simp only [inIv] at hi
    split at h
    · omega
    · simpa [BE.P, IE.den] using h
  · simpa [BE.P, IE.den] using h
theorem hiOf_ok {B : Bd} {E : Env} (hB : BdOK B E) {e : IE} {d : Int} (h : e.den E ≤ d) : e.den E ≤ hiOf B e d := by
  have hi := IE.iv_ok hB e
  unfold hiOf; split
  · rename_i l u he; rw [he] at hi; simp only [inIv] at hi; omega
  · exact h

def stMake (C : Cfg) (o : Oper) (st : St) (k : K1) : Option T :=
  match o.op with
  | .makeSlice ty l c => (match sliceOf C.P ty, st.getC l, st.getC c with
    | some e, some (.int .i64 ne), some (.int .i64 ne') => (match szT C.P e, zeroC C.P e, bytesT C.P e with
      | some z, some zs, some by' => (match kindL zs with
        | some kd =>
          if ne = ne' ∧ st.sc = true ∧ zs.all (fun x => decide (x = .int kd (.c 0))) = true ∧ zs.length = z ∧ 0 < z ∧ z ≤ 64 ∧ by' ≤ 1024 then
            needs ((if ge0 st.B ne then [] else [.le (.c 0) ne]) ++ leN st.B ne 1048576) st fun st =>
              if st.sc = true then
              (match k { st.ext [] 0 [(some (0, 0), hiOf st.B ne 1048576)] [] with h := .isl st.B.bs.length e kd z true :: st.h, t := putT st.t o.dst (.p (.c (.sl st.B.bs.length))) } with
              | some t => some (.fs ne (.rep ne z) t)
              | none => none) else none
          else none
        | none => none)
      | _, _, _ => none)
    | _, _, _ => none)
  | _ => none

theorem zeroAt_rep {zs : List CV} {kd : IntKind} (E : Env) (h : zs.all (fun x => decide (x = .int kd (.c 0))) = true) (hp : 0 < zs.length) (m : Nat) :
    (zeroAt zs m).map (CV.den E) = ints kd (List.replicate m 0) := by
  unfold zeroAt ints
  apply List.ext_getElem
  · simp
  · intro i h1 h2
    have hlt : i % zs.length < zs.length := Nat.mod_lt _ hp
    have := List.all_eq_true.1 h (zs[i % zs.length]) (List.getElem_mem hlt)
    simp only [decide_eq_true_eq] at this
    simp [List.getD, hlt, this, CV.den, IE.den]

theorem wrap_i64 {n : Int} (h0 : 0 ≤ n) (h : n ≤ 1048576) : IntKind.i64.wrap n = n := by
  have h1 : IntKind.i64.min = -9223372036854775808 := by decide
  have h2 : IntKind.i64.max = 9223372036854775807 := by decide
  exact wrap_id .i64 n (by omega) (by omega)

theorem stMake_ok {C : Cfg} {o : Oper} {st : St} {k : K1} {t : T} {E : Env} {a : Act} {w : World} {K : Act → World → Prop} {Q : Exit → Act → World → Prop}
    (h : stMake C o st k = some t) (hr : RelΓ Γ st E a w) (hd : t.den Γ H E) (hk : Cont Γ H st.lv E k K) : o.wp C.P a w K Q := by
  unfold stMake at h
  split at h
  · rename_i ty l c ho
    split at h
    · rename_i e ne ne' he hl hc
      split at h
      · rename_i z zs by' hz hzs hby
        split at h
        · rename_i kd hkd
          split at h
          · rename_i hcond
            obtain ⟨rfl, hs, hall, hzl, hz0, hz64, hb1⟩ := hcond
            obtain ⟨hneeds, fs', t1, h2, hr2, hd2⟩ := needs_ok _ st _ t h hr hd
            simp only at h2
            split at h2
            · rename_i hs2
              split at h2
              · rename_i t' ht
                simp at h2; subst h2
                have h0 : 0 ≤ ne.den E := by
                  by_cases hg : ge0 st.B ne = true
                  · exact ge0_ok hr.e.bd hg
                  · have := hneeds (.le (.c 0) ne) (by simp [hg]); simpa [BE.P, IE.den] using this
                have h1 : ne.den E ≤ 1048576 := leN_ok hr.e.bd (fun c hc => hneeds c (List.mem_append_right _ hc))
                obtain ⟨N, hN⟩ : ∃ N : Nat, ne.den E = N := ⟨(ne.den E).toNat, by omega⟩
                obtain ⟨zv, hzr, hzc⟩ := zeroC_ok hzs E w
                have hi : ∃ i, C.P.info? e = some i ∧ i.bytes = by' := by
                  unfold bytesT at hby
                  cases hi : C.P.info? e with
                  | none => simp [hi] at hby
                  | some i => exact ⟨i, rfl, by simpa [hi] using hby⟩
                obtain ⟨i, hi, hib⟩ := hi
                have hrun : (execOp a.eval o).run C.P w = .ok (.value (.slice (some ⟨w.heap.size, 0, none⟩) N N)) (w.alloc (.cells (ints kd (List.replicate (N * z) 0)).toArray e)) := by
                  unfold execOp; rw [ho]
                  apply run_v
                  have e1 : a.eval l = .int .i64 N := by rw [getC_ok hr.ev hl]; simp only [CV.den, hN]
                  have e2 : a.eval c = .int .i64 N := by rw [getC_ok hr.ev hc]; simp only [CV.den, hN]
                  have hw : IntKind.i64.wrap (N : Int) = N := wrap_i64 (by omega) (by omega)
                  have hbig : ¬ ((i.bytes : Int) * (N : Int) > 2 ^ 48) := by
                    have h3 : i.bytes * N ≤ 1024 * 1048576 := Nat.mul_le_mul (by omega) (by omega)
                    have : ((i.bytes * N : Nat) : Int) ≤ ((1024 * 1048576 : Nat) : Int) := Int.ofNat_le.2 h3
                    simp only [Int.natCast_mul] at this
                    omega
                  have htoo : (decide ((N : Int) < 0) || decide ((i.bytes : Int) * (N : Int) > 2 ^ 48)) = false := by
                    rw [decide_eq_false hbig, decide_eq_false (by omega)]; rfl
                  have hcnd : ¬ (((decide ((N : Int) < 0) || decide ((i.bytes : Int) * (N : Int) > 2 ^ 48)) || decide ((N : Int) < 0) || decide ((N : Int) > (N : Int))) = true) := by
                    rw [htoo, decide_eq_false (by omega), decide_eq_false (by omega)]; simp
                  simp only [Instr.makeSlice, Sem.run_bind, run_underlying (sliceOf_ok he), Result.andThen_ok, e1, e2, asInt, asIntOf, Sem.run_pure, typeInfo, run_program, hi, hw, Sem.run_ite]
                  rw [if_neg hcnd]
                  simp only [Result.andThen_ok, Sem.run_bind, run_askRoom, run_szT hz, Int.toNat_natCast, Sem.run_pure, Sem.run_ite, hzr]
                  by_cases hn0 : N * z = 0
                  · rw [if_pos hn0, hn0]
                    have hnil : ∀ f : Nat → Value, (Array.range 0).map f = #[] := fun f => Array.eq_empty_of_size_eq_zero (by simp)
                    simp only [newRow, Sem.run_bind, run_newObj, Result.andThen_ok, Sem.run_pure, World.alloc_eq]
                    rw [hnil]; rfl
                  · rw [if_neg hn0]
                    simp only [Result.andThen_ok, newRow, Sem.run_bind, run_newObj, Sem.run_pure, World.alloc_eq]
                    rw [zeroAt_ok hzc (by omega), zeroAt_rep E hall (by omega)]
                have hsame : ∀ it ∈ st.h, ∀ q ∈ it.fp E, (w.alloc (.cells (ints kd (List.replicate (N * z) 0)).toArray e)).heap[q]? = w.heap[q]? := fun it hi q hq => Below.heap_alloc _ _ _ (hr.heap.lt it hi q hq)
                refine wp_value hrun (fresh_ok (s := ⟨some ⟨w.heap.size, 0, none⟩, N, N, List.replicate (N * z) 0⟩) hs2 (List.all_eq_true.1 (St.sc_parts hs2).2.1) ht rfl hr2 hd2 hk (by rw [hN]; rfl) (by simp only [LE.den, hN]; rfl) ?_ (fun _ => ?_)
                  (hr.heap.same (by simp) hsame) ?_ ?_ ?_ ?_ ?_ (hr.kp.alloc hr.le _))
                · intro v hv; have := List.eq_of_mem_replicate hv; subst this; exact ⟨Int.le_refl _, Int.le_refl _⟩
                · show (N : Int) ≤ _; rw [← hN]; exact hiOf_ok hr.e.bd h1
                · refine ⟨by simp [ints], .inr ⟨w.heap.size, N, _, rfl, hr.le, heap_alloc_new w _, Nat.le_refl _, by unfold maxLen; omega, by simp [ints], ?_⟩⟩
                  exact List.take_of_length_le (by simp [ints])
                · intro q hq; simp [Sl.fp] at hq; subst hq; simp
                · intro _ q hq; simp [Sl.fp] at hq; subst hq; exact hr.le
                · intro y hy _ q hq hm; simp [Sl.fp] at hq; subst hq; have := hr.heap.lt y hy _ hm; omega
                · have := hr.le; simp only [World.size_alloc]; omega
              · simp at h2
            · simp at h2
          · simp at h
        · simp at h
      · simp at h
    · simp at h
  · simp at h

/-! ### append -/
def eraseIsl : List It → Nat → List It
  | [], _ => []
  | .isl m T k z o :: r, n => if m = n then r else .isl m T k z o :: eraseIsl r n
  | x :: r, n => x :: eraseIsl r n
theorem eraseIsl_sub : ∀ (h : List It) (n : Nat), (eraseIsl h n).Sublist h
  | [], _ => List.Sublist.slnil
  | .isl m T k z o :: r, n => by
    simp only [eraseIsl]; split
    · exact List.sublist_cons_self _ _
    · exact (eraseIsl_sub r n).cons_cons _
  | .blk m T cs o :: r, n => by simp only [eraseIsl]; exact (eraseIsl_sub r n).cons_cons _
theorem eraseIsl_sep {E : Env} : ∀ (h : List It) (n : Nat) (T : TypeId) (k : IntKind) (z : Nat), findIsl h n = some (T, k, z, true) →
    h.Pairwise (fun x y => (x.own || y.own) = true → ∀ k ∈ x.fp E, k ∉ y.fp E) → ∀ y ∈ eraseIsl h n, ∀ q ∈ (E.s.getD n nilSl).fp, q ∉ y.fp E
  | [], _, _, _, _, hf, _, _, _ => by simp [findIsl] at hf
  | .isl m T0 k0 z0 o :: r, n, T, k, z, hf, hp, y, hy => by
    cases hp with
    | cons h1 h2 =>
      simp only [eraseIsl] at hy
      simp only [findIsl] at hf
      split at hy
      · rename_i e; subst e
        simp only [↓reduceIte, Option.some.injEq, Prod.mk.injEq] at hf
        obtain ⟨rfl, rfl, rfl, rfl⟩ := hf
        intro q hq
        exact h1 y hy (by simp [It.own]) q (by simpa [It.fp] using hq)
      · rename_i e
        simp only [e, ↓reduceIte] at hf
        cases hy with
        | head =>
          intro q hq hm
          exact h1 _ (findIsl_mem hf) (by simp [It.own]) q hm (by simpa [It.fp] using hq)
        | tail _ hy => exact eraseIsl_sep r n T k z hf h2 y hy
  | .blk m T0 cs o :: r, n, T, k, z, hf, hp, y, hy => by
    cases hp with
    | cons h1 h2 =>
      simp only [eraseIsl] at hy
      simp only [findIsl] at hf
      cases hy with
      | head =>
        intro q hq hm
        exact h1 _ (findIsl_mem hf) (by simp [It.own]) q hm (by simpa [It.fp] using hq)
      | tail _ hy => exact eraseIsl_sep r n T k z hf h2 y hy

/-- append: the slice that comes out lies where the old one lay, or in a new block -/
theorem append_run {P : Program} {w : World} {base : Nat} {t ty e : TypeId} {i : TypeInfo} {zv : Value} {z : Nat} (ht : P.underlying t = some (.slice e)) (hi : P.info? e = some i) (hz : i.zero = some zv)
    (hsize : i.size = z) (hzs : zv.cells.size = z) (hz0 : 0 < z) {k : IntKind} {s q : Sl} (hown : w.ownsRow base e z s.val s.n (ints k s.xs)) (hq : Reads w k z q)
    (h63 : s.n + q.n ≤ maxLen) (hbytes : (s.n + q.n) * i.bytes ≤ 140737488355328) (hbase : base ≤ w.heap.size) :
    ∃ (s' : Sl) (w' : World), (Builtin.append_ #[t, t] ty #[s.val, q.val]).run P w = .ok s'.val w' ∧ s'.n = s.n + q.n ∧ s'.xs = s.xs ++ q.xs ∧
      w'.ownsRow base e z s'.val s'.n (ints k s'.xs) ∧ w.grownBy w' s.val.ownBlock ∧ (∀ b ∈ s'.fp, b ∈ s.fp ∨ b = w.heap.size ∧ b < w'.heap.size) := by
  subst hsize
  have hsmall : s.n + q.n ≤ 9223372036854775807 := by simp only [maxLen] at h63; omega
  by_cases hm : q.n = 0
  · have hxs : q.xs = [] := List.eq_nil_of_length_eq_zero (by rw [hq.len, hm]; simp)
    refine ⟨s, w, ?_, by omega, by simp [hxs], hown, ⟨rfl, rfl, rfl, Nat.le_refl _, fun _ _ _ => rfl⟩, fun b hb => .inl hb⟩
    have hle : s.n ≤ s.c := by
      rcases hown.2 with ⟨hv, hn⟩ | ⟨g, cap, cur, hv, _, _, hle, _⟩
      · omega
      · unfold Sl.val at hv; injection hv with _ _ hc; omega
    unfold Sl.val
    simp only [Builtin.append_, List.getElem?_toArray, List.getElem?_cons_zero, List.getElem?_cons_succ, Sem.run_bind, run_underlying ht, Result.andThen_ok, sizeOf, typeInfo, run_program, hi, Sem.run_pure, Builtin.lenOf, hm, Nat.add_zero, hle, ↓reduceIte, Bool.false_eq_true]
    have hf : (Builtin.firstCells i.size 0 (.slice q.a 0 q.c)).run P w = .ok #[] w := by
      cases q.a with
      | none => rfl
      | some ad => simp [Builtin.firstCells, loadCells, loadCellsFrom]
    simp only [Bool.not_false, ↓reduceIte, Sem.run_bind, hf, Result.andThen_ok]
    cases s.a with
    | none => rfl
    | some ad => rfl
  · have hne : q.xs ≠ [] := by
      intro h; have h1 := hq.len; rw [h] at h1; have h2 := Nat.mul_pos (Nat.pos_of_ne_zero hm) hz0; simp only [List.length_nil] at h1; omega
    obtain ⟨ad, had⟩ : ∃ ad, q.a = some ad := by
      cases hx : q.xs with
      | nil => exact (hne hx).elim
      | cons x r => obtain ⟨ad, h, _⟩ := hq.cell 0 (.int k x) (by simp [ints, hx]); exact ⟨ad, h⟩
    have hnews : ∀ j u, (ints k q.xs)[j]? = some u → w.cell? (ad.add j) = some u := by
      intro j u hu; obtain ⟨a', ha', hc⟩ := hq.cell j u hu; rw [had] at ha'; injection ha' with e'; rw [e']; exact hc
    have hl : (ints k q.xs).length = q.n * i.size := by simp [ints, hq.len]
    have h1 : ∀ u ∈ ints k q.xs, u.oneCell' = true := by intro u hu; obtain ⟨x, _, rfl⟩ := List.mem_map.1 hu; rfl
    have happ : ints k (s.xs ++ q.xs) = ints k s.xs ++ ints k q.xs := by simp [ints]
    have hslen : (ints k s.xs).length = s.n * i.size := hown.1
    have hqval : q.val = .slice (some ad) q.n q.c := by unfold Sl.val; rw [had]
    have grown : ∀ (old : Nat) (row : Option Nat),
        (w.drew.alloc (.cells ((ints k s.xs).toArray ++ (ints k q.xs).toArray ++ Builtin.zeroCells zv.cells (grownCap w (s.n + q.n) old e - (s.n + q.n))) e)).ownsRow base e i.size
          (.slice (some ⟨w.heap.size, 0, none⟩) (s.n + q.n) (grownCap w (s.n + q.n) old e)) (s.n + q.n) (ints k (s.xs ++ q.xs)) ∧
        w.grownBy (w.drew.alloc (.cells ((ints k s.xs).toArray ++ (ints k q.xs).toArray ++ Builtin.zeroCells zv.cells (grownCap w (s.n + q.n) old e - (s.n + q.n))) e)) row := by
      intro old row
      have hge := grownCap_ge w (s.n + q.n) old e
      have hcm : grownCap w (s.n + q.n) old e ≤ maxLen := grownCap_le_maxLen w (s.n + q.n) old e h63
      refine ⟨⟨by rw [happ, List.length_append, hslen, hl, Nat.add_mul], .inr ⟨w.heap.size, _, _, rfl, hbase, heap_alloc_new w.drew _, hge, hcm, ?_, ?_⟩⟩, ⟨rfl, rfl, rfl, by simp, fun k hk _ => _root_.Go.heap_alloc_old w.drew _ hk⟩⟩
      · simp only [Array.size_append, List.size_toArray, size_zeroCells, hzs, hslen, hl, ← Nat.add_mul]
        congr 1
        omega
      · simp only [Array.toList_append, List.append_assoc]
        rw [← List.append_assoc, happ]
        exact List.take_left' (by rw [List.length_append, hslen, hl, Nat.add_mul])
    rcases hown.2 with ⟨hv, hn⟩ | ⟨g, cap, cur, hv, hbg, hg, hnc, hcm, hcs, htake⟩
    · have hxs : s.xs = [] := by
        have : (ints k s.xs).length = 0 := by rw [hslen, hn]; simp
        simpa [ints] using this
      have hr := run_append_nil (P := P) w t ty e i zv ht hi hz ad q.n q.c (ints k q.xs) hl hnews (by omega) (by omega) (by have hb := hbytes; rw [hn] at hb; simp only [Nat.zero_add] at hb; omega)
      have hgr := grown 0 s.val.ownBlock
      rw [hn, hxs] at hgr
      simp only [Nat.zero_add, ints, List.map_nil, List.nil_append, Array.empty_append] at hgr hr
      refine ⟨⟨some ⟨w.heap.size, 0, none⟩, q.n, grownCap w q.n 0 e, q.xs⟩, _, ?_, by simp [hn], by simp [hxs], hgr.1, hgr.2, ?_⟩
      · rw [hv, hqval]; exact hr
      · intro b hb; simp [Sl.fp] at hb; subst hb; exact .inr ⟨rfl, by simp⟩
    · by_cases hroom : s.n + q.n ≤ cap
      · have hfit : s.n * i.size + (ints k q.xs).length ≤ cur.size := by rw [hl, hcs, ← Nat.add_mul]; exact Nat.mul_le_mul_right _ hroom
        have hr := run_append_room (P := P) w t ty e i ht hi g s.n cap cur hg ad q.n q.c (ints k q.xs) hl hnews h1 hroom hfit
        refine ⟨⟨some ⟨g, 0, none⟩, s.n + q.n, cap, s.xs ++ q.xs⟩, w.setRow g (cur.toList.take (s.n * i.size) ++ ints k q.xs ++ cur.toList.drop (s.n * i.size + (ints k q.xs).length)).toArray, ?_, rfl, rfl, ⟨by rw [happ, List.length_append, hslen, hl, Nat.add_mul], .inr ⟨g, cap, _, rfl, hbg, setRow_heap w g cur _ e _ hg, hroom, hcm, ?_, ?_⟩⟩,
          ⟨rfl, rfl, rfl, by simp, fun k hk hne => setRow_other w g k _ (fun e => hne (by rw [hv]; simp [Value.ownBlock, e]))⟩, ?_⟩
        · rw [hv, hqval]; exact hr
        · simp only [List.size_toArray, List.length_append, List.length_take, List.length_drop, Array.length_toList]; omega
        · rw [htake, happ]
          exact List.take_left' (by rw [List.length_append, hslen, hl, Nat.add_mul])
        · intro b hb
          simp [Sl.fp] at hb; subst hb
          have : s.a = some ⟨b, 0, none⟩ := by unfold Sl.val at hv; injection hv
          exact .inl (by simp [Sl.fp, this])
      · have holds : ∀ j u, (ints k s.xs)[j]? = some u → w.cell? ((⟨g, 0, none⟩ : Addr).add j) = some u := hown.cells (g := g) (by rw [hv]; rfl)
        have hr := run_append_grow (P := P) w t ty e i zv ht hi hz ⟨g, 0, none⟩ s.n cap (ints k s.xs) hslen holds ad q.n q.c (ints k q.xs) hl hnews (by omega) (by omega) (growslice_fits (by omega) hbytes)
        have hgr := grown cap s.val.ownBlock
        refine ⟨⟨some ⟨w.heap.size, 0, none⟩, s.n + q.n, grownCap w (s.n + q.n) cap e, s.xs ++ q.xs⟩, _, ?_, rfl, rfl, hgr.1, hgr.2, ?_⟩
        · rw [hv, hqval]; exact hr
        · intro b hb; simp [Sl.fp] at hb; subst hb; exact .inr ⟨rfl, by simp⟩
end
end Go.Proofs.Ytelejhggpkfdoaa.SX

/-
  SX, part 14: the steps append, array to slice, an element written.
-/
namespace Go.Proofs.Ytelejhggpkfdoaa.SX
set_option linter.unusedVariables false
set_option linter.unusedSimpArgs false
open Go.RowKit

section
variable {Γ : Ctx} {H : List Hd}

def ivUn : Iv → Iv → Iv
  | some x, some y => some (min x.1 y.1, max x.2 y.2)
  | _, _ => none
theorem ivUn_l {a b : Iv} {n : Int} (h : inIv a n) : inIv (ivUn a b) n := by
  unfold ivUn; split
  · simp only [inIv] at *; omega
  · trivial
theorem ivUn_r {a b : Iv} {n : Int} (h : inIv b n) : inIv (ivUn a b) n := by
  unfold ivUn; split
  · simp only [inIv] at *; omega
  · trivial

def stApp (C : Cfg) (o : Oper) (st : St) (k : K1) : Option T :=
  match o.op with
  | .call { callee := .builtin .append, args, argTypes } => (match args.toList, argTypes.toList with
    | [x, y], [t1, t2] => (match st.getC x, st.getC y, sliceOf C.P t1 with
      | some (.sl s), some (.sl q), some e => (match findIsl st.h s, findIsl st.h q, szT C.P e, zeroC C.P e, bytesT C.P e with
        | some (e', kd, z, true), some (_, kd', z', _), some m, some zs, some by' =>
          if t1 = t2 ∧ e = e' ∧ kd = kd' ∧ z = z' ∧ m = z ∧ zs.length = z ∧ 0 < z ∧ by' ≤ 128 ∧ s ≠ q then
            needs (leN st.B (.add (.sl s) (.sl q)) 1000000000000) st fun st =>
              let b := ivUn (st.B.bs.getD s (none, -1)).1 (st.B.bs.getD q (none, -1)).1
              let len := hiOf st.B (.add (.sl s) (.sl q)) 1000000000000
              if st.sc = true ∧ iv0 b = true then
              (match k { st.ext [] 0 [(b, len)] [] with h := .isl st.B.bs.length e kd z true :: eraseIsl st.h s, t := putT st.t o.dst (.p (.c (.sl st.B.bs.length))) } with
              | some t => some (.fs (.add (.sl s) (.sl q)) (.app s q) t)
              | none => none) else none
          else none
        | _, _, _, _, _ => none)
      | _, _, _ => none)
    | _, _ => none)
  | _ => none

theorem mem_bd {B : Bd} {E : Env} (hB : BdOK B E) {s : Nat} {v : Int} (hv : v ∈ (E.s.getD s nilSl).xs) : inIv (B.bs.getD s (none, -1)).1 v := by
  obtain ⟨j, hj, rfl⟩ := List.getElem_of_mem hv
  have := (hB.s s).1 j
  generalize (E.s.getD s nilSl).xs = xs at *
  rwa [List.getD_eq_getElem?_getD (l := xs), List.getElem?_eq_getElem hj] at this

theorem stApp_ok {C : Cfg} {o : Oper} {st : St} {k : K1} {t : T} {E : Env} {a : Act} {w : World} {K : Act → World → Prop} {Q : Exit → Act → World → Prop}
    (h : stApp C o st k = some t) (hr : RelΓ Γ st E a w) (hd : t.den Γ H E) (hk : Cont Γ H st.lv E k K) : o.wp C.P a w K Q := by
  unfold stApp at h
  split at h
  · rename_i args argTypes ho
    split at h
    · rename_i x y t1 t2 hargs htys
      have hargs' : args = #[x, y] := by cases args; simp_all
      have htys' : argTypes = #[t1, t2] := by cases argTypes; simp_all
      subst hargs'; subst htys'
      split at h
      · rename_i s q e hx hy he
        split at h
        · rename_i e' kd z e'' kd' z' oq m zs by' hs hq hm hzs hby
          split at h
          · rename_i hcond
            obtain ⟨rfl, rfl, rfl, rfl, rfl, hzl, hz0, hb1, hne⟩ := hcond
            obtain ⟨hneeds, fs', t1', h2, hr2, hd2⟩ := needs_ok _ st _ t h hr hd
            simp only at h2
            split at h2
            · rename_i hs2
              split at h2
              · rename_i t' ht
                simp at h2; subst h2
                have hle : ((IE.sl s).add (.sl q)).den E ≤ 1000000000000 := leN_ok hr.e.bd hneeds
                have hle' : (E.s.getD s nilSl).n + (E.s.getD q nilSl).n ≤ 1000000000000 := by
                  simp only [IE.den] at hle; omega
                have hown := hr.heap.holds _ (findIsl_mem hs)
                simp only [It.holds] at hown
                have hqr := It.reads (hr.heap.holds _ (findIsl_mem hq))
                have hi : ∃ i, C.P.info? e = some i ∧ i.bytes = by' ∧ i.size = m := by
                  unfold bytesT at hby; unfold szT at hm
                  cases hi : C.P.info? e with
                  | none => simp [hi] at hby
                  | some i => exact ⟨i, rfl, by simpa [hi] using hby, by simpa [hi] using hm⟩
                obtain ⟨i, hi, hib, his⟩ := hi
                have hz : ∃ zv, i.zero = some zv ∧ zv.cells.size = m := by
                  unfold zeroC at hzs
                  rw [hi] at hzs
                  simp only at hzs
                  split at hzs
                  · rename_i zv hzv
                    refine ⟨zv, hzv, ?_⟩
                    have := CV.ofL_ok E hzs
                    have := congrArg List.length this
                    simp at this; omega
                  · simp at hzs
                obtain ⟨zv, hzv, hzvs⟩ := hz
                obtain ⟨s', w', hrun, hn', hxs', hown', hgr, hfp⟩ := append_run (ty := o.type) (sliceOf_ok he) hi hzv his hzvs hz0 hown hqr (by unfold maxLen; omega)
                  (by
                    have h3 : ((E.s.getD s nilSl).n + (E.s.getD q nilSl).n) * i.bytes ≤ 1000000000000 * 128 := Nat.mul_le_mul hle' (by omega)
                    omega) hr.le
                have hrun' : (execOp a.eval o).run C.P w = .ok (.value s'.val) w' := by
                  unfold execOp; rw [ho]
                  have e1 : a.eval x = (E.s.getD s nilSl).val := getC_ok hr.ev hx
                  have e2 : a.eval y = (E.s.getD q nilSl).val := getC_ok hr.ev hy
                  simp only [resolve, invoke, builtin, Sem.run_bind, Sem.run_pure, Result.andThen_ok, List.map_toArray, List.map_cons, List.map_nil, e1, e2, hrun]
                have hfps : ∀ b, (E.s.getD s nilSl).val.ownBlock = some b → b ∈ (E.s.getD s nilSl).fp := by
                  intro b hb
                  unfold Sl.val Value.ownBlock at hb
                  split at hb
                  · rename_i ad _ _ hv
                    injection hv with h1 _ _
                    simp at hb; subst hb
                    unfold Sl.fp; rw [h1]; simp
                  · simp at hb
                have hdis : ∀ it ∈ eraseIsl st.h s, ∀ b ∈ it.fp E, w'.heap[b]? = w.heap[b]? := by
                  intro it hit b hb
                  refine hgr.block b (hr.heap.lt it ((eraseIsl_sub _ _).subset hit) b hb) fun e => ?_
                  exact eraseIsl_sep _ _ _ _ _ hs hr.heap.sep it hit b (hfps b e.symm) hb
                have hsub : ∀ it ∈ eraseIsl st.h s, it.sc { st with fs := fs' }.sz = true := fun it hit => List.all_eq_true.1 (St.sc_parts hs2.1).2.1 it ((eraseIsl_sub _ _).subset hit)
                have hownfp : ∀ b ∈ (E.s.getD s nilSl).fp, Γ.B ≤ b ∧ b < w.heap.size := by
                  intro b hb
                  refine hown.lt b ?_
                  unfold Sl.val Value.ownBlock
                  unfold Sl.fp at hb
                  split at hb
                  · rename_i ad had; simp at hb; subst hb; rw [had]
                  · simp at hb
                refine wp_value hrun' (fresh_ok hs2.1 hsub ht hs2.2 hr2 hd2 hk (by rw [hn']; simp only [IE.den]; omega) (by rw [hxs']; rfl) ?_ ?_
                  ((hr.heap.sub (eraseIsl_sub _ _)).same hgr.size hdis) hown' ?_ ?_ ?_ ?_ ?_)
                · intro v hv
                  rw [hxs'] at hv
                  rcases List.mem_append.1 hv with hv | hv
                  · exact ivUn_l (mem_bd hr.e.bd hv)
                  · exact ivUn_r (mem_bd hr.e.bd hv)
                · intro _
                  rw [hn']
                  have := hiOf_ok hr.e.bd hle
                  simp only [IE.den] at this
                  simp only [Int.natCast_add]; exact this
                · intro b hb
                  rcases hfp b hb with hb | hb
                  · exact Nat.lt_of_lt_of_le (hownfp b hb).2 hgr.size
                  · exact hb.2
                · intro _ b hb
                  rcases hfp b hb with hb | hb
                  · exact (hownfp b hb).1
                  · rw [hb.1]; exact hr.le
                · intro y' hy' _ b hb hm'
                  rcases hfp b hb with hb | hb
                  · exact eraseIsl_sep _ _ _ _ _ hs hr.heap.sep y' hy' b hb hm'
                  · have := hr.heap.lt y' ((eraseIsl_sub _ _).subset hy') b hm'; omega
                · exact Nat.le_trans hr.le hgr.size
                · refine hr.kp.trans ⟨hgr.os, hgr.tape, hgr.output, hgr.size, fun b hb hbs => hgr.block b (Nat.lt_of_lt_of_le hb hr.le) fun e => ?_⟩
                  have := (hownfp b (hfps b e.symm)).1; omega
              · simp at h2
            · simp at h2
          · simp at h
        · simp at h
      · simp at h
    · simp at h
  · simp at h

/-! ### an array as a slice -/
/-- the block is only read from here on -/
def freezeBlk : List It → Nat → List It
  | [], _ => []
  | .blk m T cs o :: r, n => if m = n then .blk m T cs false :: r else .blk m T cs o :: freezeBlk r n
  | x :: r, n => x :: freezeBlk r n

theorem freezeBlk_mem {B : Nat} {E : Env} {w : World} : ∀ (h : List It) (n : Nat), ∀ y ∈ freezeBlk h n, ∃ x ∈ h, y.fp E = x.fp E ∧ (y.own = true → x.own = true) ∧ (x.holds B E w → y.holds B E w) ∧ (∀ z, x.sc z = true → y.sc z = true)
  | [], _, y, hy => by simp [freezeBlk] at hy
  | .blk m T cs o :: r, n, y, hy => by
    simp only [freezeBlk] at hy
    split at hy
    · cases hy with
      | head => exact ⟨_, List.mem_cons_self .., rfl, by simp [It.own], fun h => h, fun _ h => h⟩
      | tail _ hy => exact ⟨y, List.mem_cons_of_mem _ hy, rfl, id, id, fun _ h => h⟩
    · cases hy with
      | head => exact ⟨_, List.mem_cons_self .., rfl, id, id, fun _ h => h⟩
      | tail _ hy => obtain ⟨x, hx, h⟩ := freezeBlk_mem r n y hy; exact ⟨x, List.mem_cons_of_mem _ hx, h⟩
  | .isl s T k z o :: r, n, y, hy => by
    simp only [freezeBlk] at hy
    cases hy with
    | head => exact ⟨_, List.mem_cons_self .., rfl, id, id, fun _ h => h⟩
    | tail _ hy => obtain ⟨x, hx, h⟩ := freezeBlk_mem r n y hy; exact ⟨x, List.mem_cons_of_mem _ hx, h⟩

theorem freezeBlk_sep (E : Env) : ∀ (h : List It) (n : Nat), h.Pairwise (fun x y => (x.own || y.own) = true → ∀ k ∈ x.fp E, k ∉ y.fp E) →
    (freezeBlk h n).Pairwise (fun x y => (x.own || y.own) = true → ∀ k ∈ x.fp E, k ∉ y.fp E)
  | [], _, _ => List.Pairwise.nil
  | .blk m T cs o :: r, n, hp => by
    cases hp with
    | cons h1 h2 =>
      simp only [freezeBlk]
      split
      · exact List.Pairwise.cons (fun y hy ho => h1 y hy (by simp only [It.own] at *; simp only [Bool.or_eq_true] at *; rcases ho with ho | ho; cases ho; exact .inr ho)) h2
      · refine List.Pairwise.cons (fun y hy ho => ?_) (freezeBlk_sep E r n h2)
        obtain ⟨x, hx, e1, e2, _⟩ := freezeBlk_mem (B := 0) (E := E) (w := default) r n y hy
        rw [e1]; exact h1 x hx (by simp only [Bool.or_eq_true] at *; rcases ho with ho | ho; exact .inl ho; exact .inr (e2 ho))
  | .isl s T k z o :: r, n, hp => by
    cases hp with
    | cons h1 h2 =>
      simp only [freezeBlk]
      refine List.Pairwise.cons (fun y hy ho => ?_) (freezeBlk_sep E r n h2)
      obtain ⟨x, hx, e1, e2, _⟩ := freezeBlk_mem (B := 0) (E := E) (w := default) r n y hy
      rw [e1]; exact h1 x hx (by simp only [Bool.or_eq_true] at *; rcases ho with ho | ho; exact .inl ho; exact .inr (e2 ho))

theorem HOK.freeze {B : Nat} {S : List Nat} {h : List It} {E : Env} {w : World} (hh : HOK B S h E w) (n : Nat) : HOK B S (freezeBlk h n) E w := by
  refine ⟨fun y hy => ?_, fun y hy k hk => ?_, fun y hy ho k hk => ?_, freezeBlk_sep E h n hh.sep⟩
  · obtain ⟨x, hx, _, _, h3, _⟩ := freezeBlk_mem (B := B) (E := E) (w := w) h n y hy; exact h3 (hh.holds x hx)
  · obtain ⟨x, hx, h1, _⟩ := freezeBlk_mem (B := B) (E := E) (w := w) h n y hy; exact hh.lt x hx k (by rw [← h1]; exact hk)
  · obtain ⟨x, hx, h1, h2, _⟩ := freezeBlk_mem (B := B) (E := E) (w := w) h n y hy; exact hh.own x hx (h2 ho) k (by rw [← h1]; exact hk)

def notOwn (h : List It) (n : Nat) : Bool := match findBlk h n with | some (_, _, false) => true | _ => false

theorem freezeBlk_own {E : Env} : ∀ (h : List It) (n : Nat) {T : TypeId} {cs : List CV} {o : Bool}, findBlk h n = some (T, cs, o) → h.Pairwise (fun x y => (x.own || y.own) = true → ∀ k ∈ x.fp E, k ∉ y.fp E) →
    ∀ y ∈ freezeBlk h n, y.own = true → E.n.getD n 0 ∉ y.fp E
  | [], _, _, _, _, hf, _, _, _ => by simp [findBlk] at hf
  | .blk m T0 cs0 o0 :: r, n, T, cs, o, hf, hp, y, hy => by
    cases hp with
    | cons h1 h2 =>
      simp only [freezeBlk] at hy
      simp only [findBlk] at hf
      split at hy
      · rename_i e; subst e
        cases hy with
        | head => intro ho; simp [It.own] at ho
        | tail _ hy => intro ho; exact h1 y hy (by simp [ho]) _ (by simp [It.fp])
      · rename_i e
        simp only [e, ↓reduceIte] at hf
        cases hy with
        | head =>
          intro ho hm
          exact h1 _ (findBlk_mem hf) (by simp only [Bool.or_eq_true]; exact .inl ho) _ hm (by simp [It.fp])
        | tail _ hy => exact freezeBlk_own r n hf h2 y hy
  | .isl s T0 k0 z0 o0 :: r, n, T, cs, o, hf, hp, y, hy => by
    cases hp with
    | cons h1 h2 =>
      simp only [freezeBlk] at hy
      simp only [findBlk] at hf
      cases hy with
      | head =>
        intro ho hm
        exact h1 _ (findBlk_mem hf) (by simp only [Bool.or_eq_true]; exact .inl ho) _ hm (by simp [It.fp])
      | tail _ hy => exact freezeBlk_own r n hf h2 y hy

def stArr (C : Cfg) (o : Oper) (st : St) (k : K1) : Option T :=
  match o.op with
  | .slice ty x none hi none => (match st.getC x, arrayOf C.P ty with
    | some (.ptr n off), some (m, e) => (match findBlk st.h n, szT C.P e, (match hi with | none => some (m : Int) | some y => match st.getC y with | some (.int _ (.c j)) => some j | _ => none) with
      | some (_, cs, _), some z, some h =>
        let l := (cs.drop off).take (h.toNat * z)
        (match kindL l with
        | some kd => if 0 ≤ h ∧ h ≤ m ∧ allK kd l = true ∧ l.length = h.toNat * z ∧ st.sc = true ∧ (iesOf l).all (fun e => e.sc st.sz) = true then
            (match k { st.ext [] 0 [(ivJoin st.B (iesOf l), h)] [] with h := .isl st.B.bs.length e kd z false :: freezeBlk st.h n, t := putT st.t o.dst (.p (.c (.sl st.B.bs.length))) } with
            | some t => some (.dsl (.arr n off h.toNat m (iesOf l)) t)
            | none => none) else none
        | none => none)
      | _, _, _ => none)
    | _, _ => none)
  | _ => none

theorem stArr_ok {C : Cfg} {o : Oper} {st : St} {k : K1} {t : T} {E : Env} {a : Act} {w : World} {K : Act → World → Prop} {Q : Exit → Act → World → Prop}
    (h : stArr C o st k = some t) (hr : RelΓ Γ st E a w) (hd : t.den Γ H E) (hk : Cont Γ H st.lv E k K) : o.wp C.P a w K Q := by
  unfold stArr at h
  split at h
  · rename_i ty x hi ho
    split at h
    · rename_i n off m e hx ha
      split at h
      · rename_i T0 cs o0 z hh hf hz hhi
        simp only at h
        split at h
        · rename_i kd hkd
          split at h
          · rename_i hcond
            obtain ⟨h0, h1, hak, hlen, hs, hsc⟩ := hcond
            split at h
            · rename_i t' ht
              simp at h; subst h
              have hb := hr.heap.holds _ (findBlk_mem hf)
              simp only [It.holds] at hb
              have hlt := hr.heap.lt _ (findBlk_mem hf) (E.n.getD n 0) (by simp [It.fp])
              obtain ⟨N, rfl⟩ : ∃ N : Nat, hh = N := ⟨hh.toNat, by omega⟩
              simp only [Int.toNat_natCast] at hlen hak ht hd
              have e1 : a.eval x = .pointer (some ⟨E.n.getD n 0, off, none⟩) := getC_ok hr.ev hx
              have hbound : (Instr.sliceBounds false m m none (hi.map a.eval) none).run C.P w = .ok (0, N, m) w := by
                cases hi with
                | none =>
                  simp at hhi
                  simp only [Instr.sliceBounds, Option.map_none, Sem.run_bind, Sem.run_pure, Result.andThen_ok]
                  have : m = N := by omega
                  rw [this]
                | some y =>
                  simp only at hhi
                  split at hhi
                  · rename_i kk j hy
                    simp at hhi; subst hhi
                    have e2 : a.eval y = .int kk (N : Int) := by rw [getC_ok hr.ev hy]; rfl
                    simp only [Instr.sliceBounds, Option.map_some, e2, Instr.sliceBound, asIntOf, Sem.run_bind, Sem.run_pure, Result.andThen_ok, Bool.false_eq_true, ↓reduceIte, h0, h1, and_self, Int.toNat_natCast]
                  · simp at hhi
              have hrun : (execOp a.eval o).run C.P w = .ok (.value (Sl.val ⟨some ⟨E.n.getD n 0, off, none⟩, N, m, (iesOf ((cs.drop off).take (N * z))).map (IE.den E)⟩)) w := by
                unfold execOp; rw [ho]
                apply run_v
                simp only [Instr.sliceAt, Sem.run_bind, run_underlying (arrayOf_ok ha), Result.andThen_ok, e1, Instr.sureAddr, Sem.run_pure, Option.map_none, hbound, run_szT hz, Sl.val, Nat.sub_zero, Nat.zero_mul]
                have : (if m = 0 then (⟨E.n.getD n 0, off, none⟩ : Addr) else Addr.add ⟨E.n.getD n 0, off, none⟩ 0) = ⟨E.n.getD n 0, off, none⟩ := by split <;> rfl
                rw [this]
              have hcells : ints kd ((iesOf ((cs.drop off).take (N * z))).map (IE.den E)) = ((cs.drop off).take (N * z)).map (CV.den E) := (allK_den E hak).symm
              have hE := hr.e.ext (fun E' hl => hr.fs_le hs hl) (is := []) (bs := []) (ss := [SE.den E (.arr n off N m (iesOf ((cs.drop off).take (N * z))))]) (ts := []) (bi := []) (bS := [(ivJoin st.B (iesOf ((cs.drop off).take (N * z))), (N : Int))]) (bT := []) (nb := 0) rfl rfl rfl rfl trivial
                ⟨⟨ivJoin_ok hr.e.bd _, fun _ => Int.le_refl _⟩, trivial⟩ (by simpa using iv0_of (ivJoin_0 st.B _)) trivial
              have hle := Env.le_ext E [] [] [SE.den E (.arr n off N m (iesOf ((cs.drop off).take (N * z))))] []
              have es : (E.ext [] [] [SE.den E (.arr n off N m (iesOf ((cs.drop off).take (N * z))))] []).s.getD st.B.bs.length nilSl = SE.den E (.arr n off N m (iesOf ((cs.drop off).take (N * z)))) := by
                simp only [Env.ext, getD_app2, hr.e.ls]; simp
              have hfz := hr.heap.freeze n
              have hscf : (freezeBlk st.h n).all (It.sc st.sz) = true := List.all_eq_true.2 fun y hy => by
                obtain ⟨x', hx', _, _, _, h5⟩ := freezeBlk_mem (B := 0) (E := E) (w := w) st.h n y hy
                exact h5 _ (List.all_eq_true.1 (St.sc_parts hs).2.1 x' hx')
              refine wp_value hrun (hk _ _ _ _ _ ht (hr.next (st' := { st.ext [] 0 [(ivJoin st.B (iesOf ((cs.drop off).take (N * z))), (N : Int))] [] with h := .isl st.B.bs.length e kd z false :: freezeBlk st.h n, t := putT st.t o.dst (.p (.c (.sl st.B.bs.length))) }) hs hle rfl
                ⟨hE.li, hE.ls, hE.lt, hE.lb, hE.ln, hE.lf, hE.bd, hE.fs⟩ ?_ ?_ hr.le hr.kp) rfl hle hd)
              · refine HOK.cons (hfz.le hr.e.fits hle hscf) ?_ ?_ ?_ ?_
                · simp only [It.holds, es]
                  refine ⟨?_, by show N ≤ m; omega, ?_⟩
                  · show ((iesOf ((cs.drop off).take (N * z))).map (IE.den E)).length = N * z
                    rw [List.length_map, allK_len hak, hlen]
                  · intro j u hu
                    refine ⟨⟨E.n.getD n 0, off, none⟩, rfl, ?_⟩
                    have hu' : (((cs.drop off).take (N * z)).map (CV.den E))[j]? = some u := by rw [← hcells]; exact hu
                    rw [Addr.add_lit, cell_blk hb]
                    rw [List.getElem?_map, List.getElem?_take] at hu'
                    split at hu'
                    · rw [List.getElem?_drop] at hu'; rw [List.getElem?_map]; exact hu'
                    · simp at hu'
                · intro q hq
                  simp only [It.fp, es] at hq
                  split at hq
                  · simp at hq
                  · simp [SE.den, Sl.fp] at hq
                    subst hq
                    simpa using hlt
                · intro ho'; simp [It.own] at ho'
                · intro y hy ho' q hq
                  simp only [It.fp, es] at hq
                  split at hq
                  · simp at hq
                  · simp only [SE.den, Sl.fp, List.mem_singleton] at hq
                    subst hq
                    rw [It.fp_le hr.e.fits hle y (List.all_eq_true.1 hscf y hy)]
                    exact freezeBlk_own st.h n hf hr.heap.sep y hy (by simpa [It.own] using ho')
              · refine .inr ?_
                simp only [TV.val, PV.den, CV.den, es]
                rfl
            · simp at h
          · simp at h
        · simp at h
      · simp at h
    · simp at h
  · simp at h
end
end Go.Proofs.Ytelejhggpkfdoaa.SX

/-
  SX, part 15: calls.
-/
namespace Go.Proofs.Ytelejhggpkfdoaa.SX
set_option linter.unusedVariables false
set_option linter.unusedSimpArgs false
open Go.RowKit

def kindsOf : List CV → Option (List IntKind)
  | [] => some []
  | .int k _ :: r => match kindsOf r with
    | some l => some (k :: l)
    | none => none
  | _ => none

def shapeOf (P : Program) (t : TypeId) : Option Sh :=
  match P.underlying t with
  | some (.int k) => some (.int k)
  | some .bool => some .bool
  | some .string => some .str
  | some (.slice e) => match zeroC P e, szT P e with
    | some zs, some z => match kindL zs with
      | some kd => some (.sl e kd z)
      | none => none
    | _, _ => none
  | some _ => match zeroC P t with
    | some zs => match kindsOf zs with
      | some l => some (.agg l)
      | none => none
    | none => none
  | none => none
def shapesL (P : Program) : List TypeId → Option (List Sh)
  | [] => some []
  | t :: r => match shapeOf P t, shapesL P r with
    | some s, some l => some (s :: l)
    | _, _ => none
def shapesOf (P : Program) (t : TypeId) : Option (List Sh) :=
  match P.underlying t with
  | some (.tuple ts) => shapesL P ts.toList
  | _ => shapesL P [t]

def resTV : List PV → TV
  | [p] => .p p
  | l => .tup l
theorem resTV_val (E : Env) (l : List PV) : (resTV l).val E = pack (l.map (PV.den E)) := by
  unfold resTV; split
  · rfl
  · rename_i h
    cases l with
    | nil => rfl
    | cons x r =>
      cases r with
      | nil => exact (h x rfl).elim
      | cons y q => rfl

def padIv (bi : List Iv) (n : Nat) : List Iv := (bi ++ List.replicate n none).take n
theorem padIv_len (bi : List Iv) (n : Nat) : (padIv bi n).length = n := by simp [padIv]

structure CallMode where
  det : Bool
  hv : Bool
  bi : List Iv
  bs : List (Iv × Int)
  bt : List Int

def havocC : List CV → Nat → List CV
  | [], _ => []
  | .int k _ :: r, n => .int k (.v n) :: havocC r (n + 1)
  | c :: r, n => c :: havocC r n
def havocN : List CV → Nat
  | [] => 0
  | .int _ _ :: r => 1 + havocN r
  | _ :: r => havocN r

def tgtOf : CV → Option Tgt
  | .fc g => some (.fc g)
  | .fn f => some (.fn f)
  | _ => none

def ptrArg : List PV → Option Nat
  | [] => none
  | .c (.ptr n 0) :: _ => some n
  | _ :: r => ptrArg r

/-- hands back a pointer to a new block: none: the first argument's cell; some k: an integer -/
structure PMode where
  ty : TypeId
  cs : List (Option IntKind)
  bi : List Iv
def pcs (a : CV) : List (Option IntKind) → Nat → List CV
  | [], _ => []
  | none :: r, n => a :: pcs a r n
  | some k :: r, n => .int k (.v n) :: pcs a r (n + 1)

structure CfgX extends Cfg where
  mode : FuncId → CallMode
  modeP : FuncId → Option PMode := fun _ => none

def modeOf (C : CfgX) (shs : List Sh) : Tgt → CallMode
  | .fc g => C.mode g
  | .fn _ => { det := (shS shs).isEmpty && decide (shT shs = 0), hv := false, bi := [], bs := (shS shs).map fun _ => (none, -1), bt := List.replicate (shT shs) (-1) }

/-- the heap that a callee is told of: none where the arguments are numbers alone -/
def CV.plain : CV → Bool
  | .int _ _ => true
  | .bool _ => true
  | .nsl => true
  | .fc _ => true
  | .sk _ => true
  | .str _ => true
  | _ => false
def heapFor (tg : Tgt) (l : List PV) (h : List It) : List It := if l.all (fun p => p.cs.all CV.plain) = true then (match tg with | .fc _ => [] | .fn _ => h) else h
theorem heapFor_sub (tg : Tgt) (l : List PV) (h : List It) : (heapFor tg l h).Sublist h := by
  unfold heapFor; split
  · cases tg
    · exact List.nil_sublist _
    · exact List.Sublist.refl _
  · exact List.Sublist.refl _

def stCall (C : CfgX) (o : Oper) (st : St) (k : K1) : Option T :=
  match o.op with
  | .call { callee := .value f, args, argTypes } => (match st.getC f, getPs st args.toList, shapesOf C.P o.type with
    | some fv, some l, some shs => (match tgtOf fv with
      | some tg =>
        let m := modeOf C shs tg
        if st.sc = true then
          if m.det = true then
            if (shS shs).isEmpty = true ∧ shT shs = 0 then
              let bi := padIv m.bi (shI shs)
              (match k { st.ext bi (shB shs) [] [] with t := putT st.t o.dst (resTV (shPV shs st.B.bi.length st.nb 0 0)) } with
              | some t => some (.callD tg l shs bi (heapFor tg l st.h) t)
              | none => none)
            else none
          else if m.bs.length = (shS shs).length ∧ m.bt.length = shT shs ∧ m.bs.all (fun b => iv0 b.1) = true then
            if m.hv = true then
              (match ptrArg l with
              | some n => (match findBlk st.h n with
                | some (ty, cs, true) =>
                  let cs' := havocC cs (st.B.bi.length + shI shs)
                  let bi := padIv m.bi (shI shs + havocN cs)
                  (match k { st.ext bi (shB shs) m.bs m.bt with h := islItems (shS shs) st.B.bs.length ++ setBlk st.h n cs', t := putT st.t o.dst (resTV (shPV shs st.B.bi.length st.nb st.B.bs.length st.B.bt.length)) } with
                  | some t => some (.callG tg l shs [.blk n ty cs' true] bi m.bs m.bt st.h t)
                  | none => none)
                | _ => none)
              | none => none)
            else
              let bi := padIv m.bi (shI shs)
              (match k { st.ext bi (shB shs) m.bs m.bt with h := islItems (shS shs) st.B.bs.length ++ st.h, t := putT st.t o.dst (resTV (shPV shs st.B.bi.length st.nb st.B.bs.length st.B.bt.length)) } with
              | some t => some (.callG tg l shs [] bi m.bs m.bt (heapFor tg l st.h) t)
              | none => none)
          else none
        else none
      | none => none)
    | _, _, _ => none)
  | _ => none

def stCallP (C : CfgX) (o : Oper) (st : St) (k : K1) : Option T :=
  match o.op with
  | .call { callee := .value f, args, argTypes } => (match st.getC f, getPs st args.toList with
    | some (.fc g), some l => (match C.modeP g, l with
      | some m, .c a :: _ =>
        if st.sc = true then
          (match newBlk (st.ext m.bi 0 [] []) o.dst m.ty (pcs a m.cs st.B.bi.length) k with
          | some t => some (.callP g l m.ty (pcs a m.cs st.B.bi.length) m.bi st.h t)
          | none => none)
        else none
      | _, _ => none)
    | _, _ => none)
  | _ => none

section
variable {Γ : Ctx} {H : List Hd}

theorem tgt_run {P : Program} {st : St} {E : Env} {a : Act} (ha : ∀ x, (st.ev x).ok E (a.eval x)) {o : Oper} {f : Operand} {args : Array Operand} {tys : Array TypeId} {fv : CV} {tg : Tgt} {l : List PV}
    (ho : o.op = .call { callee := .value f, args, argTypes := tys }) (hf : st.getC f = some fv) (ht : tgtOf fv = some tg) (hl : getPs st args.toList = some l) (hc : Callable P (tg.g E)) (w : World) :
    (execOp a.eval o).run P w = .ok (.enter (tg.g E) ((l.map (PV.den E)).toArray ++ tg.caps E)) w := by
  unfold execOp; rw [ho]
  have h1 : args.map a.eval = (l.map (PV.den E)).toArray := by
    apply Array.ext'; rw [Array.toList_map, getPs_ok ha _ _ hl]
  have h2 : a.eval f = .func (.func (tg.g E)) #[] (tg.caps E) := by
    rw [getC_ok ha hf]
    cases fv <;> simp only [tgtOf, Option.some.injEq, reduceCtorEq] at ht <;> subst ht <;> rfl
  simp only [resolve, h1, h2, Deferred.ofValue, Sem.run_bind, Sem.run_pure, Result.andThen_ok, invoke, Array.empty_append]
  exact hc _ _

theorem islItems_sc : ∀ (l : List (TypeId × IntKind × Nat)) (s : Nat), ∀ it ∈ islItems l s, ∃ T k z j, it = .isl j T k z true ∧ s ≤ j ∧ j < s + l.length
  | [], _, it, h => by simp [islItems] at h
  | (T, k, z) :: r, s, it, h => by
    simp only [islItems] at h
    cases h with
    | head => exact ⟨T, k, z, s, rfl, Nat.le_refl _, by simp⟩
    | tail _ h => obtain ⟨T', k', z', j, h1, h2, h3⟩ := islItems_sc r (s + 1) it h; exact ⟨T', k', z', j, h1, by omega, by simp; omega⟩

theorem ownsRow_mono {w : World} {B B' : Nat} {e : TypeId} {z : Nat} {v : Value} {n : Nat} {xs : List Value} (h : w.ownsRow B e z v n xs) (hB : B' ≤ B) : w.ownsRow B' e z v n xs := by
  refine ⟨h.1, ?_⟩
  rcases h.2 with h2 | ⟨g, cap, cur, hv, hb, rest⟩
  · exact .inl h2
  · exact .inr ⟨g, cap, cur, hv, Nat.le_trans hB hb, rest⟩

/-- what a callee hands back joins the items -/
theorem HOK.join {B : Nat} {S : List Nat} {h1 h2 : List It} {E : Env} {w w' : World} (hB : B ≤ w.heap.size) (h : HOK w.heap.size [] h1 E w') (hown : ∀ it ∈ h1, it.own = true) (hk : HOK B S h2 E w') (hlt : ∀ it ∈ h2, ∀ k ∈ it.fp E, k < w.heap.size) : HOK B S (h1 ++ h2) E w' := by
  have hge : ∀ it ∈ h1, ∀ k ∈ it.fp E, w.heap.size ≤ k := fun it hi k hk' => by
    rcases h.own it hi (hown it hi) k hk' with h' | h'
    · exact h'
    · simp at h'
  refine ⟨?_, ?_, ?_, ?_⟩
  · intro it hi
    rcases List.mem_append.1 hi with hi | hi
    · have := h.holds it hi
      cases it with
      | blk n T cs o => exact this
      | isl s T k z o =>
        cases o with
        | false => exact this
        | true => exact ownsRow_mono this hB
    · exact hk.holds it hi
  · intro it hi
    rcases List.mem_append.1 hi with hi | hi
    · exact h.lt it hi
    · exact hk.lt it hi
  · intro it hi ho k hk'
    rcases List.mem_append.1 hi with hi | hi
    · exact .inl (Nat.le_trans hB (hge it hi k hk'))
    · exact hk.own it hi ho k hk'
  · refine List.pairwise_append.2 ⟨h.sep, hk.sep, ?_⟩
    intro x hx y hy _ k hkx hky
    have := hge x hx k hkx
    have := hlt y hy k hky
    omega

theorem stCall_ok {C : CfgX} (hP : Γ.P = C.P) {o : Oper} {st : St} {k : K1} {t : T} {E : Env} {a : Act} {w : World} {K : Act → World → Prop} {Q : Exit → Act → World → Prop}
    (h : stCall C o st k = some t) (hr : RelΓ Γ st E a w) (hd : t.den Γ H E) (hk : Cont Γ H st.lv E k K) : o.wp C.P a w K Q := by
  unfold stCall at h
  split at h
  · rename_i f args tys ho
    split at h
    · rename_i fv l shs hf hl hsh
      split at h
      · rename_i tg htg
        simp only at h
        split at h
        · rename_i hs
          split at h
          · rename_i hdet
            split at h
            · rename_i hno
              split at h
              · rename_i t' ht
                simp at h; subst h
                obtain ⟨is, bs, l1, l2, hiv, hcall, hcalls, hd'⟩ := hd
                rw [hP] at hcall hcalls
                unfold Oper.wp
                rw [tgt_run hr.ev ho hf htg hl hcall w]
                refine (hcalls w (hr.heap.sub (heapFor_sub tg l st.h)) hr.le hr.kp).mono ?_
                rintro e w' ⟨rfl, hb⟩
                have hlen : (padIv (modeOf C shs tg).bi (shI shs)).length = shI shs := padIv_len _ _
                have hE := hr.e.ext (fun E' hl => hr.fs_le hs hl) (is := is) (bs := bs) (ss := []) (ts := []) (bS := []) (bT := []) (l1.trans hlen.symm) l2 rfl rfl hiv trivial (by simp) trivial
                have hle := Env.le_ext E is bs [] []
                refine hk _ _ _ _ _ ht (hr.next (st' := { st.ext (padIv (modeOf C shs tg).bi (shI shs)) (shB shs) [] [] with t := putT st.t o.dst (resTV (shPV shs st.B.bi.length st.nb 0 0)) }) hs hle rfl
                  ⟨hE.li, hE.ls, hE.lt, hE.lb, hE.ln, hE.lf, hE.bd, hE.fs⟩ ((hr.heap_le hs hle).below hb) (.inr ?_) (Nat.le_trans hr.le hb.size) (hr.kp.trans (.of_below (hb.mono hr.le)))) rfl hle hd'
                rw [resTV_val, hr.e.li, hr.e.lb]
              · simp at h
            · simp at h
          · split at h
            · rename_i hlens
              obtain ⟨hls, hlt, hiv0⟩ := hlens
              have hiv0' : ∀ b ∈ (modeOf C shs tg).bs, iv0 b.1 = true := fun b hb => List.all_eq_true.1 hiv0 b hb
              split at h
              · -- a block is written
                split at h
                · rename_i n hn
                  split at h
                  · rename_i ty cs hfb
                    split at h
                    · rename_i t' ht
                      simp at h; subst h
                      obtain ⟨hcall, hcalls⟩ := hd
                      rw [hP] at hcall hcalls
                      unfold Oper.wp
                      rw [tgt_run hr.ev ho hf htg hl hcall w]
                      refine (hcalls w hr.heap hr.le hr.kp).mono ?_
                      rintro e w' ⟨is, bs, ss, ts, l1, l1', l2, l3, l3', l4, l4', h1, h3, h4, rfl, hkp', hisl, hhv, hd'⟩
                      have hE := hr.e.ext (fun E' hl => hr.fs_le hs hl) (is := is) (bs := bs) (ss := ss) (ts := ts) l1 l2 l3 l4 h1 h3 hiv0' h4
                      have hle := Env.le_ext E is bs ss ts
                      have hfpn : ∀ E', E.le E' → E'.n.getD n 0 = E.n.getD n 0 := fun E' hl => by
                        have := It.fp_le hr.e.fits hl (.blk n ty cs true) (List.all_eq_true.1 (St.sc_parts hs).2.1 _ (findBlk_mem hfb))
                        simpa [It.fp] using this
                      have hblk := hhv (.blk n ty (havocC cs (st.B.bi.length + shI shs)) true) (by simp)
                      simp only [It.holds] at hblk
                      have hdis : ∀ it ∈ st.h, ∀ q ∈ it.fp E, q ≠ E.n.getD n 0 → w'.heap[q]? = w.heap[q]? := fun it hi q hq hne =>
                        hkp'.block q (hr.heap.lt it hi q hq) (by simp [It.fp]; simpa using hne)
                      have hheap' := hr.heap_le hs hle
                      have hhok : HOK Γ.B Γ.S (setBlk st.h n (havocC cs (st.B.bi.length + shI shs))) (E.ext is bs ss ts) w' := by
                        refine ⟨setBlk_holds _ _ _ _ hfb hheap'.holds hheap'.sep ?_ hblk, ?_, ?_, setBlk_sep _ _ _ _ hheap'.sep⟩
                        · intro it hi q hq hne
                          rw [It.fp_le hr.e.fits hle it (List.all_eq_true.1 (St.sc_parts hs).2.1 it hi)] at hq
                          rw [hfpn _ hle] at hne
                          exact hdis it hi q hq hne
                        · intro it hi q hq
                          obtain ⟨x', hx', e1, _⟩ := setBlk_fp (E.ext is bs ss ts) _ _ _ it hi
                          exact Nat.lt_of_lt_of_le (hheap'.lt x' hx' q (by rw [← e1]; exact hq)) hkp'.size
                        · intro it hi ho' q hq
                          obtain ⟨x', hx', e1, e2⟩ := setBlk_fp (E.ext is bs ss ts) _ _ _ it hi
                          exact hheap'.own x' hx' (by rw [← e2]; exact ho') q (by rw [← e1]; exact hq)
                      have hhlt : ∀ it ∈ setBlk st.h n (havocC cs (st.B.bi.length + shI shs)), ∀ q ∈ it.fp (E.ext is bs ss ts), q < w.heap.size := by
                        intro it hi q hq
                        obtain ⟨x', hx', e1, _⟩ := setBlk_fp (E.ext is bs ss ts) _ _ _ it hi
                        exact hheap'.lt x' hx' q (by rw [← e1]; exact hq)
                      have hjoin := HOK.join hr.le hisl (fun it hi => by obtain ⟨_, _, _, _, rfl, _⟩ := islItems_sc _ _ it hi; rfl) hhok hhlt
                      refine hk _ _ _ _ _ ht (hr.next (st' := { st.ext (padIv (modeOf C shs tg).bi (shI shs + havocN cs)) (shB shs) (modeOf C shs tg).bs (modeOf C shs tg).bt with h := islItems (shS shs) st.B.bs.length ++ setBlk st.h n (havocC cs (st.B.bi.length + shI shs)), t := putT st.t o.dst (resTV (shPV shs st.B.bi.length st.nb st.B.bs.length st.B.bt.length)) }) hs hle rfl
                        ⟨hE.li, hE.ls, hE.lt, hE.lb, hE.ln, hE.lf, hE.bd, hE.fs⟩ (by rw [← hr.e.ls]; exact hjoin) (.inr ?_) (Nat.le_trans hr.le hkp'.size) (hr.kp.trans ⟨hkp'.os, hkp'.tape, hkp'.output, hkp'.size, ?_⟩)) rfl hle hd'
                      · rw [resTV_val, hr.e.li, hr.e.lb, hr.e.ls, hr.e.lt]
                      · intro q hq hqs
                        refine hkp'.block q (Nat.lt_of_lt_of_le hq hr.le) ?_
                        intro hm
                        simp [It.fp] at hm
                        have hown := hr.heap.own _ (findBlk_mem hfb) rfl (E.n.getD n 0) (by simp [It.fp])
                        rcases hown with h' | h'
                        · have : q = E.n.getD n 0 := by simpa using hm
                          omega
                        · have : q = E.n.getD n 0 := by simpa using hm
                          rw [this] at hqs; exact hqs h'
                    · simp at h
                  · simp at h
                · simp at h
              · split at h
                · rename_i t' ht
                  simp at h; subst h
                  obtain ⟨hcall, hcalls⟩ := hd
                  rw [hP] at hcall hcalls
                  unfold Oper.wp
                  rw [tgt_run hr.ev ho hf htg hl hcall w]
                  refine (hcalls w (hr.heap.sub (heapFor_sub tg l st.h)) hr.le hr.kp).mono ?_
                  rintro e w' ⟨is, bs, ss, ts, l1, l1', l2, l3, l3', l4, l4', h1, h3, h4, rfl, hkp', hisl, _, hd'⟩
                  have hE := hr.e.ext (fun E' hl => hr.fs_le hs hl) (is := is) (bs := bs) (ss := ss) (ts := ts) l1 l2 l3 l4 h1 h3 hiv0' h4
                  have hle := Env.le_ext E is bs ss ts
                  simp only [List.flatMap_nil] at hkp'
                  have hb := hkp'.below
                  have hheap' := hr.heap_le hs hle
                  have hjoin := HOK.join hr.le hisl (fun it hi => by obtain ⟨_, _, _, _, rfl, _⟩ := islItems_sc _ _ it hi; rfl) (hheap'.below hb) hheap'.lt
                  refine hk _ _ _ _ _ ht (hr.next (st' := { st.ext (padIv (modeOf C shs tg).bi (shI shs)) (shB shs) (modeOf C shs tg).bs (modeOf C shs tg).bt with h := islItems (shS shs) st.B.bs.length ++ st.h, t := putT st.t o.dst (resTV (shPV shs st.B.bi.length st.nb st.B.bs.length st.B.bt.length)) }) hs hle rfl
                    ⟨hE.li, hE.ls, hE.lt, hE.lb, hE.ln, hE.lf, hE.bd, hE.fs⟩ (by rw [← hr.e.ls]; exact hjoin) (.inr ?_) (Nat.le_trans hr.le hb.size) (hr.kp.trans (.of_below (hb.mono hr.le)))) rfl hle hd'
                  rw [resTV_val, hr.e.li, hr.e.lb, hr.e.ls, hr.e.lt]
                · simp at h
            · simp at h
        · simp at h
      · simp at h
    · simp at h
  · simp at h
theorem newBlk_adopt {st : St} {dst : Option Tmp} {ty : TypeId} {cs : List CV} {k : K1} {t : T} {E : Env} {a : Act} {w : World} {b : Nat}
    (h : newBlk st dst ty cs k = some t) (hr : RelΓ Γ st E a w) (hd : t.den Γ H E) (hc : w.heap[b]? = some (.cells (cs.map (CV.den E)).toArray ty (0, 0))) (hge : Γ.B ≤ b) (hlt : b < w.heap.size)
    (hsep : ∀ y ∈ st.h, b ∉ y.fp E) :
    ∃ st' t' E', k st' = some t' ∧ RelΓ Γ st' E' (a.put dst (.pointer (some ⟨b, 0, none⟩))) w ∧ st'.lv = st.lv ∧ E.le E' ∧ t'.den Γ H E' ∧ (∀ y ∈ st'.h, ∀ q ∈ y.fp E', q = b ∨ ∃ x ∈ st.h, q ∈ x.fp E) := by
  unfold newBlk at h
  split at h
  · rename_i hcnd
    obtain ⟨hs, hcs⟩ := hcnd
    split at h
    · rename_i t' ht
      simp at h; subst h
      have hd' := hd b
      have hfits := hr.e.fits
      have hle := Env.le_pn E b
      have hscl := List.all_eq_true.1 (St.sc_parts hs).2.1
      have e : (E.pn b).n.getD st.nn 0 = b := by simp only [Env.pn, getD_app2, hr.e.ln]; simp
      have hE := hr.e.pn (fun E' hl => hr.fs_le hs hl) b
      refine ⟨_, t', E.pn b, ht, hr.next (st' := { st with h := .blk st.nn ty cs true :: st.h, nn := st.nn + 1, t := putT st.t dst (.p (.c (.ptr st.nn 0))) }) hs hle rfl ⟨hE.li, hE.ls, hE.lt, hE.lb, hE.ln, hE.lf, hE.bd, hE.fs⟩ ?_ ?_ hr.le hr.kp, rfl, hle, hd', ?_⟩
      · refine HOK.cons (hr.heap_le hs hle) ?_ ?_ ?_ ?_
        · simp only [It.holds, e]; rw [CV.map_le hfits hle cs hcs]; exact hc
        · intro q hq; simp only [It.fp, e, List.mem_singleton] at hq; subst hq; exact hlt
        · intro _ q hq; simp only [It.fp, e, List.mem_singleton] at hq; subst hq; exact .inl hge
        · intro y hy _ q hq
          simp only [It.fp, e, List.mem_singleton] at hq; subst hq
          rw [It.fp_le hfits hle y (hscl y hy)]; exact hsep y hy
      · refine .inr ?_; simp only [TV.val, PV.den, CV.den, e]
      · intro y hy q hq
        cases hy with
        | head => simp only [It.fp, e, List.mem_singleton] at hq; exact .inl hq
        | tail _ hy => rw [It.fp_le hfits hle y (hscl y hy)] at hq; exact .inr ⟨y, hy, hq⟩
    · simp at h
  · simp at h


theorem stCallP_ok {C : CfgX} (hP : Γ.P = C.P) {o : Oper} {st : St} {k : K1} {t : T} {E : Env} {a : Act} {w : World} {K : Act → World → Prop} {Q : Exit → Act → World → Prop}
    (h : stCallP C o st k = some t) (hr : RelΓ Γ st E a w) (hd : t.den Γ H E) (hk : Cont Γ H st.lv E k K) : o.wp C.P a w K Q := by
  unfold stCallP at h
  split at h
  · rename_i f args tys ho
    split at h
    · rename_i g l hf hl
      split at h
      · rename_i m av r hm
        split at h
        · rename_i hs
          split at h
          · rename_i t' ht
            simp at h; subst h
            obtain ⟨hcall, hcalls⟩ := hd
            rw [hP] at hcall hcalls
            unfold Oper.wp
            rw [tgt_run hr.ev ho hf (tg := .fc g) rfl hl hcall w]
            refine (hcalls w hr.heap hr.le hr.kp).mono ?_
            rintro e w' ⟨is, b, l1, hiv, rfl, hb, hge, hcells, hd'⟩
            have hE := hr.e.ext (fun E' hl => hr.fs_le hs hl) (is := is) (bs := []) (ss := []) (ts := []) (bi := m.bi) (bS := []) (bT := []) (nb := 0) l1 rfl rfl rfl hiv trivial (by simp) trivial
            have hle := Env.le_ext E is [] [] []
            have hrel : RelΓ Γ (st.ext m.bi 0 [] []) (E.ext is [] [] []) a w' := by
              refine ⟨hE, by rw [hr.size]; rfl, fun i tv hi => ?_, hr.df, (hr.heap_le hs hle).below hb, Nat.le_trans hr.le hb.size, hr.kp.trans (.of_below (hb.mono hr.le))⟩
              exact hr.tm_le hs hle i tv hi
            have hlt : b < w'.heap.size := (Array.getElem?_eq_some_iff.1 hcells).1
            obtain ⟨st', t2, E', g1, g2, g3, g4, g5, _⟩ := newBlk_adopt ht hrel hd' hcells (Nat.le_trans hr.le hge) hlt (fun y hy hm => by
              have := (hr.heap_le hs hle).lt y hy b hm
              omega)
            exact hk _ _ _ _ _ g1 g2 g3 (hle.trans g4) g5
          · simp at h
        · simp at h
      · simp at h
    · simp at h
  · simp at h
end
end Go.Proofs.Ytelejhggpkfdoaa.SX

/-
  SX, part 16: an element of a slice of the call's own is written.
-/
namespace Go.Proofs.Ytelejhggpkfdoaa.SX
set_option linter.unusedVariables false
set_option linter.unusedSimpArgs false
open Go.RowKit

def CV.ren (s n : Nat) : CV → CV
  | .sl q => if q = s then .sl n else .sl q
  | .elp q i z off => if q = s then .elp n i z off else .elp q i z off
  | c => c
def PV.ren (s n : Nat) : PV → PV
  | .c v => .c (v.ren s n)
  | .a l => .a (l.map (CV.ren s n))
def TV.ren (s n : Nat) : TV → TV
  | .p v => .p (v.ren s n)
  | .tup l => .tup (l.map (PV.ren s n))
  | .junk => .junk
def It.ren (s n : Nat) : It → It
  | .blk m T cs o => .blk m T (cs.map (CV.ren s n)) o
  | .isl q T k z o => if q = s then .isl n T k z o else .isl q T k z o

section
variable {E E' : Env} {s n : Nat} (ha : (E'.s.getD n nilSl).a = (E.s.getD s nilSl).a) (hn : (E'.s.getD n nilSl).n = (E.s.getD s nilSl).n) (hc : (E'.s.getD n nilSl).c = (E.s.getD s nilSl).c) {z : Sz} (hf : E.Fits z) (hl : E.le E')
 include ha hn hc hf hl
theorem CV.ren_den (c : CV) (h : c.sc z = true) : (c.ren s n).den E' = c.den E := by
  cases c with
  | sl q =>
    simp only [CV.ren]
    split
    · rename_i e; subst e; simp only [CV.den, Sl.val, ha, hn, hc]
    · exact CV.den_le hf hl _ h
  | elp q i zz off =>
    simp only [CV.ren]
    split
    · rename_i e; subst e
      simp only [CV.sc, Bool.and_eq_true] at h
      simp only [CV.den, ha, IE.den_le hf hl i h.2]
    · exact CV.den_le hf hl _ h
  | _ => exact CV.den_le hf hl _ h
theorem CV.ren_map (l : List CV) (h : l.all (CV.sc z) = true) : (l.map (CV.ren s n)).map (CV.den E') = l.map (CV.den E) := by
  rw [List.map_map]
  apply List.map_congr_left
  intro c hc'
  exact CV.ren_den ha hn hc hf hl c (List.all_eq_true.1 h c hc')
theorem PV.ren_den (v : PV) (h : v.sc z = true) : (v.ren s n).den E' = v.den E := by
  cases v with
  | c v => exact CV.ren_den ha hn hc hf hl v h
  | a l => simp only [PV.ren, PV.den, CV.ren_map ha hn hc hf hl l h]
theorem TV.ren_ok (v : TV) (h : v.sc z = true) (x : Value) (hx : v.ok E x) : (v.ren s n).ok E' x := by
  cases v with
  | p v =>
    rcases hx with hx | hx
    · cases hx
    · refine .inr ?_; simp only [TV.ren, TV.val, PV.ren_den ha hn hc hf hl v h]; exact hx
  | tup l =>
    rcases hx with hx | hx
    · cases hx
    · refine .inr ?_
      simp only [TV.ren, TV.val, List.map_map]
      rw [hx]
      simp only [TV.val]
      congr 2
      apply List.map_congr_left
      intro p hp
      exact (PV.ren_den ha hn hc hf hl p (List.all_eq_true.1 h p hp)).symm
  | junk => exact .inl rfl
theorem It.ren_fp (it : It) (h : it.sc z = true) (ho : ∀ T k zz o, it = .isl s T k zz o → o = true) : (it.ren s n).fp E' = it.fp E := by
  cases it with
  | blk m T cs o =>
    have := It.fp_le hf hl (.blk m T cs o) h
    simpa [It.ren, It.fp] using this
  | isl q T k zz o =>
    simp only [It.ren]
    split
    · rename_i e; subst e
      have : o = true := ho T k zz o rfl
      subst this
      simp only [It.fp, Sl.fp, ha]
    · exact It.fp_le hf hl _ h
 omit ha hn hc hf hl in
theorem It.ren_own (it : It) : (it.ren s n).own = it.own := by
  cases it with
  | blk => rfl
  | isl => simp only [It.ren]; split <;> rfl
end

theorem setInts_len (l : List Int) (i : Nat) (vs : List Int) : (setInts l i vs).length = l.length := by
  induction vs generalizing l i with
  | nil => rfl
  | cons x r ih => simp [setInts, ih]

theorem setInts_split : ∀ (vs : List Int) (l : List Int) (i : Nat), i + vs.length ≤ l.length → setInts l i vs = l.take i ++ vs ++ l.drop (i + vs.length) := by
  intro vs
  induction vs with
  | nil => intro l i _; simp [setInts]
  | cons c r ih =>
    intro cs off h
    simp only [List.length_cons] at h
    simp only [setInts]
    rw [ih (cs.set off c) (off + 1) (by simp; omega)]
    simp only [List.length_cons]
    have e1 : (cs.set off c).take (off + 1) = cs.take off ++ [c] := by
      rw [List.take_set, List.take_succ_eq_append_getElem (by omega)]
      rw [List.set_append_right _ _ (by simp; omega)]
      simp [Nat.min_eq_left (show off ≤ cs.length by omega)]
    have e2 : (cs.set off c).drop (off + 1 + r.length) = cs.drop (off + (r.length + 1)) := by
      rw [List.drop_set_of_lt (by omega)]; congr 1; omega
    rw [e1, e2]; simp

theorem setInts_mem {l : List Int} {i : Nat} {vs : List Int} {v : Int} (h : v ∈ setInts l i vs) : v ∈ l ∨ v ∈ vs := by
  induction vs generalizing l i with
  | nil => exact .inl h
  | cons x r ih =>
    rcases ih h with h | h
    · rcases List.mem_or_eq_of_mem_set h with h | rfl
      · exact .inl h
      · exact .inr (List.mem_cons_self ..)
    · exact .inr (List.mem_cons_of_mem _ h)

theorem take_patch {α : Type} (cur vs : List α) (i N : Nat) (h : i + vs.length ≤ N) (hN : N ≤ cur.length) :
    (cur.take i ++ vs ++ cur.drop (i + vs.length)).take N = (cur.take N).take i ++ vs ++ (cur.take N).drop (i + vs.length) := by
  have e1 : (cur.take i).length = i := by simp; omega
  rw [List.take_append, List.take_take, Nat.min_eq_left (by omega : i ≤ N)]
  have e2 : (cur.take i ++ vs).length = i + vs.length := by simp; omega
  rw [e2, List.take_of_length_le (by omega), List.drop_take]

def stSet (C : Cfg) (o : Oper) (st : St) (k : K1) : Option T :=
  match o.op, o.dst with
  | .store ty x y, none => (match st.getC x, st.getP y, szT C.P ty with
    | some (.elp s i z off), some v, some m => (match findIsl st.h s with
      | some (e, kd, z', true) =>
        if z = z' ∧ v.cs.length = m ∧ off + m ≤ z ∧ 0 < m ∧ allK kd v.cs = true then
          needs (bnds st.B i (.sl s)) st fun st =>
            let es := iesOf v.cs
            let b := ivUn (st.B.bs.getD s (none, -1)).1 (ivJoin st.B es)
            if st.sc = true ∧ iv0 b = true ∧ (st.h.filter fun it => match it with | .isl q _ _ _ o => decide (q = s ∧ o = false) | _ => false).isEmpty = true then
            (match k { st.ext [] 0 [(b, (st.B.bs.getD s (none, -1)).2)] [] with h := st.h.map (It.ren s st.B.bs.length), t := st.t.map (TV.ren s st.B.bs.length) } with
            | some t => some (.set s (idx i z off) es t)
            | none => none) else none
        else none
      | _ => none)
    | _, _, _ => none)
  | _, _ => none

section
variable {Γ : Ctx} {H : List Hd}

theorem stSet_ok {C : Cfg} {o : Oper} {st : St} {k : K1} {t : T} {E : Env} {a : Act} {w : World} {K : Act → World → Prop} {Q : Exit → Act → World → Prop}
    (h : stSet C o st k = some t) (hr : RelΓ Γ st E a w) (hd : t.den Γ H E) (hk : Cont Γ H st.lv E k K) : o.wp C.P a w K Q := by
  unfold stSet at h
  split at h
  · rename_i ty x y ho hdst
    split at h
    · rename_i s i z off v m hx hy hm
      split at h
      · rename_i e kd z' hf
        split at h
        · rename_i hcond
          obtain ⟨rfl, hvl, hoff, hm0, hak⟩ := hcond
          obtain ⟨hneeds, fs', t1', h2, hr2, hd2⟩ := needs_ok _ st _ t h hr hd
          simp only at h2
          split at h2
          · rename_i hs2
            obtain ⟨hs2, hiv0, hfil⟩ := hs2
            split at h2
            · rename_i t' ht
              simp at h2; subst h2
              obtain ⟨h0, h1⟩ := bnds_ok hr.e.bd hneeds
              have h1' : i.den E < ((E.s.getD s nilSl).n : Int) := by simpa [IE.den] using h1
              have hown := hr.heap.holds _ (findIsl_mem hf)
              simp only [It.holds] at hown
              obtain ⟨I, hI⟩ : ∃ I : Nat, i.den E = I := ⟨(i.den E).toNat, by omega⟩
              have hidx : ((idx i z off).den E).toNat = I * z + off := by rw [idx_toNat h0, hI]; rfl
              have hIn : I < (E.s.getD s nilSl).n := by omega
              have hmul : (I + 1) * z ≤ (E.s.getD s nilSl).n * z := Nat.mul_le_mul_right z hIn
              rw [Nat.add_mul] at hmul
              have hxlen : (E.s.getD s nilSl).xs.length = (E.s.getD s nilSl).n * z := by simpa [ints] using hown.1
              have hnpos : 0 < (E.s.getD s nilSl).n := by omega
              rcases hown.2 with ⟨_, hn0⟩ | ⟨g, cap, cur, hv, hbg, hg, hnc, hcm, hcs, htake⟩
              · omega
              · have hsa : (E.s.getD s nilSl).a = some ⟨g, 0, none⟩ := by unfold Sl.val at hv; injection hv
                have hvals : v.cs.map (CV.den E) = ints kd ((iesOf v.cs).map (IE.den E)) := allK_den E hak
                have hcap : (E.s.getD s nilSl).n * z ≤ cap * z := Nat.mul_le_mul_right z hnc
                have hst := run_storeCells_at C.P g (I * z + off) e (v.cs.map (CV.den E)) 0 cur w hg (by simp only [List.length_map]; omega) (fun u hu => by
                  obtain ⟨c, _, rfl⟩ := List.mem_map.1 hu; exact CV.den_one E c)
                simp only [Nat.add_zero] at hst
                have hrun : (execOp a.eval o).run C.P w = .ok .skip (w.setRow g (cur.toList.take (I * z + off) ++ v.cs.map (CV.den E) ++ cur.toList.drop (I * z + off + (v.cs.map (CV.den E)).length)).toArray) := by
                  unfold execOp; rw [ho]
                  have e1 : a.eval x = .pointer (some ⟨g, I * z + off, none⟩) := by
                    rw [getC_ok hr.ev hx]
                    simp only [CV.den, hsa, Option.map_some, hI, Int.toNat_natCast, Addr.add_lit, Nat.zero_add]
                  simp only [e1, getP_ok hr.ev hy, Instr.storeAt, Instr.sureAddr, storeVar, PV.den_cells, List.size_toArray, List.length_map, Sem.run_bind, Sem.run_pure, Result.andThen_ok, run_szT hm, hvl, ne_eq, not_true_eq_false, ↓reduceIte, Sem.run_ite]
                  rw [hst]
                  simp only [List.length_map, hvl, Result.andThen_ok]
                generalize hW : w.setRow g (cur.toList.take (I * z + off) ++ v.cs.map (CV.den E) ++ cur.toList.drop (I * z + off + (v.cs.map (CV.den E)).length)).toArray = w' at hrun
                have hsz' : w'.heap.size = w.heap.size := by rw [← hW, setRow_size]
                have hoth : ∀ q, q ≠ g → w'.heap[q]? = w.heap[q]? := fun q hq => by rw [← hW]; exact setRow_other w g q _ hq
                have hnew : w'.heap[g]? = some (.cells (cur.toList.take (I * z + off) ++ v.cs.map (CV.den E) ++ cur.toList.drop (I * z + off + (v.cs.map (CV.den E)).length)).toArray e (0, 0)) := by rw [← hW]; exact setRow_heap w g cur _ e _ hg
                have hgfp : g ∈ (E.s.getD s nilSl).fp := by unfold Sl.fp; rw [hsa]; simp
                have hd3 : t'.den Γ H (E.ext [] [] [{ E.s.getD s nilSl with xs := setInts (E.s.getD s nilSl).xs ((idx i z off).den E).toNat ((iesOf v.cs).map (IE.den E)) }] []) := hd2
                generalize hS : ({ E.s.getD s nilSl with xs := setInts (E.s.getD s nilSl).xs ((idx i z off).den E).toNat ((iesOf v.cs).map (IE.den E)) } : Sl) = S' at hd3
                have hSa : S'.a = (E.s.getD s nilSl).a := by rw [← hS]
                have hSn : S'.n = (E.s.getD s nilSl).n := by rw [← hS]
                have hSc : S'.c = (E.s.getD s nilSl).c := by rw [← hS]
                have hSx : S'.xs = setInts (E.s.getD s nilSl).xs (I * z + off) ((iesOf v.cs).map (IE.den E)) := by rw [← hS]; simp only [hidx]
                have es : (E.ext [] [] [S'] []).s.getD st.B.bs.length nilSl = S' := by simp only [Env.ext, getD_app2, hr.e.ls]; simp
                have hle := Env.le_ext E [] [] [S'] []
                have hfits := hr.e.fits
                have hE := hr2.e.ext (fun E' hl => hr2.fs_le hs2 hl) (is := []) (bs := []) (ss := [S']) (ts := []) (bi := []) (bS := [(ivUn (st.B.bs.getD s (none, -1)).1 (ivJoin st.B (iesOf v.cs)), (st.B.bs.getD s (none, -1)).2)]) (bT := []) (nb := 0) rfl rfl rfl rfl trivial
                  ⟨⟨fun u hu => by
                      rw [hSx] at hu
                      rcases setInts_mem hu with hu | hu
                      · exact ivUn_l (mem_bd hr.e.bd hu)
                      · exact ivUn_r (ivJoin_ok hr.e.bd _ u hu), fun hpos => by rw [hSn]; exact (hr.e.bd.s s).2 hpos⟩, trivial⟩ (by simpa using hiv0) trivial
                have hparts := St.sc_parts hs2
                have hoall : ∀ it ∈ st.h, ∀ T k zz o, it = .isl s T k zz o → o = true := by
                  intro it hit T k zz oo heq
                  cases oo with
                  | true => rfl
                  | false =>
                    exfalso
                    have hmem : it ∈ st.h.filter fun it => match it with | .isl q _ _ _ o => decide (q = s ∧ o = false) | _ => false := List.mem_filter.2 ⟨hit, by rw [heq]; simp⟩
                    rw [List.isEmpty_iff.1 hfil] at hmem
                    simp at hmem
                have hfp : ∀ it ∈ st.h, (it.ren s st.B.bs.length).fp (E.ext [] [] [S'] []) = it.fp E := fun it hit =>
                  It.ren_fp (by rw [es, hSa]) (by rw [es, hSn]) (by rw [es, hSc]) hfits hle it (List.all_eq_true.1 hparts.2.1 it hit) (hoall it hit)
                refine wp_skip' hrun (hk _ _ _ _ _ ht ⟨⟨hE.li, hE.ls, hE.lt, hE.lb, hE.ln, hE.lf, hE.bd, hE.fs⟩, ?_, ?_, ?_, ?_, ?_, ?_⟩ rfl hle hd3)
                · rw [hdst]; show a.tmps.size = _; rw [hr.size]; simp
                · rw [hdst]
                  intro j tv hj
                  simp only [List.getElem?_map] at hj
                  cases hj' : st.t[j]? with
                  | none => rw [hj'] at hj; simp at hj
                  | some tv0 =>
                    rw [hj'] at hj; simp at hj; subst hj
                    exact TV.ren_ok (by rw [es, hSa]) (by rw [es, hSn]) (by rw [es, hSc]) hfits hle tv0 (List.all_eq_true.1 hparts.1 tv0 (List.mem_of_getElem? hj')) _ (hr.tm j tv0 hj')
                · rw [hdst]; exact hr.df
                · refine ⟨?_, ?_, ?_, ?_⟩
                  · intro it' hit'
                    obtain ⟨it, hit, rfl⟩ := List.mem_map.1 hit'
                    by_cases hx' : ∃ T k zz o, it = .isl s T k zz o
                    · obtain ⟨T, k', zz, oo, rfl⟩ := hx'
                      have hoo := hoall _ hit T k' zz oo rfl
                      subst hoo
                      -- two own items on one slice are one
                      have hsame : It.isl s T k' zz true = .isl s e kd z true := by
                        refine Classical.byContradiction fun hne => ?_
                        have hmem2 := findIsl_mem hf
                        have := hr.heap.sep
                        rw [List.pairwise_iff_forall_sublist] at this
                        obtain ⟨i1, hi1, e1⟩ := List.getElem_of_mem hit
                        obtain ⟨i2, hi2, e2⟩ := List.getElem_of_mem hmem2
                        have hpw := List.pairwise_iff_getElem.1 hr.heap.sep
                        rcases Nat.lt_trichotomy i1 i2 with hlt | heq | hgt
                        · have := hpw i1 i2 hi1 hi2 hlt (by rw [e1]; simp [It.own]) g (by rw [e1]; simpa [It.fp] using hgfp)
                          rw [e2] at this; exact this (by simpa [It.fp] using hgfp)
                        · subst heq; rw [e1] at e2; exact hne e2
                        · have := hpw i2 i1 hi2 hi1 hgt (by rw [e2]; simp [It.own]) g (by rw [e2]; simpa [It.fp] using hgfp)
                          rw [e1] at this; exact this (by simpa [It.fp] using hgfp)
                      injection hsame with _ h1 h2 h3 _
                      subst h1; subst h2; subst h3
                      simp only [It.ren, ↓reduceIte, It.holds, es]
                      refine ⟨?_, .inr ⟨g, cap, _, by unfold Sl.val; rw [hSa, hSn, hSc]; exact hv, hbg, hnew, by rw [hSn]; exact hnc, hcm, ?_, ?_⟩⟩
                      · rw [hSx, hSn]; unfold ints; rw [List.length_map, setInts_len]; exact hxlen
                      · simp only [List.size_toArray, List.length_append, List.length_take, List.length_drop, Array.length_toList, List.length_map]; omega
                      · rw [hSn, hSx]
                        have hil : ((iesOf v.cs).map (IE.den E)).length = m := by rw [List.length_map, allK_len hak, hvl]
                        have hil2 : (ints k' ((iesOf v.cs).map (IE.den E))).length = m := by unfold ints; rw [List.length_map, hil]
                        rw [List.toList_toArray, hvals, take_patch cur.toList _ _ _ (by rw [hil2]; omega) (by rw [Array.length_toList, hcs]; exact hcap), htake]
                        rw [setInts_split _ _ _ (by rw [hil, hxlen]; omega)]
                        simp [ints, List.map_take, List.map_drop]
                    · have hne : ¬ g ∈ it.fp E := by
                        intro hmem
                        obtain ⟨i1, hi1, e1⟩ := List.getElem_of_mem hit
                        obtain ⟨i2, hi2, e2⟩ := List.getElem_of_mem (findIsl_mem hf)
                        have hpw := List.pairwise_iff_getElem.1 hr.heap.sep
                        rcases Nat.lt_trichotomy i1 i2 with hlt | heq | hgt
                        · have := hpw i1 i2 hi1 hi2 hlt (by rw [e2]; simp [It.own]) g (by rw [e1]; exact hmem)
                          rw [e2] at this; exact this (by simpa [It.fp] using hgfp)
                        · subst heq; rw [e1] at e2; exact hx' ⟨_, _, _, _, e2⟩
                        · have := hpw i2 i1 hi2 hi1 hgt (by rw [e2]; simp [It.own]) g (by rw [e2]; simpa [It.fp] using hgfp)
                          rw [e1] at this; exact this hmem
                      have hh := It.holds_same (hr.heap.holds it hit) (w' := w') fun q hq => hoth q (by rintro rfl; exact hne hq)
                      cases it with
                      | blk m' T cs oo =>
                        have hsc' := List.all_eq_true.1 hparts.2.1 _ hit
                        simp only [It.sc, Bool.and_eq_true, decide_eq_true_eq] at hsc'
                        have hcm' := CV.ren_map (s := s) (n := st.B.bs.length) (E' := E.ext [] [] [S'] []) (by rw [es, hSa]) (by rw [es, hSn]) (by rw [es, hSc]) hfits hle cs hsc'.2
                        have hfp' := It.fp_le hfits hle (.blk m' T cs oo) (List.all_eq_true.1 hparts.2.1 _ hit)
                        simp only [It.fp, List.cons.injEq, and_true] at hfp'
                        simp only [It.ren, It.holds] at *
                        rw [hcm', hfp']; exact hh
                      | isl q T k' zz oo =>
                        have hqs : q ≠ s := by rintro rfl; exact hx' ⟨_, _, _, _, rfl⟩
                        simp only [It.ren, hqs, ↓reduceIte]
                        exact It.holds_le hfits hle _ (List.all_eq_true.1 hparts.2.1 _ hit) _ _ hh
                  · intro it' hit' q hq
                    obtain ⟨it, hit, rfl⟩ := List.mem_map.1 hit'
                    rw [hfp it hit] at hq
                    rw [hsz']; exact hr.heap.lt it hit q hq
                  · intro it' hit' ho' q hq
                    obtain ⟨it, hit, rfl⟩ := List.mem_map.1 hit'
                    rw [hfp it hit] at hq
                    have : it.own = true := by
                      cases it with
                      | blk => exact ho'
                      | isl => simp only [It.ren] at ho'; split at ho' <;> exact ho'
                    exact hr.heap.own it hit this q hq
                  · refine List.pairwise_map.2 (List.Pairwise.imp_of_mem (fun {x' y'} hx' hy' hxy ho' q hq => ?_) hr.heap.sep)
                    rw [hfp x' hx'] at hq
                    rw [hfp y' hy']
                    have e1 : ∀ it : It, (it.ren s st.B.bs.length).own = it.own := fun it => by
                      cases it with
                      | blk => rfl
                      | isl => simp only [It.ren]; split <;> rfl
                    rw [e1, e1] at ho'
                    exact hxy ho' q hq
                · rw [hsz']; exact hr.le
                · refine hr.kp.trans ⟨by rw [← hW]; rfl, by rw [← hW]; rfl, by rw [← hW]; rfl, by rw [hsz']; exact Nat.le_refl _, fun q hq hqs => hoth q (by rintro rfl; omega)⟩
            · simp at h2
          · simp at h2
        · simp at h
      · simp at h
    · simp at h
  · simp at h
end
end Go.Proofs.Ytelejhggpkfdoaa.SX

/-
  SX, part 17: operations in a row, guards, code without loops.
-/
namespace Go.Proofs.Ytelejhggpkfdoaa.SX
set_option linter.unusedVariables false
set_option linter.unusedSimpArgs false
open Go.RowKit

def stepOp (C : CfgX) (o : Oper) (st : St) (k : K1) : Option T :=
  match o.op with
  | .alloc _ => stAlloc C.toCfg o st k
  | .box _ _ => stAlloc C.toCfg o st k
  | .store _ x _ => (match st.getC x with
    | some (.elp _ _ _ _) => stSet C.toCfg o st k
    | _ => stStore C.toCfg o st k)
  | .makeFunc _ _ _ => stClo o st k
  | .buildSlice _ _ _ => stLit C.toCfg o st k
  | .makeSlice _ _ _ => stMake C.toCfg o st k
  | .slice _ _ _ _ _ => stArr C.toCfg o st k
  | .call { callee := .builtin .append, .. } => stApp C.toCfg o st k
  | .call { callee := .value _, .. } => (match shapesOf C.P o.type with
    | some _ => stCall C o st k
    | none => stCallP C o st k)
  | _ => stVal C.toCfg o st k

section
variable {Γ : Ctx} {H : List Hd}

theorem stepOp_ok {C : CfgX} (hC : C.toCfg.OK) (hP : Γ.P = C.P) {o : Oper} {st : St} {k : K1} {t : T} {E : Env} {a : Act} {w : World} {K : Act → World → Prop} (Q : Exit → Act → World → Prop)
    (h : stepOp C o st k = some t) (hr : RelΓ Γ st E a w) (hd : t.den Γ H E) (hk : Cont Γ H st.lv E k K) : o.wp C.P a w K Q := by
  unfold stepOp at h
  split at h
  · exact stAlloc_ok h hr hd hk
  · exact stAlloc_ok h hr hd hk
  · split at h
    · exact stSet_ok h hr hd hk
    · exact stStore_ok h hr hd hk
  · exact stClo_ok h hr hd hk
  · exact stLit_ok h hr hd hk
  · exact stMake_ok h hr hd hk
  · exact stArr_ok h hr hd hk
  · exact stApp_ok h hr hd hk
  · split at h
    · exact stCall_ok hP h hr hd hk
    · exact stCallP_ok hP h hr hd hk
  · exact stVal_ok hC hP h hr hd hk

/-! ### a test -/
def branch (e : BE) (st : St) (k1 k2 : K1) : Option T :=
  match e with
  | .c true => k1 st
  | .c false => k2 st
  | e => if e ∈ st.fs then k1 st else if e.nt ∈ st.fs then k2 st else
    match k1 { st with fs := e :: st.fs }, k2 { st with fs := e.nt :: st.fs } with
    | some x, some y => some (.br e x y)
    | _, _ => none

theorem branch_ok {e : BE} {st : St} {k1 k2 : K1} {t : T} {E : Env} {a : Act} {w : World} (h : branch e st k1 k2 = some t) (hr : RelΓ Γ st E a w) (hd : t.den Γ H E) :
    (e.den E = true ∧ ∃ fs' t', k1 { st with fs := fs' } = some t' ∧ RelΓ Γ { st with fs := fs' } E a w ∧ t'.den Γ H E) ∨
    (e.den E = false ∧ ∃ fs' t', k2 { st with fs := fs' } = some t' ∧ RelΓ Γ { st with fs := fs' } E a w ∧ t'.den Γ H E) := by
  unfold branch at h
  split at h
  · exact .inl ⟨rfl, st.fs, t, h, hr, hd⟩
  · exact .inr ⟨rfl, st.fs, t, h, hr, hd⟩
  · split at h
    · rename_i hin
      exact .inl ⟨(BE.den_iff E e).2 (hr.e.fs _ hin), st.fs, t, h, hr, hd⟩
    · split at h
      · rename_i hin
        refine .inr ⟨?_, st.fs, t, h, hr, hd⟩
        have := (BE.den_iff E _).2 (hr.e.fs _ hin)
        rw [BE.nt_den] at this; simpa using this
      · split at h
        · rename_i x y hx hy
          simp at h; subst h
          by_cases hc : e.P E
          · exact .inl ⟨(BE.den_iff E e).2 hc, _, x, hx, hr.addFact hc, hd.1 hc⟩
          · have hf := (BE.den_false E e).2 hc
            have hc' : e.nt.P E := by rw [← BE.den_iff, BE.nt_den, hf]; rfl
            exact .inr ⟨hf, _, y, hy, hr.addFact hc', hd.2 hc⟩
        · simp at h

/-- a test of a temporary: what it holds is known behind it -/
def setB (st : St) (d : Tmp) (b : Bool) : St := { st with t := st.t.set d (.p (.c (.bool (.c b)))) }
theorem Rel.setB {st : St} {E : Env} {a : Act} {w : World} (hr : RelΓ Γ st E a w) {d : Tmp} {b : Bool} (h : a.tmps.getD d undef = .bool b) : RelΓ Γ (setB st d b) E a w := by
  refine ⟨⟨hr.e.li, hr.e.ls, hr.e.lt, hr.e.lb, hr.e.ln, hr.e.lf, hr.e.bd, hr.e.fs⟩, by simp [SX.setB, hr.size], fun i tv hi => ?_, hr.df, hr.heap, hr.le, hr.kp⟩
  simp only [SX.setB, List.getElem?_set] at hi
  split at hi
  · rename_i e; subst e
    split at hi
    · simp at hi; subst hi; exact .inr h
    · simp at hi
  · exact hr.tm i tv hi

/-! ### a row of operations -/
def guardTmp (ops : Array Oper) (j : Nat) : Option Tmp := (ops[j]?).bind (·.dst)

def seqOps (C : CfgX) (ops : Array Oper) : List Oper → St → K1 → Option T
  | [], st, k => k st
  | o :: r, st, k =>
    match o.guard with
    | none => stepOp C o st fun st => seqOps C ops r st k
    | some (j, want) => match guardTmp ops j with
      | some d => (match st.t.getD d .junk with
        | .p (.c (.bool e)) => if d < st.t.length then
            branch e st
              (fun st => if want = true then stepOp C o (setB st d true) fun st => seqOps C ops r st k else seqOps C ops r ((setB st d true).put o.dst .junk) k)
              (fun st => if want = true then seqOps C ops r ((setB st d false).put o.dst .junk) k else stepOp C o (setB st d false) fun st => seqOps C ops r st k)
            else none
        | _ => none)
      | none => none

theorem yielded_of {ops : Array Oper} {j d : Nat} (h : guardTmp ops j = some d) {a : Act} (hd : d < a.tmps.size) {b : Bool} (hb : a.tmps.getD d undef = .bool b) : yielded ops a.tmps j = some b := by
  unfold yielded
  unfold guardTmp at h
  rw [h]
  have : a.tmps[d]? = some (.bool b) := by
    rw [Array.getElem?_eq_getElem hd]; simp only [Array.getD, hd, ↓reduceDIte] at hb; rw [← hb]; rfl
  simp only [Option.bind_some, this]

theorem seqOps_ok {C : CfgX} (hC : C.toCfg.OK) (hP : Γ.P = C.P) {ops : Array Oper} {Q : Exit → Act → World → Prop} : ∀ (l : List Oper) (st : St) (k : K1) (t : T) (E : Env) (a : Act) (w : World),
    seqOps C ops l st k = some t → RelΓ Γ st E a w → t.den Γ H E → Cont Γ H st.lv E k (fun a w => Q .normal a w) → wpList C.P ops Q l a w
  | [], st, k, t, E, a, w, h, hr, hd, hk => hk _ _ _ _ _ h hr rfl (Env.le_refl E) hd
  | o :: r, st, k, t, E, a, w, h, hr, hd, hk => by
    simp only [seqOps] at h
    split at h
    · rename_i hg
      refine wpList_plain hg fun K hK => ?_
      refine stepOp_ok hC hP Q h hr hd fun st' t' E' a' w' h1 h2 h3 hl h4 => hK _ _ (seqOps_ok hC hP r st' k t' E' a' w' h1 h2 h4 ?_)
      rw [h3]; exact hk.le hl
    · rename_i j want hg
      split at h
      · rename_i d hd'
        split at h
        · rename_i e he
          split at h
          · rename_i hlt
            have hsz : d < a.tmps.size := by rw [hr.size]; exact hlt
            have hval : a.tmps.getD d undef = .bool (e.den E) := by
              have hget : st.t[d]? = some (.p (.c (.bool e))) := by
                rw [List.getD_eq_getElem?_getD, List.getElem?_eq_getElem hlt, Option.getD_some] at he
                rw [List.getElem?_eq_getElem hlt, he]
              rcases hr.tm d _ hget with h' | h'
              · cases h'
              · exact h'
            refine wpList_step fun K hK => ?_
            simp only [Region.wanted, hg]
            rcases branch_ok h hr hd with ⟨hb, fs', t', h1, h2, h3⟩ | ⟨hb, fs', t', h1, h2, h3⟩
            · rw [hb] at hval
              rw [yielded_of hd' hsz hval]
              have hr2 := h2.setB hval
              cases want with
              | true =>
                simp only [↓reduceIte] at h1
                rw [if_pos (by simp)]
                refine stepOp_ok hC hP Q h1 hr2 h3 fun st' t'' E' a' w' g1 g2 g3 hl g4 => hK _ _ (seqOps_ok hC hP r st' k t'' E' a' w' g1 g2 g4 ?_)
                rw [g3]; exact hk.le hl
              | false =>
                simp only [Bool.false_eq_true, ↓reduceIte] at h1
                rw [if_neg (by simp)]
                refine hK _ _ (seqOps_ok hC hP r _ k t' E _ w h1 (hr2.put (.inl rfl)) h3 ?_)
                exact hk
            · rw [hb] at hval
              rw [yielded_of hd' hsz hval]
              have hr2 := h2.setB hval
              cases want with
              | true =>
                simp only [↓reduceIte] at h1
                rw [if_neg (by simp)]
                refine hK _ _ (seqOps_ok hC hP r _ k t' E _ w h1 (hr2.put (.inl rfl)) h3 ?_)
                exact hk
              | false =>
                simp only [Bool.false_eq_true, ↓reduceIte] at h1
                rw [if_pos (by simp)]
                refine stepOp_ok hC hP Q h1 hr2 h3 fun st' t'' E' a' w' g1 g2 g3 hl g4 => hK _ _ (seqOps_ok hC hP r st' k t'' E' a' w' g1 g2 g4 ?_)
                rw [g3]; exact hk.le hl
          · simp at h
        · simp at h
      · simp at h
end
end Go.Proofs.Ytelejhggpkfdoaa.SX

/-
  SX, part 18: a state is matched against a pattern with new variables (a loop's head; a place where ways meet).
-/
namespace Go.Proofs.Ytelejhggpkfdoaa.SX
set_option linter.unusedVariables false
set_option linter.unusedSimpArgs false
open Go.RowKit

structure Sg where
  i : List IE
  b : List BE
  s : List Nat
  t : List Nat

def Sg.env (E E' : Env) (σ : Sg) : Env :=
  E.ext (σ.i.map (IE.den E')) (σ.b.map (BE.den E')) (σ.s.map (E'.s.getD · nilSl)) (σ.t.map (E'.t.getD · ByteArray.empty))

def chkC (z : Sz) (σ : Sg) (p a : CV) : Bool :=
  (match p, a with
  | .int k (.v j), .int k' e => decide (z.ni ≤ j ∧ k = k' ∧ σ.i[j - z.ni]? = some e)
  | .bool (.v j), .bool e => decide (z.nb ≤ j ∧ σ.b[j - z.nb]? = some e)
  | .sl s, .sl q => decide (z.ns ≤ s ∧ σ.s[s - z.ns]? = some q)
  | .str s, .str q => decide (z.nt ≤ s ∧ σ.t[s - z.nt]? = some q)
  | _, _ => false) || (decide (p = a) && p.sc z)

def chkL (z : Sz) (σ : Sg) : List CV → List CV → Bool
  | [], [] => true
  | p :: r, a :: q => chkC z σ p a && chkL z σ r q
  | _, _ => false
def chkP (z : Sz) (σ : Sg) : PV → PV → Bool
  | .c p, .c a => chkC z σ p a
  | .a l, .a m => chkL z σ l m
  | _, _ => false
def chkT (z : Sz) (σ : Sg) : TV → TV → Bool
  | .junk, _ => true
  | .p p, .p a => chkP z σ p a
  | .tup l, .tup m => decide (l = m) && l.all (PV.sc z)
  | _, _ => false
def chkTs (z : Sz) (σ : Sg) : List TV → List TV → Bool
  | [], [] => true
  | p :: r, a :: q => chkT z σ p a && chkTs z σ r q
  | _, _ => false
def chkIt (z : Sz) (σ : Sg) : It → It → Bool
  | .blk n T cs o, .blk n' T' cs' o' => decide (n = n' ∧ T = T' ∧ o = o' ∧ n < z.nn) && chkL z σ cs cs'
  | .isl s T k zz o, .isl s' T' k' zz' o' => decide (T = T' ∧ k = k' ∧ zz = zz' ∧ o = o') && (decide (z.ns ≤ s ∧ σ.s[s - z.ns]? = some s') || decide (s = s' ∧ s < z.ns))
  | _, _ => false
def pickIt (z : Sz) (σ : Sg) (p : It) : List It → Option (It × List It)
  | [] => none
  | a :: q => if chkIt z σ p a = true then some (a, q) else match pickIt z σ p q with
    | some (x, r) => some (x, a :: r)
    | none => none
def chkIts (z : Sz) (σ : Sg) : List It → List It → Bool
  | [], _ => true
  | p :: r, acts => match pickIt z σ p acts with
    | some (_, rest) => chkIts z σ r rest
    | none => false

theorem map_getElem {α β : Type} {l : List α} {i : Nat} {x : α} (f : α → β) (d : β) (h : l[i]? = some x) : (l.map f).getD i d = f x := by
  rw [List.getD_eq_getElem?_getD, List.getElem?_map, h]; rfl

section
variable {E E' : Env} {z : Sz} (hf : E.Fits z) (hl : E.le E') (σ : Sg)
 include hf hl

 omit hf hl in
theorem Sg.le : E.le (σ.env E E') := Env.le_ext _ _ _ _ _

theorem chkC_ok {p a : CV} (h : chkC z σ p a = true) : p.den (σ.env E E') = a.den E' := by
  unfold chkC at h
  rw [Bool.or_eq_true] at h
  rcases h with h | h
  · split at h
    · rename_i k j k' e
      simp only [decide_eq_true_eq] at h
      obtain ⟨h1, rfl, h2⟩ := h
      simp only [CV.den, IE.den, Sg.env, Env.ext, getD_app2, hf.i]
      rw [if_neg (by omega), map_getElem _ _ h2]
    · rename_i j e
      simp only [decide_eq_true_eq] at h
      obtain ⟨h1, h2⟩ := h
      simp only [CV.den, BE.den, Sg.env, Env.ext, getD_app2, hf.b]
      rw [if_neg (by omega), map_getElem _ _ h2]
    · rename_i s q
      simp only [decide_eq_true_eq] at h
      obtain ⟨h1, h2⟩ := h
      simp only [CV.den, Sg.env, Env.ext, getD_app2, hf.s]
      rw [if_neg (by omega), map_getElem _ _ h2]
    · rename_i s q
      simp only [decide_eq_true_eq] at h
      obtain ⟨h1, h2⟩ := h
      simp only [CV.den, Sg.env, Env.ext, getD_app2, hf.t]
      rw [if_neg (by omega), map_getElem _ _ h2]
    · simp at h
  · simp only [Bool.and_eq_true, decide_eq_true_eq] at h
    obtain ⟨rfl, hs⟩ := h
    rw [CV.den_le hf (Sg.le σ) p hs, CV.den_le hf hl p hs]

theorem chkL_ok : ∀ {l m : List CV}, chkL z σ l m = true → l.map (CV.den (σ.env E E')) = m.map (CV.den E')
  | [], [], _ => rfl
  | p :: r, a :: q, h => by
    simp only [chkL, Bool.and_eq_true] at h
    simp only [List.map_cons, chkC_ok hf hl σ h.1, chkL_ok h.2]
  | [], _ :: _, h => by simp [chkL] at h
  | _ :: _, [], h => by simp [chkL] at h

theorem chkP_ok {p a : PV} (h : chkP z σ p a = true) : p.den (σ.env E E') = a.den E' := by
  cases p with
  | c v => cases a with
    | c v' => exact chkC_ok hf hl σ h
    | a l => simp [chkP] at h
  | a l => cases a with
    | c v' => simp [chkP] at h
    | a m => simp only [PV.den, chkL_ok hf hl σ h]

theorem chkT_ok {p a : TV} (h : chkT z σ p a = true) {x : Value} (hx : a.ok E' x) : p.ok (σ.env E E') x := by
  cases p with
  | junk => exact .inl rfl
  | p v => cases a with
    | p v' =>
      rcases hx with hx | hx
      · cases hx
      · refine .inr ?_; rw [hx]; exact (chkP_ok hf hl σ h).symm
    | tup l => simp [chkT] at h
    | junk => simp [chkT] at h
  | tup l => cases a with
    | p v' => simp [chkT] at h
    | tup m =>
      simp only [chkT, Bool.and_eq_true, decide_eq_true_eq] at h
      obtain ⟨rfl, hs⟩ := h
      rcases hx with hx | hx
      · cases hx
      · refine .inr ?_
        rw [hx]; simp only [TV.val]
        rw [PV.map_le hf (Sg.le σ) l hs, PV.map_le hf hl l hs]
    | junk => simp [chkT] at h

 omit hf hl in
theorem chkTs_ok : ∀ {l m : List TV}, chkTs z σ l m = true → l.length = m.length ∧ ∀ (i : Nat) (p : TV), l[i]? = some p → ∃ a, m[i]? = some a ∧ chkT z σ p a = true
  | [], [], _ => ⟨rfl, fun i p h => by simp at h⟩
  | p :: r, a :: q, h => by
    simp only [chkTs, Bool.and_eq_true] at h
    obtain ⟨h1, h2⟩ := chkTs_ok (l := r) (m := q) h.2
    refine ⟨by simp [h1], fun i x hx => ?_⟩
    cases i with
    | zero => simp at hx; subst hx; exact ⟨a, rfl, h.1⟩
    | succ i => simpa using h2 i x (by simpa using hx)
  | [], _ :: _, h => by simp [chkTs] at h
  | _ :: _, [], h => by simp [chkTs] at h

theorem chkIt_ok {p a : It} (h : chkIt z σ p a = true) : p.fp (σ.env E E') = a.fp E' ∧ p.own = a.own ∧ ∀ B w, a.holds B E' w → p.holds B (σ.env E E') w := by
  cases p with
  | blk n T cs o => cases a with
    | blk n' T' cs' o' =>
      simp only [chkIt, Bool.and_eq_true, decide_eq_true_eq] at h
      obtain ⟨⟨rfl, rfl, rfl, hn⟩, hc⟩ := h
      obtain ⟨l, hln⟩ := hl.n
      have e1 : (σ.env E E').n.getD n 0 = E'.n.getD n 0 := by
        rw [hln, getD_app (by rw [hf.n]; exact hn)]; rfl
      refine ⟨by simp only [It.fp, e1], rfl, fun B w hh => ?_⟩
      simp only [It.holds] at *
      rw [chkL_ok hf hl σ hc, e1]; exact hh
    | isl => simp [chkIt] at h
  | isl s T k zz o => cases a with
    | blk => simp [chkIt] at h
    | isl s' T' k' zz' o' =>
      simp only [chkIt, Bool.and_eq_true, decide_eq_true_eq, Bool.or_eq_true] at h
      obtain ⟨⟨rfl, rfl, rfl, rfl⟩, hc⟩ := h
      have e1 : (σ.env E E').s.getD s nilSl = E'.s.getD s' nilSl := by
        rcases hc with ⟨h1, h2⟩ | ⟨rfl, h1⟩
        · simp only [Sg.env, Env.ext, getD_app2, hf.s]
          rw [if_neg (by omega), map_getElem _ _ h2]
        · obtain ⟨l, hln⟩ := hl.s
          rw [hln, getD_app (by rw [hf.s]; exact h1)]
          simp only [Sg.env, Env.ext]
          rw [getD_app (by rw [hf.s]; exact h1)]
      refine ⟨by cases o <;> simp only [It.fp, e1], rfl, fun B w hh => ?_⟩
      cases o <;> (simp only [It.holds] at *; rw [e1]; exact hh)

 omit hf hl in
theorem pickIt_ok {p : It} : ∀ {acts : List It} {r : It × List It}, pickIt z σ p acts = some r → chkIt z σ p r.1 = true ∧ acts.Perm (r.1 :: r.2)
  | [], r, h => by simp [pickIt] at h
  | a :: q, r, h => by
    simp only [pickIt] at h
    split at h
    · rename_i hc; simp at h; subst h; exact ⟨hc, List.Perm.refl _⟩
    · split at h
      · rename_i x rest hx
        simp at h; subst h
        obtain ⟨h1, h2⟩ := pickIt_ok (acts := q) hx
        exact ⟨h1, (h2.cons a).trans (List.Perm.swap x a rest)⟩
      · simp at h

 omit hf hl in
theorem HOK.perm {B : Nat} {S : List Nat} {h h' : List It} {E : Env} {w : World} (hp : h.Perm h') (hh : HOK B S h E w) : HOK B S h' E w := by
  refine ⟨fun x hx => hh.holds x (hp.mem_iff.2 hx), fun x hx => hh.lt x (hp.mem_iff.2 hx), fun x hx => hh.own x (hp.mem_iff.2 hx), ?_⟩
  refine (hp.pairwise_iff ?_).1 hh.sep
  intro x y hxy ho k hk hk'
  exact hxy (by simp only [Bool.or_eq_true] at *; exact ho.symm) k hk' hk

theorem chkIts_ok {B : Nat} {S : List Nat} {w : World} : ∀ {pats acts : List It}, chkIts z σ pats acts = true → HOK B S acts E' w →
    HOK B S pats (σ.env E E') w ∧ ∀ p ∈ pats, ∃ a ∈ acts, p.fp (σ.env E E') = a.fp E' ∧ p.own = a.own
  | [], acts, _, hh => ⟨HOK.nil, by simp⟩
  | p :: r, acts, h, hh => by
    simp only [chkIts] at h
    split at h
    · rename_i a rest hp
      obtain ⟨h1, h2⟩ := pickIt_ok σ hp
      obtain ⟨e1, e2, e3⟩ := chkIt_ok hf hl σ h1
      have hh2 := hh.perm h2
      have hrest := hh2.sub (List.sublist_cons_self a rest)
      obtain ⟨g1, g2⟩ := chkIts_ok h hrest
      have hsep := hh2.sep
      cases hsep with
      | cons hs1 hs2 =>
        refine ⟨HOK.cons g1 (e3 B w (hh2.holds a (List.mem_cons_self ..))) (fun k hk => hh2.lt a (List.mem_cons_self ..) k (by rw [← e1]; exact hk))
          (fun ho k hk => hh2.own a (List.mem_cons_self ..) (by rw [← e2]; exact ho) k (by rw [← e1]; exact hk)) ?_, ?_⟩
        · intro y hy ho k hk
          obtain ⟨b, hb, f1, f2⟩ := g2 y hy
          rw [e1] at hk
          rw [f1]
          exact hs1 b hb (by rw [← e2, ← f2]; exact ho) k hk
        · intro q hq
          cases hq with
          | head => exact ⟨a, h2.mem_iff.2 (List.mem_cons_self ..), e1, e2⟩
          | tail _ hq => obtain ⟨b, hb, f⟩ := g2 q hq; exact ⟨b, h2.mem_iff.2 (List.mem_cons_of_mem _ hb), f⟩
    · simp at h
end

/-- the pattern holds of the state -/
theorem conc_ok {B : Nat} {S : List Nat} {w0 : World} {st0 st' : St} {E E' : Env} {σ : Sg} {a : Act} {w : World} {bi : List Iv} {bS : List (Iv × Int)} {bT : List Int} {t1 : List TV} {h1 : List It} {lv : Nat}
    (hf : EOK st0 E) (hfs : ∀ E' : Env, E.le E' → ∀ c ∈ st0.fs, c.P E') (hl : E.le E') (hr : Rel B S w0 st' E' a w)
    (hc1 : chkTs st0.sz σ t1 st'.t = true) (hc2 : chkIts st0.sz σ h1 st'.h = true)
    (l1 : σ.i.length = bi.length) (l3 : σ.s.length = bS.length) (l4 : σ.t.length = bT.length)
    (b1 : inIvs bi (σ.i.map (IE.den E'))) (b3 : inIvS bS (σ.s.map (E'.s.getD · nilSl))) (b30 : ∀ b ∈ bS, iv0 b.1 = true) (b4 : inIvT bT (σ.t.map (E'.t.getD · ByteArray.empty))) :
    Rel B S w0 { st0.ext bi σ.b.length bS bT with t := t1, h := h1, lv := lv } (σ.env E E') a w := by
  have hE := hf.ext hfs (is := σ.i.map (IE.den E')) (bs := σ.b.map (BE.den E')) (ss := σ.s.map (E'.s.getD · nilSl)) (ts := σ.t.map (E'.t.getD · ByteArray.empty)) (bi := bi) (bS := bS) (bT := bT) (nb := σ.b.length)
    (by simpa using l1) (by simp) (by simpa using l3) (by simpa using l4) b1 b3 b30 b4
  obtain ⟨g1, g2⟩ := chkTs_ok σ hc1
  refine ⟨⟨hE.li, hE.ls, hE.lt, hE.lb, hE.ln, hE.lf, hE.bd, hE.fs⟩, by rw [hr.size]; exact g1.symm, fun i tv hi => ?_, hr.df, (chkIts_ok hf.fits hl σ hc2 hr.heap).1, hr.le, hr.kp⟩
  obtain ⟨av, ha, hc⟩ := g2 i tv hi
  exact chkT_ok hf.fits hl σ hc (hr.tm i av ha)

end Go.Proofs.Ytelejhggpkfdoaa.SX

