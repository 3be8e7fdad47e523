/- for every byte slice the spec's law FnSpreadOrders yields true and does not stop: one state of the entry, no condition on the argument beyond the statement's own -/
import Derived.Test.YtelejhggpkfdoaaTA
import Derived.Test.YtelejhggpkfdoaaRows
import Derived.WalkKit
import Derived.ProofKit
import Derived.OpenShut
import Derived.Carry
import Derived.Test.YtelejhggpkfdoaaLA
namespace Go.Proofs.Ytelejhggpkfdoaa.SX
set_option linter.unusedVariables false
open Go.ChangeShapes Go.WideShapes Go.ChangeAt Go.RowKit Go.Proofs

theorem own : ownKnob Try.prog.godebug = none := by kernel_rfl

theorem trodAll_stays {H : Type} {enc : TypeId × Value → H} {P : Program} (hl : laidOutB P = true) {W W' : World} {sp : Nat → Bool} (hb : Below W.heap.size W W') (hsp : ∀ n, n < W.heap.size → sp n = true) :
    ∀ {ts : List TypeId} {vs : List Value} {ds : List (DataW H)} {ps : List MemPlace}, (∀ u ∈ ts, P.readableRec u = true ∧ u < P.types.size) →
      DataW.TrodAll enc P W 0 (fun _ => true) true ts vs ds ps → DataW.TrodAll enc P W' 0 sp true ts vs ds ps
  | [], vs, ds, ps, _, h => by
    obtain ⟨rfl, rfl, rfl⟩ := trodAll_nil h
    exact trodAll_mk0
  | t :: ts, vs, ds, ps, hr, h => by
    have hlt := h.lt
    obtain ⟨v, vs', d, ds', p, q, rfl, rfl, rfl, h0, r0⟩ := trodAll_cons h
    exact trodAll_cons_mk (WideElems.Trod_stays hl (hr t (List.mem_cons_self ..)).1 (hr t (List.mem_cons_self ..)).2 h0 (fun x hx => hb.same (hlt x (List.mem_append_left _ hx))) (fun x hx => hsp _ (hlt x (List.mem_append_left _ hx))))
      (trodAll_stays hl hb hsp (fun u hu => hr u (List.mem_cons_of_mem _ hu)) r0)

theorem law_post {H : Type} {enc : TypeId × Value → H} {P : Program} {f : Func} {s : ChangeSpec} {fresh handsOn : Bool} {W W' : World} {args : Array Value} {ds gs : List (DataW H)} {before : List MemPlace} {t : TypeId}
    (hl : laidOutB P = true) (hr : (f.params.toList.all fun u => P.readableRec u && decide (u < P.types.size)) = true) (hv : s.vars = []) (hrt : f.resultTypes = #[t]) (ht : P.underlying t = some .bool)
    (hW : DataW.Whole enc P f.params.toList s.vars false W args.toList ds gs before)
    (hres : (s.fn H (ds ++ gs)).results = [.lit (.bool true)]) (hargs : (s.fn H (ds ++ gs)).args = ds) (hvars : (s.fn H (ds ++ gs)).vars = [])
    (hb : Below W.heap.size W W') : s.post enc P f false fresh handsOn false W args (.bool true) W' := by
  have hW' := hW
  obtain ⟨p, q, hA, hV, rfl, hfz, hnd⟩ := hW
  rw [hv] at hV
  obtain ⟨rfl, rfl⟩ := trodVars_none hV
  refine ⟨ds, [], p ++ [], [], p, [], hW', ?_, ?_, ?_, hb.frame _, fun h => by cases h⟩
  · rw [hres, hrt]
    exact trodAll_cons_mk (shut_bool ht _) trodAll_mk0
  · rw [hargs]
    refine trodAll_stays hl hb (fun n hn => by simpa using hn) (fun u hu => ?_) hA
    have := List.all_eq_true.1 hr u hu
    simpa using this
  · rw [hvars, hv]; trivial

/-- an argument's slice of integers, to read -/
theorem reads_of {H : Type} {enc : TypeId × Value → H} {P : Program} {W : World} {t e : TypeId} {k : IntKind} {v : Value} {d : DataW H} {ps : List MemPlace} {base : Nat}
    (ht : P.underlying t = some (.slice e)) (he : P.underlying e = some (.int k)) (hc : P.cellsOf e = 1) (hok : Value.okWide P W .any base t v) (h : DataW.Trod enc P W 0 (fun _ => true) true t v d ps) :
    ∃ s : Sl, v = s.val ∧ Reads W k 1 s ∧ s.n ≤ maxLen ∧ (∀ x ∈ s.xs, (Lit.int k x).wf = true) := by
  obtain ⟨a, len, cap, rfl⟩ := okWide_slice ht hok
  obtain ⟨fuel, hf⟩ := h
  rcases open_ints ht he hc hf with ⟨hcs, _⟩ | ⟨a', len', cap', zs, hcs, _, hl, hm, hz, _, hcell, hwf⟩
  · have e1 : Value.slice a len cap = .slice none 0 0 := by
      have : (Value.slice a len cap).cells = #[Value.slice a len cap] := rfl
      first
      | (rw [this] at hcs; simpa using hcs)
      | simpa [Value.cells] using hcs
    injection e1 with e1 e2 e3
    subst e1; subst e2; subst e3
    exact ⟨⟨none, 0, 0, []⟩, rfl, ⟨rfl, Nat.le_refl _, fun j u hu => by simp [ints] at hu⟩, by simp [maxLen], by simp⟩
  · have e1 : Value.slice a len cap = .slice (some a') len' cap' := by
      simpa [Value.cells] using hcs
    injection e1 with e1 e2 e3
    subst e1; subst e2; subst e3
    have hzl : len ≤ zs.length := by simp at hz; omega
    refine ⟨⟨some a', len, cap, zs.take len⟩, rfl, ⟨by simp; omega, hl, fun j u hu => ⟨a', rfl, ?_⟩⟩, by show len ≤ _; omega, fun x hx => hwf x (List.mem_of_mem_take hx)⟩
    unfold ints at hu
    rw [List.getElem?_map, List.getElem?_take] at hu
    split at hu
    · rename_i hj
      have hj' : j < zs.length := by omega
      rw [hcell j hj']
      rw [List.getElem?_eq_getElem hj'] at hu
      simp at hu
      rw [List.getD_eq_getElem?_getD, List.getElem?_eq_getElem hj', ← hu]; rfl
    · simp at hu

/-- a law's call -/
theorem calls_true {g : FuncId} {pas : List PA} (h : S .nrm g pas = some [.bool true]) {w : World} {vals : List Value} (hr : PA.reps w pas vals) :
    Calls Try.prog g vals.toArray w fun e w' => e = .returned (.bool true) ∧ Below w.heap.size w w' := by
  refine ((S_ok.nrm g pas _ h).2 w vals hr).mono ?_
  rintro e w' ⟨vs, ss, rfl, ho, hb, _⟩
  obtain ⟨q, rfl, h1, h2⟩ := ho
  subst h1
  exact ⟨rfl, hb⟩
theorem u8_of {xs : List Int} (h : ∀ x ∈ xs, (Lit.int .u8 x).wf = true) : ∀ v ∈ xs, 0 ≤ v ∧ v ≤ 255 := fun v hv => by
  have := h v hv
  simp only [Lit.wf, Bool.and_eq_true, decide_eq_true_eq] at this
  exact this
end Go.Proofs.Ytelejhggpkfdoaa.SX

namespace Go.Proofs.Ytelejhggpkfdoaa.SX
open Go.ChangeShapes Go.WideShapes Go.ChangeAt Go.RowKit Go.Proofs

theorem p_laid : laidOutB Try.prog = true := by kernel_rfl
theorem p_maps : mapsRowed Try.prog = true := by kernel_rfl
theorem p_stops : (Try.prog.stops == []) = true := by kernel_rfl
theorem p_knobs : (Try.prog.stopKnobs == []) = true := by kernel_rfl
theorem p_heard : Try.prog.stopsHeard = true := by kernel_rfl
theorem p_may : Try.prog.mayEnter = true := by kernel_rfl

theorem joined_of {P : Program} {f : FuncId} {fn : Func} {s : ChangeSpec} {c : OpenClaim} (p1 : laidOutB P = true) (p2 : mapsRowed P = true) (p3 : (P.stops == []) = true) (p4 : (P.stopKnobs == []) = true) (p5 : P.stopsHeard = true) (p6 : P.mayEnter = true)
    (h1 : c.wf (OpenSpec.ofChange s) = true) (h2 : fn.params.all (P.readableRec ·) = true) (h3 : namedTie P c.named s.vars = true) (h4 : (c.stops == []) = true) (h5 : (c.knobs == []) = true)
    (h6 : (c.inPlace == P.inPlace f) = true) (h7 : (c.unfollowed == P.unfollowed f) = true) (h8 : (c.recurses == P.recurses f) = true) (h9 : (c.named == P.varsNamed f) = true)
    (h10 : (c.maps == (fn.params.toList ++ s.plain.varTypes P).any (P.mapsRec ·)) = true) (h11 : (c.ifaces == (fn.params.toList ++ s.plain.varTypes P).any (P.ifacesRec ·)) = true) (h12 : (c.mapsOut == P.mapsAmong fn.resultTypes.toList) = true)
    (h13 : (c.loops == (fn.params.toList ++ s.plain.varTypes P).any (P.loopsFrom ·)) = true) (h14 : (c.wideKeys == (fn.params.toList ++ s.plain.varTypes P ++ fn.resultTypes.toList).any (P.wideKeysFrom ·)) = true)
    (h15 : s.vars.all (P.varReadable ·) = true) (h16 : fn.resultTypes.all (fun t => P.readableRec t && decide (t < P.types.size)) = true) (h17 : (c.ifacesOut == fn.resultTypes.toList.any (P.ifacesRec ·)) = true) (h18 : (c.loopsOut == fn.resultTypes.toList.any (P.loopsFrom ·)) = true)
    (h19 : (c.plainKeys == P.plainKeys) = true) (h20 : c.shortTexts.isNone = true) (h21 : (c.lifted == P.liftsFinal) = true) (h22 : (P.make == some c.make) = true)
    (h23 : (c.domain.isEmpty && (c.kinds == [])) = true) (h24 : (c.pinned == c.pinnedBy) = true)
    (h25 : (c.veiled == (fn.params.toList ++ s.plain.varTypes P ++ fn.resultTypes.toList).any (P.veiledRec ·)) = true) (h26 : c.veiledFits P fn.params.toList (fn.params.toList ++ s.plain.varTypes P ++ fn.resultTypes.toList) = true) :
    joinedFacts P f fn s c = true := by
  unfold joinedFacts
  simp only [Bool.and_eq_true] at h23 ⊢
  obtain ⟨h23a, h23b⟩ := h23
  rw [h23a]
  replace h23 : (c.kinds == if true = true then [] else List.map (fun t => match P.underlying t with | some (TypeDesc.int k) => some k | _ => none) fn.params.toList) = true := h23b
  exact ⟨⟨⟨⟨⟨⟨⟨⟨⟨⟨⟨⟨⟨⟨⟨⟨⟨⟨⟨⟨⟨⟨⟨⟨⟨⟨⟨⟨⟨⟨⟨h1, p1⟩, p2⟩, h2⟩, h3⟩, h4⟩, p3⟩, h5⟩, p4⟩, h6⟩, h7⟩, h8⟩, h9⟩, h10⟩, h11⟩, h12⟩, h13⟩, h14⟩, h15⟩, h16⟩, h17⟩, h18⟩, h19⟩, h20⟩, p5⟩, p6⟩, h21⟩, h22⟩, h23⟩, h24⟩, h25⟩, h26⟩
end Go.Proofs.Ytelejhggpkfdoaa.SX

namespace Go.Proofs.Ytelejhggpkfdoaa.SX
set_option linter.unusedVariables false
open Go.ChangeShapes Go.WideShapes Go.ChangeAt Go.RowKit Go.Proofs Go.Proofs.Ytelejhggpkfdoaa

theorem rw5_1 : Rows.fnSpreadOrdersRow.wf (OpenSpec.ofChange Rows.fnSpreadOrdersSpec) = true := by kernel_rfl
theorem rw5_2 : Try.f5.params.all (Try.prog.readableRec ·) = true := by kernel_rfl
theorem rw5_3 : namedTie Try.prog Rows.fnSpreadOrdersRow.named Rows.fnSpreadOrdersSpec.vars = true := by kernel_rfl
theorem rw5_4 : (Rows.fnSpreadOrdersRow.stops == []) = true := by kernel_rfl
theorem rw5_5 : (Rows.fnSpreadOrdersRow.knobs == []) = true := by kernel_rfl
theorem rw5_6 : (Rows.fnSpreadOrdersRow.inPlace == Try.prog.inPlace 5) = true := by kernel_rfl
theorem rw5_7 : (Rows.fnSpreadOrdersRow.unfollowed == Try.prog.unfollowed 5) = true := by kernel_rfl
theorem rw5_8 : (Rows.fnSpreadOrdersRow.recurses == Try.prog.recurses 5) = true := by kernel_rfl
theorem rw5_9 : (Rows.fnSpreadOrdersRow.named == Try.prog.varsNamed 5) = true := by kernel_rfl
theorem rw5_10 : (Rows.fnSpreadOrdersRow.maps == (Try.f5.params.toList ++ Rows.fnSpreadOrdersSpec.plain.varTypes Try.prog).any (Try.prog.mapsRec ·)) = true := by kernel_rfl
theorem rw5_11 : (Rows.fnSpreadOrdersRow.ifaces == (Try.f5.params.toList ++ Rows.fnSpreadOrdersSpec.plain.varTypes Try.prog).any (Try.prog.ifacesRec ·)) = true := by kernel_rfl
theorem rw5_12 : (Rows.fnSpreadOrdersRow.mapsOut == Try.prog.mapsAmong Try.f5.resultTypes.toList) = true := by kernel_rfl
theorem rw5_13 : (Rows.fnSpreadOrdersRow.loops == (Try.f5.params.toList ++ Rows.fnSpreadOrdersSpec.plain.varTypes Try.prog).any (Try.prog.loopsFrom ·)) = true := by kernel_rfl
theorem rw5_14 : (Rows.fnSpreadOrdersRow.wideKeys == (Try.f5.params.toList ++ Rows.fnSpreadOrdersSpec.plain.varTypes Try.prog ++ Try.f5.resultTypes.toList).any (Try.prog.wideKeysFrom ·)) = true := by kernel_rfl
theorem rw5_15 : Rows.fnSpreadOrdersSpec.vars.all (Try.prog.varReadable ·) = true := by kernel_rfl
theorem rw5_16 : Try.f5.resultTypes.all (fun t => Try.prog.readableRec t && decide (t < Try.prog.types.size)) = true := by kernel_rfl
theorem rw5_17 : (Rows.fnSpreadOrdersRow.ifacesOut == Try.f5.resultTypes.toList.any (Try.prog.ifacesRec ·)) = true := by kernel_rfl
theorem rw5_18 : (Rows.fnSpreadOrdersRow.loopsOut == Try.f5.resultTypes.toList.any (Try.prog.loopsFrom ·)) = true := by kernel_rfl
theorem rw5_19 : (Rows.fnSpreadOrdersRow.plainKeys == Try.prog.plainKeys) = true := by kernel_rfl
theorem rw5_20 : Rows.fnSpreadOrdersRow.shortTexts.isNone = true := by kernel_rfl
theorem rw5_21 : (Rows.fnSpreadOrdersRow.lifted == Try.prog.liftsFinal) = true := by kernel_rfl
theorem rw5_22 : (Try.prog.make == some Rows.fnSpreadOrdersRow.make) = true := by kernel_rfl
theorem rw5_23 : (Rows.fnSpreadOrdersRow.domain.isEmpty && (Rows.fnSpreadOrdersRow.kinds == [])) = true := by kernel_rfl
theorem rw5_24 : (Rows.fnSpreadOrdersRow.pinned == Rows.fnSpreadOrdersRow.pinnedBy) = true := by kernel_rfl
theorem rw5_25 : (Rows.fnSpreadOrdersRow.veiled == (Try.f5.params.toList ++ Rows.fnSpreadOrdersSpec.plain.varTypes Try.prog ++ Try.f5.resultTypes.toList).any (Try.prog.veiledRec ·)) = true := by kernel_rfl
theorem rw5_26 : Rows.fnSpreadOrdersRow.veiledFits Try.prog Try.f5.params.toList (Try.f5.params.toList ++ Rows.fnSpreadOrdersSpec.plain.varTypes Try.prog ++ Try.f5.resultTypes.toList) = true := by kernel_rfl

set_option maxRecDepth 100000 in
theorem joined5 : joinedFacts Try.prog 5 Try.f5 Rows.fnSpreadOrdersSpec Rows.fnSpreadOrdersRow = true :=
  joined_of p_laid p_maps p_stops p_knobs p_heard p_may rw5_1 rw5_2 rw5_3 rw5_4 rw5_5 rw5_6 rw5_7 rw5_8 rw5_9 rw5_10 rw5_11 rw5_12 rw5_13 rw5_14 rw5_15 rw5_16 rw5_17 rw5_18 rw5_19 rw5_20 rw5_21 rw5_22 rw5_23 rw5_24 rw5_25 rw5_26
theorem named5 : Try.prog.funcNamed Rows.fnSpreadOrdersRow.func = some 5 := by kernel_rfl
theorem inst5 : Func.isInstance Try.prog Try.f5 Rows.fnSpreadOrdersRow.origin Rows.fnSpreadOrdersRow.targs := of_decide_eq_true (by kernel_rfl)
theorem init5 : Try.prog.inits.idxOf? 5 = none := by kernel_rfl
theorem read5 : (Try.f5.params.toList.all fun u => Try.prog.readableRec u && decide (u < Try.prog.types.size)) = true := by kernel_rfl
theorem res5 : Try.f5.resultTypes = #[4] := by kernel_rfl

set_option maxRecDepth 100000 in
theorem lifted5 (os : Os) (started : os.Started) (H : Type) (enc : TypeId × Value → H) :
    ReturnsInHanded {} Try.checked os 5 .any (Rows.fnSpreadOrdersSpec.pre6 enc Try.prog Try.f5 Rows.fnSpreadOrdersRow.domain false) (Rows.fnSpreadOrdersSpec.post enc Try.prog Try.f5 false true false false) := by
  refine returnsInHanded_of_change (C := Try.checked) own started init5 Try.func5
    (ChangeSpec.witness6 (enc := enc) (C := Try.checked) false ⟨#[], #[.slice none 0 0], []⟩ 8 (by as_aux_lemma => kernel_rfl) (by as_aux_lemma => kernel_rfl) (by as_aux_lemma => kernel_rfl) (by as_aux_lemma => kernel_rfl)) ?_
  intro W base args ds gs before hval0 hW hcnd _
  have hval : ∀ (j : Nat) t v, Try.f5.params[j]? = some t → args[j]? = some v → Value.okWide Try.prog W .any base t v := hval0
  have hW' := hW
  obtain ⟨p, q, hA0, hV, rfl, hfz, hnd⟩ := hW
  have hA : DataW.TrodAll enc Try.prog W 0 (fun _ => true) true Try.f5.params.toList args.toList ds p := hA0
  rw [Try.params5] at hA hval
  obtain ⟨v0, vs0, d0, ds0, p0, q0, hargs, rfl, rfl, h0, r0⟩ := trodAll_cons hA
  obtain ⟨rfl, rfl, rfl⟩ := trodAll_nil r0
  obtain rfl : args = #[v0] := by cases args; simp_all
  obtain ⟨rfl, rfl⟩ := trodVars_none hV
  obtain ⟨s0, rfl, hs0, hn0, hw0⟩ := reads_of Try.underlying38 Try.underlying5 (by as_aux_lemma => kernel_rfl) (hval 0 38 v0 rfl rfl) h0
  refine ((calls_true (c5 (T := 0) (m := s0.n) (u8_of hw0)) (vals := [s0.val]) ⟨_, _, rfl, ⟨s0, rfl, rfl, rfl, hs0⟩, rfl⟩)).mono fun e W' ⟨he, hb⟩ => ?_
  subst he
  exact ⟨_, rfl, law_post p_laid read5 rfl (t := 4) res5 Try.underlying4 hW' rfl rfl rfl hb⟩

theorem proved5 : Rows.FnSpreadOrdersSaid :=
  OpenClaim.holds_of_wide 5 Try.f5 rfl rfl rfl rfl rfl rfl rfl ⟨rfl, rfl, rfl, rfl, rfl⟩ rfl rfl rfl rfl rfl named5 Try.func5 joined5
    inst5 (by unfold Func.isWrapper; first | (rw [if_pos (by decide +kernel)]; kernel_rfl) | (rw [if_neg (by decide +kernel)]; exact ⟨rfl, rfl⟩))
    (fun os started H enc _ => lifted5 os started H enc)
end Go.Proofs.Ytelejhggpkfdoaa.SX

