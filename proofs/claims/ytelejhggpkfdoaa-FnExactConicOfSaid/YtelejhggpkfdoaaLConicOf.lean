import Derived.Test.YtelejhggpkfdoaaKA
import Derived.Test.YtelejhggpkfdoaaCA
namespace Go.Proofs.Ytelejhggpkfdoaa.SX
set_option linter.unusedVariables false
open Go.ChangeShapes Go.WideShapes Go.ChangeAt Go.RowKit Go.Proofs Go.Proofs.Ytelejhggpkfdoaa

theorem j3_1 : Rows.fnExactConicOfRow.wf (OpenSpec.ofChange Rows.fnExactConicOfSpec) = true := by kernel_rfl
theorem j3_2 : Try.f3.params.all (Try.prog.readableRec ·) = true := by kernel_rfl
theorem j3_3 : namedTie Try.prog Rows.fnExactConicOfRow.named Rows.fnExactConicOfSpec.vars = true := by kernel_rfl
theorem j3_4 : (Rows.fnExactConicOfRow.stops == []) = true := by kernel_rfl
theorem j3_5 : (Rows.fnExactConicOfRow.knobs == []) = true := by kernel_rfl
theorem j3_6 : (Rows.fnExactConicOfRow.inPlace == Try.prog.inPlace 3) = true := by kernel_rfl
theorem j3_7 : (Rows.fnExactConicOfRow.unfollowed == Try.prog.unfollowed 3) = true := by kernel_rfl
theorem j3_8 : (Rows.fnExactConicOfRow.recurses == Try.prog.recurses 3) = true := by kernel_rfl
theorem j3_9 : (Rows.fnExactConicOfRow.named == Try.prog.varsNamed 3) = true := by kernel_rfl
theorem j3_10 : (Rows.fnExactConicOfRow.maps == (Try.f3.params.toList ++ Rows.fnExactConicOfSpec.plain.varTypes Try.prog).any (Try.prog.mapsRec ·)) = true := by kernel_rfl
theorem j3_11 : (Rows.fnExactConicOfRow.ifaces == (Try.f3.params.toList ++ Rows.fnExactConicOfSpec.plain.varTypes Try.prog).any (Try.prog.ifacesRec ·)) = true := by kernel_rfl
theorem j3_12 : (Rows.fnExactConicOfRow.mapsOut == Try.prog.mapsAmong Try.f3.resultTypes.toList) = true := by kernel_rfl
theorem j3_13 : (Rows.fnExactConicOfRow.loops == (Try.f3.params.toList ++ Rows.fnExactConicOfSpec.plain.varTypes Try.prog).any (Try.prog.loopsFrom ·)) = true := by kernel_rfl
theorem j3_14 : (Rows.fnExactConicOfRow.wideKeys == (Try.f3.params.toList ++ Rows.fnExactConicOfSpec.plain.varTypes Try.prog ++ Try.f3.resultTypes.toList).any (Try.prog.wideKeysFrom ·)) = true := by kernel_rfl
theorem j3_15 : Rows.fnExactConicOfSpec.vars.all (Try.prog.varReadable ·) = true := by kernel_rfl
theorem j3_16 : Try.f3.resultTypes.all (fun t => Try.prog.readableRec t && decide (t < Try.prog.types.size)) = true := by kernel_rfl
theorem j3_17 : (Rows.fnExactConicOfRow.ifacesOut == Try.f3.resultTypes.toList.any (Try.prog.ifacesRec ·)) = true := by kernel_rfl
theorem j3_18 : (Rows.fnExactConicOfRow.loopsOut == Try.f3.resultTypes.toList.any (Try.prog.loopsFrom ·)) = true := by kernel_rfl
theorem j3_19 : (Rows.fnExactConicOfRow.plainKeys == Try.prog.plainKeys) = true := by kernel_rfl
theorem j3_20 : Rows.fnExactConicOfRow.shortTexts.isNone = true := by kernel_rfl
theorem j3_21 : (Rows.fnExactConicOfRow.lifted == Try.prog.liftsFinal) = true := by kernel_rfl
theorem j3_22 : (Try.prog.make == some Rows.fnExactConicOfRow.make) = true := by kernel_rfl
theorem j3_23 : (Rows.fnExactConicOfRow.domain.isEmpty && (Rows.fnExactConicOfRow.kinds == [])) = true := by kernel_rfl
theorem j3_24 : (Rows.fnExactConicOfRow.pinned == Rows.fnExactConicOfRow.pinnedBy) = true := by kernel_rfl
theorem j3_25 : (Rows.fnExactConicOfRow.veiled == (Try.f3.params.toList ++ Rows.fnExactConicOfSpec.plain.varTypes Try.prog ++ Try.f3.resultTypes.toList).any (Try.prog.veiledRec ·)) = true := by kernel_rfl
theorem j3_26 : Rows.fnExactConicOfRow.veiledFits Try.prog Try.f3.params.toList (Try.f3.params.toList ++ Rows.fnExactConicOfSpec.plain.varTypes Try.prog ++ Try.f3.resultTypes.toList) = true := by kernel_rfl

set_option maxRecDepth 100000 in
theorem joined3 : joinedFacts Try.prog 3 Try.f3 Rows.fnExactConicOfSpec Rows.fnExactConicOfRow = true :=
  joined_of p_laid p_maps p_stops p_knobs p_heard p_may j3_1 j3_2 j3_3 j3_4 j3_5 j3_6 j3_7 j3_8 j3_9 j3_10 j3_11 j3_12 j3_13 j3_14 j3_15 j3_16 j3_17 j3_18 j3_19 j3_20 j3_21 j3_22 j3_23 j3_24 j3_25 j3_26
theorem named3 : Try.prog.funcNamed Rows.fnExactConicOfRow.func = some 3 := by kernel_rfl
theorem inst3 : Func.isInstance Try.prog Try.f3 Rows.fnExactConicOfRow.origin Rows.fnExactConicOfRow.targs := of_decide_eq_true (by kernel_rfl)
theorem init3 : Try.prog.inits.idxOf? 3 = none := by kernel_rfl
theorem read3 : (Try.f3.params.toList.all fun u => Try.prog.readableRec u && decide (u < Try.prog.types.size)) = true := by kernel_rfl
theorem res3 : Try.f3.resultTypes = #[4] := by kernel_rfl

set_option maxRecDepth 100000 in
theorem lifted3 (os : Os) (started : os.Started) (H : Type) (enc : TypeId × Value → H) :
    ReturnsInHanded {} Try.checked os 3 .any (Rows.fnExactConicOfSpec.pre6 enc Try.prog Try.f3 Rows.fnExactConicOfRow.domain false) (Rows.fnExactConicOfSpec.post enc Try.prog Try.f3 false true false false) := by
  refine returnsInHanded_of_change (C := Try.checked) own started init3 Try.func3
    (ChangeSpec.witness6 (enc := enc) (C := Try.checked) false ⟨#[], #[.int .i64 0, .slice none 0 0], []⟩ 8 (by as_aux_lemma => kernel_rfl) (by as_aux_lemma => kernel_rfl) (by as_aux_lemma => kernel_rfl) (by as_aux_lemma => kernel_rfl)) ?_
  intro W base args ds gs before hval0 hW hcnd _
  have hval : ∀ (j : Nat) t v, Try.f3.params[j]? = some t → args[j]? = some v → Value.okWide Try.prog W .any base t v := hval0
  have hW' := hW
  obtain ⟨p, q, hA0, hV, rfl, hfz, hnd⟩ := hW
  have hA : DataW.TrodAll enc Try.prog W 0 (fun _ => true) true Try.f3.params.toList args.toList ds p := hA0
  rw [Try.params3] at hA hval
  obtain ⟨v0, vs0, d0, ds0, p0, q0, hargs, rfl, rfl, h0, r0⟩ := trodAll_cons hA
  obtain ⟨v1, vs1, d1, ds1, p1, q1, rfl, rfl, rfl, h1, r1⟩ := trodAll_cons r0
  obtain ⟨rfl, rfl, rfl⟩ := trodAll_nil r1
  obtain rfl : args = #[v0, v1] := by cases args; simp_all
  obtain ⟨rfl, rfl⟩ := trodVars_none hV
  obtain ⟨a0, rfl, rfl, rfl, w0⟩ := open_int Try.underlying2 (hval 0 2 v0 rfl rfl) h0
  obtain ⟨s1, rfl, hs1, hn1, hw1⟩ := reads_of Try.underlying22 Try.underlying2 (by as_aux_lemma => kernel_rfl) (hval 1 22 v1 rfl rfl) h1
  refine (law3_at a0 hs1).mono fun e W' ⟨he, hb⟩ => ?_
  subst he
  exact ⟨_, rfl, law_post p_laid read3 rfl (t := 4) res3 Try.underlying4 hW' rfl rfl rfl hb⟩

theorem proved3 : Rows.FnExactConicOfSaid :=
  OpenClaim.holds_of_wide 3 Try.f3 rfl rfl rfl rfl rfl rfl rfl ⟨rfl, rfl, rfl, rfl, rfl⟩ rfl rfl rfl rfl rfl named3 Try.func3 joined3
    inst3 (by unfold Func.isWrapper; first | (rw [if_pos (by decide +kernel)]; kernel_rfl) | (rw [if_neg (by decide +kernel)]; exact ⟨rfl, rfl⟩))
    (fun os started H enc _ => lifted3 os started H enc)
end Go.Proofs.Ytelejhggpkfdoaa.SX

