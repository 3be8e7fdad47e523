/- part of a proof: no condition of its own -/
import Derived.Test.YtelejhggpkfdoaaPA
import Derived.Test.YtelejhggpkfdoaaMA
namespace Go.Proofs.Ytelejhggpkfdoaa.SX
set_option linter.unusedVariables false
set_option linter.unusedSimpArgs false
open Go.RowKit Go.Proofs

theorem e182 {x1 : Int} {x2 : Int} (hp : Fld x1) : S .nrm 182 [.int .i64 x1, .int .i64 x2] = P182 S x1 x2 :=
  eq182 x1 x2 (by simp only [okIv, inIvsB, inIvSB, inIvTB, inIvB, Bool.and_self, Bool.true_and, Bool.and_true, leB_iff, ltB_iff, Bool.and_eq_true, hp.ge, hp.le, and_self])
theorem e176 {x1 : Int} {x2 : Int} (hp : Fld x2) : S .nrm 176 [.int .i64 x1, .int .i64 x2] = P176 S x1 x2 :=
  eq176 x1 x2 (by simp only [okIv, inIvsB, inIvSB, inIvTB, inIvB, Bool.and_self, Bool.true_and, Bool.and_true, leB_iff, ltB_iff, Bool.and_eq_true, hp.ge, hp.le, and_self])
theorem e181 {x1 : Int} {x2 : Int} (hp : Fld x1) (hx2 : 0 ≤ x2 ∧ x2 ≤ 1000000000) : S .nrm 181 [.int .i64 x1, .int .i64 x2] = P181 S x1 x2 :=
  eq181 x1 x2 (by simp only [okIv, inIvsB, inIvSB, inIvTB, inIvB, Bool.and_self, Bool.true_and, Bool.and_true, leB_iff, ltB_iff, Bool.and_eq_true, hp.ge, hp.le, hx2.1, hx2.2, and_self])
theorem e296 {x1 : Int} {x2 : Int} (hp : Fld x2) : S .nrm 296 [.int .i64 x1, .int .i64 x2] = P296 S x1 x2 :=
  eq296 x1 x2 (by simp only [okIv, inIvsB, inIvSB, inIvTB, inIvB, Bool.and_self, Bool.true_and, Bool.and_true, leB_iff, ltB_iff, Bool.and_eq_true, hp.ge, hp.le, and_self])
theorem e294 {x1 : Int} {x2 : Int} {x3 : Int} (hp : Fld x1) (hx2 : -1000000000000 ≤ x2 ∧ x2 ≤ 1000000000000) (hx3 : 0 ≤ x3 ∧ x3 ≤ 1000000000) : S .nrm 294 [.int .i64 x1, .int .i64 x2, .int .i64 x3] = P294 S x1 x2 x3 :=
  eq294 x1 x2 x3 (by simp only [okIv, inIvsB, inIvSB, inIvTB, inIvB, Bool.and_self, Bool.true_and, Bool.and_true, leB_iff, ltB_iff, Bool.and_eq_true, hp.ge, hp.le, hx2.1, hx2.2, hx3.1, hx3.2, and_self])

theorem c182 {p : Int} {x : Int} (hp : Fld p) : S .nrm 182 [.int .i64 p, .int .i64 x] = some [.int .i64 (x % p)] := by
  rw [e182 hp, P182, mod_eq (by have := hp.ge; omega)]
theorem k182 {p : Int} {x : Int} (hp : Fld p) {k : Kt} : callK S .nrm 182 [.int .i64 p, .int .i64 x] [(.int .i64)] [some (0, 30)] [] [] k = k ([x % p]) [] [] [] :=
  callK_of (c182 hp) rfl (by simp only [okIv, inIvsB, inIvSB, inIvTB, iv_mod, iv_inv, iv_div, iv_any, hp, Bool.and_self, Bool.true_and, Bool.and_true])

theorem c176 {x : Int} {p : Int} (hp : Fld p) : S .nrm 176 [.int .i64 x, .int .i64 p] = some [.int .i64 (x % p)] := by
  rw [e176 hp, P176, mod_eq (by have := hp.ge; omega)]
theorem k176 {x : Int} {p : Int} (hp : Fld p) {k : Kt} : callK S .nrm 176 [.int .i64 x, .int .i64 p] [(.int .i64)] [some (0, 30)] [] [] k = k ([x % p]) [] [] [] :=
  callK_of (c176 hp) rfl (by simp only [okIv, inIvsB, inIvSB, inIvTB, iv_mod, iv_inv, iv_div, iv_any, hp, Bool.and_self, Bool.true_and, Bool.and_true])

theorem c200 {p : Int}  : S .nrm 200 [.int .i64 p] = some [.bool (decide (Fld p))] := by
  rw [eq200, P200]
  simp only [cI, beq_iff_eq, Fld]
  split; · simp [*]
  split; · simp [*]
  split; · simp [*]
  split; · simp [*]
  split; · simp [*]
  split; · simp [*]
  split; · simp [*]
  split; · simp [*]
  split; · simp [*]
  split; · simp [*]
  simp [*]
theorem k200 {p : Int}  {k : Kt} : callK S .nrm 200 [.int .i64 p] [.bool] [] [] [] k = k ([]) [decide (Fld p)] [] [] :=
  callK_of (c200 ) rfl (rfl)

theorem c186 {p : Int} {x : Int}  : S .nrm 186 [.int .i64 p, .int .i64 x] = some [.bool (decide (N p x))] := by
  rw [eq186, P186]
  simp only [cI, leB_iff, ltB_eq, N]
  split <;> simp [*]
theorem k186 {p : Int} {x : Int}  {k : Kt} : callK S .nrm 186 [.int .i64 p, .int .i64 x] [.bool] [] [] [] k = k ([]) [decide (N p x)] [] [] :=
  callK_of (c186 ) rfl (rfl)

theorem c207 {x : Int} {l : Int} {h : Int}  : S .nrm 207 [.int .i64 x, .int .i64 l, .int .i64 h] = some [.bool (decide (l ≤ x ∧ x ≤ h))] := by
  rw [eq207, P207]
  simp only [cI, leB_iff, leB_eq, decide_eq_true_eq]
  split <;> simp [*]
theorem k207 {x : Int} {l : Int} {h : Int}  {k : Kt} : callK S .nrm 207 [.int .i64 x, .int .i64 l, .int .i64 h] [.bool] [] [] [] k = k ([]) [decide (l ≤ x ∧ x ≤ h)] [] [] :=
  callK_of (c207 ) rfl (rfl)

theorem c195 {n : Int}  : S .nrm 195 [.int .i64 n] = some [.bool (decide (0 ≤ n ∧ n ≤ 1000))] := by
  rw [eq195, P195]
  simp only [cI, leB_iff, leB_eq, decide_eq_true_eq]
  split <;> simp [*]
theorem k195 {n : Int}  {k : Kt} : callK S .nrm 195 [.int .i64 n] [.bool] [] [] [] k = k ([]) [decide (0 ≤ n ∧ n ≤ 1000)] [] [] :=
  callK_of (c195 ) rfl (rfl)

/-- the two first errors -/
def codeA (p : Int) (b : Bool) : Int := if Fld p then (if b = true then 0 else 2) else 1
theorem codeA_0 {p : Int} {b : Bool} : codeA p b = 0 ↔ Fld p ∧ b = true := by
  unfold codeA; split
  · split <;> simp [*]
  · simp [*]
theorem codeA_of {p : Int} {b : Bool} (hp : Fld p) (hb : b = true) : codeA p b = 0 := codeA_0.2 ⟨hp, hb⟩

theorem c169 {p : Int} {g : FuncId} {caps : List PA} (b : Bool) (h : Fld p → S .nrm g caps = some [.bool b]) : S .nrm 169 [.int .i64 p, .fn g caps] = some [.int .i64 (codeA p b)] := by
  rw [eq169, P169]
  simp only [k200, List.headD_cons, cI]
  by_cases hp : Fld p
  · simp only [hp, decide_true, Bool.not_true, Bool.false_eq_true, if_false, List.nil_append]
    rw [callK_of (h hp) rfl rfl]
    simp only [List.headD_cons, codeA, hp, if_true]
    cases b <;> simp
  · simp [hp, codeA]
theorem k169 {p : Int} {g : FuncId} {caps : List PA} (b : Bool) (h : Fld p → S .nrm g caps = some [.bool b]) {k : Kt} : callK S .nrm 169 [.int .i64 p, .fn g caps] [.int .i64] [none] [] [] k = k [codeA p b] [] [] [] :=
  callK_of (c169 b h) rfl rfl

/-! ### a loop's rounds -/
theorem field_loop {p : Int} (h1 : 3 ≤ p) (h2 : p ≤ 31) : ∀ (j m : Nat) (d : Int), d + j = 31 → j < m → 2 ≤ d → (∀ y : Nat, 2 ≤ y → (y : Int) < d → p.toNat % y ≠ 0) → lp m (L335_1 S p) [d] [] [] [] = some [.bool (decide (Fld p))] := by
  intro j
  have hpn : ((p.toNat : Nat) : Int) = p := by omega
  induction j with
  | zero =>
    intro m d hd hm h2d hI
    rw [lp_step (by omega)]
    have hd31 : d = 31 := by omega
    subst hd31
    simp only [L335_1, cI, okIv, inIvsB, inIvSB, inIvTB, inIvB, List.headD_cons, leB_iff, Bool.and_eq_true]
    have hF := fld_fin p.toNat (by rw [List.mem_range]; omega) (by omega) 31 (by decide) (by decide)
    rw [hpn] at hF
    have := hF.2 (by omega) (fun y hy hy2 => hI y hy2 (by rw [List.mem_range] at hy; omega))
    simp [this]; omega
  | succ j ih =>
    intro m d hd hm h2d hI
    rw [lp_step (by omega)]
    have hdn : ((d.toNat : Nat) : Int) = d := by omega
    have hF := fld_fin p.toNat (by rw [List.mem_range]; omega) (by omega) d.toNat (by rw [List.mem_range]; omega) (by omega)
    have hsq : ((d.toNat * d.toNat : Nat) : Int) = d * d := by rw [Int.natCast_mul, hdn]
    rw [hpn] at hF
    have hok : okIv [some (2, 31)] [] [] [d] [] [] = true := by simp [okIv, inIvsB, inIvSB, inIvTB, inIvB, leB_iff]; omega
    simp only [L335_1, hok, cI, if_true, List.headD_cons, leB_iff, beq_iff_eq]
    by_cases hc : d * d ≤ p
    · rw [if_pos hc]
      by_cases he : p.tmod d = 0
      · rw [if_pos he]
        rw [Int.tmod_eq_emod_of_nonneg (by omega)] at he
        have := hF.1 (by omega) (by
          have : ((p.toNat % d.toNat : Nat) : Int) = 0 := by rw [Int.natCast_emod, hpn, hdn]; exact he
          omega)
        simp [this]
      · rw [if_neg he]
        rw [Int.tmod_eq_emod_of_nonneg (by omega)] at he
        refine ih (m - 1) (d + 1) (by omega) (by omega) (by omega) fun y g1 g2 => ?_
        rcases Int.lt_or_eq_of_le (show (y : Int) ≤ d by omega) with h | h
        · exact hI y g1 h
        · intro h3
          apply he
          have : ((p.toNat % y : Nat) : Int) = 0 := by rw [h3]; rfl
          rw [Int.natCast_emod, hpn, h] at this; exact this
    · rw [if_neg hc]
      have := hF.2 (by omega) (fun y hy hy2 => hI y hy2 (by rw [List.mem_range] at hy; omega))
      simp [this]

theorem c335 {p : Int}  : S .nrm 335 [.int .i64 p] = some [.bool (decide (Fld p))] := by
  rw [eq335, P335]
  simp only [k207, List.headD_cons, cI]
  by_cases h : 3 ≤ p ∧ p ≤ 31
  · simp only [h, decide_true, and_self, Bool.not_true, Bool.false_eq_true, if_false]
    exact field_loop h.1 h.2 29 LF 2 (by omega) (by rw [LF_eq]; omega) (by omega) (fun y _ _ => by omega)
  · have : ¬ Fld p := fun hf => h ⟨hf.ge, hf.le⟩
    simp [h, this]
theorem k335 {p : Int}  {k : Kt} : callK S .nrm 335 [.int .i64 p] [.bool] [] [] [] k = k ([]) [decide (Fld p)] [] [] :=
  callK_of (c335 ) rfl (rfl)

end Go.Proofs.Ytelejhggpkfdoaa.SX

namespace Go.Proofs.Ytelejhggpkfdoaa.SX
set_option linter.unusedVariables false
set_option linter.unusedSimpArgs false
open Go.RowKit Go.Proofs

theorem okL (n : Nat) (xs : List Int) (h : n ≤ 1048576) : okIv [] [(none, 1048576)] [] [] [psl n xs] [] = true := by
  simp [okIv, inIvsB, inIvSB, inIvTB, psl_n, leB_iff, ltB_iff]; omega
theorem okX {x : Int} (h1 : 0 ≤ x) (h2 : x ≤ 1048576) : okIv [(some (0, 1048576))] [] [] [x] [] [] = true := by
  simp [okIv, inIvsB, inIvSB, inIvTB, inIvB, leB_iff]; omega

theorem c171 {T4 : TypeId} {p : Int} {m : Nat} {xs : List Int} (hp : Fld p) (hm : m = xs.length) (hl : m ≤ 1048576) : S .nrm 171 [.int .i64 p, .sl T4 .i64 1 m xs] = some [.bool (areN p xs)] := by
  subst hm
  rw [eq171 _ _ _ _ (by simp [okIv, inIvsB, inIvSB, inIvTB, psl_n, hp.iv, leB_iff, ltB_iff]; omega), P171]
  have := lp_fun (body := L171_1 S xs.length xs p) 0 xs.length (fun x => some [.bool (areN p (xs.drop x.toNat))]) (fun x => [x]) (fun _ => []) ?_ ?_ LF 0 (by omega) (by omega) (lenLF hl)
  · exact this
  · intro κ x h0 hx hk
    simp only [L171_1, okX h0 (show x ≤ 1048576 by omega), cI, if_true, List.headD_cons, psl_n, psl_xs, ltB_iff, hx, k186]
    rw [drop_cons h0 hx, areN, List.all_cons]
    by_cases hc : N p (xs.getD x.toNat 0)
    · simp only [hc, decide_true, Bool.not_true, Bool.false_eq_true, if_false, hk, Bool.true_and, areN]
    · simp only [hc, decide_false, Bool.not_false, if_true, Bool.false_and]
  · intro κ
    simp only [L171_1, okX (show (0 : Int) ≤ xs.length by omega) (show (xs.length : Int) ≤ 1048576 by omega), cI, if_true, List.headD_cons, psl_n, ltB_iff, Int.lt_irrefl, if_false, drop_end]
    rfl
theorem k171 {T4 : TypeId} {p : Int} {m : Nat} {xs : List Int} (hp : Fld p) (hm : m = xs.length) (hl : m ≤ 1048576) {k : Kt} : callK S .nrm 171 [.int .i64 p, .sl T4 .i64 1 m xs] [.bool] [] [] [] k = k ([]) [areN p xs] [] [] :=
  callK_of (c171 hp hm hl) rfl (rfl)

theorem c167 {T4 : TypeId} {p : Int} {m : Nat} {xs : List Int} (hm : m = xs.length) (hl : m ≤ 1048576) : S .nrm 167 [.int .i64 p, .sl T4 .i64 1 m xs] = some [.int .i64 (codeA p (areN p xs))] := by
  subst hm
  rw [eq167 _ _ _ _ (by simp [okIv, inIvsB, inIvSB, inIvTB, inIvB, psl_n, leB_iff, ltB_iff]; omega), P167]
  simp only [k335, List.headD_cons, cI]
  by_cases hp : Fld p
  · simp only [hp, decide_true, Bool.not_true, Bool.false_eq_true, if_false]
    have g1 := hp.ge
    have g2 := hp.le
    have := lp_fun (body := L167_1 S xs.length xs p) 0 xs.length (fun x => some [.int .i64 (codeA p (areN p (xs.drop x.toNat)))]) (fun x => [x]) (fun _ => []) ?_ ?_ LF 0 (by omega) (by omega) (lenLF hl)
    · exact this
    · intro κ x h0 hx hk
      simp only [L167_1, okX h0 (show x ≤ 1048576 by omega), cI, if_true, List.headD_cons, psl_n, psl_xs, ltB_iff, leB_iff, hx, k207]
      rw [if_pos (by omega), if_pos (by omega), drop_cons h0 hx, areN, List.all_cons]
      by_cases hc : N p (xs.getD x.toNat 0)
      · have : 0 ≤ xs.getD x.toNat 0 ∧ xs.getD x.toNat 0 ≤ p - 1 := ⟨hc.1, by have := hc.2; omega⟩
        simp only [this, hc, and_self, decide_true, Bool.not_true, Bool.false_eq_true, if_false, hk, Bool.true_and, areN]
      · have : ¬ (0 ≤ xs.getD x.toNat 0 ∧ xs.getD x.toNat 0 ≤ p - 1) := fun h => hc ⟨h.1, by omega⟩
        simp only [this, hc, decide_false, Bool.not_false, if_true, Bool.false_and, codeA, hp, Bool.false_eq_true, if_false]
    · intro κ
      simp only [L167_1, okX (show (0 : Int) ≤ xs.length by omega) (show (xs.length : Int) ≤ 1048576 by omega), cI, if_true, List.headD_cons, psl_n, ltB_iff, Int.lt_irrefl, if_false, drop_end]
      simp [codeA, hp, areN]
  · simp [hp, codeA]
theorem k167 {T4 : TypeId} {p : Int} {m : Nat} {xs : List Int} (hm : m = xs.length) (hl : m ≤ 1048576) {k : Kt} : callK S .nrm 167 [.int .i64 p, .sl T4 .i64 1 m xs] [(.int .i64)] [none] [] [] k = k ([codeA p (areN p xs)]) [] [] [] :=
  callK_of (c167 hm hl) rfl (rfl)

theorem c181 {p : Int} {a : Int} (hp : Fld p) (h : 0 ≤ a ∧ a ≤ 1000000000) : S .nrm 181 [.int .i64 p, .int .i64 a] = some [.int .i64 (Inv p a)] := by
  rw [eq181 _ _ (by simp [okIv, inIvsB, inIvSB, inIvTB, inIvB, leB_iff, hp.ge, hp.le, h.1, h.2]), P181]
  have g1 := hp.ge
  have g2 := hp.le
  refine lp_inv (fun i s n => s = [] ∧ ∃ x : Int, i = [x] ∧ 1 ≤ x ∧ x ≤ p ∧ n = (p - x).toNat ∧ ∀ y, 1 ≤ y → y < x → a * y % p ≠ 1) ?_ LF [1] [] (p - 1).toNat (by rw [LF_eq]; omega) ⟨rfl, 1, rfl, by omega, by omega, rfl, fun y h1 h2 => by omega⟩
  rintro κ i s n ⟨rfl, x, rfl, h1, h2, rfl, hI⟩ hk
  have hok : okIv [(some (1, 31))] [] [] [x] [] [] = true := by simp [okIv, inIvsB, inIvSB, inIvTB, inIvB, leB_iff]; omega
  simp only [L181_1, hok, cI, if_true, List.headD_cons, ltB_iff, beq_iff_eq]
  by_cases hx : x < p
  · rw [if_pos hx, Int.tmod_eq_emod_of_nonneg (Int.mul_nonneg h.1 (by omega))]
    by_cases he : a * x % p = 1
    · rw [if_pos he, Inv_of hp (by omega) hx he]
    · rw [if_neg he]
      refine hk [x + 1] [] (p - (x + 1)).toNat (by omega) ⟨rfl, x + 1, rfl, by omega, by omega, rfl, fun y h3 h4 => ?_⟩
      rcases Int.lt_or_eq_of_le (show y ≤ x by omega) with h5 | h5
      · exact hI y h3 h5
      · subst h5; exact he
  · rw [if_neg hx, Inv_zero hp]
    intro y h3 h4 h5
    rcases Int.lt_or_eq_of_le h3 with h6 | h6
    · exact hI y (by omega) (by omega) h5
    · subst h6; simp at h5
theorem k181 {p : Int} {a : Int} (hp : Fld p) (h : 0 ≤ a ∧ a ≤ 1000000000) {k : Kt} : callK S .nrm 181 [.int .i64 p, .int .i64 a] [(.int .i64)] [some (0, 30)] [] [] k = k ([Inv p a]) [] [] [] :=
  callK_of (c181 hp h) rfl (by simp only [okIv, inIvsB, inIvSB, inIvTB, iv_mod, iv_inv, iv_div, iv_any, hp, Bool.and_self, Bool.true_and, Bool.and_true])

theorem c296 {a : Int} {p : Int} (hp : Fld p) : S .nrm 296 [.int .i64 a, .int .i64 p] = some [.int .i64 (Inv p a)] := by
  rw [e296 hp, P296]
  simp only [k176 hp, List.headD_cons]
  have g1 := hp.ge
  have g2 := hp.le
  refine lp_inv (fun i s n => s = [] ∧ ∃ o b k : Int, i = [o, b, k] ∧ N p o ∧ N p b ∧ 0 ≤ k ∧ k ≤ 30 ∧ n = k.toNat ∧ o * b ^ k.toNat % p = Inv p a) ?_ LF [1, a % p, p - 2] [] (p - 2).toNat (by rw [LF_eq]; omega)
    ⟨rfl, 1, a % p, p - 2, rfl, N_1 hp, N_mod hp, by omega, by omega, rfl, by rw [Inv_pow hp, Int.one_mul]⟩
  rintro κ i s n ⟨rfl, o, b, k, rfl, ho, hb, h0, h30, rfl, hI⟩ hk
  have hok : okIv [(some (0, 30)), (some (0, 30)), (some (0, 30))] [] [] [o, b, k] [] [] = true := by
    simp only [okIv, inIvsB, inIvSB, inIvTB, ho.iv hp, hb.iv hp]; simp [inIvB, leB_iff]; omega
  simp only [L296_1, hok, cI, if_true, List.headD_cons, List.tail_cons, ltB_iff, beq_iff_eq]
  have e1 : (o * b).tmod p = o * b % p := Int.tmod_eq_emod_of_nonneg (Int.mul_nonneg ho.1 hb.1)
  have e2 : (b * b).tmod p = b * b % p := Int.tmod_eq_emod_of_nonneg (Int.mul_nonneg hb.1 hb.1)
  have e3 : k.tdiv 2 = k / 2 := Int.tdiv_eq_ediv_of_nonneg h0
  have e4 : k.tmod 2 = k % 2 := Int.tmod_eq_emod_of_nonneg h0
  rw [e1, e2, e3, e4]
  by_cases hc : 0 < k
  · rw [if_pos hc]
    by_cases he : k % 2 = 1
    · rw [if_pos he]
      refine hk _ [] (k / 2).toNat (by omega) ⟨rfl, _, _, _, rfl, N_mod hp, N_mod hp, by omega, by omega, rfl, ?_⟩
      rw [pow_step, show 2 * (k / 2).toNat + 1 = k.toNat by omega]; exact hI
    · rw [if_neg he]
      refine hk _ [] (k / 2).toNat (by omega) ⟨rfl, _, _, _, rfl, ho, N_mod hp, by omega, by omega, rfl, ?_⟩
      rw [pow_step', show 2 * (k / 2).toNat = k.toNat by omega]; exact hI
  · rw [if_neg hc]
    have : k = 0 := by omega
    subst this
    rw [← hI]
    simp only [Int.toNat_zero, Int.pow_zero, Int.mul_one, ho.mod]
theorem k296 {a : Int} {p : Int} (hp : Fld p) {k : Kt} : callK S .nrm 296 [.int .i64 a, .int .i64 p] [(.int .i64)] [some (0, 30)] [] [] k = k ([Inv p a]) [] [] [] :=
  callK_of (c296 hp) rfl (by simp only [okIv, inIvsB, inIvSB, inIvTB, iv_mod, iv_inv, iv_div, iv_any, hp, Bool.and_self, Bool.true_and, Bool.and_true])

theorem c294 {p : Int} {a : Int} {b : Int} (hp : Fld p) (ha : -1000000000000 ≤ a ∧ a ≤ 1000000000000) (hb : 0 ≤ b ∧ b ≤ 1000000000) : S .nrm 294 [.int .i64 p, .int .i64 a, .int .i64 b] = some [.int .i64 (Div p a b)] := by
  rw [e294 hp ha hb, P294]
  simp only [k181 hp hb, k182 hp, List.headD_cons]
  rfl
theorem k294 {p : Int} {a : Int} {b : Int} (hp : Fld p) (ha : -1000000000000 ≤ a ∧ a ≤ 1000000000000) (hb : 0 ≤ b ∧ b ≤ 1000000000) {k : Kt} : callK S .nrm 294 [.int .i64 p, .int .i64 a, .int .i64 b] [(.int .i64)] [some (0, 30)] [] [] k = k ([Div p a b]) [] [] [] :=
  callK_of (c294 hp ha hb) rfl (by simp only [okIv, inIvsB, inIvSB, inIvTB, iv_mod, iv_inv, iv_div, iv_any, hp, Bool.and_self, Bool.true_and, Bool.and_true])

end Go.Proofs.Ytelejhggpkfdoaa.SX

namespace Go.Proofs.Ytelejhggpkfdoaa.SX
set_option linter.unusedVariables false
set_option linter.unusedSimpArgs false
open Go.RowKit Go.Proofs

/-- the bytes of a code -/
def Src (m : Nat) (e : List Int) : Prop := m ≤ 4096 ∧ ∀ v ∈ e, 0 ≤ v ∧ v ≤ 255
theorem Src.sl {m : Nat} {e : List Int} (h : Src m e) : inIvSB [(some (0, 255), 4096)] [psl m e] = true := by
  rw [inIvSB_iff]
  refine ⟨⟨fun v hv => h.2 v hv, fun _ => ?_⟩, trivial⟩
  show (m : Int) ≤ 4096
  have := h.1; omega
theorem Src.get {m : Nat} {e : List Int} (h : Src m e) (j : Nat) : 0 ≤ e.getD j 0 ∧ e.getD j 0 ≤ 255 := getD_mem_or j (fun v => 0 ≤ v ∧ v ≤ 255) (by omega) h.2

/-- the place and the rest of a source -/
def At (a : Int) : Prop := 0 ≤ a ∧ a ≤ 4096
theorem At_0 : At 0 := ⟨by omega, by omega⟩
theorem ex_ite {c : Prop} [Decidable c] {a b : Option (List PA)} {P : List PA → Prop} (h1 : c → ∃ r, a = some r ∧ P r) (h2 : ¬ c → ∃ r, b = some r ∧ P r) : ∃ r, (if c then a else b) = some r ∧ P r := by
  by_cases h : c
  · rw [if_pos h]; exact h1 h
  · rw [if_neg h]; exact h2 h
theorem At.iv {a : Int} (h : At a) : inIvB (some (0, 4096)) a = true := by simp only [inIvB, Bool.and_eq_true, leB_iff]; exact h
theorem okD {x a h : Int} (ha : At a) : okIv [none, some (0, 4096), none] [] [] [x, a, h] [] [] = true := by
  simp [okIv, inIvsB, inIvSB, inIvTB, inIvB, leB_iff]; exact ha

theorem and_range (x : Int) : 0 ≤ IntKind.wrap .i64 (bitInt .and .u64 x 16777215) ∧ IntKind.wrap .i64 (bitInt .and .u64 x 16777215) ≤ 16777215 := by
  have h1 : (BitVec.ofInt 64 x &&& BitVec.ofInt 64 16777215).toNat ≤ 16777215 := by
    rw [BitVec.toNat_and]
    exact Nat.le_trans Nat.and_le_right (by decide)
  have e : bitInt .and .u64 x 16777215 = ((BitVec.ofInt 64 x &&& BitVec.ofInt 64 16777215).toNat : Int) := by
    show IntKind.wrap .u64 _ = _
    exact wrap_id .u64 _ (by show (0 : Int) ≤ _; omega) (by show _ ≤ (18446744073709551615 : Int); simp only [IntKind.bits]; omega)
  rw [e, wrap_id .i64 _ (by show (-9223372036854775808 : Int) ≤ _; omega) (by show _ ≤ (9223372036854775807 : Int); omega)]
  omega

theorem src_enter {m : Nat} {e : List Int} (hs : Src m e) : okIv [] [(some (0, 255), 4096)] [] [] [psl m e] [] = true := by
  simp only [okIv, inIvsB, hs.sl, inIvTB, Bool.and_self]
theorem src_enter3 {m : Nat} {e : List Int} (hs : Src m e) {a h : Int} (ha : At a) : okIv [some (0, 4096), none] [(some (0, 255), 4096)] [] [a, h] [psl m e] [] = true := by
  simp only [okIv, inIvsB, hs.sl, inIvTB, inIvB, Bool.and_self, Bool.and_true, Bool.and_eq_true, leB_iff]; exact ha
theorem src_enter4 {m : Nat} {e : List Int} (hs : Src m e) {a h x : Int} (ha : At a) : okIv [some (0, 4096), none, none] [(some (0, 255), 4096)] [] [a, h, x] [psl m e] [] = true := by
  simp only [okIv, inIvsB, hs.sl, inIvTB, inIvB, Bool.and_self, Bool.and_true, Bool.and_eq_true, leB_iff]; exact ha

section
variable {m : Nat} {e : List Int} (hs : Src m e) {T : TypeId}
 include hs

theorem d197 : ∃ h, S .new 197 [.sl T .u8 1 m e] = some [.ref 250 [.fn 0 [], .int .i64 0, .int .u64 h]] := by
  rw [eq197 _ _ _ (src_enter hs), P197]
  suffices H : ∀ (j m' : Nat) (i h : Int), j < m' → 0 ≤ i → i + j = 4096 → ∃ h', lp m' (L197_1 S m e) [i, 0, h] [] [] [] = some [.ref 250 [.fn 0 [], .int .i64 0, .int .u64 h']] from
    H 4096 LF 0 _ (by rw [LF_eq]; omega) (by omega) (by omega)
  intro j
  induction j with
  | zero =>
    intro m' i h hm h0 hi
    have : i = 4096 := by omega
    subst this
    have hok : okIv [(some (0, 4096)), none, none] [] [] [4096, 0, h] [] [] = true := by simp [okIv, inIvsB, inIvSB, inIvTB, inIvB, leB_iff]
    refine ⟨h, ?_⟩
    rw [lp_step (by omega)]
    simp only [L197_1, hok, cI, if_true, List.headD_cons, List.tail_cons, ltB_iff, Int.lt_irrefl, if_false, ite_self]
  | succ j ih =>
    intro m' i h hm h0 hi
    have hok : okIv [(some (0, 4096)), none, none] [] [] [i, 0, h] [] [] = true := by simp [okIv, inIvsB, inIvSB, inIvTB, inIvB, leB_iff]; omega
    rw [lp_step (by omega)]
    simp only [L197_1, hok, cI, if_true, List.headD_cons, List.tail_cons, ltB_iff]
    split
    · split
      · exact ih (m' - 1) (i + 1) _ (by omega) (by omega) (by omega)
      · exact ⟨h, rfl⟩
    · exact ⟨h, rfl⟩

theorem w197 {ni : Nat} {k : List Int → Option (List PA)} {r : List PA} (hk : ∀ h, k [0, h] = some r) : callW S 197 [.sl T .u8 1 m e] 250 [.sl 0, .int .i64 (.v ni), .int .u64 (.v (ni + 1))] [some (0, 0), none] k = some r := by
  obtain ⟨h, hh⟩ := d197 hs (T := T)
  unfold callW
  simp only [hh, newI]
  simp [inIvsB, inIvB, leB_iff]
  exact hk h

theorem d249 {a h n : Int} (ha : At a) : ∃ x a' h', At a' ∧ S .chg 249 [.ref 250 [.sl T .u8 1 m e, .int .i64 a, .int .u64 h], .int .i64 n] = some [.int .i64 x, .int .i64 a', .int .u64 h'] ∧ (n < 1 → x = 0) ∧ (1 ≤ n → 0 ≤ x ∧ x < n) := by
  rw [eq249 _ _ _ _ _ _ (src_enter4 hs ha), P249]
  simp only [cI, ltB_iff, leB_iff, psl_n, psl_xs]
  by_cases h1 : n < 1
  · rw [if_pos h1]
    exact ⟨_, _, _, ha, rfl, fun _ => rfl, fun h => by omega⟩
  · rw [if_neg h1]
    have hn : (!n == 0) = true := by simp; omega
    have hr := and_range (bitInt .shr .u64 (IntKind.wrap .u64 (IntKind.wrap .u64 (h * 6364136223846793005) + 1442695040888963407)) 33)
    generalize IntKind.wrap .i64 (bitInt .and .u64 (bitInt .shr .u64 (IntKind.wrap .u64 (IntKind.wrap .u64 (h * 6364136223846793005) + 1442695040888963407)) 33) 16777215) = q at hr
    have tm : ∀ y : Int, 0 ≤ y → 0 ≤ y.tmod n ∧ y.tmod n < n := fun y hy => ⟨Int.tmod_nonneg n hy, Int.tmod_lt_of_pos y (by omega)⟩
    by_cases h2 : a < (m : Int)
    · have hg := hs.get a.toNat
      have hm := hs.1
      rw [if_pos h2, if_pos (by omega), if_pos (by omega), if_pos hn]
      exact ⟨_, _, _, ⟨by have := ha.1; omega, by omega⟩, rfl, fun h => by omega, fun _ => tm _ (by omega)⟩
    · rw [if_neg h2, if_pos hn]
      exact ⟨_, _, _, ha, rfl, fun h => by omega, fun _ => tm _ (by omega)⟩

/-- a draw of a number: what follows is shown for all numbers of the range -/
theorem w249 {a h n : Int} (ha : At a) {k : Kt} {P : List PA → Prop} (hk : ∀ x a' h', At a' → (n < 1 → x = 0) → (1 ≤ n → 0 ≤ x ∧ x < n) → ∃ r, k [x, a', h'] [] [] [] = some r ∧ P r) :
    ∃ r, callK S .chg 249 [.ref 250 [.sl T .u8 1 m e, .int .i64 a, .int .u64 h], .int .i64 n] [.int .i64, .int .i64, .int .u64] [none, some (0, 4096), none] [] [] k = some r ∧ P r := by
  obtain ⟨x, a', h', ha', he, h1, h2⟩ := d249 hs (T := T) (h := h) (n := n) ha
  rw [callK_of he rfl (okD ha')]
  exact hk x a' h' ha' h1 h2

theorem d230 {a h : Int} (ha : At a) {T' : TypeId} {n : Nat} {xs : List Int} (hn : n = xs.length) (h0 : xs ≠ []) (h64 : n ≤ 64) :
    ∃ r, S .chg 230 [.ref 250 [.sl T .u8 1 m e, .int .i64 a, .int .u64 h], .sl T' .i64 1 n xs] = some r ∧ ∃ x a' h', r = [.int .i64 x, .int .i64 a', .int .u64 h'] ∧ At a' ∧ x ∈ xs := by
  subst hn
  have hl : 0 < xs.length := List.length_pos_iff.2 h0
  rw [eq230 _ _ _ _ _ _ _ _ (by simp only [okIv, inIvsB, inIvTB, inIvB, Bool.and_true, Bool.and_eq_true, leB_iff]; exact ⟨ha, by
    rw [inIvSB_iff]; exact ⟨⟨fun v hv => hs.2 v hv, fun _ => by show (m : Int) ≤ 4096; have := hs.1; omega⟩, ⟨fun _ _ => trivial, fun _ => by show (xs.length : Int) ≤ 64; omega⟩, trivial⟩⟩), P230]
  simp only [psl_n, psl_xs]
  refine w249 hs ha fun x a' h' ha' h1 h2 => ?_
  obtain ⟨h3, h4⟩ := h2 (by omega)
  simp only [List.headD_cons, List.tail_cons, cI, leB_iff, ltB_iff, h3, h4, if_true]
  refine ⟨_, rfl, _, _, _, rfl, ha', ?_⟩
  rw [List.getD_eq_getElem?_getD, List.getElem?_eq_getElem (by omega)]
  exact List.getElem_mem _

theorem w230 {a h : Int} (ha : At a) {T' : TypeId} {n : Nat} {xs : List Int} (hn : n = xs.length) (h0 : xs ≠ []) (h64 : n ≤ 64) {bi : Iv} (hb : ∀ x ∈ xs, inIvB bi x = true) {k : Kt} {P : List PA → Prop} (hk : ∀ x a' h', At a' → x ∈ xs → ∃ r, k [x, a', h'] [] [] [] = some r ∧ P r) :
    ∃ r, callK S .chg 230 [.ref 250 [.sl T .u8 1 m e, .int .i64 a, .int .u64 h], .sl T' .i64 1 n xs] [.int .i64, .int .i64, .int .u64] [bi, some (0, 4096), none] [] [] k = some r ∧ P r := by
  obtain ⟨r, he, x, a', h', rfl, ha', hx⟩ := d230 hs (T := T) (h := h) (T' := T') ha hn h0 h64
  rw [callK_of he rfl (by simp only [okIv, inIvsB, inIvSB, inIvTB, hb x hx, ha'.iv, iv_any, Bool.and_self])]
  exact hk x a' h' ha' hx

theorem d199 {a h : Int} (ha : At a) : ∃ r, S .chg 199 [.ref 250 [.sl T .u8 1 m e, .int .i64 a, .int .u64 h]] = some r ∧ ∃ x a' h', r = [.int .i64 x, .int .i64 a', .int .u64 h'] ∧ At a' ∧ Fld x := by
  rw [eq199 _ _ _ _ _ (src_enter3 hs ha), P199]
  simp only [psl_n, psl_xs]
  refine w230 hs ha (by rfl) (by simp) (by decide) (by intros; rfl) fun x a' h' ha' hx => ?_
  simp only [List.headD_cons, List.tail_cons]
  refine ⟨_, rfl, _, _, _, rfl, ha', ?_⟩
  simp only [List.mem_cons, List.not_mem_nil, or_false] at hx
  unfold Fld; omega
theorem w199 {a h : Int} (ha : At a) {k : Kt} {P : List PA → Prop} (hk : ∀ x a' h', At a' → Fld x → ∃ r, k [x, a', h'] [] [] [] = some r ∧ P r) :
    ∃ r, callK S .chg 199 [.ref 250 [.sl T .u8 1 m e, .int .i64 a, .int .u64 h]] [.int .i64, .int .i64, .int .u64] [some (3, 31), some (0, 4096), none] [] [] k = some r ∧ P r := by
  obtain ⟨r, he, x, a', h', rfl, ha', hx⟩ := d199 hs (T := T) (h := h) ha
  rw [callK_of he rfl (by simp only [okIv, inIvsB, inIvSB, inIvTB, hx.iv, ha'.iv, iv_any, Bool.and_self])]
  exact hk x a' h' ha' hx

theorem d206 {a h n : Int} (ha : At a) (h0 : 0 ≤ n ∧ n ≤ 1000) : ∃ r, S .chg 206 [.ref 250 [.sl T .u8 1 m e, .int .i64 a, .int .u64 h], .int .i64 n] = some r ∧ ∃ x a' h', r = [.int .i64 x, .int .i64 a', .int .u64 h'] ∧ At a' := by
  rw [eq206 _ _ _ _ _ _ (by simp only [okIv, inIvsB, hs.sl, inIvTB, inIvB, Bool.and_self, Bool.and_true, Bool.and_eq_true, leB_iff]; exact ⟨ha, trivial, h0⟩), P206]
  simp only [psl_n, psl_xs]
  refine w249 hs ha fun x a' h' ha' _ _ => ?_
  simp only [List.headD_cons, List.tail_cons, cI]
  refine ex_ite (fun _ => ?_) fun _ => ?_
  · refine w230 hs ha' (by rfl) (by simp) (by decide) (by intros; rfl) fun x a' h' ha' hx => ?_
    simp only [List.headD_cons, List.tail_cons]
    exact ⟨_, rfl, _, _, _, rfl, ha'⟩
  · refine w249 hs ha' fun x a' h' ha' _ _ => ?_
    simp only [List.headD_cons, List.tail_cons]
    exact ⟨_, rfl, _, _, _, rfl, ha'⟩
theorem w206 {a h n : Int} (ha : At a) (h0 : 0 ≤ n ∧ n ≤ 1000) {k : Kt} {P : List PA → Prop} (hk : ∀ x a' h', At a' → ∃ r, k [x, a', h'] [] [] [] = some r ∧ P r) :
    ∃ r, callK S .chg 206 [.ref 250 [.sl T .u8 1 m e, .int .i64 a, .int .u64 h], .int .i64 n] [.int .i64, .int .i64, .int .u64] [none, some (0, 4096), none] [] [] k = some r ∧ P r := by
  obtain ⟨r, he, x, a', h', rfl, ha'⟩ := d206 hs (T := T) (h := h) ha h0
  rw [callK_of he rfl (okD ha')]
  exact hk x a' h' ha'

theorem d198 {a h n : Int} (ha : At a) : ∃ r, S .chg 198 [.ref 250 [.sl T .u8 1 m e, .int .i64 a, .int .u64 h], .int .i64 n] = some r ∧ ∃ x a' h', r = [.int .i64 x, .int .i64 a', .int .u64 h'] ∧ At a' := by
  rw [eq198 _ _ _ _ _ _ (src_enter4 hs ha), P198]
  simp only [psl_n, psl_xs]
  refine w249 hs ha fun x a' h' ha' _ _ => ?_
  simp only [List.headD_cons, List.tail_cons, cI]
  refine ex_ite (fun _ => ?_) fun _ => ?_
  · refine w230 hs ha' (by rfl) (by simp) (by decide) (by intros; rfl) fun x a' h' ha' hx => ?_
    simp only [List.headD_cons, List.tail_cons]
    exact ⟨_, rfl, _, _, _, rfl, ha'⟩
  · exact ⟨_, rfl, _, _, _, rfl, ha'⟩
theorem w198 {a h n : Int} (ha : At a) {k : Kt} {P : List PA → Prop} (hk : ∀ x a' h', At a' → ∃ r, k [x, a', h'] [] [] [] = some r ∧ P r) :
    ∃ r, callK S .chg 198 [.ref 250 [.sl T .u8 1 m e, .int .i64 a, .int .u64 h], .int .i64 n] [.int .i64, .int .i64, .int .u64] [none, some (0, 4096), none] [] [] k = some r ∧ P r := by
  obtain ⟨r, he, x, a', h', rfl, ha'⟩ := d198 hs (T := T) (h := h) (n := n) ha
  rw [callK_of he rfl (okD ha')]
  exact hk x a' h' ha'

/-- a new source -/
theorem x197 {ni nj : Nat} (hj : nj = ni + 1) {k : List Int → Option (List PA)} {P : List PA → Prop} (hk : ∀ h, ∃ r, k [0, h] = some r ∧ P r) : ∃ r, callW S 197 [.sl T .u8 1 m e] 250 [.sl 0, .int .i64 (.v ni), .int .u64 (.v nj)] [some (0, 0), none] k = some r ∧ P r := by
  subst hj
  obtain ⟨h, hh⟩ := d197 hs (T := T)
  obtain ⟨r, h1, h2⟩ := hk h
  refine ⟨r, ?_, h2⟩
  unfold callW
  simp only [hh, newI]
  simp [inIvsB, inIvB, leB_iff]
  exact h1
end

section
variable {m : Nat} {e : List Int} (hs : Src m e) {T : TypeId}
 include hs
theorem c184 : ∃ r, S .nrm 184 [.sl T .u8 1 m e] = some r ∧ ∃ p x, r = [PA.int .i64 p, .int .i64 x] := by
  rw [eq184 _ _ _ (src_enter hs), P184]
  simp only [psl_n, psl_xs]
  refine x197 hs rfl fun h => ?_
  simp only [List.headD_cons, List.tail_cons]
  refine w199 hs At_0 fun p a h ha hp => ?_
  simp only [List.headD_cons, List.tail_cons]
  refine w206 hs ha ⟨by have := hp.ge; omega, by have := hp.le; omega⟩ fun x a h ha => ?_
  simp only [List.headD_cons, List.tail_cons]
  refine w198 hs ha fun q a h ha => ?_
  simp only [List.headD_cons, List.tail_cons]
  exact ⟨_, rfl, _, _, rfl⟩
theorem c201 : ∃ r, S .nrm 201 [.sl T .u8 1 m e] = some r ∧ ∃ p n x, r = [PA.int .i64 p, .int .i64 n, .int .i64 x] := by
  rw [eq201 _ _ _ (src_enter hs), P201]
  simp only [psl_n, psl_xs]
  refine x197 hs rfl fun h => ?_
  simp only [List.headD_cons, List.tail_cons]
  refine w199 hs At_0 fun p a h ha hp => ?_
  simp only [List.headD_cons, List.tail_cons]
  refine w206 hs ha ⟨by omega, by omega⟩ fun x a h ha => ?_
  simp only [List.headD_cons, List.tail_cons]
  refine w230 hs ha (by rfl) (by simp) (by decide) (by intros; rfl) fun n a h ha _ => ?_
  simp only [List.headD_cons, List.tail_cons]
  refine w206 hs ha ⟨by have := hp.ge; omega, by have := hp.le; omega⟩ fun x a h ha => ?_
  simp only [List.headD_cons, List.tail_cons]
  refine w198 hs ha fun q a h ha => ?_
  simp only [List.headD_cons, List.tail_cons]
  exact ⟨_, rfl, _, _, _, rfl⟩
theorem c25 : ∃ r, S .nrm 25 [.sl T .u8 1 m e] = some r ∧ ∃ p x, r = [PA.int .i64 p, .int .i64 x] := by
  obtain ⟨r, h, p, x, rfl⟩ := c184 hs (T := 5)
  rw [eq25 _ _ _ (src_enter hs), P25]
  simp only [psl_n, psl_xs]
  rw [callK_of h rfl rfl]
  exact ⟨_, rfl, _, _, rfl⟩
theorem c33 : ∃ r, S .nrm 33 [.sl T .u8 1 m e] = some r ∧ ∃ p, r = [PA.int .i64 p] := by
  rw [eq33 _ _ _ (src_enter hs), P33]
  simp only [psl_n, psl_xs]
  refine x197 hs rfl fun h => ?_
  simp only [List.headD_cons, List.tail_cons]
  refine w199 hs At_0 fun p a h ha hp => ?_
  simp only [List.headD_cons, List.tail_cons]
  refine w198 hs ha fun q a h ha => ?_
  simp only [List.headD_cons, List.tail_cons]
  exact ⟨_, rfl, _, rfl⟩
theorem c38 : ∃ r, S .nrm 38 [.sl T .u8 1 m e] = some r ∧ ∃ p n x, r = [PA.int .i64 p, .int .i64 n, .int .i64 x] := by
  obtain ⟨r, h, p, n, x, rfl⟩ := c201 hs (T := 5)
  rw [eq38 _ _ _ (src_enter hs), P38]
  simp only [psl_n, psl_xs]
  rw [callK_of h rfl rfl]
  exact ⟨_, rfl, _, _, _, rfl⟩
theorem c42 : ∃ r, S .nrm 42 [.sl T .u8 1 m e] = some r ∧ ∃ p n x k, r = [PA.int .i64 p, .int .i64 n, .int .i64 x, .int .i64 k] := by
  obtain ⟨r, h, p, n, x, rfl⟩ := c201 hs (T := 5)
  rw [eq42 _ _ _ (src_enter hs), P42]
  simp only [psl_n, psl_xs]
  rw [callK_of h rfl rfl]
  refine x197 hs rfl fun h => ?_
  simp only [List.headD_cons, List.tail_cons]
  refine w206 hs At_0 ⟨by omega, by omega⟩ fun x a h ha => ?_
  simp only [List.headD_cons, List.tail_cons]
  exact ⟨_, rfl, _, _, _, _, rfl⟩
theorem c44 : ∃ r, S .nrm 44 [.sl T .u8 1 m e] = some r ∧ ∃ p n, r = [PA.int .i64 p, .int .i64 n] := by
  obtain ⟨r, h, p, n, x, rfl⟩ := c201 hs (T := 5)
  rw [eq44 _ _ _ (src_enter hs), P44]
  simp only [psl_n, psl_xs]
  rw [callK_of h rfl rfl]
  exact ⟨_, rfl, _, _, rfl⟩
end
end Go.Proofs.Ytelejhggpkfdoaa.SX

namespace Go.Proofs.Ytelejhggpkfdoaa.SX
set_option linter.unusedVariables false
set_option linter.unusedSimpArgs false
open Go.RowKit Go.Proofs

theorem in1 {a b x : Int} (h1 : a ≤ x) (h2 : x ≤ b) : inIvB (some (a, b)) x = true := by simp only [inIvB, Bool.and_eq_true, leB_iff]; exact ⟨h1, h2⟩
theorem inS {b : Iv} {mx : Int} {n : Nat} {xs : List Int} (h : ∀ v ∈ xs, inIv b v) (hm : mx < 0 ∨ (n : Int) ≤ mx) : inIvSB [(b, mx)] [psl n xs] = true := by
  rw [inIvSB_iff]; exact ⟨⟨h, fun h0 => by show (n : Int) ≤ mx; omega⟩, trivial⟩
theorem N.inIv {p x : Int} (h : N p x) (hp : Fld p) : Go.Proofs.Ytelejhggpkfdoaa.SX.inIv (some (0, 30)) x := ⟨h.1, h.le hp⟩
theorem toNat1 : Int.toNat 1 = 1 := by omega
theorem toNat0 : Int.toNat 0 = 0 := by omega
theorem app1 {n : Nat} : Int.toNat ((n : Int) + ((1 : Nat) : Int)) = n + 1 := by omega

theorem e362 {x1 : Int} {x2 : Int} {x3 : Int} (hp : Fld x1) (hx2 : 0 ≤ x2 ∧ x2 ≤ 2000) (hx3 : N x1 x3) : S .nrm 362 [.int .i64 x1, .int .i64 x2, .int .i64 x3] = P362 S x1 x2 x3 :=
  eq362 x1 x2 x3 (by simp only [okIv, inIvsB, inIvSB, inIvTB, inIvB, Bool.and_self, Bool.true_and, Bool.and_true, leB_iff, ltB_iff, Bool.and_eq_true, hp.ge, hp.le, hx2.1, hx2.2, hx3.ge, hx3.le hp, and_self])
theorem e196 {x1 : Int} {x2 : Int} {x3 : Int} (hp : Fld x1) (hx2 : 0 ≤ x2 ∧ x2 ≤ 1001) (hx3 : N x1 x3) : S .nrm 196 [.int .i64 x1, .int .i64 x2, .int .i64 x3] = P196 S x1 x2 x3 :=
  eq196 x1 x2 x3 (by simp only [okIv, inIvsB, inIvSB, inIvTB, inIvB, Bool.and_self, Bool.true_and, Bool.and_true, leB_iff, ltB_iff, Bool.and_eq_true, hp.ge, hp.le, hx2.1, hx2.2, hx3.ge, hx3.le hp, and_self])
theorem e187 {x1 : Int} {x2 : Int} (hp : Fld x1) (hx2 : N x1 x2) : S .nrm 187 [.int .i64 x1, .int .i64 x2] = P187 S x1 x2 :=
  eq187 x1 x2 (by simp only [okIv, inIvsB, inIvSB, inIvTB, inIvB, Bool.and_self, Bool.true_and, Bool.and_true, leB_iff, ltB_iff, Bool.and_eq_true, hp.ge, hp.le, hx2.ge, hx2.le hp, and_self])
theorem e193 {x1 : Int} {x2 : Int} {x3 : Int} (hp : Fld x2) (hx1 : N x2 x1) : S .nrm 193 [.int .i64 x1, .ref 2 [.int .i64 x2], .ref 2 [.int .i64 x3]] = P193 S x1 x2 x3 :=
  eq193 x1 x2 x3 (by simp only [okIv, inIvsB, inIvSB, inIvTB, inIvB, Bool.and_self, Bool.true_and, Bool.and_true, leB_iff, ltB_iff, Bool.and_eq_true, hx1.ge, hx1.le hp, hp.ge, hp.le, and_self])
theorem e190 {x1 : Int} {x2 : Int} {x3 : Int} (hp : Fld x1) (hx2 : 0 ≤ x2 ∧ x2 ≤ 1000000) (hx3 : N x1 x3) : S .nrm 190 [.int .i64 x1, .int .i64 x2, .int .i64 x3] = P190 S x1 x2 x3 :=
  eq190 x1 x2 x3 (by simp only [okIv, inIvsB, inIvSB, inIvTB, inIvB, Bool.and_self, Bool.true_and, Bool.and_true, leB_iff, ltB_iff, Bool.and_eq_true, hp.ge, hp.le, hx2.1, hx2.2, hx3.ge, hx3.le hp, and_self])
theorem e188 {x1 : Int} {x2 : Int} (hp : Fld x1) (hx2 : N x1 x2) : S .nrm 188 [.int .i64 x1, .int .i64 x2] = P188 S x1 x2 :=
  eq188 x1 x2 (by simp only [okIv, inIvsB, inIvSB, inIvTB, inIvB, Bool.and_self, Bool.true_and, Bool.and_true, leB_iff, ltB_iff, Bool.and_eq_true, hp.ge, hp.le, hx2.ge, hx2.le hp, and_self])
theorem e363 {x1 : Int} {x2 : Int} (hp : Fld x1) (hx2 : 0 ≤ x2 ∧ x2 ≤ 1000) : S .nrm 363 [.int .i64 x1, .int .i64 x2] = P363 S x1 x2 :=
  eq363 x1 x2 (by simp only [okIv, inIvsB, inIvSB, inIvTB, inIvB, Bool.and_self, Bool.true_and, Bool.and_true, leB_iff, ltB_iff, Bool.and_eq_true, hp.ge, hp.le, hx2.1, hx2.2, and_self])
theorem e203 {x1 : Int} {x2 : Int} {x3 : Int} {x4 : Int} (hp : Fld x1) (hx2 : 0 ≤ x2 ∧ x2 ≤ 1000) (hx3 : N x1 x3) (hx4 : 0 ≤ x4 ∧ x4 ≤ 200) : S .nrm 203 [.int .i64 x1, .int .i64 x2, .int .i64 x3, .int .i64 x4] = P203 S x1 x2 x3 x4 :=
  eq203 x1 x2 x3 x4 (by simp only [okIv, inIvsB, inIvSB, inIvTB, inIvB, Bool.and_self, Bool.true_and, Bool.and_true, leB_iff, ltB_iff, Bool.and_eq_true, hp.ge, hp.le, hx2.1, hx2.2, hx3.ge, hx3.le hp, hx4.1, hx4.2, and_self])

/-- the values' list -/
def svL (p s : Int) (k : Nat) : List Int := (List.range k).map (Sv p s)
theorem svL_in {p s : Int} (hp : Fld p) (hs : N p s) {k : Nat} : ∀ v ∈ svL p s k, Go.Proofs.Ytelejhggpkfdoaa.SX.inIv (some (0, 30)) v := by
  intro v hv
  unfold svL at hv
  rw [List.mem_map] at hv
  obtain ⟨n, _, rfl⟩ := hv
  exact (Sv_N hp hs n).inIv hp
theorem svL_succ (p s : Int) (k : Nat) : svL p s (k + 1) = svL p s k ++ [Sv p s k] := by unfold svL; rw [List.range_succ, List.map_append]; rfl

theorem c362 {p : Int} {n : Int} {s : Int} (hp : Fld p) (hn : 0 ≤ n ∧ n ≤ 2000) (hs : N p s) : S .nrm 362 [.int .i64 p, .int .i64 n, .int .i64 s] = some [.sl 2 .i64 1 (max n.toNat 1 + 1) (svL p s (max n.toNat 1 + 1))] := by
  rw [e362 hp hn hs, P362]
  have h0 := hn.1
  have h2 := hn.2
  have key := lp_fun (body := L362_1 S n p s) 1 (max n 1) (fun _ => some [.sl 2 .i64 1 (max n.toNat 1 + 1) (svL p s (max n.toNat 1 + 1))]) (fun x => [x]) (fun x => [psl (x.toNat + 1) (svL p s (x.toNat + 1))]) ?_ ?_ LF 1 (by omega) (by omega) (by rw [LF_eq]; omega)
  · exact key
  · intro κ x h1 hx hk
    have hok : okIv [(some (1, 2001))] [((some (0, 30)), -1)] [] [x] [psl (x.toNat + 1) (svL p s (x.toNat + 1))] [] = true := by
      simp only [okIv, inIvsB, inIvTB, in1 h1 (show x ≤ 2001 by omega), inS (svL_in hp hs) (mx := -1) (.inl (by omega)), Bool.and_self]
    have hxn : x < n := by omega
    have e1 : (svL p s (x.toNat + 1)).getD x.toNat 0 = Sv p s x.toNat := getD_map_range (by omega)
    have e2 : (svL p s (x.toNat + 1)).getD (x - 1).toNat 0 = Sv p s (x - 1).toNat := getD_map_range (by omega)
    simp only [L362_1, hok, cI, if_true, List.headD_cons, psl_n, psl_xs, ltB_iff, leB_iff, hxn, k182 hp, e1, e2, toNat1, app1]
    rw [if_pos (by omega), if_pos (by omega), if_pos (by omega)]
    have e3 : (2 * (1 - 2 * s) * Sv p s x.toNat - Sv p s (x - 1).toNat + 2 * s) % p = Sv p s (x.toNat + 1) := by
      rw [show x.toNat = (x - 1).toNat + 1 by omega, Sv_2]
    rw [e3, ← svL_succ]
    rw [show (x + 1).toNat = x.toNat + 1 by omega] at hk
    exact hk
  · intro κ
    have hok : okIv [(some (1, 2001))] [((some (0, 30)), -1)] [] [max n 1] [psl ((max n 1).toNat + 1) (svL p s ((max n 1).toNat + 1))] [] = true := by
      simp only [okIv, inIvsB, inIvTB, in1 (show 1 ≤ max n 1 by omega) (show max n 1 ≤ 2001 by omega), inS (svL_in hp hs) (mx := -1) (.inl (by omega)), Bool.and_self]
    simp only [L362_1, hok, cI, if_true, List.headD_cons, psl_n, psl_xs, ltB_iff]
    by_cases h1 : n ≤ 1
    · rw [if_neg (by omega)]
      rw [show (max n 1).toNat = max n.toNat 1 by omega]
    · rw [if_neg (by omega)]
      rw [show (max n 1).toNat = max n.toNat 1 by omega]
theorem k362 {p : Int} {n : Int} {s : Int} (hp : Fld p) (hn : 0 ≤ n ∧ n ≤ 2000) (hs : N p s) {k : Kt} : callK S .nrm 362 [.int .i64 p, .int .i64 n, .int .i64 s] [(.sl 2 .i64 1)] [] [(some (0, 30), 2002)] [] k = k ([]) [] [psl (max n.toNat 1 + 1) (svL p s (max n.toNat 1 + 1))] [] :=
  callK_of (c362 hp hn hs) rfl (by
    have := hn.2
    simp only [okIv, inIvsB, inIvTB]
    rw [inS (svL_in hp hs) (.inr (by omega))]
    rfl)

theorem c196 {p : Int} {n : Int} {s : Int} (hp : Fld p) (hn : 0 ≤ n ∧ n ≤ 1001) (hs : N p s) : S .nrm 196 [.int .i64 p, .int .i64 n, .int .i64 s] = some [.int .i64 (Sv p s n.toNat)] := by
  rw [e196 hp hn hs, P196]
  have h0 := hn.1
  have h2 := hn.2
  simp only [k362 hp (show 0 ≤ n ∧ n ≤ 2000 by omega) hs, List.headD_cons, psl_n, psl_xs]
  simp only [cI, ltB_iff]
  rw [if_pos (by omega)]
  rw [show (svL p s (max n.toNat 1 + 1)).getD n.toNat 0 = Sv p s n.toNat from getD_map_range (by omega)]
theorem k196 {p : Int} {n : Int} {s : Int} (hp : Fld p) (hn : 0 ≤ n ∧ n ≤ 1001) (hs : N p s) {k : Kt} : callK S .nrm 196 [.int .i64 p, .int .i64 n, .int .i64 s] [(.int .i64)] [some (0, 30)] [] [] k = k ([Sv p s n.toNat]) [] [] [] :=
  callK_of (c196 hp hn hs) rfl (by simp only [okIv, inIvsB, inIvSB, inIvTB, (Sv_N hp hs _).iv hp, Bool.and_self])

theorem two_sq {p : Int} (hp : Fld p) : 0 ≤ 2 * p * p + 2 ∧ 2 * p * p + 2 ≤ 2000 ∧ (2 * p * p + 2).toNat = 2 * p.toNat * p.toNat + 2 := by
  unfold Fld at hp
  rcases hp with h | h | h | h | h | h | h | h | h | h <;> subst h <;> decide

theorem c187 {p : Int} {s : Int} (hp : Fld p) (hs : N p s) : S .nrm 187 [.int .i64 p, .int .i64 s] = some [.int .i64 ((ord p s : Int)), .int .i64 ((per p s : Int))] := by
  rw [e187 hp hs, P187]
  obtain ⟨t1, t2, t3⟩ := two_sq hp
  have ho := op hp hs
  have o1 := ho.o1; have oq := ho.oq; have q1 := ho.q1; have q2 := ho.q2
  simp only [k362 hp ⟨t1, t2⟩ hs, List.headD_cons]
  have key := lp_fun (body := L187_1 S (psl (max (2 * p * p + 2).toNat 1 + 1) (svL p s (max (2 * p * p + 2).toNat 1 + 1))) s) 1 (per p s : Int) (fun _ => some [.int .i64 (ord p s : Int), .int .i64 (per p s : Int)]) (fun x => [if x ≤ (ord p s : Int) then 0 else (ord p s : Int), x]) (fun _ => []) ?_ ?_ LF 1 (by omega) (by omega) (by rw [LF_eq]; omega)
  · rw [if_pos (by omega)] at key; exact key
  · intro κ x h1 hx hk
    have hok : okIv [(some (0, 2000)), (some (1, 2001))] [] [] [if x ≤ (ord p s : Int) then 0 else (ord p s : Int), x] [] [] = true := by
      simp only [okIv, inIvsB, inIvSB, inIvTB, in1 (show 0 ≤ (if x ≤ (ord p s : Int) then 0 else (ord p s : Int)) by split <;> omega) (show (if x ≤ (ord p s : Int) then 0 else (ord p s : Int)) ≤ 2000 by split <;> omega), in1 h1 (show x ≤ 2001 by omega), Bool.and_self]
    have e1 : (svL p s (max (2 * p * p + 2).toNat 1 + 1)).getD x.toNat 0 = Sv p s x.toNat := getD_map_range (by omega)
    have e2 : (svL p s (max (2 * p * p + 2).toNat 1 + 1)).getD (x + 1).toNat 0 = Sv p s (x.toNat + 1) := by rw [show (x + 1).toNat = x.toNat + 1 by omega]; exact getD_map_range (by omega)
    have hn := ho.qn x.toNat (by omega) (by omega)
    simp only [L187_1, hok, cI, if_true, List.headD_cons, List.tail_cons, psl_n, psl_xs, ltB_iff, e1, e2]
    rw [if_pos (by omega), if_pos (by omega)]
    by_cases hz : Sv p s x.toNat = 0
    · have hne : ¬ Sv p s (x.toNat + 1) = s := fun h => hn ⟨hz, h⟩
      have hxo : (ord p s : Int) ≤ x := by
        refine Classical.byContradiction fun hlt => ho.on x.toNat (by omega) (by omega) hz
      simp only [hz, BEq.rfl, Bool.not_true, Bool.false_eq_true, if_false, beq_iff_eq, hne]
      by_cases hxe : x = (ord p s : Int)
      · rw [if_pos (show (if x ≤ (ord p s : Int) then 0 else (ord p s : Int)) = 0 by rw [if_pos (by omega)])]
        rw [if_neg (show ¬ x + 1 ≤ (ord p s : Int) by omega)] at hk
        rw [← hxe] at hk ⊢
        exact hk
      · rw [if_neg (show ¬ (if x ≤ (ord p s : Int) then 0 else (ord p s : Int)) = 0 by rw [if_neg (by omega)]; omega)]
        rw [if_neg (show ¬ x ≤ (ord p s : Int) by omega)]
        rw [if_neg (show ¬ x + 1 ≤ (ord p s : Int) by omega)] at hk
        exact hk
    · have hb : (!(Sv p s x.toNat == 0)) = true := by simp [hz]
      rw [if_pos hb]
      have hxo : x ≠ (ord p s : Int) := fun he => hz (by rw [he]; exact ho.oz)
      have e : (if x + 1 ≤ (ord p s : Int) then (0 : Int) else (ord p s : Int)) = (if x ≤ (ord p s : Int) then 0 else (ord p s : Int)) := by
        by_cases h : x ≤ (ord p s : Int)
        · rw [if_pos h, if_pos (by omega)]
        · rw [if_neg h, if_neg (by omega)]
      rw [e] at hk
      exact hk
  · intro κ
    have hok : okIv [(some (0, 2000)), (some (1, 2001))] [] [] [if (per p s : Int) ≤ (ord p s : Int) then 0 else (ord p s : Int), (per p s : Int)] [] [] = true := by
      simp only [okIv, inIvsB, inIvSB, inIvTB, in1 (show 0 ≤ (if (per p s : Int) ≤ (ord p s : Int) then 0 else (ord p s : Int)) by split <;> omega) (show (if (per p s : Int) ≤ (ord p s : Int) then 0 else (ord p s : Int)) ≤ 2000 by split <;> omega), in1 (show (1 : Int) ≤ (per p s : Int) by omega) (show (per p s : Int) ≤ 2001 by omega), Bool.and_self]
    have e1 : (svL p s (max (2 * p * p + 2).toNat 1 + 1)).getD ((per p s : Int)).toNat 0 = 0 := by rw [show ((per p s : Int)).toNat = per p s by omega, show (svL p s (max (2 * p * p + 2).toNat 1 + 1)).getD (per p s) 0 = Sv p s (per p s) from getD_map_range (by omega)]; exact ho.qz.1
    have e2 : (svL p s (max (2 * p * p + 2).toNat 1 + 1)).getD ((per p s : Int) + 1).toNat 0 = s := by rw [show ((per p s : Int) + 1).toNat = per p s + 1 by omega, show (svL p s (max (2 * p * p + 2).toNat 1 + 1)).getD (per p s + 1) 0 = Sv p s (per p s + 1) from getD_map_range (by omega)]; exact ho.qz.2
    simp only [L187_1, hok, cI, if_true, List.headD_cons, List.tail_cons, psl_n, psl_xs, ltB_iff, e1, e2, BEq.rfl, Bool.not_true, Bool.false_eq_true, if_false, beq_iff_eq]
    rw [if_pos (by omega), if_pos (by omega)]
    by_cases h : (per p s : Int) ≤ (ord p s : Int)
    · rw [if_pos h, if_pos rfl, show (per p s : Int) = (ord p s : Int) by omega]
    · rw [if_neg h, if_neg (by omega)]
theorem k187 {p : Int} {s : Int} (hp : Fld p) (hs : N p s) {k : Kt} : callK S .nrm 187 [.int .i64 p, .int .i64 s] [(.int .i64), (.int .i64)] [some (0, 2000), some (0, 2000)] [] [] k = k ([(ord p s : Int), (per p s : Int)]) [] [] [] :=
  callK_of (c187 hp hs) rfl (by
    have ho := op hp hs
    have := ho.oq
    have := ho.q1
    simp only [okIv, inIvsB, inIvSB, inIvTB, in1 (show (0 : Int) ≤ (ord p s : Int) by omega) (show (ord p s : Int) ≤ 2000 by omega), in1 (show (0 : Int) ≤ (per p s : Int) by omega) (show (per p s : Int) ≤ 2000 by omega), Bool.and_self])

theorem c185 {p : Int} {s : Int} (hp : Fld p) : S .nrm 185 [.ref 2 [.int .i64 p], .ref 2 [.int .i64 s]] = some [.bool (decide (N p s))] := by
  rw [eq185 _ _ (by simp only [okIv, inIvsB, inIvSB, inIvTB, hp.iv, iv_any, Bool.and_self]), P185]
  simp only [k186, List.headD_cons]
theorem k185 {p : Int} {s : Int} (hp : Fld p) {k : Kt} : callK S .nrm 185 [.ref 2 [.int .i64 p], .ref 2 [.int .i64 s]] [.bool] [] [] [] k = k ([]) [decide (N p s)] [] [] :=
  callK_of (c185 hp) rfl (rfl)

theorem c189 {p : Int} {s : Int} (hp : Fld p) : S .nrm 189 [.ref 2 [.int .i64 p], .ref 2 [.int .i64 s]] = some [.bool (decide (N p s))] := by
  rw [eq189 _ _ (by simp only [okIv, inIvsB, inIvSB, inIvTB, hp.iv, iv_any, Bool.and_self]), P189]
  simp only [k186, List.headD_cons]
theorem k189 {p : Int} {s : Int} (hp : Fld p) {k : Kt} : callK S .nrm 189 [.ref 2 [.int .i64 p], .ref 2 [.int .i64 s]] [.bool] [] [] [] k = k ([]) [decide (N p s)] [] [] :=
  callK_of (c189 hp) rfl (rfl)

theorem codeA_dec {p : Int} {P : Prop} [Decidable P] : codeA p (decide P) = 0 ↔ Fld p ∧ P := by rw [codeA_0, decide_eq_true_eq]

theorem c26 {p : Int} {s : Int}  : S .nrm 26 [.int .i64 p, .int .i64 s] = some [.int .i64 (if Fld p ∧ N p s then (ord p s : Int) else 0), .int .i64 (codeA p (decide (N p s)))] := by
  rw [eq26, P26]
  simp only [k169 (decide (N p s)) (fun hp => c185 hp), List.headD_cons]
  simp only [cI]
  by_cases h : codeA p (decide (N p s)) = 0
  · obtain ⟨hp, hs⟩ := codeA_dec.1 h
    rw [h, if_neg (by decide)]
    simp only [k187 hp hs, List.headD_cons, hp, hs, and_self, if_true]
  · have hb : (!(codeA p (decide (N p s)) == 0)) = true := by rw [beq_false_of_ne h]; rfl
    rw [if_pos hb, if_neg (fun hh => h (codeA_dec.2 hh))]
theorem k26 {p : Int} {s : Int}  {k : Kt} : callK S .nrm 26 [.int .i64 p, .int .i64 s] [(.int .i64), (.int .i64)] [none, none] [] [] k = k ([if Fld p ∧ N p s then (ord p s : Int) else 0, codeA p (decide (N p s))]) [] [] [] :=
  callK_of (c26 ) rfl (rfl)

theorem c28 {p : Int} {s : Int}  : S .nrm 28 [.int .i64 p, .int .i64 s] = some [.int .i64 (if Fld p ∧ N p s then (per p s : Int) else 0), .int .i64 (codeA p (decide (N p s)))] := by
  rw [eq28, P28]
  simp only [k169 (decide (N p s)) (fun hp => c189 hp), List.headD_cons]
  simp only [cI]
  by_cases h : codeA p (decide (N p s)) = 0
  · obtain ⟨hp, hs⟩ := codeA_dec.1 h
    rw [h, if_neg (by decide)]
    simp only [k187 hp hs, List.headD_cons, List.tail_cons, hp, hs, and_self, if_true]
  · have hb : (!(codeA p (decide (N p s)) == 0)) = true := by rw [beq_false_of_ne h]; rfl
    rw [if_pos hb, if_neg (fun hh => h (codeA_dec.2 hh))]
theorem k28 {p : Int} {s : Int}  {k : Kt} : callK S .nrm 28 [.int .i64 p, .int .i64 s] [(.int .i64), (.int .i64)] [none, none] [] [] k = k ([if Fld p ∧ N p s then (per p s : Int) else 0, codeA p (decide (N p s))]) [] [] [] :=
  callK_of (c28 ) rfl (rfl)

theorem c191 {n : Int}  : S .nrm 191 [.ref 2 [.int .i64 n]] = some [.bool (decide (1 ≤ n ∧ n ≤ 1000))] := by
  rw [eq191, P191]
  simp only [cI, leB_iff, leB_eq]
  split <;> simp [*]
theorem k191 {n : Int}  {k : Kt} : callK S .nrm 191 [.ref 2 [.int .i64 n]] [.bool] [] [] [] k = k ([]) [decide (1 ≤ n ∧ n ≤ 1000)] [] [] :=
  callK_of (c191 ) rfl (rfl)

theorem c193 {s : Int} {p : Int} {n : Int} (hp : Fld p) (hs : N p s) : S .nrm 193 [.int .i64 s, .ref 2 [.int .i64 p], .ref 2 [.int .i64 n]] = some [.bool (decide ((ord p s : Int) = n))] := by
  rw [eq193 _ _ _ (by simp only [okIv, inIvsB, inIvSB, inIvTB, hp.iv, hs.iv hp, iv_any, Bool.and_self]), P193]
  simp only [k187 hp hs, List.headD_cons]
  rfl
theorem k193 {s : Int} {p : Int} {n : Int} (hp : Fld p) (hs : N p s) {k : Kt} : callK S .nrm 193 [.int .i64 s, .ref 2 [.int .i64 p], .ref 2 [.int .i64 n]] [.bool] [] [] [] k = k ([]) [decide ((ord p s : Int) = n)] [] [] :=
  callK_of (c193 hp hs) rfl (rfl)

/-! ### numbers with -/
theorem nums_in {p : Int} (hp : Fld p) {h : Int → Bool} : ∀ v ∈ (numsI p).filter h, Go.Proofs.Ytelejhggpkfdoaa.SX.inIv (some (0, 30)) v := by
  intro v hv
  exact (mem_nums (List.mem_filter.1 hv).1).inIv hp
def numsTo (x : Int) : List Int := numsI x
theorem nums_succ {x : Int} (h : 0 ≤ x) : numsI (x + 1) = numsI x ++ [x] := by
  unfold numsI
  rw [show (x + 1).toNat = x.toNat + 1 by omega, List.range_succ, List.map_append]
  congr 1
  show [((x.toNat : Nat) : Int)] = [x]
  rw [show ((x.toNat : Nat) : Int) = x by omega]
theorem filter_le (p : Int) (h : Int → Bool) : ((numsI p).filter h).length ≤ p.toNat := by
  have := List.length_filter_le h (numsI p); rw [nums_len] at this; exact this
theorem flt_in {p x : Int} (hp : Fld p) (hx : x ≤ p) {h : Int → Bool} : ∀ v ∈ (numsI x).filter h, Go.Proofs.Ytelejhggpkfdoaa.SX.inIv (some (0, 30)) v := by
  intro v hv
  have := mem_nums (List.mem_filter.1 hv).1
  exact ⟨this.1, by have := this.2; have := hp.le; omega⟩

theorem c192 {p : Int} (hp : Fld p) {g : FuncId} {caps : List PA} (h : Int → Bool) (hg : ∀ n, N p n → S .nrm g ([.int .i64 n] ++ caps) = some [.bool (h n)]) :
    S .nrm 192 [.int .i64 p, .fn g caps] = some [.sl 2 .i64 1 ((numsI p).filter h).length ((numsI p).filter h)] := by
  rw [eq192 _ _ _ (by simp only [okIv, inIvsB, inIvSB, inIvTB, hp.iv, Bool.and_self]), P192]
  have h3 := hp.ge
  have key := lp_fun (body := L192_1 S p g caps) 0 p (fun _ => some [.sl 2 .i64 1 ((numsI p).filter h).length ((numsI p).filter h)]) (fun x => [x]) (fun x => [psl ((numsI x).filter h).length ((numsI x).filter h)]) ?_ ?_ LF 0 (by omega) (by omega) (by have := hp.le; rw [LF_eq]; omega)
  · exact key
  · intro κ x h1 hx hk
    have hok : okIv [(some (0, 31))] [((some (0, 30)), -1)] [] [x] [psl ((numsI x).filter h).length ((numsI x).filter h)] [] = true := by
      simp only [okIv, inIvsB, inIvTB, in1 h1 (show x ≤ 31 by have := hp.le; omega), inS (flt_in hp (show x ≤ p by omega)) (mx := -1) (.inl (by omega)), Bool.and_self]
    simp only [L192_1, hok, condT, List.headD_cons, psl_n, psl_xs, ltB_t hx, toNat1, app1]
    rw [callK_of (hg x ⟨h1, hx⟩) rfl rfl]
    simp only [List.headD_cons]
    simp only [cI, leB_iff]
    rw [nums_succ h1, List.filter_append, List.length_append] at hk
    have hl := filter_le x h
    cases hh : h x
    · rw [if_neg (by simp)]
      simpa [hh] using hk
    · rw [if_pos rfl, if_pos (by have := hp.le; omega)]
      simpa [hh] using hk
  · intro κ
    have hok : okIv [(some (0, 31))] [((some (0, 30)), -1)] [] [p] [psl ((numsI p).filter h).length ((numsI p).filter h)] [] = true := by
      simp only [okIv, inIvsB, inIvTB, in1 (show 0 ≤ p by omega) (show p ≤ 31 from hp.le), inS (flt_in hp (Int.le_refl p)) (mx := -1) (.inl (by omega)), Bool.and_self]
    simp only [L192_1, hok, cI, if_true, List.headD_cons, psl_n, psl_xs, ltB_iff, Int.lt_irrefl, if_false]
theorem k192 {p : Int} (hp : Fld p) {g : FuncId} {caps : List PA} (h : Int → Bool) (hg : ∀ n, N p n → S .nrm g ([.int .i64 n] ++ caps) = some [.bool (h n)]) {k : Kt} :
    callK S .nrm 192 [.int .i64 p, .fn g caps] [.sl 2 .i64 1] [] [((some (0, 30)), 32)] [] k = k [] [] [psl ((numsI p).filter h).length ((numsI p).filter h)] [] :=
  callK_of (c192 hp h hg) rfl (by
    simp only [okIv, inIvsB, inIvTB, Bool.true_and, Bool.and_true]
    exact inS (flt_in hp (Int.le_refl p)) (.inr (by have := filter_le p h; have := hp.le; omega)))

theorem c30 {p : Int} {n : Int}  : S .nrm 30 [.int .i64 p, .int .i64 n] = some [.sl 2 .i64 1 ((if Fld p ∧ 1 ≤ n ∧ n ≤ 1000 then (ofOrd p n).length else 0)) ((if Fld p ∧ 1 ≤ n ∧ n ≤ 1000 then ofOrd p n else [])), .int .i64 (codeA p (decide (1 ≤ n ∧ n ≤ 1000)))] := by
  rw [eq30, P30]
  simp only [k169 (decide (1 ≤ n ∧ n ≤ 1000)) (fun hp => c191), List.headD_cons]
  simp only [cI]
  by_cases h : codeA p (decide (1 ≤ n ∧ n ≤ 1000)) = 0
  · obtain ⟨hp, hs⟩ := codeA_dec.1 h
    rw [h, if_neg (by decide)]
    simp only [k192 hp (fun s => decide ((ord p s : Int) = n)) (fun s hs => c193 hp hs), List.headD_cons, hp, hs, and_self, if_true, psl_n, psl_xs]
    rfl
  · have hb : (!(codeA p (decide (1 ≤ n ∧ n ≤ 1000)) == 0)) = true := by rw [beq_false_of_ne h]; rfl
    rw [if_pos hb, if_neg (fun hh => h (codeA_dec.2 hh)), if_neg (fun hh => h (codeA_dec.2 hh))]
theorem k30 {p : Int} {n : Int}  {k : Kt} : callK S .nrm 30 [.int .i64 p, .int .i64 n] [(.sl 2 .i64 1), (.int .i64)] [none] [(some (0, 30), 32)] [] k = k ([codeA p (decide (1 ≤ n ∧ n ≤ 1000))]) [] [psl ((if Fld p ∧ 1 ≤ n ∧ n ≤ 1000 then (ofOrd p n).length else 0)) ((if Fld p ∧ 1 ≤ n ∧ n ≤ 1000 then ofOrd p n else []))] [] :=
  callK_of (c30 ) rfl (by
    simp only [okIv, inIvsB, iv_any, inIvTB]
    split
    · rename_i h
      rw [inS (show ∀ v ∈ ofOrd p n, Go.Proofs.Ytelejhggpkfdoaa.SX.inIv (some (0, 30)) v from flt_in h.1 (Int.le_refl p)) (.inr (show ((ofOrd p n).length : Int) ≤ 32 by have := filter_le p (fun s => decide ((ord p s : Int) = n)); have := h.1.le; unfold ofOrd; omega))]; rfl
    · rfl)

theorem c194 {p : Int} {s : Int} {n : Int} (hp : Fld p) : S .nrm 194 [.ref 2 [.int .i64 p], .ref 2 [.int .i64 s], .ref 2 [.int .i64 n]] = some [.bool (decide (N p s ∧ 0 ≤ n ∧ n ≤ 1000))] := by
  rw [eq194 _ _ _ (by simp only [okIv, inIvsB, inIvSB, inIvTB, hp.iv, iv_any, Bool.and_self]), P194]
  simp only [k186, k195, List.headD_cons, cI, decide_eq_true_eq]
  by_cases h : N p s <;> simp [h]
theorem k194 {p : Int} {s : Int} {n : Int} (hp : Fld p) {k : Kt} : callK S .nrm 194 [.ref 2 [.int .i64 p], .ref 2 [.int .i64 s], .ref 2 [.int .i64 n]] [.bool] [] [] [] k = k ([]) [decide (N p s ∧ 0 ≤ n ∧ n ≤ 1000)] [] [] :=
  callK_of (c194 hp) rfl (rfl)

theorem c202 {p : Int} {s : Int} {n : Int} (hp : Fld p) : S .nrm 202 [.ref 2 [.int .i64 p], .ref 2 [.int .i64 s], .ref 2 [.int .i64 n]] = some [.bool (decide (N p s ∧ 0 ≤ n ∧ n ≤ 1000))] := by
  rw [eq202 _ _ _ (by simp only [okIv, inIvsB, inIvSB, inIvTB, hp.iv, iv_any, Bool.and_self]), P202]
  simp only [k186, k195, List.headD_cons, cI, decide_eq_true_eq]
  by_cases h : N p s <;> simp [h]
theorem k202 {p : Int} {s : Int} {n : Int} (hp : Fld p) {k : Kt} : callK S .nrm 202 [.ref 2 [.int .i64 p], .ref 2 [.int .i64 s], .ref 2 [.int .i64 n]] [.bool] [] [] [] k = k ([]) [decide (N p s ∧ 0 ≤ n ∧ n ≤ 1000)] [] [] :=
  callK_of (c202 hp) rfl (rfl)

theorem c205 {p : Int} {s : Int} {n : Int} {j : Int} (hp : Fld p) : S .nrm 205 [.ref 2 [.int .i64 p], .ref 2 [.int .i64 s], .ref 2 [.int .i64 n], .ref 2 [.int .i64 j]] = some [.bool (decide (N p s ∧ (0 ≤ n ∧ n ≤ 1000) ∧ 0 ≤ j ∧ j ≤ 100))] := by
  rw [eq205 _ _ _ _ (by simp only [okIv, inIvsB, inIvSB, inIvTB, hp.iv, iv_any, Bool.and_self]), P205]
  simp only [k186, k195, List.headD_cons, cI, decide_eq_true_eq, leB_iff, leB_eq]
  by_cases h : N p s
  · by_cases h2 : 0 ≤ n ∧ n ≤ 1000
    · by_cases h3 : 0 ≤ j <;> simp [h, h2, h3]
    · simp [h, h2]
  · simp [h]
theorem k205 {p : Int} {s : Int} {n : Int} {j : Int} (hp : Fld p) {k : Kt} : callK S .nrm 205 [.ref 2 [.int .i64 p], .ref 2 [.int .i64 s], .ref 2 [.int .i64 n], .ref 2 [.int .i64 j]] [.bool] [] [] [] k = k ([]) [decide (N p s ∧ (0 ≤ n ∧ n ≤ 1000) ∧ 0 ≤ j ∧ j ≤ 100)] [] [] :=
  callK_of (c205 hp) rfl (rfl)

theorem c31 {p : Int} {n : Int} {s : Int}  : S .nrm 31 [.int .i64 p, .int .i64 n, .int .i64 s] = some [.int .i64 (if Fld p ∧ N p s ∧ 0 ≤ n ∧ n ≤ 1000 then Sv p s n.toNat else 0), .int .i64 (codeA p (decide (N p s ∧ 0 ≤ n ∧ n ≤ 1000)))] := by
  rw [eq31, P31]
  simp only [k169 (decide (N p s ∧ 0 ≤ n ∧ n ≤ 1000)) (fun hp => c194 hp), List.headD_cons]
  simp only [cI]
  by_cases h : codeA p (decide (N p s ∧ 0 ≤ n ∧ n ≤ 1000)) = 0
  · obtain ⟨hp, hs, hn⟩ := codeA_dec.1 h
    rw [h, if_neg (by decide)]
    simp only [k196 hp (show 0 ≤ n ∧ n ≤ 1001 by omega) hs, List.headD_cons, hp, hs, hn, and_self, if_true]
  · have hb : (!(codeA p (decide (N p s ∧ 0 ≤ n ∧ n ≤ 1000)) == 0)) = true := by rw [beq_false_of_ne h]; rfl
    rw [if_pos hb, if_neg (fun hh => h (codeA_dec.2 hh))]
theorem k31 {p : Int} {n : Int} {s : Int}  {k : Kt} : callK S .nrm 31 [.int .i64 p, .int .i64 n, .int .i64 s] [(.int .i64), (.int .i64)] [none, none] [] [] k = k ([if Fld p ∧ N p s ∧ 0 ≤ n ∧ n ≤ 1000 then Sv p s n.toNat else 0, codeA p (decide (N p s ∧ 0 ≤ n ∧ n ≤ 1000))]) [] [] [] :=
  callK_of (c31 ) rfl (rfl)

end Go.Proofs.Ytelejhggpkfdoaa.SX

namespace Go.Proofs.Ytelejhggpkfdoaa.SX
set_option linter.unusedVariables false
set_option linter.unusedSimpArgs false
open Go.RowKit Go.Proofs

/-! ### values and walks of the program -/
def vals (p n : Int) : List Int := (numsI p).map fun s => Sv p s n.toNat
theorem vals_in {p n x : Int} (hp : Fld p) (hx : x ≤ p) : ∀ v ∈ (numsI x).map (fun s => Sv p s n.toNat), Go.Proofs.Ytelejhggpkfdoaa.SX.inIv (some (0, 30)) v := by
  intro v hv
  rw [List.mem_map] at hv
  obtain ⟨s, hs, rfl⟩ := hv
  have := mem_nums hs
  exact (Sv_N hp ⟨this.1, by have := this.2; omega⟩ _).inIv hp
theorem nums_len' (x : Int) (f : Int → Int) : ((numsI x).map f).length = x.toNat := by rw [List.length_map, nums_len]

theorem c363 {p : Int} {n : Int} (hp : Fld p) (hn : 0 ≤ n ∧ n ≤ 1000) : S .nrm 363 [.int .i64 p, .int .i64 n] = some [.sl 2 .i64 1 (p.toNat) (vals p n)] := by
  rw [e363 hp hn, P363]
  have h3 := hp.ge
  have h4 := hp.le
  have key := lp_fun (body := L363_1 S p n) 0 p (fun _ => some [.sl 2 .i64 1 p.toNat (vals p n)]) (fun x => [x]) (fun x => [psl x.toNat ((numsI x).map fun s => Sv p s n.toNat)]) ?_ ?_ LF 0 (by omega) (by omega) (by rw [LF_eq]; omega)
  · rw [show ((numsI 0).map fun s => Sv p s n.toNat) = [] from rfl] at key
    exact key
  · intro κ x h1 hx hk
    have hok : okIv [(some (0, 31))] [((some (0, 30)), -1)] [] [x] [psl x.toNat ((numsI x).map fun s => Sv p s n.toNat)] [] = true := by
      simp only [okIv, inIvsB, inIvTB, in1 h1 (show x ≤ 31 by omega), inS (vals_in hp (show x ≤ p by omega)) (mx := -1) (.inl (by omega)), Bool.and_self]
    simp only [L363_1, hok, condT, List.headD_cons, psl_n, psl_xs, ltB_t hx]
    rw [k196 hp (show 0 ≤ n ∧ n ≤ 1001 by omega) (show N p x from ⟨h1, hx⟩)]
    simp only [List.headD_cons, psl_n, psl_xs, toNat1, app1]
    simp only [cI, leB_iff]
    rw [if_pos (by omega)]
    rw [nums_succ h1, List.map_append, show (x + 1).toNat = x.toNat + 1 by omega] at hk
    exact hk
  · intro κ
    have hok : okIv [(some (0, 31))] [((some (0, 30)), -1)] [] [p] [psl p.toNat ((numsI p).map fun s => Sv p s n.toNat)] [] = true := by
      simp only [okIv, inIvsB, inIvTB, in1 (show 0 ≤ p by omega) (show p ≤ 31 by omega), inS (vals_in hp (Int.le_refl p)) (mx := -1) (.inl (by omega)), Bool.and_self]
    simp only [L363_1, hok, condT, List.headD_cons, psl_n, psl_xs, ltB_f (Int.lt_irrefl p), condF]
    rfl
theorem k363 {p : Int} {n : Int} (hp : Fld p) (hn : 0 ≤ n ∧ n ≤ 1000) {k : Kt} : callK S .nrm 363 [.int .i64 p, .int .i64 n] [(.sl 2 .i64 1)] [] [(some (0, 30), 32)] [] k = k ([]) [] [psl (p.toNat) (vals p n)] [] :=
  callK_of (c363 hp hn) rfl (by
    simp only [okIv, inIvsB, inIvTB]
    rw [inS (show ∀ v ∈ vals p n, Go.Proofs.Ytelejhggpkfdoaa.SX.inIv (some (0, 30)) v from vals_in hp (Int.le_refl p)) (.inr (by have := hp.le; omega))]; rfl)

/-- one step of a walk -/
def stp (p n : Int) (s : Int) : Int := Sv p s n.toNat
theorem stp_N {p : Int} (hp : Fld p) (n : Int) : ∀ x, N p x → N p (stp p n x) := fun x hx => Sv_N hp hx _
def wlk (p n s : Int) (k : Nat) : List Int := (List.range k).map (itr (stp p n) s)
theorem wlk_in {p n s : Int} (hp : Fld p) (hs : N p s) {k : Nat} : ∀ v ∈ wlk p n s k, Go.Proofs.Ytelejhggpkfdoaa.SX.inIv (some (0, 30)) v := by
  intro v hv
  unfold wlk at hv
  rw [List.mem_map] at hv
  obtain ⟨j, _, rfl⟩ := hv
  exact (itr_N (stp_N hp n) hs j).inIv hp
theorem wlk_succ (p n s : Int) (k : Nat) : wlk p n s (k + 1) = wlk p n s k ++ [itr (stp p n) s k] := by unfold wlk; rw [List.range_succ, List.map_append]; rfl

theorem c203 {p : Int} {n : Int} {s : Int} {j : Int} (hp : Fld p) (hn : 0 ≤ n ∧ n ≤ 1000) (hs : N p s) (hj : 0 ≤ j ∧ j ≤ 200) : S .nrm 203 [.int .i64 p, .int .i64 n, .int .i64 s, .int .i64 j] = some [.sl 2 .i64 1 (j.toNat + 1) (wlk p n s (j.toNat + 1))] := by
  rw [e203 hp hn hs hj, P203]
  have h0 := hj.1
  have h2 := hj.2
  rw [k363 hp hn]
  simp only [List.headD_cons]
  rw [toNat1]
  have key := lp_fun (body := L203_1 S (psl p.toNat (vals p n))) 0 j (fun _ => some [.sl 2 .i64 1 (j.toNat + 1) (wlk p n s (j.toNat + 1))]) (fun x => [itr (stp p n) s x.toNat, j - x]) (fun x => [psl (x.toNat + 1) (wlk p n s (x.toNat + 1))]) ?_ ?_ LF 0 (by omega) (by omega) (by rw [LF_eq]; omega)
  · rw [Int.sub_zero, show wlk p n s ((0 : Int).toNat + 1) = [s] from rfl, show itr (stp p n) s (0 : Int).toNat = s from rfl] at key
    exact key
  · intro κ x h1 hx hk
    have hN := itr_N (stp_N hp n) hs x.toNat
    have hok : okIv [(some (0, 30)), (some (0, 200))] [((some (0, 30)), -1)] [] [itr (stp p n) s x.toNat, j - x] [psl (x.toNat + 1) (wlk p n s (x.toNat + 1))] [] = true := by
      simp only [okIv, inIvsB, inIvTB, hN.iv hp, in1 (show 0 ≤ j - x by omega) (show j - x ≤ 200 by omega), inS (wlk_in hp hs) (mx := -1) (.inl (by omega)), Bool.and_self]
    have e1 : (vals p n).getD (itr (stp p n) s x.toNat).toNat 0 = itr (stp p n) s (x.toNat + 1) := nums_get hN
    have hl : itr (stp p n) s x.toNat < ((p.toNat : Nat) : Int) := by have := hN.1; have := hN.2; omega
    simp only [L203_1, hok, condT, List.headD_cons, List.tail_cons, psl_n, psl_xs]
    rw [ltB_t (show 0 < j - x by omega), ltB_t hl, e1]
    simp only [condT, toNat1, app1]
    simp only [cI, leB_iff]
    rw [if_pos (by omega), ← wlk_succ]
    rw [show (x + 1).toNat = x.toNat + 1 by omega, show j - (x + 1) = j - x - 1 by omega] at hk
    exact hk
  · intro κ
    have hN := itr_N (stp_N hp n) hs j.toNat
    have hok : okIv [(some (0, 30)), (some (0, 200))] [((some (0, 30)), -1)] [] [itr (stp p n) s j.toNat, j - j] [psl (j.toNat + 1) (wlk p n s (j.toNat + 1))] [] = true := by
      simp only [okIv, inIvsB, inIvTB, hN.iv hp, in1 (show 0 ≤ j - j by omega) (show j - j ≤ 200 by omega), inS (wlk_in hp hs) (mx := -1) (.inl (by omega)), Bool.and_self]
    simp only [L203_1, hok, condT, List.headD_cons, List.tail_cons, psl_n, psl_xs, ltB_f (show ¬ 0 < j - j by omega), condF]
theorem k203 {p : Int} {n : Int} {s : Int} {j : Int} (hp : Fld p) (hn : 0 ≤ n ∧ n ≤ 1000) (hs : N p s) (hj : 0 ≤ j ∧ j ≤ 200) {k : Kt} : callK S .nrm 203 [.int .i64 p, .int .i64 n, .int .i64 s, .int .i64 j] [(.sl 2 .i64 1)] [] [(some (0, 30), 300)] [] k = k ([]) [] [psl (j.toNat + 1) (wlk p n s (j.toNat + 1))] [] :=
  callK_of (c203 hp hn hs hj) rfl (by
    simp only [okIv, inIvsB, inIvTB]
    rw [inS (wlk_in hp hs) (.inr (by have := hj.2; omega))]; rfl)

theorem c41 {p : Int} {n : Int} {s : Int} {j : Int}  : S .nrm 41 [.int .i64 p, .int .i64 n, .int .i64 s, .int .i64 j] = some [.sl 2 .i64 1 ((if Fld p ∧ N p s ∧ (0 ≤ n ∧ n ≤ 1000) ∧ 0 ≤ j ∧ j ≤ 100 then j.toNat + 1 else 0)) ((if Fld p ∧ N p s ∧ (0 ≤ n ∧ n ≤ 1000) ∧ 0 ≤ j ∧ j ≤ 100 then wlk p n s (j.toNat + 1) else [])), .int .i64 (codeA p (decide (N p s ∧ (0 ≤ n ∧ n ≤ 1000) ∧ 0 ≤ j ∧ j ≤ 100)))] := by
  rw [eq41, P41]
  simp only [k169 (decide (N p s ∧ (0 ≤ n ∧ n ≤ 1000) ∧ 0 ≤ j ∧ j ≤ 100)) (fun hp => c205 hp), List.headD_cons]
  simp only [cI]
  by_cases h : codeA p (decide (N p s ∧ (0 ≤ n ∧ n ≤ 1000) ∧ 0 ≤ j ∧ j ≤ 100)) = 0
  · obtain ⟨hp, hs, hn, hj⟩ := codeA_dec.1 h
    rw [h, if_neg (by decide)]
    simp only [k203 hp hn hs (show 0 ≤ j ∧ j ≤ 200 by omega), List.headD_cons, hp, hs, hn, hj, and_self, if_true, psl_n, psl_xs]
  · have hb : (!(codeA p (decide (N p s ∧ (0 ≤ n ∧ n ≤ 1000) ∧ 0 ≤ j ∧ j ≤ 100)) == 0)) = true := by rw [beq_false_of_ne h]; rfl
    rw [if_pos hb, if_neg (fun hh => h (codeA_dec.2 hh)), if_neg (fun hh => h (codeA_dec.2 hh))]
theorem k41 {p : Int} {n : Int} {s : Int} {j : Int}  {k : Kt} : callK S .nrm 41 [.int .i64 p, .int .i64 n, .int .i64 s, .int .i64 j] [(.sl 2 .i64 1), (.int .i64)] [none] [(some (0, 30), 300)] [] k = k ([codeA p (decide (N p s ∧ (0 ≤ n ∧ n ≤ 1000) ∧ 0 ≤ j ∧ j ≤ 100))]) [] [psl ((if Fld p ∧ N p s ∧ (0 ≤ n ∧ n ≤ 1000) ∧ 0 ≤ j ∧ j ≤ 100 then j.toNat + 1 else 0)) ((if Fld p ∧ N p s ∧ (0 ≤ n ∧ n ≤ 1000) ∧ 0 ≤ j ∧ j ≤ 100 then wlk p n s (j.toNat + 1) else []))] [] :=
  callK_of (c41 ) rfl (by
    simp only [okIv, inIvsB, iv_any, inIvTB]
    split
    · rename_i h
      rw [inS (wlk_in h.1 h.2.1) (.inr (by have := h.2.2.2; omega))]; rfl
    · rfl)

/-! ### values of the reference -/
theorem tmod_lin (t b c p : Int) : (t.tmod p * b + c) % p = (t * b + c) % p := by
  rw [Int.add_emod, tmod_mul, emod_mul_l, ← Int.add_emod]

theorem c190 {p : Int} {n : Int} {s : Int} (hp : Fld p) (hn : 0 ≤ n ∧ n ≤ 1000000) (hs : N p s) : S .nrm 190 [.int .i64 p, .int .i64 n, .int .i64 s] = some [.int .i64 (Sv p s n.toNat)] := by
  rw [e190 hp hn hs, P190]
  have h0 := hn.1
  have h2 := hn.2
  have key := lp_fun (body := L190_1 S s p) 0 n (fun _ => some [.int .i64 (Sv p s n.toNat)]) (fun x => [n - x, Sv p s x.toNat, Sv p s (x.toNat + 1)]) (fun _ => []) ?_ ?_ LF 0 (by omega) (by omega) (by rw [LF_eq]; omega)
  · rw [Int.sub_zero] at key; exact key
  · intro κ x h1 hx hk
    have hok : okIv [(some (0, 1000000)), (some (0, 30)), (some (0, 30))] [] [] [n - x, Sv p s x.toNat, Sv p s (x.toNat + 1)] [] [] = true := by
      simp only [okIv, inIvsB, inIvSB, inIvTB, in1 (show 0 ≤ n - x by omega) (show n - x ≤ 1000000 by omega), (Sv_N hp hs _).iv hp, Bool.and_self]
    simp only [L190_1, hok, condT, List.headD_cons, List.tail_cons, ltB_t (show 0 < n - x by omega), k176 hp]
    have e : ((2 * (1 - 2 * s)).tmod p * Sv p s (x.toNat + 1) - Sv p s x.toNat + 2 * s) % p = Sv p s (x.toNat + 2) := by
      rw [Sv_2, show (2 * (1 - 2 * s)).tmod p * Sv p s (x.toNat + 1) - Sv p s x.toNat + 2 * s = (2 * (1 - 2 * s)).tmod p * Sv p s (x.toNat + 1) + (- Sv p s x.toNat + 2 * s) by omega, tmod_lin]
      congr 1; omega
    rw [e]
    rw [show (x + 1).toNat = x.toNat + 1 by omega, show n - (x + 1) = n - x - 1 by omega] at hk
    exact hk
  · intro κ
    have hok : okIv [(some (0, 1000000)), (some (0, 30)), (some (0, 30))] [] [] [n - n, Sv p s n.toNat, Sv p s (n.toNat + 1)] [] [] = true := by
      simp only [okIv, inIvsB, inIvSB, inIvTB, in1 (show 0 ≤ n - n by omega) (show n - n ≤ 1000000 by omega), (Sv_N hp hs _).iv hp, Bool.and_self]
    simp only [L190_1, hok, condT, List.headD_cons, List.tail_cons, ltB_f (show ¬ 0 < n - n by omega), condF]
theorem k190 {p : Int} {n : Int} {s : Int} (hp : Fld p) (hn : 0 ≤ n ∧ n ≤ 1000000) (hs : N p s) {k : Kt} : callK S .nrm 190 [.int .i64 p, .int .i64 n, .int .i64 s] [(.int .i64)] [some (0, 30)] [] [] k = k ([Sv p s n.toNat]) [] [] [] :=
  callK_of (c190 hp hn hs) rfl (by simp only [okIv, inIvsB, inIvSB, inIvTB, (Sv_N hp hs _).iv hp, Bool.and_self])

theorem c188 {p : Int} {s : Int} (hp : Fld p) (hs : N p s) : S .nrm 188 [.int .i64 p, .int .i64 s] = some [.int .i64 ((ord p s : Int))] := by
  rw [e188 hp hs, P188]
  have ho := op hp hs
  have o1 := ho.o1; have oq := ho.oq; have q1 := ho.q1
  have key := lp_fun (body := L188_1 S p s) 1 (ord p s : Int) (fun _ => some [.int .i64 (ord p s : Int)]) (fun x => [x]) (fun _ => []) ?_ ?_ LF 1 (by omega) (by omega) (by rw [LF_eq]; omega)
  · exact key
  · intro κ x h1 hx hk
    have hok : okIv [(some (1, 2000))] [] [] [x] [] [] = true := by
      simp only [okIv, inIvsB, inIvSB, inIvTB, in1 h1 (show x ≤ 2000 by omega), Bool.and_self]
    have hz := ho.on x.toNat (by omega) (by omega)
    simp only [L188_1, hok, condT, List.headD_cons, k190 hp (show 0 ≤ x ∧ x ≤ 1000000 by omega) hs]
    rw [beq_false_of_ne hz]
    exact hk
  · intro κ
    have hok : okIv [(some (1, 2000))] [] [] [(ord p s : Int)] [] [] = true := by
      simp only [okIv, inIvsB, inIvSB, inIvTB, in1 (show (1 : Int) ≤ (ord p s : Int) by omega) (show (ord p s : Int) ≤ 2000 by omega), Bool.and_self]
    have hz : Sv p s ((ord p s : Int)).toNat = 0 := ho.oz
    simp only [L188_1, hok, condT, List.headD_cons, k190 hp (show 0 ≤ (ord p s : Int) ∧ (ord p s : Int) ≤ 1000000 by omega) hs, hz]
    rfl
theorem k188 {p : Int} {s : Int} (hp : Fld p) (hs : N p s) {k : Kt} : callK S .nrm 188 [.int .i64 p, .int .i64 s] [(.int .i64)] [some (1, 2000)] [] [] k = k ([(ord p s : Int)]) [] [] [] :=
  callK_of (c188 hp hs) rfl (by
    have ho := op hp hs
    have := ho.o1
    have := ho.oq
    have := ho.q1
    simp only [okIv, inIvsB, inIvSB, inIvTB, in1 (show (1 : Int) ≤ (ord p s : Int) by omega) (show (ord p s : Int) ≤ 2000 by omega), Bool.and_self])

theorem areN_1 (p s : Int) : areN p [s] = decide (N p s) := by simp [areN]
theorem areN_0 (p : Int) : areN p [] = true := rfl
theorem c27 {p : Int} {s : Int}  : S .nrm 27 [.int .i64 p, .int .i64 s] = some [.int .i64 (if Fld p ∧ N p s then (ord p s : Int) else 0), .int .i64 (codeA p (decide (N p s)))] := by
  rw [eq27, P27]
  simp only [psl_n, psl_xs, k167 (show Int.toNat 1 = [s].length from rfl) (show Int.toNat 1 ≤ 1048576 by decide), List.headD_cons, areN_1]
  simp only [cI]
  by_cases h : codeA p (decide (N p s)) = 0
  · obtain ⟨hp, hs⟩ := codeA_dec.1 h
    rw [h, if_neg (by decide)]
    simp only [k188 hp hs, List.headD_cons, hp, hs, and_self, if_true]
  · have hb : (!(codeA p (decide (N p s)) == 0)) = true := by rw [beq_false_of_ne h]; rfl
    rw [if_pos hb, if_neg (fun hh => h (codeA_dec.2 hh))]
theorem k27 {p : Int} {s : Int}  {k : Kt} : callK S .nrm 27 [.int .i64 p, .int .i64 s] [(.int .i64), (.int .i64)] [none, none] [] [] k = k ([if Fld p ∧ N p s then (ord p s : Int) else 0, codeA p (decide (N p s))]) [] [] [] :=
  callK_of (c27 ) rfl (rfl)

theorem c29 {p : Int} {s : Int}  : S .nrm 29 [.int .i64 p, .int .i64 s] = some [.int .i64 (if Fld p ∧ N p s then (per p s : Int) else 0), .int .i64 (codeA p (decide (N p s)))] := by
  rw [eq29, P29]
  simp only [psl_n, psl_xs, k167 (show Int.toNat 1 = [s].length from rfl) (show Int.toNat 1 ≤ 1048576 by decide), List.headD_cons, areN_1]
  simp only [cI]
  by_cases h : codeA p (decide (N p s)) = 0
  · obtain ⟨hp, hs⟩ := codeA_dec.1 h
    have ho := op hp hs
    have o1 := ho.o1; have oq := ho.oq; have q1 := ho.q1
    rw [h, if_neg (by decide), if_pos ⟨hp, hs⟩]
    have key := lp_fun (body := L29_1 S p s) 1 (per p s : Int) (fun _ => some [.int .i64 (per p s : Int), .int .i64 0]) (fun x => [x]) (fun _ => []) ?_ ?_ LF 1 (by omega) (by omega) (by rw [LF_eq]; omega)
    · exact key
    · intro κ x h1 hx hk
      have hok : okIv [(some (1, 2000))] [] [] [x] [] [] = true := by
        simp only [okIv, inIvsB, inIvSB, inIvTB, in1 h1 (show x ≤ 2000 by omega), Bool.and_self]
      have hn := ho.qn x.toNat (by omega) (by omega)
      simp only [L29_1, hok, condT, List.headD_cons, k190 hp (show 0 ≤ x ∧ x ≤ 1000000 by omega) hs, k190 hp (show 0 ≤ x + 1 ∧ x + 1 ≤ 1000000 by omega) hs]
      rw [show (x + 1).toNat = x.toNat + 1 by omega]
      by_cases hz : Sv p s x.toNat = 0
      · rw [hz, beq_false_of_ne (fun h => hn ⟨hz, h⟩)]; exact hk
      · rw [beq_false_of_ne hz]; exact hk
    · intro κ
      have hok : okIv [(some (1, 2000))] [] [] [(per p s : Int)] [] [] = true := by
        simp only [okIv, inIvsB, inIvSB, inIvTB, in1 (show (1 : Int) ≤ (per p s : Int) by omega) (show (per p s : Int) ≤ 2000 by omega), Bool.and_self]
      have hz : Sv p s ((per p s : Int)).toNat = 0 := ho.qz.1
      have hz2 : Sv p s ((per p s : Int) + 1).toNat = s := ho.qz.2
      simp only [L29_1, hok, condT, List.headD_cons, k190 hp (show 0 ≤ (per p s : Int) ∧ (per p s : Int) ≤ 1000000 by omega) hs, k190 hp (show 0 ≤ (per p s : Int) + 1 ∧ (per p s : Int) + 1 ≤ 1000000 by omega) hs, hz, hz2, BEq.rfl]
      rfl
  · have hb : (!(codeA p (decide (N p s)) == 0)) = true := by rw [beq_false_of_ne h]; rfl
    rw [if_pos hb, if_neg (fun hh => h (codeA_dec.2 hh))]
theorem k29 {p : Int} {s : Int}  {k : Kt} : callK S .nrm 29 [.int .i64 p, .int .i64 s] [(.int .i64), (.int .i64)] [none, none] [] [] k = k ([if Fld p ∧ N p s then (per p s : Int) else 0, codeA p (decide (N p s))]) [] [] [] :=
  callK_of (c29 ) rfl (rfl)

/-- a code of numbers, then of n -/
theorem c204 {T5 : TypeId} {p : Int} {n : Int} {m : Nat} {xs : List Int} (hm : m = xs.length) (hl : m ≤ 1048576) : S .nrm 204 [.int .i64 p, .int .i64 n, .sl T5 .i64 1 m xs] = some [.int .i64 (codeA p (areN p xs && decide (0 ≤ n ∧ n ≤ 1000)))] := by
  rw [eq204 _ _ _ _ _ (by simp [okIv, inIvsB, inIvSB, inIvTB, inIvB, psl_n, leB_iff, ltB_iff]; omega), P204]
  simp only [psl_n, psl_xs, k167 hm hl, k207, List.headD_cons]
  simp only [cI]
  by_cases h : codeA p (areN p xs) = 0
  · obtain ⟨hp, ha⟩ := codeA_0.1 h
    rw [h, if_pos (by decide), ha, Bool.true_and]
    by_cases hn : 0 ≤ n ∧ n ≤ 1000
    · simp [hn, codeA, hp]
    · simp [hn, codeA, hp]
  · rw [if_neg (by rw [beq_false_of_ne h]; decide)]
    unfold codeA at h ⊢
    by_cases hp : Fld p
    · rw [if_pos hp] at h
      simp only [if_pos hp]
      by_cases ha : areN p xs = true
      · rw [if_pos ha] at h; exact (h rfl).elim
      · simp [ha]
    · simp [hp]
theorem k204 {T5 : TypeId} {p : Int} {n : Int} {m : Nat} {xs : List Int} (hm : m = xs.length) (hl : m ≤ 1048576) {k : Kt} : callK S .nrm 204 [.int .i64 p, .int .i64 n, .sl T5 .i64 1 m xs] [(.int .i64)] [none] [] [] k = k ([codeA p (areN p xs && decide (0 ≤ n ∧ n ≤ 1000))]) [] [] [] :=
  callK_of (c204 hm hl) rfl (rfl)

end Go.Proofs.Ytelejhggpkfdoaa.SX

namespace Go.Proofs.Ytelejhggpkfdoaa.SX
set_option linter.unusedVariables false
set_option linter.unusedSimpArgs false
open Go.RowKit Go.Proofs

theorem okSl {n : Nat} {xs : List Int} (h : n ≤ 1048576) : inIvSB [(none, 1048576)] [psl n xs] = true := by
  rw [inIvSB_iff]; exact ⟨⟨fun _ _ => trivial, fun _ => by show (n : Int) ≤ 1048576; omega⟩, trivial⟩

theorem c45 {p : Int} {n : Int}  : S .nrm 45 [.int .i64 p, .int .i64 n] = some [.sl 2 .i64 1 ((if Fld p ∧ 1 ≤ n ∧ n ≤ 1000 then (ofOrd p n).length else 0)) ((if Fld p ∧ 1 ≤ n ∧ n ≤ 1000 then ofOrd p n else [])), .int .i64 (codeA p (decide (1 ≤ n ∧ n ≤ 1000)))] := by
  rw [eq45, P45]
  rw [k204 (show 0 = ([] : List Int).length from rfl) (by decide)]
  simp only [List.headD_cons, areN_0, Bool.true_and]
  simp only [cI, ltB_iff]
  by_cases hp : Fld p
  · by_cases h0 : 0 ≤ n ∧ n ≤ 1000
    · have hc : codeA p (decide (0 ≤ n ∧ n ≤ 1000)) = 0 := codeA_dec.2 ⟨hp, h0⟩
      rw [hc, if_pos (by decide)]
      by_cases h1 : n < 1
      · have h2 : ¬ (1 ≤ n ∧ n ≤ 1000) := fun h => by omega
        rw [if_pos h1, if_neg (fun h => h2 h.2), if_neg (fun h => h2 h.2)]
        simp [codeA, hp, h2]
      · have h2 : 1 ≤ n ∧ n ≤ 1000 := ⟨by omega, h0.2⟩
        rw [if_neg h1, if_pos ⟨hp, h2⟩, if_pos ⟨hp, h2⟩, codeA_dec.2 ⟨hp, h2⟩]
        have h3 := hp.ge
        have h4 := hp.le
        have key := lp_fun (body := L45_1 S p n) 0 p (fun _ => some [.sl 2 .i64 1 (ofOrd p n).length (ofOrd p n), .int .i64 0]) (fun x => [x]) (fun x => [psl ((numsI x).filter fun s => decide ((ord p s : Int) = n)).length ((numsI x).filter fun s => decide ((ord p s : Int) = n))]) ?_ ?_ LF 0 (by omega) (by omega) (by rw [LF_eq]; omega)
        · exact key
        · intro κ x h1 hx hk
          have hok : okIv [(some (0, 31))] [((some (0, 30)), -1)] [] [x] [psl ((numsI x).filter fun s => decide ((ord p s : Int) = n)).length ((numsI x).filter fun s => decide ((ord p s : Int) = n))] [] = true := by
            simp only [okIv, inIvsB, inIvTB, in1 h1 (show x ≤ 31 by omega), inS (flt_in hp (show x ≤ p by omega)) (mx := -1) (.inl (by omega)), Bool.and_self]
          simp only [L45_1, hok, condT, List.headD_cons, psl_n, psl_xs, ltB_t hx, k188 hp (show N p x from ⟨h1, hx⟩)]
          simp only [toNat1, app1]
          simp only [cI, leB_iff, beq_iff_eq]
          rw [nums_succ h1, List.filter_append, List.length_append] at hk
          have hl := filter_le x (fun s => decide ((ord p s : Int) = n))
          by_cases hh : (ord p x : Int) = n
          · rw [if_pos hh, if_pos (by omega)]
            simpa [hh] using hk
          · rw [if_neg hh]
            simpa [hh] using hk
        · intro κ
          have hok : okIv [(some (0, 31))] [((some (0, 30)), -1)] [] [p] [psl ((numsI p).filter fun s => decide ((ord p s : Int) = n)).length ((numsI p).filter fun s => decide ((ord p s : Int) = n))] [] = true := by
            simp only [okIv, inIvsB, inIvTB, in1 (show 0 ≤ p by omega) (show p ≤ 31 by omega), inS (flt_in hp (Int.le_refl p)) (mx := -1) (.inl (by omega)), Bool.and_self]
          simp only [L45_1, hok, condT, List.headD_cons, psl_n, psl_xs, ltB_f (Int.lt_irrefl p), condF]
          rfl
    · have h2 : ¬ (1 ≤ n ∧ n ≤ 1000) := fun h => h0 (by omega)
      have hc : codeA p (decide (0 ≤ n ∧ n ≤ 1000)) = 2 := by rw [decide_eq_false h0]; simp [codeA, hp]
      have hc2 : codeA p (decide (1 ≤ n ∧ n ≤ 1000)) = 2 := by rw [decide_eq_false h2]; simp [codeA, hp]
      rw [hc, hc2, if_neg (by decide), if_neg (fun h => h2 h.2), if_neg (fun h => h2 h.2)]
  · have hc : ∀ b, codeA p b = 1 := fun b => by simp [codeA, hp]
    rw [hc, hc, if_neg (by decide), if_neg (fun h => hp h.1), if_neg (fun h => hp h.1)]
theorem k45 {p : Int} {n : Int}  {k : Kt} : callK S .nrm 45 [.int .i64 p, .int .i64 n] [(.sl 2 .i64 1), (.int .i64)] [none] [(some (0, 30), 32)] [] k = k ([codeA p (decide (1 ≤ n ∧ n ≤ 1000))]) [] [psl ((if Fld p ∧ 1 ≤ n ∧ n ≤ 1000 then (ofOrd p n).length else 0)) ((if Fld p ∧ 1 ≤ n ∧ n ≤ 1000 then ofOrd p n else []))] [] :=
  callK_of (c45 ) rfl (by
    simp only [okIv, inIvsB, iv_any, inIvTB]
    split
    · rename_i h
      rw [inS (show ∀ v ∈ ofOrd p n, Go.Proofs.Ytelejhggpkfdoaa.SX.inIv (some (0, 30)) v from flt_in h.1 (Int.le_refl p)) (.inr (show ((ofOrd p n).length : Int) ≤ 32 by have := filter_le p (fun s => decide ((ord p s : Int) = n)); have := h.1.le; unfold ofOrd; omega))]; rfl
    · rfl)

/-! ### all orders -/
/-- counts of the first x numbers, so many of them -/
def cntL (p : Int) (L x : Nat) : List Int := (List.range L).map (cntx p x)
theorem cntL_in {p : Int} (L x : Nat) (hx : x ≤ 40) : ∀ v ∈ cntL p L x, Go.Proofs.Ytelejhggpkfdoaa.SX.inIv (some (0, 40)) v := by
  intro v hv
  unfold cntL at hv
  rw [List.mem_map] at hv
  obtain ⟨j, _, rfl⟩ := hv
  exact ⟨cntx_ge p j x, by have := cntx_le p j x; omega⟩
theorem cntL_set {p : Int} {L x : Nat} (h : ord p (x : Int) < L) : setInts (cntL p L x) (ord p (x : Int)) [(cntL p L x).getD (ord p (x : Int)) 0 + 1] = cntL p L (x + 1) := by
  rw [setInts_one, show (cntL p L x).getD (ord p (x : Int)) 0 = cntx p x (ord p (x : Int)) from getD_map_range h]
  unfold cntL
  apply List.ext_getElem
  · simp
  · intro j h1 h2
    simp only [List.getElem_set, List.getElem_map, List.getElem_range, cntx]
    by_cases e : ord p (x : Int) = j
    · rw [if_pos e, if_pos e, e]
    · rw [if_neg e, if_neg e]; simp
theorem cntL_get {p : Int} {L x j : Nat} (h : j < L) : (cntL p L x).getD j 0 = cntx p x j := getD_map_range h
theorem cntL_0 (p : Int) (L : Nat) : cntL p L 0 = List.replicate L 0 := by
  unfold cntL
  apply List.ext_getElem
  · simp
  · intro j h1 h2; simp [cntx]

theorem posN_in {p : Int} (lo n : Nat) (h : lo + n ≤ 2000) : ∀ v ∈ (posN p lo n).map Int.ofNat, Go.Proofs.Ytelejhggpkfdoaa.SX.inIv (some (0, 2000)) v := by
  intro v hv
  rw [List.mem_map] at hv
  obtain ⟨j, h1, rfl⟩ := hv
  unfold posN at h1
  rw [List.mem_filter, List.mem_range'] at h1
  obtain ⟨⟨i, h2, h3⟩, _⟩ := h1
  exact ⟨by show (0 : Int) ≤ (j : Int); omega, by show (j : Int) ≤ 2000; omega⟩
theorem posC_in {p : Int} (hp : Fld p) (lo n : Nat) : ∀ v ∈ (posN p lo n).map (cnt p), Go.Proofs.Ytelejhggpkfdoaa.SX.inIv (some (0, 40)) v := by
  intro v hv
  rw [List.mem_map] at hv
  obtain ⟨j, _, rfl⟩ := hv
  exact ⟨cntx_ge p j _, by have := cntx_le p j p.toNat; have := hp.le; unfold cnt; omega⟩
theorem posN_le (p : Int) (lo n : Nat) : (posN p lo n).length ≤ n := by
  have := List.length_filter_le (fun j => decide (0 < cnt p j)) (List.range' lo n)
  rw [List.length_range'] at this; exact this
theorem inS2 {b c : Iv} {m1 m2 : Int} {n1 n2 : Nat} {xs ys : List Int} (h1 : inIvSB [(b, m1)] [psl n1 xs] = true) (h2 : inIvSB [(c, m2)] [psl n2 ys] = true) : inIvSB [(b, m1), (c, m2)] [psl n1 xs, psl n2 ys] = true := by
  rw [inIvSB_iff] at h1 h2 ⊢; exact ⟨h1.1, h2⟩

/-- the second loop, of both -/
theorem ords_loop {p : Int} (hp : Fld p) {body : Kt → Kt} (lo L : Nat) (hL : L ≤ 2000) (hlo : lo ≤ L)
    (hb : ∀ (κ : Kt) (x : Int) (a b : List Int) (n1 n2 : Nat), body κ [x] [] [psl n1 a, psl n2 b] [] = (bif okIv [(some (0, 2000))] [((some (0, 2000)), -1), ((some (0, 40)), -1)] [] [x] [psl n1 a, psl n2 b] [] then
      (bif ltB x (L : Int) then
        (bif ltB 0 ((cntL p L p.toNat).getD x.toNat 0) then
          (bif leB ((n1 : Int) + ((1 : Nat) : Int)) 1000000000000 then
            (bif leB ((n2 : Int) + ((1 : Nat) : Int)) 1000000000000 then κ [x + 1] [] [psl (n1 + 1) (a ++ [x]), psl (n2 + 1) (b ++ [(cntL p L p.toNat).getD x.toNat 0])] [] else none) else none)
        else κ [x + 1] [] [psl n1 a, psl n2 b] [])
      else some [.sl 2 .i64 1 n1 a, .sl 2 .i64 1 n2 b, .int .i64 0]) else none)) :
    lp LF body [(lo : Int)] [] [psl 0 [], psl 0 []] [] = some [.sl 2 .i64 1 (posN p lo (L - lo)).length ((posN p lo (L - lo)).map Int.ofNat), .sl 2 .i64 1 (posN p lo (L - lo)).length ((posN p lo (L - lo)).map (cnt p)), .int .i64 0] := by
  have key := lp_fun (body := body) lo L (fun _ => some [.sl 2 .i64 1 (posN p lo (L - lo)).length ((posN p lo (L - lo)).map Int.ofNat), .sl 2 .i64 1 (posN p lo (L - lo)).length ((posN p lo (L - lo)).map (cnt p)), .int .i64 0]) (fun x => [x])
    (fun x => [psl (posN p lo (x.toNat - lo)).length ((posN p lo (x.toNat - lo)).map Int.ofNat), psl (posN p lo (x.toNat - lo)).length ((posN p lo (x.toNat - lo)).map (cnt p))]) ?_ ?_ LF lo (by omega) (by omega) (by rw [LF_eq]; omega)
  · rw [show ((lo : Int)).toNat - lo = 0 by omega] at key; exact key
  · intro κ x h1 hx hk
    have hok : okIv [(some (0, 2000))] [((some (0, 2000)), -1), ((some (0, 40)), -1)] [] [x] [psl (posN p lo (x.toNat - lo)).length ((posN p lo (x.toNat - lo)).map Int.ofNat), psl (posN p lo (x.toNat - lo)).length ((posN p lo (x.toNat - lo)).map (cnt p))] [] = true := by
      simp only [okIv, inIvsB, inIvTB, in1 (show 0 ≤ x by omega) (show x ≤ 2000 by omega), inS2 (inS (posN_in (p := p) lo (x.toNat - lo) (by omega)) (mx := -1) (.inl (by omega))) (inS (posC_in hp lo (x.toNat - lo)) (mx := -1) (.inl (by omega))), Bool.and_self]
    rw [hb, hok, condT, ltB_t hx, condT]
    have hl := posN_le p lo (x.toNat - lo)
    have e : (x + 1).toNat - lo = (x.toNat - lo) + 1 := by omega
    rw [e, posN_succ, show lo + (x.toNat - lo) = x.toNat by omega] at hk
    rw [cntL_get (show x.toNat < L by omega)]
    by_cases hc : 0 < cnt p x.toNat
    · rw [if_pos hc] at hk
      rw [show cntx p p.toNat x.toNat = cnt p x.toNat from rfl, ltB_t hc, condT, leB_t (by omega), condT, condT]
      rw [List.map_append, List.map_append, List.length_append] at hk
      rw [show [x] = [x.toNat].map Int.ofNat from by show [x] = [((x.toNat : Nat) : Int)]; rw [show ((x.toNat : Nat) : Int) = x by omega]]
      exact hk
    · rw [if_neg hc, List.append_nil] at hk
      rw [show cntx p p.toNat x.toNat = cnt p x.toNat from rfl, ltB_f hc, condF]
      exact hk
  · intro κ
    have hok : okIv [(some (0, 2000))] [((some (0, 2000)), -1), ((some (0, 40)), -1)] [] [(L : Int)] [psl (posN p lo (((L : Int)).toNat - lo)).length ((posN p lo (((L : Int)).toNat - lo)).map Int.ofNat), psl (posN p lo (((L : Int)).toNat - lo)).length ((posN p lo (((L : Int)).toNat - lo)).map (cnt p))] [] = true := by
      simp only [okIv, inIvsB, inIvTB, in1 (show (0 : Int) ≤ (L : Int) by omega) (show (L : Int) ≤ 2000 by omega), inS2 (inS (posN_in (p := p) lo (((L : Int)).toNat - lo) (by omega)) (mx := -1) (.inl (by omega))) (inS (posC_in hp lo (((L : Int)).toNat - lo)) (mx := -1) (.inl (by omega))), Bool.and_self]
    rw [hb, hok, condT, ltB_f (Int.lt_irrefl _), condF, show ((L : Int)).toNat - lo = L - lo by omega]

theorem two_sq3 {p : Int} (hp : Fld p) : 0 ≤ 2 * p * p + 3 ∧ 2 * p * p + 3 ≤ 2000 ∧ (2 * p * p + 3).toNat = 2 * p.toNat * p.toNat + 3 ∧ 4 * p.toNat + 4 ≤ 2 * p.toNat * p.toNat + 3 ∧ 2 * p.toNat * p.toNat + 3 ≤ 2000 := by
  unfold Fld at hp
  rcases hp with h | h | h | h | h | h | h | h | h | h <;> subst h <;> decide
theorem ords_le {p : Int} (hp : Fld p) : (ords p).length ≤ 2000 := by
  have := posN_le p 1 (4 * p.toNat + 3); have := hp.le; unfold ords; omega

theorem c34 {p : Int}  : S .nrm 34 [.int .i64 p] = some [.sl 2 .i64 1 ((if Fld p then (ords p).length else 0)) ((if Fld p then (ords p).map Int.ofNat else [])), .sl 2 .i64 1 ((if Fld p then (ords p).length else 0)) ((if Fld p then (ords p).map (cnt p) else [])), .int .i64 ((if Fld p then 0 else 1))] := by
  rw [eq34, P34]
  rw [k200]
  simp only [List.headD_cons]
  by_cases hp : Fld p
  · rw [decide_eq_true hp, if_pos hp, if_pos hp, if_pos hp, if_pos hp]
    obtain ⟨t1, t2, t3, t4, t5⟩ := two_sq3 hp
    have h3 := hp.ge
    have h4 := hp.le
    have ho : ∀ s : Nat, (s : Int) < p → ord p (s : Int) < 4 * p.toNat + 4 := fun s hs => (op hp ⟨by omega, hs⟩).o2
    simp only [cI, leB_iff]
    rw [if_neg (by decide), if_pos (by omega), if_pos (by omega), if_pos (by omega), if_pos (by omega), if_pos (by omega), if_pos (by omega), if_pos (by omega), if_pos (by omega)]
    rw [t3, Nat.mul_one, ← cntL_0 p]
    have key := lp_fun (body := L34_1 S p) 0 p (fun _ => some [.sl 2 .i64 1 (ords p).length ((ords p).map Int.ofNat), .sl 2 .i64 1 (ords p).length ((ords p).map (cnt p)), .int .i64 0]) (fun x => [x]) (fun x => [psl (2 * p.toNat * p.toNat + 3) (cntL p (2 * p.toNat * p.toNat + 3) x.toNat)]) ?_ ?_ LF 0 (by omega) (by omega) (by rw [LF_eq]; omega)
    · exact key
    · intro κ x h1 hx hk
      have hN : N p x := ⟨h1, hx⟩
      have hxx : ((x.toNat : Nat) : Int) = x := by omega
      have hok : okIv [(some (0, 31))] [((some (0, 40)), 2000)] [] [x] [psl (2 * p.toNat * p.toNat + 3) (cntL p (2 * p.toNat * p.toNat + 3) x.toNat)] [] = true := by
        simp only [okIv, inIvsB, inIvTB, in1 h1 (show x ≤ 31 by omega), inS (n := 2 * p.toNat * p.toNat + 3) (cntL_in (p := p) (2 * p.toNat * p.toNat + 3) x.toNat (by omega)) (mx := 2000) (.inr (by omega)), Bool.and_self]
      have hol := ho x.toNat (by omega)
      rw [hxx] at hol
      simp only [L34_1, hok, condT, List.headD_cons, psl_n, psl_xs, ltB_t hx]
      rw [k187 hp hN]
      simp only [List.headD_cons]
      rw [ltB_t (show (ord p x : Int) < ((2 * p.toNat * p.toNat + 3 : Nat) : Int) by omega), condT]
      have hset := cntL_set (p := p) (L := 2 * p.toNat * p.toNat + 3) (x := x.toNat) (by rw [hxx]; omega)
      rw [hxx] at hset
      rw [show ((ord p x : Int)).toNat = ord p x by omega, hset]
      rw [show (x + 1).toNat = x.toNat + 1 by omega] at hk
      exact hk
    · intro κ
      have hok : okIv [(some (0, 31))] [((some (0, 40)), 2000)] [] [p] [psl (2 * p.toNat * p.toNat + 3) (cntL p (2 * p.toNat * p.toNat + 3) p.toNat)] [] = true := by
        simp only [okIv, inIvsB, inIvTB, in1 (show 0 ≤ p by omega) (show p ≤ 31 by omega), inS (n := 2 * p.toNat * p.toNat + 3) (cntL_in (p := p) (2 * p.toNat * p.toNat + 3) p.toNat (by omega)) (mx := 2000) (.inr (by omega)), Bool.and_self]
      simp only [L34_1, hok, condT, List.headD_cons, ltB_f (Int.lt_irrefl p), condF]
      have := ords_loop hp (body := L34_2 S (psl (2 * p.toNat * p.toNat + 3) (cntL p (2 * p.toNat * p.toNat + 3) p.toNat))) 0 (2 * p.toNat * p.toNat + 3) t5 (by omega) (fun κ x a b n1 n2 => by
        simp only [L34_2, List.headD_cons, List.tail_cons, psl_n, psl_xs]
        simp only [toNat1, app1])
      rw [Nat.sub_zero, posN_all hp t4] at this
      rw [toNat0]
      exact this
  · rw [decide_eq_false hp, if_neg hp, if_neg hp, if_neg hp, if_neg hp]; rfl
theorem k34 {p : Int}  {k : Kt} : callK S .nrm 34 [.int .i64 p] [(.sl 2 .i64 1), (.sl 2 .i64 1), (.int .i64)] [none] [(some (0, 2000), 2000), (none, 2000)] [] k = k ([(if Fld p then 0 else 1)]) [] [psl ((if Fld p then (ords p).length else 0)) ((if Fld p then (ords p).map Int.ofNat else [])), psl ((if Fld p then (ords p).length else 0)) ((if Fld p then (ords p).map (cnt p) else []))] [] :=
  callK_of (c34 ) rfl (by
    simp only [okIv, inIvsB, iv_any, inIvTB]
    split
    · rename_i hp
      have hl := ords_le hp
      rw [inS2 (xs := (ords p).map Int.ofNat) (ys := (ords p).map (cnt p)) (inS (show ∀ v ∈ (ords p).map Int.ofNat, Go.Proofs.Ytelejhggpkfdoaa.SX.inIv (some (0, 2000)) v from posN_in (p := p) 1 (4 * p.toNat + 3) (by have := hp.le; omega)) (.inr (show ((ords p).length : Int) ≤ 2000 by omega))) (inS (b := none) (fun _ _ => trivial) (.inr (show ((ords p).length : Int) ≤ 2000 by omega)))]; rfl
    · rfl)

theorem c35 {p : Int}  : S .nrm 35 [.int .i64 p] = some [.sl 2 .i64 1 ((if Fld p then (ords p).length else 0)) ((if Fld p then (ords p).map Int.ofNat else [])), .sl 2 .i64 1 ((if Fld p then (ords p).length else 0)) ((if Fld p then (ords p).map (cnt p) else [])), .int .i64 ((if Fld p then 0 else 1))] := by
  rw [eq35, P35]
  rw [k167 (show 0 = ([] : List Int).length from rfl) (by decide)]
  simp only [List.headD_cons, areN_0]
  by_cases hp : Fld p
  · rw [codeA_of hp rfl, if_pos hp, if_pos hp, if_pos hp, if_pos hp]
    have h3 := hp.ge
    have h4 := hp.le
    have t3 : (4 * p + 4).toNat = 4 * p.toNat + 4 := by omega
    have ho : ∀ s : Nat, (s : Int) < p → ord p (s : Int) < 4 * p.toNat + 4 := fun s hs => (op hp ⟨by omega, hs⟩).o2
    simp only [cI, leB_iff]
    rw [if_neg (by decide), if_pos (by omega), if_pos (by omega), if_pos (by omega), if_pos (by omega), if_pos (by omega), if_pos (by omega)]
    rw [t3, Nat.mul_one, ← cntL_0 p]
    have key := lp_fun (body := L35_1 S p) 0 p (fun _ => some [.sl 2 .i64 1 (ords p).length ((ords p).map Int.ofNat), .sl 2 .i64 1 (ords p).length ((ords p).map (cnt p)), .int .i64 0]) (fun x => [x]) (fun x => [psl (4 * p.toNat + 4) (cntL p (4 * p.toNat + 4) x.toNat)]) ?_ ?_ LF 0 (by omega) (by omega) (by rw [LF_eq]; omega)
    · exact key
    · intro κ x h1 hx hk
      have hN : N p x := ⟨h1, hx⟩
      have hxx : ((x.toNat : Nat) : Int) = x := by omega
      have hok : okIv [(some (0, 31))] [((some (0, 40)), 200)] [] [x] [psl (4 * p.toNat + 4) (cntL p (4 * p.toNat + 4) x.toNat)] [] = true := by
        simp only [okIv, inIvsB, inIvTB, in1 h1 (show x ≤ 31 by omega), inS (n := 4 * p.toNat + 4) (cntL_in (p := p) (4 * p.toNat + 4) x.toNat (by omega)) (mx := 200) (.inr (by omega)), Bool.and_self]
      have hol := ho x.toNat (by omega)
      rw [hxx] at hol
      simp only [L35_1, hok, condT, List.headD_cons, psl_n, psl_xs, ltB_t hx]
      rw [k188 hp hN]
      simp only [List.headD_cons]
      rw [ltB_t (show (ord p x : Int) < ((4 * p.toNat + 4 : Nat) : Int) by omega), condT]
      have hset := cntL_set (p := p) (L := 4 * p.toNat + 4) (x := x.toNat) (by rw [hxx]; omega)
      rw [hxx] at hset
      rw [show ((ord p x : Int)).toNat = ord p x by omega, hset]
      rw [show (x + 1).toNat = x.toNat + 1 by omega] at hk
      exact hk
    · intro κ
      have hok : okIv [(some (0, 31))] [((some (0, 40)), 200)] [] [p] [psl (4 * p.toNat + 4) (cntL p (4 * p.toNat + 4) p.toNat)] [] = true := by
        simp only [okIv, inIvsB, inIvTB, in1 (show 0 ≤ p by omega) (show p ≤ 31 by omega), inS (n := 4 * p.toNat + 4) (cntL_in (p := p) (4 * p.toNat + 4) p.toNat (by omega)) (mx := 200) (.inr (by omega)), Bool.and_self]
      simp only [L35_1, hok, condT, List.headD_cons, ltB_f (Int.lt_irrefl p), condF]
      have := ords_loop hp (body := L35_2 S (psl (4 * p.toNat + 4) (cntL p (4 * p.toNat + 4) p.toNat))) 1 (4 * p.toNat + 4) (by omega) (by omega) (fun κ x a b n1 n2 => by
        simp only [L35_2, List.headD_cons, List.tail_cons, psl_n, psl_xs]
        simp only [toNat1, app1])
      rw [show 4 * p.toNat + 4 - 1 = 4 * p.toNat + 3 by omega] at this
      rw [toNat0]
      exact this
  · have hc : ∀ b, codeA p b = 1 := fun b => by simp [codeA, hp]
    rw [hc, if_neg hp, if_neg hp, if_neg hp, if_neg hp]; rfl
theorem k35 {p : Int}  {k : Kt} : callK S .nrm 35 [.int .i64 p] [(.sl 2 .i64 1), (.sl 2 .i64 1), (.int .i64)] [none] [(some (0, 2000), 2000), (none, 2000)] [] k = k ([(if Fld p then 0 else 1)]) [] [psl ((if Fld p then (ords p).length else 0)) ((if Fld p then (ords p).map Int.ofNat else [])), psl ((if Fld p then (ords p).length else 0)) ((if Fld p then (ords p).map (cnt p) else []))] [] :=
  callK_of (c35 ) rfl (by
    simp only [okIv, inIvsB, iv_any, inIvTB]
    split
    · rename_i hp
      have hl := ords_le hp
      rw [inS2 (xs := (ords p).map Int.ofNat) (ys := (ords p).map (cnt p)) (inS (show ∀ v ∈ (ords p).map Int.ofNat, Go.Proofs.Ytelejhggpkfdoaa.SX.inIv (some (0, 2000)) v from posN_in (p := p) 1 (4 * p.toNat + 3) (by have := hp.le; omega)) (.inr (show ((ords p).length : Int) ≤ 2000 by omega))) (inS (b := none) (fun _ _ => trivial) (.inr (show ((ords p).length : Int) ≤ 2000 by omega)))]; rfl
    · rfl)

end Go.Proofs.Ytelejhggpkfdoaa.SX

namespace Go.Proofs.Ytelejhggpkfdoaa.SX
set_option linter.unusedVariables false
set_option linter.unusedSimpArgs false
open Go.RowKit Go.Proofs

theorem c24 {T3 : TypeId} {m : Nat} {xs : List Int}  : S .nrm 24 [.sl T3 .u8 1 m xs] = some [.bool (decide (4096 < (m : Int)))] := by
  rw [eq24, P24]; rfl
theorem k24 {T3 : TypeId} {m : Nat} {xs : List Int}  {k : Kt} : callK S .nrm 24 [.sl T3 .u8 1 m xs] [.bool] [] [] [] k = k ([]) [decide (4096 < (m : Int))] [] [] :=
  callK_of (c24 ) rfl (rfl)

theorem likeLoop {xs : List Int} (hl : xs.length ≤ 1048576) : lp LF (L36_1 S xs.length xs xs.length xs) [0] [] [] [] = some [.bool true] := by
  have key := lp_fun (body := L36_1 S xs.length xs xs.length xs) 0 xs.length (fun _ => some [.bool true]) (fun x => [x]) (fun _ => []) ?_ ?_ LF 0 (by omega) (by omega) (lenLF hl)
  · exact key
  · intro κ x h0 hx hk
    simp only [L36_1, okX h0 (show x ≤ 1048576 by omega), condT, List.headD_cons, psl_n, psl_xs, ltB_t hx, BEq.rfl]
    exact hk
  · intro κ
    simp only [L36_1, okX (show (0 : Int) ≤ xs.length by omega) (show (xs.length : Int) ≤ 1048576 by omega), condT, List.headD_cons, psl_n, ltB_f (Int.lt_irrefl _), condF]

/-- equal lists are alike -/
theorem c36 {T T' : TypeId} {m : Nat} {xs : List Int} (hm : m = xs.length) (hl : m ≤ 1048576) : S .nrm 36 [.sl T .i64 1 m xs, .sl T' .i64 1 m xs] = some [.bool true] := by
  subst hm
  rw [eq36 _ _ _ _ _ _ (by simp only [okIv, inIvsB, inIvTB, inS2 (okSl hl) (okSl hl), Bool.and_self]), P36]
  simp only [psl_n, BEq.rfl]
  exact likeLoop hl
theorem k36 {T T' : TypeId} {m : Nat} {xs : List Int} (hm : m = xs.length) (hl : m ≤ 1048576) {k : Kt} : callK S .nrm 36 [.sl T .i64 1 m xs, .sl T' .i64 1 m xs] [.bool] [] [] [] k = k [] [true] [] [] :=
  callK_of (c36 hm hl) rfl rfl

theorem c32 {T3 : TypeId} {m : Nat} {xs : List Int} {y : Int} (hm : m = xs.length) (hl : m ≤ 1048576) : S .nrm 32 [.sl T3 .i64 1 m xs, .int .i64 y] = some [.bool (decide (y ∈ xs))] := by
  subst hm
  rw [eq32 _ _ _ _ (by simp only [okIv, iv_any, inIvsB, inIvTB, okSl hl, Bool.and_self]), P32]
  have key := lp_fun (body := L32_1 S xs.length xs y) 0 xs.length (fun x => some [.bool (decide (y ∈ xs.drop x.toNat))]) (fun x => [x]) (fun _ => []) ?_ ?_ LF 0 (by omega) (by omega) (lenLF hl)
  · exact key
  · intro κ x h0 hx hk
    simp only [L32_1, okX h0 (show x ≤ 1048576 by omega), condT, List.headD_cons, psl_n, psl_xs, ltB_t hx]
    simp only [cI, beq_iff_eq]
    rw [drop_cons h0 hx]
    by_cases hc : xs.getD x.toNat 0 = y
    · rw [if_pos hc]; simp only [hc, List.mem_cons, true_or, decide_true]
    · rw [if_neg hc, hk]; simp only [List.mem_cons, show ¬ y = xs.getD x.toNat 0 from fun h => hc h.symm, false_or]
  · intro κ
    simp only [L32_1, okX (show (0 : Int) ≤ xs.length by omega) (show (xs.length : Int) ≤ 1048576 by omega), condT, List.headD_cons, psl_n, ltB_f (Int.lt_irrefl _), condF, drop_end]
    rfl
theorem k32 {T3 : TypeId} {m : Nat} {xs : List Int} {y : Int} (hm : m = xs.length) (hl : m ≤ 1048576) {k : Kt} : callK S .nrm 32 [.sl T3 .i64 1 m xs, .int .i64 y] [.bool] [] [] [] k = k ([]) [decide (y ∈ xs)] [] [] :=
  callK_of (c32 hm hl) rfl (rfl)

theorem sumL_take : ∀ (xs : List Int) (n : Nat), (∀ v ∈ xs, 0 ≤ v ∧ v ≤ 40) → 0 ≤ sumL (xs.take n) ∧ sumL (xs.take n) ≤ 40 * n
  | [], n, _ => by simp [sumL]; omega
  | x :: r, 0, _ => by simp [sumL]
  | x :: r, n + 1, h => by
    have h1 := h x (List.mem_cons_self ..)
    have h2 := sumL_take r n fun v hv => h v (List.mem_cons_of_mem _ hv)
    simp only [List.take_succ_cons, sumL]; omega
theorem take_succ' {xs : List Int} {x : Int} (h : 0 ≤ x) (h2 : x < xs.length) : xs.take (x + 1).toNat = xs.take x.toNat ++ [xs.getD x.toNat 0] := by
  have h3 : x.toNat < xs.length := by omega
  rw [show (x + 1).toNat = x.toNat + 1 by omega, List.take_add_one, List.getD_eq_getElem?_getD, List.getElem?_eq_getElem h3]; rfl

theorem c37 {T3 : TypeId} {m : Nat} {xs : List Int} (hm : m = xs.length) (hl : m ≤ 1048576) (hv : ∀ v ∈ xs, 0 ≤ v ∧ v ≤ 40) : S .nrm 37 [.sl T3 .i64 1 m xs] = some [.int .i64 (sumL xs)] := by
  subst hm
  rw [eq37 _ _ _ (by simp only [okIv, iv_any, inIvsB, inIvTB, okSl hl, Bool.and_self]), P37]
  have key := lp_fun (body := L37_1 S xs.length xs) 0 xs.length (fun _ => some [.int .i64 (sumL xs)]) (fun x => [sumL (xs.take x.toNat), x]) (fun _ => []) ?_ ?_ LF 0 (by omega) (by omega) (lenLF hl)
  · exact key
  · intro κ x h0 hx hk
    have hok : okIv [none, (some (0, 1048576))] [] [] [sumL (xs.take x.toNat), x] [] [] = true := by
      simp only [okIv, iv_any, inIvsB, inIvSB, inIvTB, in1 h0 (show x ≤ 1048576 by omega), Bool.and_self]
    have hs := sumL_take xs x.toNat hv
    have hg : 0 ≤ xs.getD x.toNat 0 ∧ xs.getD x.toNat 0 ≤ 40 := getD_mem_or x.toNat (fun v => 0 ≤ v ∧ v ≤ 40) (by omega) hv
    simp only [L37_1, hok, condT, List.headD_cons, List.tail_cons, psl_n, psl_xs, ltB_t hx]
    simp only [cI, leB_iff]
    rw [if_pos (by omega), if_pos (by omega)]
    rw [take_succ' h0 hx, sumL_app, show sumL [xs.getD x.toNat 0] = xs.getD x.toNat 0 by simp [sumL]] at hk
    exact hk
  · intro κ
    have hok : okIv [none, (some (0, 1048576))] [] [] [sumL (xs.take ((xs.length : Int)).toNat), (xs.length : Int)] [] [] = true := by
      simp only [okIv, iv_any, inIvsB, inIvSB, inIvTB, in1 (show (0 : Int) ≤ xs.length by omega) (show (xs.length : Int) ≤ 1048576 by omega), Bool.and_self]
    simp only [L37_1, hok, condT, List.headD_cons, List.tail_cons, psl_n, ltB_f (Int.lt_irrefl _), condF]
    rw [show ((xs.length : Int)).toNat = xs.length by omega, List.take_length]
theorem k37 {T3 : TypeId} {m : Nat} {xs : List Int} (hm : m = xs.length) (hl : m ≤ 1048576) (hv : ∀ v ∈ xs, 0 ≤ v ∧ v ≤ 40) {k : Kt} : callK S .nrm 37 [.sl T3 .i64 1 m xs] [(.int .i64)] [none] [] [] k = k ([sumL xs]) [] [] [] :=
  callK_of (c37 hm hl hv) rfl (rfl)

theorem c43 {p : Int} {n : Int} {s : Int} {j : Int}  : S .nrm 43 [.int .i64 p, .int .i64 n, .int .i64 s, .int .i64 j] = some [.sl 2 .i64 1 ((if Fld p ∧ N p s ∧ (0 ≤ n ∧ n ≤ 1000) ∧ 0 ≤ j ∧ j ≤ 100 then j.toNat + 1 else 0)) ((if Fld p ∧ N p s ∧ (0 ≤ n ∧ n ≤ 1000) ∧ 0 ≤ j ∧ j ≤ 100 then wlk p n s (j.toNat + 1) else [])), .int .i64 (codeA p (decide (N p s ∧ (0 ≤ n ∧ n ≤ 1000) ∧ 0 ≤ j ∧ j ≤ 100)))] := by
  rw [eq43, P43]
  simp only [psl_n, psl_xs]
  rw [k204 (show Int.toNat 1 = [s].length from rfl) (by decide)]
  simp only [List.headD_cons, areN_1]
  by_cases hg : Fld p ∧ N p s ∧ (0 ≤ n ∧ n ≤ 1000)
  · obtain ⟨hp, hs, hn⟩ := hg
    have hc : codeA p (decide (N p s) && decide (0 ≤ n ∧ n ≤ 1000)) = 0 := codeA_of hp (by simp [hs, hn])
    rw [hc, k207]
    simp only [List.headD_cons]
    simp only [cI, beq_iff_eq]
    rw [if_pos trivial]
    by_cases hj : 0 ≤ j ∧ j ≤ 100
    · rw [decide_eq_true hj, if_neg (by decide), if_pos ⟨hp, hs, hn, hj⟩, if_pos ⟨hp, hs, hn, hj⟩, codeA_dec.2 ⟨hp, hs, hn, hj⟩]
      have key := lp_fun (body := L43_1 S p n) 0 j (fun _ => some [.sl 2 .i64 1 (j.toNat + 1) (wlk p n s (j.toNat + 1)), .int .i64 0]) (fun x => [itr (stp p n) s x.toNat, j - x]) (fun x => [psl (x.toNat + 1) (wlk p n s (x.toNat + 1))]) ?_ ?_ LF 0 (by omega) (by omega) (by rw [LF_eq]; omega)
      · rw [Int.sub_zero, show wlk p n s ((0 : Int).toNat + 1) = [s] from rfl, show itr (stp p n) s (0 : Int).toNat = s from rfl] at key
        exact key
      · intro κ x h1 hx hk
        have hN := itr_N (stp_N hp n) hs x.toNat
        have hok : okIv [(some (0, 30)), (some (0, 200))] [((some (0, 30)), -1)] [] [itr (stp p n) s x.toNat, j - x] [psl (x.toNat + 1) (wlk p n s (x.toNat + 1))] [] = true := by
          simp only [okIv, inIvsB, inIvTB, hN.iv hp, in1 (show 0 ≤ j - x by omega) (show j - x ≤ 200 by omega), inS (wlk_in hp hs) (mx := -1) (.inl (by omega)), Bool.and_self]
        simp only [L43_1, hok, condT, List.headD_cons, List.tail_cons, psl_n, psl_xs, ltB_t (show 0 < j - x by omega)]
        rw [k190 hp (show 0 ≤ n ∧ n ≤ 1000000 by omega) hN]
        simp only [List.headD_cons, toNat1, app1]
        simp only [cI, leB_iff]
        rw [if_pos (by omega), show Sv p (itr (stp p n) s x.toNat) n.toNat = itr (stp p n) s (x.toNat + 1) from rfl, ← wlk_succ]
        rw [show (x + 1).toNat = x.toNat + 1 by omega, show j - (x + 1) = j - x - 1 by omega] at hk
        exact hk
      · intro κ
        have hN := itr_N (stp_N hp n) hs j.toNat
        have hok : okIv [(some (0, 30)), (some (0, 200))] [((some (0, 30)), -1)] [] [itr (stp p n) s j.toNat, j - j] [psl (j.toNat + 1) (wlk p n s (j.toNat + 1))] [] = true := by
          simp only [okIv, inIvsB, inIvTB, hN.iv hp, in1 (show 0 ≤ j - j by omega) (show j - j ≤ 200 by omega), inS (wlk_in hp hs) (mx := -1) (.inl (by omega)), Bool.and_self]
        simp only [L43_1, hok, condT, List.headD_cons, List.tail_cons, psl_n, psl_xs, ltB_f (show ¬ 0 < j - j by omega), condF]
    · have h2 : ¬ (N p s ∧ (0 ≤ n ∧ n ≤ 1000) ∧ 0 ≤ j ∧ j ≤ 100) := fun h => hj h.2.2
      rw [decide_eq_false hj, if_pos (by decide), if_neg (fun h => h2 h.2), if_neg (fun h => h2 h.2), decide_eq_false h2]
      simp [codeA, hp]
  · have h2 : ¬ (Fld p ∧ N p s ∧ (0 ≤ n ∧ n ≤ 1000) ∧ 0 ≤ j ∧ j ≤ 100) := fun h => hg ⟨h.1, h.2.1, h.2.2.1⟩
    have hc : codeA p (decide (N p s) && decide (0 ≤ n ∧ n ≤ 1000)) = codeA p (decide (N p s ∧ (0 ≤ n ∧ n ≤ 1000) ∧ 0 ≤ j ∧ j ≤ 100)) ∧ codeA p (decide (N p s) && decide (0 ≤ n ∧ n ≤ 1000)) ≠ 0 := by
      by_cases hp : Fld p
      · have h3 : ¬ (N p s ∧ (0 ≤ n ∧ n ≤ 1000)) := fun h => hg ⟨hp, h⟩
        have h4 : ¬ (N p s ∧ (0 ≤ n ∧ n ≤ 1000) ∧ 0 ≤ j ∧ j ≤ 100) := fun h => h3 ⟨h.1, h.2.1⟩
        rw [← Bool.decide_and, decide_eq_false h3, decide_eq_false h4]
        simp [codeA, hp]
      · simp [codeA, hp]
    rw [if_neg h2, if_neg h2, ← hc.1, beq_false_of_ne hc.2]
    rfl
theorem k43 {p : Int} {n : Int} {s : Int} {j : Int}  {k : Kt} : callK S .nrm 43 [.int .i64 p, .int .i64 n, .int .i64 s, .int .i64 j] [(.sl 2 .i64 1), (.int .i64)] [none] [(some (0, 30), 300)] [] k = k ([codeA p (decide (N p s ∧ (0 ≤ n ∧ n ≤ 1000) ∧ 0 ≤ j ∧ j ≤ 100))]) [] [psl ((if Fld p ∧ N p s ∧ (0 ≤ n ∧ n ≤ 1000) ∧ 0 ≤ j ∧ j ≤ 100 then j.toNat + 1 else 0)) ((if Fld p ∧ N p s ∧ (0 ≤ n ∧ n ≤ 1000) ∧ 0 ≤ j ∧ j ≤ 100 then wlk p n s (j.toNat + 1) else []))] [] :=
  callK_of (c43 ) rfl (by
    simp only [okIv, inIvsB, iv_any, inIvTB]
    split
    · rename_i h
      rw [inS (wlk_in h.1 h.2.1) (.inr (by have := h.2.2.2; omega))]; rfl
    · rfl)

end Go.Proofs.Ytelejhggpkfdoaa.SX

namespace Go.Proofs.Ytelejhggpkfdoaa.SX
set_option linter.unusedVariables false
set_option linter.unusedSimpArgs false
open Go.RowKit Go.Proofs

theorem nums_ne {p : Int} {f : Int → Int} : ∀ v ∈ (numsI p).map f, ∃ x, v = f x := by
  intro v hv
  rw [List.mem_map] at hv
  obtain ⟨x, _, rfl⟩ := hv; exact ⟨x, rfl⟩

section
variable {p n s : Int} (hp : Fld p) (hs : N p s) (hn : 0 ≤ n ∧ n ≤ 1000) {i T : Nat} (hR : Rnd (stp p n) s p i T)
 include hp hs hn hR

theorem c40_ok : S .nrm 40 [.int .i64 p, .int .i64 n, .int .i64 s] = some [.int .i64 (i : Int), .int .i64 ((T : Int) - i), .int .i64 0] := by
  have h3 := hp.ge
  have h4 := hp.le
  have hlt := hR.lt
  have hle := hR.le
  rw [eq40, P40]
  simp only [psl_n, psl_xs]
  rw [k204 (show Int.toNat 1 = [s].length from rfl) (by decide)]
  simp only [List.headD_cons, areN_1]
  have hc : codeA p (decide (N p s) && decide (0 ≤ n ∧ n ≤ 1000)) = 0 := codeA_of hp (by simp [hs, hn])
  rw [hc]
  simp only [cI, leB_iff]
  rw [if_neg (by decide), if_pos (by omega), if_pos (by omega), Nat.mul_one]
  have hin : ∀ (m : Nat) (xs : List Int), (∀ v ∈ xs, -1 ≤ v ∧ v ≤ 40) → m ≤ 31 → inIvSB [(some (-1, 40), 31)] [psl m xs] = true := fun m xs h hm => inS h (.inr (by omega))
  -- all -1
  have key := lp_fun (body := L40_1 S (psl p.toNat (List.replicate p.toNat 0)) p n s) 0 p (fun _ => some [.int .i64 (i : Int), .int .i64 ((T : Int) - i), .int .i64 0]) (fun x => [x]) (fun x => [psl p.toNat ((numsI p).map fun v => if v < x then -1 else 0)]) ?_ ?_ LF 0 (by omega) (by omega) (by rw [LF_eq]; omega)
  · rw [show ((numsI p).map fun v => if v < 0 then (-1 : Int) else 0) = List.replicate p.toNat 0 from by
      apply List.ext_getElem
      · rw [nums_len', List.length_replicate]
      · intro j h1 h2
        simp only [List.getElem_map, List.getElem_replicate, numsI, List.getElem_range]
        rw [if_neg (by show ¬ ((j : Nat) : Int) < 0; omega)]] at key
    exact key
  · intro κ x h1 hx hk
    have hok : okIv [(some (0, 31))] [((some (-1, 40)), 31)] [] [x] [psl p.toNat ((numsI p).map fun v => if v < x then -1 else 0)] [] = true := by
      rw [okIv, inIvsB, in1 h1 (show x ≤ 31 by omega), hin p.toNat _ (fun v hv => by obtain ⟨y, rfl⟩ := nums_ne v hv; split <;> omega) (by omega)]; rfl
    simp only [L40_1, hok, condT, List.headD_cons, psl_n, psl_xs, ltB_t (show x < ((p.toNat : Nat) : Int) by omega)]
    rw [setInts_one, nums_set ⟨h1, hx⟩]
    rw [show ((numsI p).map fun v => if x = v then (-1 : Int) else if v < x then -1 else 0) = (numsI p).map fun v => if v < x + 1 then -1 else 0 from List.map_congr_left fun v _ => by
      by_cases e : x = v
      · rw [if_pos e, if_pos (by omega)]
      · rw [if_neg e]
        by_cases e2 : v < x
        · rw [if_pos e2, if_pos (by omega)]
        · rw [if_neg e2, if_neg (by omega)]]
    exact hk
  · intro κ
    have hok : okIv [(some (0, 31))] [((some (-1, 40)), 31)] [] [p] [psl p.toNat ((numsI p).map fun v => if v < p then -1 else 0)] [] = true := by
      rw [okIv, inIvsB, in1 (show 0 ≤ p by omega) (show p ≤ 31 by omega), hin p.toNat _ (fun v hv => by obtain ⟨y, rfl⟩ := nums_ne v hv; split <;> omega) (by omega)]; rfl
    simp only [L40_1, hok, condT, List.headD_cons, psl_n, psl_xs, ltB_f (show ¬ p < ((p.toNat : Nat) : Int) by omega), condF]
    rw [show ((numsI p).map fun v => if v < p then (-1 : Int) else 0) = (numsI p).map (mIdx (stp p n) s 0) from List.map_congr_left fun v hv => by rw [if_pos (mem_nums hv).2]; rfl]
    have k2 := lp_fun (body := L40_2 S p n) 0 (T : Int) (fun _ => some [.int .i64 (i : Int), .int .i64 ((T : Int) - i), .int .i64 0]) (fun t => [itr (stp p n) s t.toNat, t]) (fun t => [psl p.toNat ((numsI p).map (mIdx (stp p n) s t.toNat))]) ?_ ?_ LF 0 (by omega) (by omega) (by rw [LF_eq]; omega)
    · exact k2
    · intro κ t h1 ht hk
      have hN := itr_N (stp_N hp n) hs t.toNat
      have hok : okIv [(some (0, 30)), (some (0, 40))] [((some (-1, 40)), 31)] [] [itr (stp p n) s t.toNat, t] [psl p.toNat ((numsI p).map (mIdx (stp p n) s t.toNat))] [] = true := by
        rw [okIv, inIvsB, inIvsB, hN.iv hp, in1 h1 (show t ≤ 40 by omega), hin p.toNat _ (fun v hv => by obtain ⟨y, rfl⟩ := nums_ne v hv; have := idx_range (f := stp p n) (s := s) (v := y) t.toNat; omega) (by omega)]; rfl
      have e1 : ((numsI p).map (mIdx (stp p n) s t.toNat)).getD (itr (stp p n) s t.toNat).toNat 0 = -1 := by
        rw [nums_get hN]
        exact idx_none t.toNat fun j hj => hR.ne j t.toNat hj (by omega)
      have hl : itr (stp p n) s t.toNat < ((p.toNat : Nat) : Int) := by have := hN.1; have := hN.2; omega
      simp only [L40_2, hok, condT, List.headD_cons, List.tail_cons, psl_n, psl_xs]
      rw [ltB_t hl, e1, k190 hp (show 0 ≤ n ∧ n ≤ 1000000 by omega) hN, setInts_one, nums_set hN]
      simp only [List.headD_cons, show ltB (-1) 0 = true from rfl, condT]
      rw [show (fun v => if itr (stp p n) s t.toNat = v then t else mIdx (stp p n) s t.toNat v) = mIdx (stp p n) s (t.toNat + 1) from funext fun v => by
        rw [mIdx, show ((t.toNat : Nat) : Int) = t by omega]]
      rw [show (t + 1).toNat = t.toNat + 1 by omega] at hk
      exact hk
    · intro κ
      have hN := itr_N (stp_N hp n) hs T
      have hok : okIv [(some (0, 30)), (some (0, 40))] [((some (-1, 40)), 31)] [] [itr (stp p n) s T, (T : Int)] [psl p.toNat ((numsI p).map (mIdx (stp p n) s T))] [] = true := by
        rw [okIv, inIvsB, inIvsB, hN.iv hp, in1 (show (0 : Int) ≤ T by omega) (show (T : Int) ≤ 40 by omega), hin p.toNat _ (fun v hv => by obtain ⟨y, rfl⟩ := nums_ne v hv; have := idx_range (f := stp p n) (s := s) (v := y) T; omega) (by omega)]; rfl
      have e1 : ((numsI p).map (mIdx (stp p n) s T)).getD (itr (stp p n) s T).toNat 0 = (i : Int) := by
        rw [nums_get hN, ← hR.eq]
        exact idx_some T hR.lt fun j hj hij => hR.ne i j hij hj
      have hl : itr (stp p n) s T < ((p.toNat : Nat) : Int) := by have := hN.1; have := hN.2; omega
      rw [show ((T : Int)).toNat = T by omega]
      simp only [L40_2, hok, condT, List.headD_cons, List.tail_cons, psl_n, psl_xs]
      rw [ltB_t hl, e1, ltB_f (show ¬ (i : Int) < 0 by omega)]
      rfl

theorem c39_ok : S .nrm 39 [.int .i64 p, .int .i64 n, .int .i64 s] = some [.int .i64 (i : Int), .int .i64 ((T : Int) - i), .int .i64 0] := by
  have h3 := hp.ge
  have h4 := hp.le
  have hlt := hR.lt
  have hle := hR.le
  rw [eq39, P39]
  rw [k169 (decide (N p s ∧ 0 ≤ n ∧ n ≤ 1000)) (fun hp => c202 hp)]
  simp only [List.headD_cons]
  rw [codeA_dec.2 ⟨hp, hs, hn⟩, k203 hp hn hs (show 0 ≤ 2 * p + 2 ∧ 2 * p + 2 ≤ 200 by omega)]
  simp only [List.headD_cons]
  simp only [cI, leB_iff]
  rw [if_neg (by decide), if_pos (by omega), if_pos (by omega), if_pos (by omega), if_pos (by omega)]
  have hget : ∀ x : Int, 0 ≤ x → x < ((2 * p + 2).toNat + 1 : Nat) → (wlk p n s ((2 * p + 2).toNat + 1)).getD x.toNat 0 = itr (stp p n) s x.toNat := fun x h1 h2 => getD_map_range (by omega)
  have key := lp_fun (body := L39_1 S (psl ((2 * p + 2).toNat + 1) (wlk p n s ((2 * p + 2).toNat + 1)))) 0 (i : Int) (fun _ => some [.int .i64 (i : Int), .int .i64 ((T : Int) - i), .int .i64 0]) (fun x => [x]) (fun _ => []) ?_ ?_ LF 0 (by omega) (by omega) (by rw [LF_eq]; omega)
  · exact key
  · intro κ x h1 hx hk
    have hok : okIv [(some (0, 300))] [] [] [x] [] [] = true := by rw [okIv, inIvsB, in1 h1 (show x ≤ 300 by omega)]; rfl
    simp only [L39_1, hok, condT, List.headD_cons, psl_n, ltB_t (show x < (((2 * p + 2).toNat + 1 : Nat) : Int) by omega)]
    exact lp_fun (body := L39_2 S (psl ((2 * p + 2).toNat + 1) (wlk p n s ((2 * p + 2).toNat + 1))) x κ) (x + 1) (((2 * p + 2).toNat + 1 : Nat) : Int) (fun _ => some [.int .i64 (i : Int), .int .i64 ((T : Int) - i), .int .i64 0]) (fun y => [y]) (fun _ => [])
      (fun κ' y g1 g2 g3 => by
        have hok : okIv [(some (0, 300))] [] [] [y] [] [] = true := by rw [okIv, inIvsB, in1 (show 0 ≤ y by omega) (show y ≤ 300 by omega)]; rfl
        simp only [L39_2, hok, condT, List.headD_cons, psl_n, psl_xs, ltB_t g2]
        rw [hget y (by omega) g2, hget x h1 (by omega), beq_false_of_ne (hR.early (show x.toNat < i by omega) (show x.toNat < y.toNat by omega)), condF]
        exact g3)
      (fun κ' => by
        have hok : okIv [(some (0, 300))] [] [] [(((2 * p + 2).toNat + 1 : Nat) : Int)] [] [] = true := by rw [okIv, inIvsB, in1 (show (0 : Int) ≤ (((2 * p + 2).toNat + 1 : Nat) : Int) by omega) (show (((2 * p + 2).toNat + 1 : Nat) : Int) ≤ 300 by omega)]; rfl
        simp only [L39_2, hok, condT, List.headD_cons, psl_n, ltB_f (Int.lt_irrefl _), condF]
        exact hk)
      LF (x + 1) (by omega) (by omega) (by rw [LF_eq]; omega)
  · intro κ
    have hok : okIv [(some (0, 300))] [] [] [(i : Int)] [] [] = true := by rw [okIv, inIvsB, in1 (show (0 : Int) ≤ i by omega) (show (i : Int) ≤ 300 by omega)]; rfl
    simp only [L39_1, hok, condT, List.headD_cons, psl_n, ltB_t (show (i : Int) < (((2 * p + 2).toNat + 1 : Nat) : Int) by omega)]
    exact lp_fun (body := L39_2 S (psl ((2 * p + 2).toNat + 1) (wlk p n s ((2 * p + 2).toNat + 1))) i κ) ((i : Int) + 1) (T : Int) (fun _ => some [.int .i64 (i : Int), .int .i64 ((T : Int) - i), .int .i64 0]) (fun y => [y]) (fun _ => [])
      (fun κ' y g1 g2 g3 => by
        have hok : okIv [(some (0, 300))] [] [] [y] [] [] = true := by rw [okIv, inIvsB, in1 (show 0 ≤ y by omega) (show y ≤ 300 by omega)]; rfl
        simp only [L39_2, hok, condT, List.headD_cons, psl_n, psl_xs, ltB_t (show y < (((2 * p + 2).toNat + 1 : Nat) : Int) by omega)]
        rw [hget y (by omega) (by omega), hget i (by omega) (by omega), beq_false_of_ne (fun h => hR.ne i y.toNat (by omega) (by omega) (by rw [show ((i : Int)).toNat = i by omega] at h; exact h.symm)), condF]
        exact g3)
      (fun κ' => by
        have hok : okIv [(some (0, 300))] [] [] [(T : Int)] [] [] = true := by rw [okIv, inIvsB, in1 (show (0 : Int) ≤ T by omega) (show (T : Int) ≤ 300 by omega)]; rfl
        simp only [L39_2, hok, condT, List.headD_cons, psl_n, psl_xs, ltB_t (show (T : Int) < (((2 * p + 2).toNat + 1 : Nat) : Int) by omega)]
        rw [hget T (by omega) (by omega), hget i (by omega) (by omega), show ((T : Int)).toNat = T by omega, show ((i : Int)).toNat = i by omega, hR.eq, BEq.rfl, condT])
      LF ((i : Int) + 1) (by omega) (by omega) (by rw [LF_eq]; omega)
end

theorem c39_bad {p n s : Int} (h : ¬ (Fld p ∧ N p s ∧ 0 ≤ n ∧ n ≤ 1000)) : S .nrm 39 [.int .i64 p, .int .i64 n, .int .i64 s] = some [.int .i64 0, .int .i64 0, .int .i64 (codeA p (decide (N p s ∧ 0 ≤ n ∧ n ≤ 1000)))] := by
  rw [eq39, P39]
  rw [k169 (decide (N p s ∧ 0 ≤ n ∧ n ≤ 1000)) (fun hp => c202 hp)]
  simp only [List.headD_cons]
  rw [beq_false_of_ne (fun hh => h (codeA_dec.1 hh))]
  rfl
theorem c40_bad {p n s : Int} (h : ¬ (Fld p ∧ N p s ∧ 0 ≤ n ∧ n ≤ 1000)) : S .nrm 40 [.int .i64 p, .int .i64 n, .int .i64 s] = some [.int .i64 0, .int .i64 0, .int .i64 (codeA p (decide (N p s ∧ 0 ≤ n ∧ n ≤ 1000)))] := by
  rw [eq40, P40]
  simp only [psl_n, psl_xs]
  rw [k204 (show Int.toNat 1 = [s].length from rfl) (by decide)]
  simp only [List.headD_cons, areN_1]
  rw [← Bool.decide_and, beq_false_of_ne (fun hh => h (codeA_dec.1 hh))]
  rfl

/-! ### the law -/
section
variable {m : Nat} {e : List Int} (hs : Src m e)
 include hs

theorem j5_3 : J5_3 S m e [] [] [] [] = some [.bool true] := by
  obtain ⟨r, h42, p, n, x, k, rfl⟩ := c42 hs (T := 5)
  obtain ⟨r, h44, q, l, rfl⟩ := c44 hs (T := 5)
  simp only [J5_3, okIv, inIvsB, inIvSB, inIvTB, Bool.and_self, condT, psl_n, psl_xs]
  rw [callK_of h42 rfl rfl]
  simp only [List.headD_cons, List.tail_cons]
  rw [k41, k43, callK_of h44 rfl rfl]
  simp only [List.headD_cons, List.tail_cons]
  rw [k30, k45]
  simp only [List.headD_cons, psl_n, psl_xs, BEq.rfl, condT]
  rw [k36 (by split <;> simp [wlk]) (by split <;> omega)]
  simp only [List.headD_cons, condT]
  rw [k36 (by split <;> rfl) (by
    split
    · rename_i h
      have := filter_le q (fun s => decide ((ord q s : Int) = l))
      have := h.1.le
      unfold ofOrd; omega
    · omega)]
  rfl

theorem j5_2 : J5_2 S m e [] [] [] [] = some [.bool true] := by
  obtain ⟨r, h38, p, n, x, rfl⟩ := c38 hs (T := 5)
  have h3 := j5_3 hs
  simp only [J5_2, okIv, inIvsB, inIvSB, inIvTB, Bool.and_self, condT, psl_n, psl_xs]
  rw [callK_of h38 rfl rfl]
  simp only [List.headD_cons, List.tail_cons]
  by_cases hg : Fld p ∧ N p x ∧ 0 ≤ n ∧ n ≤ 1000
  · obtain ⟨hp, hx, hn⟩ := hg
    obtain ⟨i, T, hR⟩ := round_ex (stp_N hp n) hx
    have hlt := hR.lt
    have hle := hR.le
    have hp31 := hp.le
    rw [callK_of (c39_ok hp hx hn hR) rfl rfl, callK_of (c40_ok hp hx hn hR) rfl rfl]
    simp only [List.headD_cons, List.tail_cons, BEq.rfl, Bool.not_true, condF, condT]
    have hj : 0 ≤ (i : Int) + ((T : Int) - i) ∧ (i : Int) + ((T : Int) - i) ≤ 100 := by omega
    rw [k41]
    have hgd : Fld p ∧ N p x ∧ (0 ≤ n ∧ n ≤ 1000) ∧ 0 ≤ (i : Int) + ((T : Int) - i) ∧ (i : Int) + ((T : Int) - i) ≤ 100 := ⟨hp, hx, hn, hj⟩
    rw [if_pos hgd, if_pos hgd, codeA_dec.2 hgd]
    simp only [List.headD_cons, psl_n, psl_xs]
    have eT : ((i : Int) + ((T : Int) - i)).toNat = T := by omega
    have e1 : (wlk p n x (((i : Int) + ((T : Int) - i)).toNat + 1)).getD ((i : Int)).toNat 0 = itr (stp p n) x i := by
      rw [eT, show ((i : Int)).toNat = i by omega]; exact getD_map_range (by omega)
    have e2 : (wlk p n x (((i : Int) + ((T : Int) - i)).toNat + 1)).getD ((i : Int) + ((T : Int) - i)).toNat 0 = itr (stp p n) x T := by
      rw [eT]; exact getD_map_range (by omega)
    rw [e1, e2, hR.eq, eT]
    simp only [cI, leB_iff, ltB_iff]
    rw [if_pos (by omega), if_pos (by omega), if_neg (by decide), if_neg (by omega), if_pos (by omega), if_pos (by omega), if_neg (by simp; omega), if_pos (by omega), if_pos (by omega), if_pos (by omega), if_pos (by omega), if_neg (by simp)]
    exact h3
  · have hz : codeA p (decide (N p x ∧ 0 ≤ n ∧ n ≤ 1000)) ≠ 0 := fun hh => hg (codeA_dec.1 hh)
    rw [callK_of (c39_bad hg) rfl rfl, callK_of (c40_bad hg) rfl rfl]
    simp only [List.headD_cons, List.tail_cons, BEq.rfl, Bool.not_true, condF]
    rw [beq_false_of_ne hz, condF]
    exact h3

theorem j5_1 : J5_1 S m e [] [] [] [] = some [.bool true] := by
  obtain ⟨r, h33, p, rfl⟩ := c33 hs (T := 5)
  have h2 := j5_2 hs
  simp only [J5_1, okIv, inIvsB, inIvSB, inIvTB, Bool.and_self, condT, psl_n, psl_xs]
  rw [callK_of h33 rfl rfl]
  simp only [List.headD_cons, List.tail_cons]
  rw [k34, k35]
  simp only [List.headD_cons, List.tail_cons, psl_n, psl_xs, BEq.rfl, Bool.not_true, condF]
  by_cases hp : Fld p
  · simp only [if_pos hp]
    have hl := ords_le hp
    have ho := ords_head hp
    obtain ⟨rr, hrr⟩ := ho
    rw [k36 (by rw [List.length_map]) (by omega)]
    simp only [List.headD_cons, Bool.not_true, condF]
    rw [k36 (by rw [List.length_map]) (by omega)]
    simp only [List.headD_cons, Bool.not_true, condF, BEq.rfl, condT]
    rw [k37 (xs := (ords p).map (cnt p)) (List.length_map ..).symm (by omega) (fun v hv => posC_in hp 1 (4 * p.toNat + 3) v hv)]
    simp only [List.headD_cons, sum_ords hp, BEq.rfl, Bool.not_true, condF]
    have hpos : (0 : Int) < ((ords p).length : Int) := by rw [hrr]; simp
    have e1 : ((ords p).map Int.ofNat).getD (Int.toNat 0) 0 = 1 := by rw [hrr]; rfl
    have e2 : ((ords p).map (cnt p)).getD (Int.toNat 0) 0 = 1 := by rw [hrr]; exact cnt_one hp
    rw [ltB_t hpos, e1, e2]
    simp only [BEq.rfl, Bool.not_true, condF, condT]
    refine lp_fun (body := L5_1 S (psl (ords p).length ((ords p).map Int.ofNat)) p (psl (ords p).length ((ords p).map (cnt p))) m e) 0 ((ords p).length : Int) (fun _ => some [.bool true]) (fun x => [x]) (fun _ => []) ?_ ?_ LF 0 (by omega) (by omega) (by rw [LF_eq]; omega)
    · intro κ x g1 g2 hk
      have hok : okIv [(some (0, 1048576))] [] [] [x] [] [] = true := okX g1 (by omega)
      have hxl : x.toNat < (ords p).length := by omega
      have hj := ords_mem (List.getElem_mem hxl)
      have hp31 := hp.le
      have e3 : ((ords p).map Int.ofNat).getD x.toNat 0 = (((ords p)[x.toNat] : Nat) : Int) := by
        rw [List.getD_eq_getElem?_getD, List.getElem?_map, List.getElem?_eq_getElem hxl]; rfl
      have e4 : ((ords p).map (cnt p)).getD x.toNat 0 = cnt p (ords p)[x.toNat] := by
        rw [List.getD_eq_getElem?_getD, List.getElem?_map, List.getElem?_eq_getElem hxl]; rfl
      simp only [L5_1, hok, condT, List.headD_cons, psl_n, psl_xs, ltB_t g2]
      rw [k30, e3, e4]
      have hgd : Fld p ∧ 1 ≤ (((ords p)[x.toNat] : Nat) : Int) ∧ (((ords p)[x.toNat] : Nat) : Int) ≤ 1000 := ⟨hp, by omega, by omega⟩
      rw [if_pos hgd, if_pos hgd, codeA_dec.2 hgd]
      simp only [List.headD_cons, psl_n, BEq.rfl, Bool.not_true, condF]
      rw [cnt_len, BEq.rfl]
      exact hk
    · intro κ
      have hok : okIv [(some (0, 1048576))] [] [] [((ords p).length : Int)] [] [] = true := okX (by omega) (by omega)
      simp only [L5_1, hok, condT, List.headD_cons, psl_n, ltB_f (Int.lt_irrefl _), condF]
      exact h2
  · simp only [if_neg hp]
    rw [k36 (by rfl) (by omega)]
    simp only [List.headD_cons, Bool.not_true, condF]
    rw [k36 (by rfl) (by omega)]
    simp only [List.headD_cons, Bool.not_true, condF]
    exact h2
end

theorem c5 {T : TypeId} {m : Nat} {e : List Int} (hv : ∀ v ∈ e, 0 ≤ v ∧ v ≤ 255) : S .nrm 5 [.sl T .u8 1 m e] = some [.bool true] := by
  rw [eq5 _ _ _ (by simp only [okIv, inIvsB, inIvTB]; rw [inS (b := some (0, 255)) (fun v h => hv v h) (.inl (by omega))]; rfl), P5]
  simp only [psl_n, psl_xs]
  rw [k24]
  simp only [List.headD_cons]
  by_cases hm : (4096 : Int) < (m : Int)
  · rw [decide_eq_true hm]; rfl
  · have hs : Src m e := ⟨by omega, hv⟩
    obtain ⟨r, h25, p, s, rfl⟩ := c25 hs (T := 5)
    have h1 := j5_1 hs
    rw [decide_eq_false hm, condF, callK_of h25 rfl rfl]
    simp only [List.headD_cons, List.tail_cons]
    rw [k26, k27]
    simp only [List.headD_cons, List.tail_cons]
    rw [k28, k29]
    simp only [List.headD_cons, List.tail_cons, BEq.rfl, Bool.not_true, condF]
    by_cases hg : Fld p ∧ N p s
    · obtain ⟨hp, hN⟩ := hg
      have ho := op hp hN
      have o1 := ho.o1; have oq := ho.oq; have q1 := ho.q1; have o2 := ho.o2
      have hp31 := hp.le
      rw [codeA_dec.2 ⟨hp, hN⟩, if_pos ⟨hp, hN⟩, if_pos ⟨hp, hN⟩]
      simp only [BEq.rfl, condT]
      rw [k30, k31]
      have hg1 : Fld p ∧ 1 ≤ (ord p s : Int) ∧ (ord p s : Int) ≤ 1000 := ⟨hp, by omega, by omega⟩
      have hg2 : Fld p ∧ N p s ∧ 0 ≤ (per p s : Int) + 1 ∧ (per p s : Int) + 1 ≤ 1000 := ⟨hp, hN, by omega, by omega⟩
      rw [if_pos hg1, if_pos hg1, codeA_dec.2 hg1, if_pos hg2, codeA_dec.2 hg2]
      simp only [List.headD_cons, List.tail_cons, psl_n, psl_xs]
      have hfl := filter_le p (fun x => decide ((ord p x : Int) = (ord p s : Int)))
      rw [k32 (show (ofOrd p (ord p s : Int)).length = (ofOrd p (ord p s : Int)).length from rfl) (show (ofOrd p (ord p s : Int)).length ≤ 1048576 by unfold ofOrd; omega)]
      simp only [List.headD_cons]
      have hmem : s ∈ ofOrd p (ord p s : Int) := by
        unfold ofOrd; rw [List.mem_filter]; exact ⟨hN.mem, by simp⟩
      have hdv : Int.tmod (per p s : Int) (ord p s : Int) = 0 := by
        rw [Int.tmod_eq_emod_of_nonneg (by omega), ← Int.natCast_emod, ho.dv]; rfl
      have hsv : Sv p s ((per p s : Int) + 1).toNat = s := ho.qz.2
      rw [decide_eq_true hmem, hdv, hsv]
      simp only [cI, leB_iff, ltB_iff]
      rw [if_pos (by omega), if_pos (by omega), if_neg (by decide), if_neg (by decide), if_neg (by omega), if_pos (by simp; omega), if_neg (by decide), if_neg (by decide), if_neg (by simp)]
      exact h1
    · have hz : codeA p (decide (N p s)) ≠ 0 := fun hh => hg (codeA_dec.1 hh)
      rw [if_neg hg, if_neg hg, beq_false_of_ne hz, condF]
      exact h1
end Go.Proofs.Ytelejhggpkfdoaa.SX

