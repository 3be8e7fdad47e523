/- part of a proof: no condition of its own -/
import Derived.Test.YtelejhggpkfdoaaEVA
namespace Go.Proofs.Ytelejhggpkfdoaa.SX
set_option linter.unusedVariables false
theorem mod_eq {p x : Int} (h : 0 < p) : (x.tmod p + p).tmod p = x % p := by
  have h1 : 0 ≤ x.tmod p + p := by have := Int.lt_tmod_of_pos x h; omega
  rw [Int.tmod_eq_emod_of_nonneg h1, Int.add_emod_right, Int.tmod_eq_emod]
  split
  · simp
  · rw [show ((p.natAbs : Nat) : Int) = p by omega, Int.sub_emod, Int.emod_self]; simp

/-- the primes of the program -/
def Fld (p : Int) : Prop := p = 3 ∨ p = 5 ∨ p = 7 ∨ p = 11 ∨ p = 13 ∨ p = 17 ∨ p = 19 ∨ p = 23 ∨ p = 29 ∨ p = 31
instance : DecidablePred Fld := fun p => by unfold Fld; infer_instance
theorem Fld.ge {p : Int} (h : Fld p) : 3 ≤ p := by unfold Fld at h; omega
theorem Fld.le {p : Int} (h : Fld p) : p ≤ 31 := by unfold Fld at h; omega

theorem mod_bds {p : Int} (x : Int) (h1 : 3 ≤ p) (h2 : p ≤ 31) : 0 ≤ x % p ∧ x % p ≤ 30 := by
  have := Int.emod_nonneg x (b := p) (by omega)
  have := Int.emod_lt_of_pos x (b := p) (by omega)
  omega

/-- the inverse, 0 for 0 -/
def InvN (p a : Nat) : Nat := a ^ (p - 2) % p
def Inv (p a : Int) : Int := InvN p.toNat (a % p).toNat
def primes : List Nat := [3, 5, 7, 11, 13, 17, 19, 23, 29, 31]
theorem Fld.mem {p : Int} (h : Fld p) : p.toNat ∈ primes ∧ (p.toNat : Int) = p := by
  unfold Fld at h
  rcases h with h | h | h | h | h | h | h | h | h | h <;> subst h <;> decide
theorem inv_uniq : ∀ p ∈ primes, ∀ a ∈ List.range p, ∀ x ∈ List.range p, a * x % p = 1 → InvN p a = x := by decide +kernel
theorem inv_none : ∀ p ∈ primes, ∀ a ∈ List.range p, (∀ x ∈ List.range p, a * x % p ≠ 1) → InvN p a = 0 := by decide +kernel
theorem inv_mul : ∀ p ∈ primes, ∀ a ∈ List.range p, a ≠ 0 → a * InvN p a % p = 1 := by decide +kernel

theorem emod_mul_l (a x p : Int) : a % p * x % p = a * x % p := by rw [Int.mul_emod, Int.emod_emod, ← Int.mul_emod]

theorem emod_toNat {p a : Int} (hp : Fld p) : ((a % p).toNat : Int) = a % p ∧ (a % p).toNat ∈ List.range p.toNat := by
  have h1 := hp.ge
  have := Int.emod_nonneg a (b := p) (by omega)
  have := Int.emod_lt_of_pos a (b := p) (by omega)
  refine ⟨by omega, by rw [List.mem_range]; omega⟩

theorem Inv_of {p a x : Int} (hp : Fld p) (hx : 0 ≤ x) (hx2 : x < p) (h : a * x % p = 1) : Inv p a = x := by
  obtain ⟨m1, m2⟩ := hp.mem
  obtain ⟨e1, e2⟩ := emod_toNat (a := a) hp
  have := inv_uniq _ m1 _ e2 x.toNat (by rw [List.mem_range]; omega) (by
    apply Int.ofNat_inj.1
    rw [Int.natCast_emod, Int.natCast_mul, e1, m2, Int.toNat_of_nonneg hx, emod_mul_l]
    exact h)
  unfold Inv; rw [this]; omega
theorem Inv_zero {p a : Int} (hp : Fld p) (h : ∀ x, 0 ≤ x → x < p → a * x % p ≠ 1) : Inv p a = 0 := by
  obtain ⟨m1, m2⟩ := hp.mem
  obtain ⟨e1, e2⟩ := emod_toNat (a := a) hp
  have := inv_none _ m1 _ e2 (fun x hx hh => h x (by omega) (by rw [List.mem_range] at hx; omega) (by
    have := congrArg (Nat.cast : Nat → Int) hh
    rw [Int.natCast_emod, Int.natCast_mul, e1, m2, emod_mul_l] at this
    exact this))
  unfold Inv; rw [this]; rfl
theorem Inv_mul {p a : Int} (hp : Fld p) (h : a % p ≠ 0) : a * Inv p a % p = 1 := by
  obtain ⟨m1, m2⟩ := hp.mem
  obtain ⟨e1, e2⟩ := emod_toNat (a := a) hp
  have := inv_mul _ m1 _ e2 (by omega)
  have := congrArg (Nat.cast : Nat → Int) this
  rw [Int.natCast_emod, Int.natCast_mul, e1, m2, emod_mul_l] at this
  exact this
theorem Inv_bds {p : Int} (a : Int) (hp : Fld p) : 0 ≤ Inv p a ∧ Inv p a < p := by
  obtain ⟨m1, m2⟩ := hp.mem
  have := hp.ge
  have : InvN p.toNat (a % p).toNat < p.toNat := Nat.mod_lt _ (by omega)
  unfold Inv; omega
theorem Inv_mod {p a : Int} : Inv p (a % p) = Inv p a := by unfold Inv; rw [Int.emod_emod]

/-- the quotient -/
def Div (p a b : Int) : Int := a * Inv p b % p
theorem fld_fin : ∀ p ∈ List.range 32, 3 ≤ p → ∀ d ∈ List.range 32, 2 ≤ d → (d * d ≤ p → p % d = 0 → ¬ Fld (p : Int)) ∧ (p < d * d → (∀ y ∈ List.range d, 2 ≤ y → p % y ≠ 0) → Fld (p : Int)) := by decide +kernel

theorem powmod (x p : Int) (n : Nat) : (x % p) ^ n % p = x ^ n % p := by
  induction n with
  | zero => simp
  | succ n ih => rw [Int.pow_succ, Int.pow_succ, Int.mul_emod, ih, Int.emod_emod, ← Int.mul_emod]

theorem Inv_pow {p a : Int} (hp : Fld p) : Inv p a = (a % p) ^ (p - 2).toNat % p := by
  obtain ⟨m1, m2⟩ := hp.mem
  obtain ⟨e1, e2⟩ := emod_toNat (a := a) hp
  have := hp.ge
  unfold Inv InvN
  rw [Int.natCast_emod, Int.natCast_pow, e1, m2, show p.toNat - 2 = (p - 2).toNat by omega]

theorem pow_step {p o b : Int} {n : Nat} : (o * b % p) * (b * b % p) ^ n % p = o * b ^ (2 * n + 1) % p := by
  rw [Int.mul_emod, Int.emod_emod, powmod, ← Int.mul_emod, Int.mul_pow, Int.pow_succ, Int.pow_mul, Int.pow_succ, Int.pow_succ, Int.pow_zero, Int.one_mul, Int.mul_pow]
  congr 1; grind
theorem pow_step' {p o b : Int} {n : Nat} : o * (b * b % p) ^ n % p = o * b ^ (2 * n) % p := by
  rw [Int.mul_emod, powmod, ← Int.mul_emod, Int.mul_pow, Int.pow_mul, Int.pow_succ, Int.pow_succ, Int.pow_zero, Int.one_mul, Int.mul_pow]


theorem tmod_mul (a b p : Int) : (a.tmod p * b) % p = (a % p * b) % p := by
  rw [Int.mul_emod, Int.tmod_eq_emod, Int.mul_emod (a % p)]
  split
  · simp
  · rw [Int.sub_emod, Int.emod_emod]
    have : ((p.natAbs : Nat) : Int) % p = 0 := by
      rcases Int.natAbs_eq p with h | h
      · rw [show ((p.natAbs : Nat) : Int) = p by omega]; simp
      · rw [show ((p.natAbs : Nat) : Int) = -p by omega]; simp
    rw [this]; simp
/-- a number modulo p -/
def N (p x : Int) : Prop := 0 ≤ x ∧ x < p
instance (p x : Int) : Decidable (N p x) := by unfold N; infer_instance
theorem N_mod {p x : Int} (hp : Fld p) : N p (x % p) := ⟨Int.emod_nonneg _ (by have := hp.ge; omega), Int.emod_lt_of_pos _ (by have := hp.ge; omega)⟩
theorem N_inv {p x : Int} (hp : Fld p) : N p (Inv p x) := Inv_bds x hp
theorem N_div {p x y : Int} (hp : Fld p) : N p (Div p x y) := N_mod hp
theorem N_0 {p : Int} (hp : Fld p) : N p 0 := ⟨by omega, by have := hp.ge; omega⟩
theorem N_1 {p : Int} (hp : Fld p) : N p 1 := ⟨by omega, by have := hp.ge; omega⟩
theorem N_2 {p : Int} (hp : Fld p) : N p 2 := ⟨by omega, by have := hp.ge; omega⟩
theorem N.mod {p x : Int} (h : N p x) : x % p = x := Int.emod_eq_of_lt h.1 h.2
theorem N.le {p x : Int} (h : N p x) (hp : Fld p) : x ≤ 30 := by have := h.2; have := hp.le; omega
theorem N.ge {p x : Int} (h : N p x) : 0 ≤ x := h.1
theorem N.lt {p x : Int} (h : N p x) : x < p := h.2
theorem N.iv {p x : Int} (h : N p x) (hp : Fld p) : inIvB (some (0, 30)) x = true := by
  simp only [inIvB, Bool.and_eq_true, leB_iff]; exact ⟨h.1, h.le hp⟩
theorem Fld.iv {p : Int} (hp : Fld p) : inIvB (some (3, 31)) p = true := by
  simp only [inIvB, Bool.and_eq_true, leB_iff]; exact ⟨hp.ge, hp.le⟩
theorem iv_mod {p x : Int} (hp : Fld p) : inIvB (some (0, 30)) (x % p) = true := (N_mod hp).iv hp
theorem iv_inv {p x : Int} (hp : Fld p) : inIvB (some (0, 30)) (Inv p x) = true := (N_inv hp).iv hp
theorem iv_div {p x y : Int} (hp : Fld p) : inIvB (some (0, 30)) (Div p x y) = true := (N_div hp).iv hp
theorem iv_any (x : Int) : inIvB none x = true := rfl

theorem cI {α : Type} (b : Bool) (x y : α) : (bif b then x else y) = if b = true then x else y := Bool.cond_eq_ite ..
theorem ltB_eq {a b : Int} : ltB a b = decide (a < b) := rfl
theorem leB_eq {a b : Int} : leB a b = decide (a ≤ b) := rfl
theorem ltB_t {a b : Int} (h : a < b) : ltB a b = true := ltB_iff.2 h
theorem ltB_f {a b : Int} (h : ¬ a < b) : ltB a b = false := by simpa [ltB] using h
theorem leB_t {a b : Int} (h : a ≤ b) : leB a b = true := leB_iff.2 h
theorem leB_f {a b : Int} (h : ¬ a ≤ b) : leB a b = false := by simpa [leB] using h
/-- not by 'rfl': else the kernel compares the conditions -/
theorem condT {α : Type} (a b : α) : (bif true then a else b) = a := Bool.cond_true ..
theorem condF {α : Type} (a b : α) : (bif false then a else b) = b := Bool.cond_false ..
theorem lp_step {m : Nat} {body : Kt → Kt} {i b s t} (h : m ≠ 0) : lp m body i b s t = body (lp (m - 1) body) i b s t := by
  cases m with
  | zero => exact absurd rfl h
  | succ m => rfl

/-- a loop that counts up -/
theorem lp_fun {body : Kt → Kt} (lo hi : Int) (F : Int → Option (List PA)) (ai : Int → List Int) (as : Int → List Sl)
    (h1 : ∀ (κ : Kt) (x : Int), lo ≤ x → x < hi → κ (ai (x + 1)) [] (as (x + 1)) [] = F (x + 1) → body κ (ai x) [] (as x) [] = F x)
    (h2 : ∀ κ : Kt, body κ (ai hi) [] (as hi) [] = F hi) : ∀ (m : Nat) (x : Int), lo ≤ x → x ≤ hi → (hi - x).toNat < m → lp m body (ai x) [] (as x) [] = F x := by
  intro m
  induction m with
  | zero => intro x _ _ h; omega
  | succ m ih =>
    intro x hlo hx hm
    rw [lp_succ]
    by_cases h : x = hi
    · subst h; exact h2 _
    · exact h1 _ x hlo (by omega) (ih (x + 1) (by omega) (by omega) (by omega))

/-- a loop with an invariant -/
theorem lp_inv {body : Kt → Kt} {r : Option (List PA)} (I : List Int → List Sl → Nat → Prop)
    (h : ∀ (κ : Kt) i s n, I i s n → (∀ i' s' n', n' < n → I i' s' n' → κ i' [] s' [] = r) → body κ i [] s [] = r) : ∀ (m : Nat) i s n, n < m → I i s n → lp m body i [] s [] = r := by
  intro m
  induction m with
  | zero => intro i s n h; omega
  | succ m ih =>
    intro i s n hn hI
    rw [lp_succ]
    exact h _ i s n hI fun i' s' n' hlt hI' => ih i' s' n' (by omega) hI'

theorem psl_n (n : Nat) (xs : List Int) : (psl n xs).n = n := rfl
theorem psl_xs (n : Nat) (xs : List Int) : (psl n xs).xs = xs := rfl
/-- all are numbers modulo p -/
def areN (p : Int) (xs : List Int) : Bool := xs.all fun x => decide (N p x)
theorem drop_cons {xs : List Int} {x : Int} (h : 0 ≤ x) (h2 : x < xs.length) : xs.drop x.toNat = xs.getD x.toNat 0 :: xs.drop (x + 1).toNat := by
  have h3 : x.toNat < xs.length := by omega
  rw [List.drop_eq_getElem_cons h3, show (x + 1).toNat = x.toNat + 1 by omega, List.getD_eq_getElem?_getD, List.getElem?_eq_getElem h3]; rfl
theorem drop_end {xs : List Int} : xs.drop ((xs.length : Int)).toNat = [] := by simp
theorem lenLF {n : Nat} (h : n ≤ 1048576) : ((n : Int) - 0).toNat < LF := by rw [LF_eq]; omega

/-! ### calls -/
section
variable {S : Tab} {kd : Kd} {g : FuncId} {pas : List PA} {k : Kt}
theorem callK_of {shs : List Sh} {bi : List Iv} {bS : List (Iv × Int)} {bT : List Int} {res : List PA} {i : List Int} {b : List Bool} {s : List Sl} {t : List ByteArray} (h : S kd g pas = some res) (hu : unpack shs res = some ⟨i, b, s, t⟩) (ho : okIv bi bS bT i s t = true) :
    callK S kd g pas shs bi bS bT k = k i b s t := by
  unfold callK; simp only [h, hu, ho, if_true]
end
end Go.Proofs.Ytelejhggpkfdoaa.SX

/-
  M2: spread polynomials' values, orders, periods: plain facts.
-/
namespace Go.Proofs.Ytelejhggpkfdoaa.SX
set_option linter.unusedVariables false
set_option linter.unusedSimpArgs false

/-- two values that follow each other -/
def Sp (p s : Int) : Nat → Int × Int
  | 0 => (0, s)
  | n + 1 => ((Sp p s n).2, (2 * (1 - 2 * s) * (Sp p s n).2 - (Sp p s n).1 + 2 * s) % p)
/-- the n-th spread polynomial's value -/
def Sv (p s : Int) (n : Nat) : Int := (Sp p s n).1
theorem Sv_0 (p s : Int) : Sv p s 0 = 0 := rfl
theorem Sv_1 (p s : Int) : Sv p s 1 = s := rfl
theorem Sv_2 (p s : Int) (n : Nat) : Sv p s (n + 2) = (2 * (1 - 2 * s) * Sv p s (n + 1) - Sv p s n + 2 * s) % p := rfl
theorem Sv_N {p s : Int} (hp : Fld p) (hs : N p s) : ∀ n, N p (Sv p s n)
  | 0 => N_0 hp
  | 1 => hs
  | n + 2 => by rw [Sv_2]; exact N_mod hp

def primesI : List Int := [3, 5, 7, 11, 13, 17, 19, 23, 29, 31]
theorem Fld.memI {p : Int} (h : Fld p) : p ∈ primesI := by
  unfold Fld at h
  rcases h with h | h | h | h | h | h | h | h | h | h <;> subst h <;> decide

/-- the first n from some place on of whose values Q holds -/
def fo (p s : Int) (Q : Int → Int → Bool) : Nat → Int → Int → Nat → Option Nat
  | 0, _, _, _ => none
  | f + 1, a, b, n => if Q a b = true then some n else fo p s Q f b ((2 * (1 - 2 * s) * b - a + 2 * s) % p) (n + 1)
theorem fo_spec {p s : Int} {Q : Int → Int → Bool} : ∀ (f n m : Nat), fo p s Q f (Sv p s n) (Sv p s (n + 1)) n = some m → n ≤ m ∧ m < n + f ∧ Q (Sv p s m) (Sv p s (m + 1)) = true ∧ ∀ k, n ≤ k → k < m → Q (Sv p s k) (Sv p s (k + 1)) = false
  | 0, n, m, h => by simp [fo] at h
  | f + 1, n, m, h => by
    simp only [fo] at h
    split at h
    · rename_i hq
      injection h with h; subst h
      exact ⟨Nat.le_refl _, by omega, hq, fun k h1 h2 => by omega⟩
    · rename_i hq
      have := fo_spec f (n + 1) m h
      obtain ⟨h1, h2, h3, h4⟩ := this
      refine ⟨by omega, by omega, h3, fun k g1 g2 => ?_⟩
      rcases Nat.lt_or_eq_of_le g1 with h | h
      · exact h4 k h g2
      · subst h; simpa using hq

def qO (a _b : Int) : Bool := a == 0
def qP (s : Int) (a b : Int) : Bool := a == 0 && b == s
def ordO (p s : Int) : Option Nat := fo p s qO 130 s (Sv p s 2) 1
def perO (p s : Int) : Option Nat := fo p s (qP s) 130 s (Sv p s 2) 1
/-- the order and the period -/
def ord (p s : Int) : Nat := (ordO p s).getD 0
def per (p s : Int) : Nat := (perO p s).getD 0

def numsI (p : Int) : List Int := (List.range p.toNat).map Int.ofNat
def okOP (p s : Int) : Bool := match ordO p s, perO p s with
  | some o, some q => decide (1 ≤ o ∧ o ≤ q ∧ q % o = 0 ∧ q ≤ 124 ∧ q + 1 < 2 * p.toNat * p.toNat + 3 ∧ o < 4 * p.toNat + 4)
  | _, _ => false
theorem okOP_all : ∀ p ∈ primesI, ∀ s ∈ numsI p, okOP p s = true := by decide +kernel
theorem N.mem {p x : Int} (h : N p x) : x ∈ numsI p := by
  unfold numsI
  rw [List.mem_map]
  exact ⟨x.toNat, by rw [List.mem_range]; have := h.1; have := h.2; omega, by show (x.toNat : Int) = x; have := h.1; omega⟩
theorem mem_nums {p x : Int} (h : x ∈ numsI p) : N p x := by
  unfold numsI at h
  rw [List.mem_map] at h
  obtain ⟨n, h1, rfl⟩ := h
  rw [List.mem_range] at h1
  exact ⟨by show (0 : Int) ≤ (n : Int); omega, by show (n : Int) < p; omega⟩

structure OP (p s : Int) : Prop where
  o1 : 1 ≤ ord p s
  oq : ord p s ≤ per p s
  dv : per p s % ord p s = 0
  q1 : per p s ≤ 124
  q2 : per p s + 1 < 2 * p.toNat * p.toNat + 3
  o2 : ord p s < 4 * p.toNat + 4
  oz : Sv p s (ord p s) = 0
  on : ∀ k, 1 ≤ k → k < ord p s → Sv p s k ≠ 0
  qz : Sv p s (per p s) = 0 ∧ Sv p s (per p s + 1) = s
  qn : ∀ k, 1 ≤ k → k < per p s → ¬ (Sv p s k = 0 ∧ Sv p s (k + 1) = s)
theorem op {p s : Int} (hp : Fld p) (hs : N p s) : OP p s := by
  have h := okOP_all p hp.memI s hs.mem
  unfold okOP at h
  split at h
  · rename_i o q ho hq
    have eo : ord p s = o := by unfold ord; rw [ho]; rfl
    have eq : per p s = q := by unfold per; rw [hq]; rfl
    obtain ⟨o1, o2, o3, o4⟩ := fo_spec (p := p) (s := s) (Q := qO) 130 1 o ho
    obtain ⟨q1, q2, q3, q4⟩ := fo_spec (p := p) (s := s) (Q := qP s) 130 1 q hq
    simp only [decide_eq_true_eq] at h
    refine ⟨by omega, by omega, by rw [eo, eq]; exact h.2.2.1, by omega, by rw [eq]; exact h.2.2.2.2.1, by rw [eo]; exact h.2.2.2.2.2, by rw [eo]; simpa [qO] using o3, ?_, by rw [eq]; simpa [qP] using q3, ?_⟩
    · rw [eo]; intro k h1 h2; simpa [qO] using o4 k h1 h2
    · rw [eq]; intro k h1 h2
      have := q4 k h1 h2
      simpa [qP] using this
  · simp at h

theorem getD_map_range {f : Nat → Int} {n j : Nat} (h : j < n) : ((List.range n).map f).getD j 0 = f j := by
  rw [List.getD_eq_getElem?_getD, List.getElem?_map, List.getElem?_range h]; rfl

/-! ### orders of all numbers -/
/-- how many of the first x numbers have the order j -/
def cntx (p : Int) : Nat → Nat → Int
  | 0, _ => 0
  | x + 1, j => cntx p x j + (if ord p (x : Int) = j then 1 else 0)
def ofOrd (p n : Int) : List Int := (numsI p).filter fun s => decide ((ord p s : Int) = n)
theorem cntx_ge (p : Int) (j : Nat) : ∀ x, 0 ≤ cntx p x j
  | 0 => Int.le_refl _
  | x + 1 => by simp only [cntx]; have := cntx_ge p j x; split <;> omega
theorem cntx_le (p : Int) (j : Nat) : ∀ x, cntx p x j ≤ x
  | 0 => Int.le_refl _
  | x + 1 => by simp only [cntx]; have := cntx_le p j x; split <;> omega
theorem cntx_len (p : Int) (j : Nat) : ∀ x, (((List.range x).map Int.ofNat).filter fun s => decide ((ord p s : Int) = j)).length = cntx p x j
  | 0 => rfl
  | x + 1 => by
    rw [List.range_succ, List.map_append, List.filter_append, List.length_append, Int.natCast_add, cntx_len p j x, cntx]
    congr 1
    simp only [List.map_cons, List.map_nil]
    show (((([(x : Int)]).filter _).length : Nat) : Int) = _
    by_cases h : ord p (x : Int) = j
    · simp [h]
    · rw [if_neg h]
      simp only [List.filter_cons, List.filter_nil]
      rw [if_neg (by simp; omega)]; rfl
/-- the count of an order -/
def cnt (p : Int) (j : Nat) : Int := cntx p p.toNat j
theorem cnt_len (p : Int) (j : Nat) : ((ofOrd p j).length : Int) = cnt p j := cntx_len p j p.toNat
theorem cntx_zero {p : Int} (hp : Fld p) {j : Nat} (h : j = 0 ∨ 4 * p.toNat + 4 ≤ j) : ∀ x : Nat, (x : Int) ≤ p → cntx p x j = 0
  | 0, _ => rfl
  | x + 1, hx => by
    have ho := op hp (s := (x : Int)) ⟨by omega, by omega⟩
    rw [cntx, cntx_zero hp h x (by omega), if_neg (by have := ho.o1; have := ho.o2; omega)]; rfl
theorem cnt_zero {p : Int} (hp : Fld p) {j : Nat} (h : j = 0 ∨ 4 * p.toNat + 4 ≤ j) : cnt p j = 0 := cntx_zero hp h _ (by have := hp.ge; omega)
theorem ord_one {p s : Int} (hp : Fld p) (hs : N p s) : ord p s = 1 ↔ s = 0 := by
  have ho := op hp hs
  constructor
  · intro h; have := ho.oz; rw [h, Sv_1] at this; exact this
  · intro h
    have h1 := ho.o1
    rcases Nat.lt_or_eq_of_le h1 with h2 | h2
    · exact (ho.on 1 (Nat.le_refl _) h2 (by rw [Sv_1]; exact h)).elim
    · exact h2.symm
theorem cntx_one {p : Int} (hp : Fld p) : ∀ x : Nat, 1 ≤ x → (x : Int) ≤ p → cntx p x 1 = 1
  | 0, h, _ => by omega
  | 1, _, h => by
    have := (ord_one hp (s := 0) (N_0 hp)).2 rfl
    simp only [cntx]
    rw [if_pos (by exact this)]; rfl
  | x + 2, _, h => by
    have := ord_one hp (s := ((x + 1 : Nat) : Int)) ⟨by omega, by omega⟩
    rw [cntx, cntx_one hp (x + 1) (by omega) (by omega), if_neg (fun hh => by have := this.1 hh; omega)]; rfl
theorem cnt_one {p : Int} (hp : Fld p) : cnt p 1 = 1 := cntx_one hp _ (by have := hp.ge; omega) (by have := hp.ge; omega)

/-- the orders that are met, from a place on -/
def posN (p : Int) (lo n : Nat) : List Nat := (List.range' lo n).filter fun j => decide (0 < cnt p j)
theorem posN_succ (p : Int) (lo n : Nat) : posN p lo (n + 1) = posN p lo n ++ (if 0 < cnt p (lo + n) then [lo + n] else []) := by
  unfold posN
  rw [List.range'_concat, List.filter_append]
  congr 1
  simp only [Nat.one_mul, List.filter_cons, List.filter_nil, decide_eq_true_eq]
theorem posN_end {p : Int} (hp : Fld p) (lo : Nat) : ∀ n, 4 * p.toNat + 4 ≤ lo → posN p lo n = []
  | 0, _ => rfl
  | n + 1, h => by rw [posN_succ, posN_end hp lo n h, cnt_zero hp (.inr (by omega))]; rfl
/-- all orders that are met -/
def ords (p : Int) : List Nat := posN p 1 (4 * p.toNat + 3)
theorem posN_split (p : Int) (lo a b : Nat) : posN p lo (a + b) = posN p lo a ++ posN p (lo + a) b := by
  unfold posN
  rw [← List.filter_append]
  congr 1
  have := List.range'_append (s := lo) (m := a) (n := b) (step := 1)
  rw [Nat.one_mul] at this
  rw [this, Nat.add_comm]
theorem posN_all {p : Int} (hp : Fld p) {n : Nat} (h : 4 * p.toNat + 4 ≤ n) : posN p 0 n = ords p := by
  obtain ⟨k, rfl⟩ : ∃ k, n = 1 + ((4 * p.toNat + 3) + k) := ⟨n - (4 * p.toNat + 4), by omega⟩
  rw [posN_split, posN_split, posN_end hp _ k (by omega), List.append_nil]
  have : posN p 0 1 = [] := by unfold posN; simp [cnt_zero hp (.inl rfl)]
  rw [this]; simp [ords]
theorem ords_head {p : Int} (hp : Fld p) : ∃ r, ords p = 1 :: r := by
  unfold ords
  rw [show 4 * p.toNat + 3 = 1 + (4 * p.toNat + 2) by omega, posN_split]
  have : posN p 1 1 = [1] := by unfold posN; simp [cnt_one hp]
  rw [this]; exact ⟨_, rfl⟩
theorem ords_mem {p : Int} {j : Nat} (h : j ∈ ords p) : 1 ≤ j ∧ j < 4 * p.toNat + 4 := by
  unfold ords posN at h
  rw [List.mem_filter, List.mem_range'] at h
  obtain ⟨⟨i, h1, h2⟩, _⟩ := h
  omega
/-- the counts, summed -/
def sumL : List Int → Int
  | [] => 0
  | x :: r => x + sumL r
theorem sumL_app : ∀ a b : List Int, sumL (a ++ b) = sumL a + sumL b
  | [], b => by simp [sumL]
  | x :: r, b => by simp only [List.cons_append, sumL, sumL_app r b]; omega
theorem sum_posN (p : Int) (lo : Nat) (hn : ∀ j, 0 ≤ cnt p j) : ∀ n, sumL ((posN p lo n).map (cnt p)) = sumL ((List.range' lo n).map (cnt p))
  | 0 => rfl
  | n + 1 => by
    rw [posN_succ, List.range'_concat, List.map_append, List.map_append, sumL_app, sumL_app, sum_posN p lo hn n]
    congr 1
    have := hn (lo + n)
    by_cases h : 0 < cnt p (lo + n)
    · rw [if_pos h]; simp [sumL]
    · rw [if_neg h]; simp [sumL]; omega
theorem sum_ind (k lo : Nat) : ∀ n, lo ≤ k → k < lo + n → sumL ((List.range' lo n).map fun j => if k = j then (1 : Int) else 0) = 1
  | 0, h1, h2 => by omega
  | n + 1, h1, h2 => by
    rw [List.range'_concat, List.map_append, sumL_app]
    simp only [Nat.one_mul, List.map_cons, List.map_nil, sumL]
    by_cases h : k = lo + n
    · have : ∀ m, m ≤ n → sumL ((List.range' lo m).map fun j => if k = j then (1 : Int) else 0) = 0 := by
        intro m
        induction m with
        | zero => intro _; rfl
        | succ m ih =>
          intro hm
          rw [List.range'_concat, List.map_append, sumL_app, ih (by omega)]
          simp only [Nat.one_mul, List.map_cons, List.map_nil, sumL]
          rw [if_neg (by omega)]; rfl
      rw [this n (Nat.le_refl _), if_pos h]; rfl
    · rw [sum_ind k lo n h1 (by omega), if_neg h]; rfl
theorem sumL_add (f g : Nat → Int) : ∀ l : List Nat, sumL (l.map fun j => f j + g j) = sumL (l.map f) + sumL (l.map g)
  | [] => rfl
  | x :: r => by simp only [List.map_cons, sumL, sumL_add f g r]; omega
theorem sum_cntx {p : Int} (hp : Fld p) (n : Nat) (hn : 4 * p.toNat + 3 ≤ n) : ∀ x : Nat, (x : Int) ≤ p → sumL ((List.range' 1 n).map (cntx p x)) = x
  | 0, _ => by
    have : ∀ l : List Nat, sumL (l.map (cntx p 0)) = 0 := by
      intro l; induction l with
      | nil => rfl
      | cons a l ih => simp only [List.map_cons, sumL, ih]; rfl
    exact this _
  | x + 1, hx => by
    have ho := op hp (s := (x : Int)) ⟨by omega, by omega⟩
    have e : cntx p (x + 1) = fun j => cntx p x j + (if ord p (x : Int) = j then 1 else 0) := rfl
    rw [e, sumL_add, sum_cntx hp n hn x (by omega), sum_ind _ 1 n ho.o1 (by have := ho.o2; omega)]; rfl
theorem sum_ords {p : Int} (hp : Fld p) : sumL ((ords p).map (cnt p)) = p := by
  unfold ords
  rw [sum_posN p 1 (fun j => cntx_ge p j _)]
  have := sum_cntx hp (4 * p.toNat + 3) (Nat.le_refl _) p.toNat (by have := hp.ge; omega)
  rw [show (cnt p) = cntx p p.toNat from rfl, this]
  have := hp.ge; omega
end Go.Proofs.Ytelejhggpkfdoaa.SX

/-
  M3: walks: a map of finitely many numbers comes round.
-/
namespace Go.Proofs.Ytelejhggpkfdoaa.SX
set_option linter.unusedVariables false
set_option linter.unusedSimpArgs false

def itr (f : Int → Int) (s : Int) : Nat → Int
  | 0 => s
  | n + 1 => f (itr f s n)

theorem pigeon : ∀ (n : Nat) (g : Nat → Nat), (∀ i, i ≤ n → g i < n) → ∃ i j, i < j ∧ j ≤ n ∧ g i = g j
  | 0, g, h => by have := h 0 (Nat.le_refl _); omega
  | n + 1, g, h => by
    by_cases hx : ∃ i, i ≤ n ∧ g i = g (n + 1)
    · obtain ⟨i, h1, h2⟩ := hx; exact ⟨i, n + 1, by omega, Nat.le_refl _, h2⟩
    · have hv := h (n + 1) (Nat.le_refl _)
      obtain ⟨i, j, h1, h2, h3⟩ := pigeon n (fun i => if g i = n then g (n + 1) else g i) (fun i hi => by
        have h4 := h i (by omega)
        have h5 : g i ≠ g (n + 1) := fun he => hx ⟨i, hi, he⟩
        show (if g i = n then g (n + 1) else g i) < n
        split <;> omega)
      refine ⟨i, j, h1, by omega, ?_⟩
      have h5 : g i ≠ g (n + 1) := fun he => hx ⟨i, by omega, he⟩
      have h6 : g j ≠ g (n + 1) := fun he => hx ⟨j, by omega, he⟩
      replace h3 : (if g i = n then g (n + 1) else g i) = (if g j = n then g (n + 1) else g j) := h3
      split at h3 <;> split at h3 <;> omega

theorem itr_N {p : Int} {f : Int → Int} (hf : ∀ x, N p x → N p (f x)) {s : Int} (hs : N p s) : ∀ n, N p (itr f s n)
  | 0 => hs
  | n + 1 => hf _ (itr_N hf hs n)

/-- where a walk first comes round -/
structure Rnd (f : Int → Int) (s : Int) (p : Int) (i T : Nat) : Prop where
  lt : i < T
  le : (T : Int) ≤ p
  eq : itr f s i = itr f s T
  ne : ∀ a b, a < b → b < T → itr f s a ≠ itr f s b

theorem round_ex {p : Int} {f : Int → Int} (hf : ∀ x, N p x → N p (f x)) {s : Int} (hs : N p s) : ∃ i T, Rnd f s p i T := by
  have hN := itr_N hf hs
  have hp : 0 < p := by have := hs.1; have := hs.2; omega
  obtain ⟨i, j, h1, h2, h3⟩ := pigeon p.toNat (fun n => (itr f s n).toNat) (fun n _ => by have := (hN n).1; have := (hN n).2; show (itr f s n).toNat < p.toNat; omega)
  have h4 : itr f s i = itr f s j := by
    replace h3 : (itr f s i).toNat = (itr f s j).toNat := h3
    have := (hN i).1; have := (hN j).1; omega
  obtain ⟨T, ⟨i', a1, a2⟩, hT⟩ := exists_least (P := fun T => ∃ i, i < T ∧ itr f s i = itr f s T) ⟨j, i, h1, h4⟩
  refine ⟨i', T, a1, ?_, a2, fun a b hab hb he => ?_⟩
  · have := hT j ⟨i, h1, h4⟩; omega
  · have := hT b ⟨a, hab, he⟩; omega

theorem Rnd.back {f : Int → Int} {s p : Int} {i T : Nat} (h : Rnd f s p i T) : ∀ k, i ≤ k → ∃ k', i ≤ k' ∧ k' < T ∧ itr f s k = itr f s k' := by
  intro k hk
  induction hk with
  | refl => exact ⟨i, Nat.le_refl _, h.lt, rfl⟩
  | @step k hk ih =>
    obtain ⟨k', h1, h2, h3⟩ := ih
    have e : itr f s (k + 1) = itr f s (k' + 1) := by show f _ = f _; rw [h3]
    rcases Nat.lt_or_ge (k' + 1) T with g | g
    · exact ⟨k' + 1, by omega, g, e⟩
    · have : k' + 1 = T := by omega
      exact ⟨i, Nat.le_refl _, h.lt, by rw [e, this, h.eq]⟩

theorem Rnd.early {f : Int → Int} {s p : Int} {i T : Nat} (h : Rnd f s p i T) {a k : Nat} (ha : a < i) (hk : a < k) : itr f s k ≠ itr f s a := by
  intro he
  rcases Nat.lt_or_ge k T with g | g
  · exact h.ne a k hk g he.symm
  · obtain ⟨k', h1, h2, h3⟩ := h.back k (by have := h.lt; omega)
    exact h.ne a k' (by omega) h2 (by rw [← h3, he])

/-- the step at which a number was met, -1 before -/
def mIdx (f : Int → Int) (s : Int) : Nat → Int → Int
  | 0, _ => -1
  | t + 1, v => if itr f s t = v then t else mIdx f s t v
theorem idx_none {f : Int → Int} {s v : Int} : ∀ t, (∀ j, j < t → itr f s j ≠ v) → mIdx f s t v = -1
  | 0, _ => rfl
  | t + 1, h => by rw [mIdx, if_neg (h t (by omega)), idx_none t fun j hj => h j (by omega)]
theorem idx_some {f : Int → Int} {s : Int} {i : Nat} : ∀ t, i < t → (∀ j, j < t → i < j → itr f s i ≠ itr f s j) → mIdx f s t (itr f s i) = i
  | 0, h, _ => by omega
  | t + 1, h, hn => by
    rw [mIdx]
    rcases Nat.lt_or_eq_of_le (show i ≤ t by omega) with g | g
    · rw [if_neg (fun e => hn t (by omega) g e.symm), idx_some t g fun j hj hij => hn j (by omega) hij]
    · subst g; rw [if_pos rfl]
theorem idx_range {f : Int → Int} {s v : Int} : ∀ t : Nat, -1 ≤ mIdx f s t v ∧ mIdx f s t v < t
  | 0 => ⟨Int.le_refl _, by show (-1 : Int) < 0; omega⟩
  | t + 1 => by rw [mIdx]; have := idx_range (f := f) (s := s) (v := v) t; split <;> omega

theorem nums_len (p : Int) : (numsI p).length = p.toNat := by simp [numsI]
theorem nums_get {p : Int} {g : Int → Int} {x : Int} (h : N p x) : ((numsI p).map g).getD x.toNat 0 = g x := by
  have h1 := h.1; have h2 := h.2
  unfold numsI
  rw [List.map_map, List.getD_eq_getElem?_getD, List.getElem?_map, List.getElem?_range (by omega)]
  simp only [Option.map_some, Option.getD_some, Function.comp]
  congr 1
  show ((x.toNat : Nat) : Int) = x
  omega
theorem setInts_one (l : List Int) (i : Nat) (x : Int) : setInts l i [x] = l.set i x := rfl
theorem nums_set {p : Int} {g : Int → Int} {x y : Int} (h : N p x) : ((numsI p).map g).set x.toNat y = (numsI p).map fun v => if x = v then y else g v := by
  have h1 := h.1; have h2 := h.2
  apply List.ext_getElem
  · simp
  · intro j h3 h4
    simp only [List.getElem_set, List.getElem_map, numsI, List.getElem_range]
    by_cases e : x.toNat = j
    · rw [if_pos e, if_pos (show x = Int.ofNat j by show x = ((j : Nat) : Int); omega)]
    · rw [if_neg e, if_neg (show ¬ x = Int.ofNat j by show ¬ x = ((j : Nat) : Int); omega)]
end Go.Proofs.Ytelejhggpkfdoaa.SX

