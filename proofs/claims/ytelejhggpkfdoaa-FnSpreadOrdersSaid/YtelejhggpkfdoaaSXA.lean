/- part of a proof: no condition of its own -/
import Derived.WalkKit
import Derived.KernelRfl
import Derived.Deep.Quiet
/-
  SX, part 1: the words of a symbolic walk: integer and boolean expressions over an environment, symbolic values, what a symbolic state says of a frame and a world.
-/
namespace Go.Proofs.Ytelejhggpkfdoaa.SX
open Go.RowKit

/-- A slice of integers: where it lies and what it holds. -/
structure Sl where
  a : Option Addr
  n : Nat
  c : Nat
  xs : List Int
def Sl.val (s : Sl) : Value := .slice s.a s.n s.c
def nilSl : Sl := ⟨none, 0, 0, []⟩

/-- A closure: the function's number and what it captured. -/
structure Clo where
  g : FuncId
  caps : Array Value
def Clo.val (c : Clo) : Value := .func (.func c.g) #[] c.caps
def nilClo : Clo := ⟨0, #[]⟩

structure Env where
  i : List Int
  b : List Bool
  n : List Nat
  s : List Sl
  t : List ByteArray
  f : List Clo

inductive IE where
  | v (i : Nat)
  | c (n : Int)
  | add (a b : IE)
  | sub (a b : IE)
  | mul (a b : IE)
  | quo (a b : IE)
  | rem (a b : IE)
  | wr (k : IntKind) (a : IE)
  | bit (op : BinOp) (k : IntKind) (a b : IE)
  | sg (s : Nat) (i : IE)
  | sl (s : Nat)
  | tl (t : Nat)
  | tb (t : Nat) (i : IE)
  deriving DecidableEq, Inhabited

def bitInt (op : BinOp) (k : IntKind) (x y : Int) : Int :=
  match op with
  | .and => k.wrap (BitVec.ofInt k.bits x &&& BitVec.ofInt k.bits y).toNat
  | .or => k.wrap (BitVec.ofInt k.bits x ||| BitVec.ofInt k.bits y).toNat
  | .xor => k.wrap (BitVec.ofInt k.bits x ^^^ BitVec.ofInt k.bits y).toNat
  | .shl => k.wrap (x * 2 ^ (min y.toNat k.bits))
  | .shr => x.fdiv (2 ^ (min y.toNat k.bits))
  | _ => 0

def byteAt (t : ByteArray) (i : Int) : Int := ((t.data.toList.getD i.toNat 0).toNat : Int)

def IE.den (E : Env) : IE → Int
  | .v i => E.i.getD i 0
  | .c n => n
  | .add a b => a.den E + b.den E
  | .sub a b => a.den E - b.den E
  | .mul a b => a.den E * b.den E
  | .quo a b => (a.den E).tdiv (b.den E)
  | .rem a b => (a.den E).tmod (b.den E)
  | .wr k a => k.wrap (a.den E)
  | .bit op k a b => bitInt op k (a.den E) (b.den E)
  | .sg s i => (E.s.getD s nilSl).xs.getD (i.den E).toNat 0
  | .sl s => ((E.s.getD s nilSl).n : Int)
  | .tl t => ((E.t.getD t ByteArray.empty).size : Int)
  | .tb t i => byteAt (E.t.getD t ByteArray.empty) (i.den E)

inductive BE where
  | v (i : Nat)
  | c (b : Bool)
  | eq (a b : IE)
  | lt (a b : IE)
  | le (a b : IE)
  | not (a : BE)
  | and (a b : BE)
  | or (a b : BE)
  | iff (a b : BE)
  | teq (t u : Nat)
  | tec (t : Nat) (s : List UInt8)
  deriving DecidableEq, Inhabited

def BE.den (E : Env) : BE → Bool
  | .v i => E.b.getD i false
  | .c b => b
  | .eq a b => a.den E == b.den E
  | .lt a b => decide (a.den E < b.den E)
  | .le a b => decide (a.den E ≤ b.den E)
  | .not a => !a.den E
  | .and a b => a.den E && b.den E
  | .or a b => a.den E || b.den E
  | .iff a b => a.den E == b.den E
  | .teq t u => (E.t.getD t ByteArray.empty) == (E.t.getD u ByteArray.empty)
  | .tec t s => (E.t.getD t ByteArray.empty) == ⟨s.toArray⟩

/-- the same, as a proposition to read -/
def BE.P (E : Env) : BE → Prop
  | .v i => E.b.getD i false = true
  | .c b => b = true
  | .eq a b => a.den E = b.den E
  | .lt a b => a.den E < b.den E
  | .le a b => a.den E ≤ b.den E
  | .not a => ¬ a.P E
  | .and a b => a.P E ∧ b.P E
  | .or a b => a.P E ∨ b.P E
  | .iff a b => (a.P E ↔ b.P E)
  | .teq t u => (E.t.getD t ByteArray.empty) = (E.t.getD u ByteArray.empty)
  | .tec t s => (E.t.getD t ByteArray.empty) = ⟨s.toArray⟩

theorem beq_ba (a b : ByteArray) : (a == b) = true ↔ a = b := by
  cases a with | mk a => cases b with | mk b =>
  have h : ((⟨a⟩ : ByteArray) == ⟨b⟩) = (a == b) := rfl
  rw [h]; simp

theorem BE.den_iff (E : Env) (e : BE) : e.den E = true ↔ e.P E := by
  induction e with
  | v i => simp [BE.den, BE.P]
  | c b => simp [BE.den, BE.P]
  | eq a b => simp [BE.den, BE.P]
  | lt a b => simp [BE.den, BE.P]
  | le a b => simp [BE.den, BE.P]
  | not a ih => simp only [BE.den, BE.P, ← ih]; cases a.den E <;> simp
  | and a b iha ihb => simp [BE.den, BE.P, ← iha, ← ihb]
  | or a b iha ihb => simp [BE.den, BE.P, ← iha, ← ihb]
  | iff a b iha ihb => simp only [BE.den, BE.P, ← iha, ← ihb]; cases a.den E <;> cases b.den E <;> simp
  | teq t u => simp only [BE.den, BE.P, beq_ba]
  | tec t s => simp only [BE.den, BE.P, beq_ba]

theorem BE.den_false (E : Env) (e : BE) : e.den E = false ↔ ¬ e.P E := by
  rw [← BE.den_iff]; cases e.den E <;> simp

/-- Smart constructors. -/
def BE.nt : BE → BE
  | .c b => .c (!b)
  | .not a => a
  | a => .not a
def BE.an : BE → BE → BE
  | .c true, b => b
  | .c false, _ => .c false
  | a, .c true => a
  | a, b => .and a b
def IE.eqS : IE → IE → BE
  | .c m, .c n => .c (m == n)
  | a, b => .eq a b
def IE.ltS : IE → IE → BE
  | .c m, .c n => .c (decide (m < n))
  | a, b => .lt a b
def IE.leS : IE → IE → BE
  | .c m, .c n => .c (decide (m ≤ n))
  | a, b => .le a b
theorem BE.nt_den (E : Env) (a : BE) : a.nt.den E = !a.den E := by
  unfold BE.nt; split <;> simp [BE.den]
theorem BE.an_den (E : Env) (a b : BE) : (a.an b).den E = (a.den E && b.den E) := by
  unfold BE.an; split <;> simp [BE.den]
theorem IE.eqS_den (E : Env) (a b : IE) : (a.eqS b).den E = (a.den E == b.den E) := by
  unfold IE.eqS; split <;> simp [BE.den, IE.den]
theorem IE.ltS_den (E : Env) (a b : IE) : (a.ltS b).den E = decide (a.den E < b.den E) := by
  unfold IE.ltS; split <;> rfl
theorem IE.leS_den (E : Env) (a b : IE) : (a.leS b).den E = decide (a.den E ≤ b.den E) := by
  unfold IE.leS; split <;> rfl
def IE.addS : IE → IE → IE
  | .c m, .c n => .c (m + n)
  | a, .c 0 => a
  | .c 0, b => b
  | a, b => .add a b
def IE.subS : IE → IE → IE
  | .c m, .c n => .c (m - n)
  | a, .c 0 => a
  | a, b => .sub a b
def IE.mulS : IE → IE → IE
  | .c m, .c n => .c (m * n)
  | a, .c 1 => a
  | .c 1, b => b
  | a, b => .mul a b
theorem IE.addS_den (E : Env) (a b : IE) : (a.addS b).den E = a.den E + b.den E := by
  unfold IE.addS; split <;> simp [IE.den]
theorem IE.subS_den (E : Env) (a b : IE) : (a.subS b).den E = a.den E - b.den E := by
  unfold IE.subS; split <;> simp [IE.den]
theorem IE.mulS_den (E : Env) (a b : IE) : (a.mulS b).den E = a.den E * b.den E := by
  unfold IE.mulS; split <;> simp [IE.den]

/-! ### Bounds -/
abbrev Iv := Option (Int × Int)
def inIv : Iv → Int → Prop
  | some (l, h), n => l ≤ n ∧ n ≤ h
  | none, _ => True

def ivMul (a b : Int × Int) : Int × Int :=
  let p := a.1 * b.1; let q := a.1 * b.2; let r := a.2 * b.1; let s := a.2 * b.2
  (min (min p q) (min r s), max (max p q) (max r s))

theorem mul_between {x l h : Int} (y : Int) (h1 : l ≤ x) (h2 : x ≤ h) : min (l * y) (h * y) ≤ x * y ∧ x * y ≤ max (l * y) (h * y) := by
  rcases Int.le_total 0 y with hy | hy
  · have a := Int.mul_le_mul_of_nonneg_right h1 hy
    have b := Int.mul_le_mul_of_nonneg_right h2 hy
    omega
  · have a := Int.mul_le_mul_of_nonpos_right h1 hy
    have b := Int.mul_le_mul_of_nonpos_right h2 hy
    omega

theorem ivMul_ok {a b : Int × Int} {x y : Int} (hx : a.1 ≤ x ∧ x ≤ a.2) (hy : b.1 ≤ y ∧ y ≤ b.2) : (ivMul a b).1 ≤ x * y ∧ x * y ≤ (ivMul a b).2 := by
  have h0 := mul_between y hx.1 hx.2
  have h1 := mul_between a.1 hy.1 hy.2
  have h2 := mul_between a.2 hy.1 hy.2
  simp only [ivMul]
  rw [Int.mul_comm b.1 a.1, Int.mul_comm b.2 a.1, Int.mul_comm y a.1] at h1
  rw [Int.mul_comm b.1 a.2, Int.mul_comm b.2 a.2, Int.mul_comm y a.2] at h2
  omega

structure Bd where
  bi : List Iv
  bs : List (Iv × Int)     -- the elements' bounds, and the greatest length
  bt : List Int            -- the greatest length of strings

def IE.iv (B : Bd) : IE → Iv
  | .v i => B.bi.getD i none
  | .c n => some (n, n)
  | .add a b => match a.iv B, b.iv B with | some x, some y => some (x.1 + y.1, x.2 + y.2) | _, _ => none
  | .sub a b => match a.iv B, b.iv B with | some x, some y => some (x.1 - y.2, x.2 - y.1) | _, _ => none
  | .mul a b => match a.iv B, b.iv B with | some x, some y => some (ivMul x y) | _, _ => none
  | .quo a b => match a.iv B, b.iv B with
    | some x, some y => if 0 ≤ x.1 ∧ 1 ≤ y.1 then some (0, x.2) else none
    | _, _ => none
  | .rem a b => match a.iv B, b.iv B with
    | some x, some y => if 1 ≤ y.1 then (if 0 ≤ x.1 then some (0, min x.2 (y.2 - 1)) else some (1 - y.2, y.2 - 1)) else none
    | none, some y => if 1 ≤ y.1 then some (1 - y.2, y.2 - 1) else none
    | _, _ => none
  | .wr k _ => some (k.min, k.max)
  | .bit _ _ _ _ => none
  | .sg s _ => (B.bs.getD s (none, -1)).1
  | .sl s => let m := (B.bs.getD s (none, -1)).2; if 0 ≤ m then some (0, m) else none
  | .tl t => let m := B.bt.getD t (-1); if 0 ≤ m then some (0, m) else none
  | .tb _ _ => some (0, 255)

structure BdOK (B : Bd) (E : Env) : Prop where
  i : ∀ j, inIv (B.bi.getD j none) (E.i.getD j 0)
  s : ∀ j, (∀ k, inIv (B.bs.getD j (none, -1)).1 ((E.s.getD j nilSl).xs.getD k 0)) ∧ (0 ≤ (B.bs.getD j (none, -1)).2 → ((E.s.getD j nilSl).n : Int) ≤ (B.bs.getD j (none, -1)).2)
  t : ∀ j, 0 ≤ B.bt.getD j (-1) → ((E.t.getD j ByteArray.empty).size : Int) ≤ B.bt.getD j (-1)

theorem wrap_range (k : IntKind) (n : Int) : k.min ≤ k.wrap n ∧ k.wrap n ≤ k.max := by
  cases k <;> simp only [IntKind.wrap, IntKind.min, IntKind.max, IntKind.signed, IntKind.bits] <;> simp <;> (try split) <;> omega

theorem IE.iv_ok {B : Bd} {E : Env} (hB : BdOK B E) (e : IE) : inIv (e.iv B) (e.den E) := by
  induction e with
  | v i => exact hB.i i
  | c n => exact ⟨Int.le_refl _, Int.le_refl _⟩
  | add a b iha ihb =>
    simp only [IE.iv, IE.den]; split
    · rename_i x y hx hy; rw [hx] at iha; rw [hy] at ihb; simp only [inIv] at *; omega
    · trivial
  | sub a b iha ihb =>
    simp only [IE.iv, IE.den]; split
    · rename_i x y hx hy; rw [hx] at iha; rw [hy] at ihb; simp only [inIv] at *; omega
    · trivial
  | mul a b iha ihb =>
    simp only [IE.iv, IE.den]; split
    · rename_i x y hx hy; rw [hx] at iha; rw [hy] at ihb; exact ivMul_ok iha ihb
    · trivial
  | quo a b iha ihb =>
    simp only [IE.iv, IE.den]; split
    · rename_i x y hx hy; rw [hx] at iha; rw [hy] at ihb
      split
      · rename_i h; simp only [inIv] at *
        have h1 : 0 ≤ a.den E := by omega
        rw [Int.tdiv_eq_ediv_of_nonneg h1]
        exact ⟨Int.ediv_nonneg h1 (by omega), Int.le_trans (Int.ediv_le_self _ h1) iha.2⟩
      · trivial
    · trivial
  | rem a b iha ihb =>
    have key : ∀ y : Int × Int, b.iv B = some y → 1 ≤ y.1 → 1 - y.2 ≤ (a.den E).tmod (b.den E) ∧ (a.den E).tmod (b.den E) ≤ y.2 - 1 := by
      intro y hy h1
      rw [hy] at ihb
      simp only [inIv] at ihb
      have h2 : 0 < b.den E := by omega
      have h3 := Int.tmod_lt_of_pos (a.den E) h2
      have h4 := Int.lt_tmod_of_pos (a.den E) h2
      omega
    simp only [IE.iv, IE.den]; split
    · rename_i x y hx hy
      split
      · rename_i h1
        have hk := key y hy h1
        split
        · rename_i h0
          rw [hx] at iha; rw [hy] at ihb; simp only [inIv] at *
          have ha : 0 ≤ a.den E := by omega
          have h5 := Int.tmod_nonneg (b.den E) ha
          refine ⟨h5, ?_⟩
          have h6 : (a.den E).tmod (b.den E) ≤ a.den E := by
            rw [Int.tmod_eq_emod_of_nonneg ha]
            have hb : 0 < b.den E := by omega
            rcases Int.lt_or_le (a.den E) (b.den E) with hlt | hge
            · rw [Int.emod_eq_of_lt ha hlt]; exact Int.le_refl _
            · exact Int.le_trans (Int.le_of_lt (Int.emod_lt_of_pos _ hb)) hge
          omega
        · exact hk
      · trivial
    · rename_i y hx hy
      split
      · rename_i h1; exact key y hy h1
      · trivial
    · trivial
  | wr k a _ => exact wrap_range k _
  | bit op k a b _ _ => trivial
  | sg s i _ => exact (hB.s s).1 _
  | sl s =>
    simp only [IE.iv, IE.den]; split
    · rename_i h; exact ⟨Int.natCast_nonneg _, (hB.s s).2 h⟩
    · trivial
  | tl t =>
    simp only [IE.iv, IE.den]; split
    · rename_i h; exact ⟨Int.natCast_nonneg _, hB.t t h⟩
    · trivial
  | tb t i _ =>
    simp only [IE.iv, IE.den, byteAt, inIv]
    have := UInt8.toNat_lt ((E.t.getD t ByteArray.empty).data.toList.getD (i.den E).toNat 0)
    omega

end Go.Proofs.Ytelejhggpkfdoaa.SX

/-
  SX, part 2: symbolic values, heap items, states; what they say of a frame and a world.
-/
namespace Go.Proofs.Ytelejhggpkfdoaa.SX
open Go.RowKit

inductive CV where
  | int (k : IntKind) (e : IE)
  | bool (e : BE)
  | ptr (n off : Nat)
  | elp (s : Nat) (i : IE) (z off : Nat)
  | sl (s : Nat)
  | nsl
  | str (t : Nat)
  | sk (s : List UInt8)
  | fn (f : Nat)
  | fc (g : FuncId)
  deriving DecidableEq, Inhabited

def CV.den (E : Env) : CV → Value
  | .int k e => .int k (e.den E)
  | .bool e => .bool (e.den E)
  | .ptr n off => .pointer (some ⟨E.n.getD n 0, off, none⟩)
  | .elp s i z off => .pointer ((E.s.getD s nilSl).a.map fun a => a.add ((i.den E).toNat * z + off))
  | .sl s => (E.s.getD s nilSl).val
  | .nsl => .slice none 0 0
  | .str t => .string (E.t.getD t ByteArray.empty)
  | .sk s => .string ⟨s.toArray⟩
  | .fn f => (E.f.getD f nilClo).val
  | .fc g => .func (.func g) #[] #[]

theorem CV.den_one (E : Env) (c : CV) : (c.den E).oneCell' = true := by cases c <;> rfl
theorem CV.den_cells (E : Env) (c : CV) : (c.den E).cells = #[c.den E] := by cases c <;> rfl

inductive PV where
  | c (v : CV)
  | a (l : List CV)
  deriving DecidableEq, Inhabited
def PV.den (E : Env) : PV → Value
  | .c v => v.den E
  | .a l => .agg (l.map (CV.den E)).toArray
def PV.cs : PV → List CV
  | .c v => [v]
  | .a l => l
theorem PV.den_cells (E : Env) (p : PV) : (p.den E).cells = (p.cs.map (CV.den E)).toArray := by
  cases p with
  | c v => simp [PV.den, PV.cs, CV.den_cells]
  | a l => simp [PV.den, PV.cs, Value.cells]

inductive TV where
  | p (v : PV)
  | tup (l : List PV)
  | junk
  deriving DecidableEq, Inhabited

def TV.val (E : Env) : TV → Value
  | .p v => v.den E
  | .tup l => .tuple (l.map (PV.den E)).toArray
  | .junk => undef
/-- what the state says of a temporary -/
def TV.ok (E : Env) (tv : TV) (x : Value) : Prop := tv = .junk ∨ x = tv.val E

inductive It where
  | blk (n : Nat) (T : TypeId) (cs : List CV) (own : Bool)
  | isl (s : Nat) (T : TypeId) (k : IntKind) (z : Nat) (own : Bool)
  deriving DecidableEq, Inhabited

def It.own : It → Bool
  | .blk _ _ _ o => o
  | .isl _ _ _ _ o => o

def ints (k : IntKind) (xs : List Int) : List Value := xs.map (Value.int k)

/-- a slice reads as its numbers -/
structure Reads (w : World) (k : IntKind) (z : Nat) (s : Sl) : Prop where
  len : s.xs.length = s.n * z
  le : s.n ≤ s.c
  cell : ∀ j u, (ints k s.xs)[j]? = some u → ∃ a, s.a = some a ∧ w.cell? (a.add j) = some u

def It.holds (B : Nat) (E : Env) (w : World) : It → Prop
  | .blk n T cs _ => w.heap[E.n.getD n 0]? = some (.cells (cs.map (CV.den E)).toArray T (0, 0))
  | .isl s T k z true => w.ownsRow B T z (E.s.getD s nilSl).val (E.s.getD s nilSl).n (ints k (E.s.getD s nilSl).xs)
  | .isl s _ k z false => Reads w k z (E.s.getD s nilSl)

def Sl.fp (s : Sl) : List Nat := match s.a with | some a => [a.block] | none => []

def It.fp (E : Env) : It → List Nat
  | .blk n _ _ _ => [E.n.getD n 0]
  | .isl s _ _ _ true => (E.s.getD s nilSl).fp
  | .isl s _ _ _ false => if (E.s.getD s nilSl).xs.isEmpty then [] else (E.s.getD s nilSl).fp

theorem Reads.same {w w' : World} {k : IntKind} {z : Nat} {s : Sl} (h : Reads w k z s)
    (hs : s.xs.isEmpty = false → ∀ b ∈ s.fp, w'.heap[b]? = w.heap[b]?) : Reads w' k z s := by
  refine ⟨h.len, h.le, fun j u hu => ?_⟩
  obtain ⟨a, ha, hc⟩ := h.cell j u hu
  refine ⟨a, ha, ?_⟩
  have hne : s.xs.isEmpty = false := by
    cases hx : s.xs with
    | nil => rw [hx] at hu; simp [ints] at hu
    | cons => rfl
  have hb := hs hne a.block (by simp [Sl.fp, ha])
  rw [← hc]
  have e : (a.add j).block = a.block := by unfold Addr.add; split <;> rfl
  exact World.cell?_of_block (w := w) (by rw [e]; exact hb)

theorem It.holds_same {B : Nat} {E : Env} {w w' : World} {it : It} (h : it.holds B E w)
    (hs : ∀ b ∈ it.fp E, w'.heap[b]? = w.heap[b]?) : it.holds B E w' := by
  cases it with
  | blk n T cs o => simp only [It.holds, It.fp] at *; rw [hs _ (by simp)]; exact h
  | isl s T k z o =>
    cases o with
    | true =>
      simp only [It.holds, It.fp] at *
      generalize E.s.getD s nilSl = q at *
      refine ⟨h.1, ?_⟩
      rcases h.2 with hn | ⟨g, cap, cur, hv, hb, hg, rest⟩
      · exact .inl hn
      · refine .inr ⟨g, cap, cur, hv, hb, ?_, rest⟩
        have hm : g ∈ q.fp := by
          have : q.a = some ⟨g, 0, none⟩ := by unfold Sl.val at hv; injection hv
          simp [Sl.fp, this]
        rw [hs g hm]; exact hg
    | false =>
      simp only [It.holds, It.fp] at *
      refine h.same fun hne b hb => hs b ?_
      rw [if_neg (by rw [hne]; simp)]
      exact hb

/-- every kind of slice can be read -/
theorem It.reads {B : Nat} {E : Env} {w : World} {s : Nat} {T : TypeId} {k : IntKind} {z : Nat} {o : Bool} (h : (It.isl s T k z o).holds B E w) :
    Reads w k z (E.s.getD s nilSl) := by
  cases o with
  | false => exact h
  | true =>
    have h' : w.ownsRow B T z (E.s.getD s nilSl).val (E.s.getD s nilSl).n (ints k (E.s.getD s nilSl).xs) := h
    clear h
    generalize E.s.getD s nilSl = q at *
    refine ⟨by simpa [ints] using h'.1, ?_, fun j u hu => ?_⟩
    · rcases h'.2 with ⟨hv, hn⟩ | ⟨g, cap, cur, hv, _, _, hle, _⟩
      · omega
      · unfold Sl.val at hv; injection hv with _ _ hc; omega
    · rcases h'.2 with ⟨hv, hn⟩ | ⟨g, cap, cur, hv, hb, hg, rest⟩
      · have : (ints k q.xs).length = 0 := by rw [h'.1, hn]; simp
        have h0 : ints k q.xs = [] := List.eq_nil_of_length_eq_zero this
        rw [h0] at hu; simp at hu
      · have ha : q.a = some ⟨g, 0, none⟩ := by unfold Sl.val at hv; injection hv
        exact ⟨_, ha, h'.cells (g := g) (by simp [Sl.val, ha, Value.ownBlock]) j u hu⟩

structure St where
  t : List TV
  h : List It
  B : Bd
  nb : Nat
  nn : Nat
  nf : Nat
  fs : List BE
  lv : Nat

structure HOK (B : Nat) (S : List Nat) (h : List It) (E : Env) (w : World) : Prop where
  holds : ∀ it ∈ h, it.holds B E w
  lt : ∀ it ∈ h, ∀ k ∈ it.fp E, k < w.heap.size
  own : ∀ it ∈ h, it.own = true → ∀ k ∈ it.fp E, B ≤ k ∨ k ∈ S
  sep : h.Pairwise fun x y => (x.own || y.own) = true → ∀ k ∈ x.fp E, k ∉ y.fp E

structure EOK (st : St) (E : Env) : Prop where
  li : E.i.length = st.B.bi.length
  ls : E.s.length = st.B.bs.length
  lt : E.t.length = st.B.bt.length
  lb : E.b.length = st.nb
  ln : E.n.length = st.nn
  lf : E.f.length = st.nf
  bd : BdOK st.B E
  fs : ∀ c ∈ st.fs, c.P E

/-- what is kept of old memory: all blocks below B but those of S -/
structure Kp (B : Nat) (S : List Nat) (w w' : World) : Prop where
  os : w'.os = w.os
  tape : w'.tape = w.tape
  output : w'.output = w.output
  size : w.heap.size ≤ w'.heap.size
  block : ∀ k, k < B → k ∉ S → w'.heap[k]? = w.heap[k]?

theorem Kp.of_below {B : Nat} {S : List Nat} {w w' : World} (h : Below B w w') : Kp B S w w' := ⟨h.os, h.tape, h.output, h.size, fun k hk _ => h.block k hk⟩
theorem Kp.below {B : Nat} {w w' : World} (h : Kp B [] w w') : Below B w w' := ⟨h.os, h.tape, h.output, h.size, fun k hk => h.block k hk (by simp)⟩
theorem Kp.trans {B : Nat} {S : List Nat} {a b c : World} (h : Kp B S a b) (k : Kp B S b c) : Kp B S a c :=
  ⟨k.os.trans h.os, k.tape.trans h.tape, k.output.trans h.output, Nat.le_trans h.size k.size, fun i hi hs => (k.block i hi hs).trans (h.block i hi hs)⟩
theorem Kp.refl (B : Nat) (S : List Nat) (w : World) : Kp B S w w := ⟨rfl, rfl, rfl, Nat.le_refl _, fun _ _ _ => rfl⟩

structure Rel (B : Nat) (S : List Nat) (w0 : World) (st : St) (E : Env) (a : Act) (w : World) : Prop where
  e : EOK st E
  size : a.tmps.size = st.t.length
  tm : ∀ (i : Nat) (tv : TV), st.t[i]? = some tv → tv.ok E (a.tmps.getD i undef)
  df : a.defers = []
  heap : HOK B S st.h E w
  le : B ≤ w.heap.size
  kp : Kp B S w0 w

end Go.Proofs.Ytelejhggpkfdoaa.SX

/-
  SX, part 3: an environment grows at its ends; what is in scope keeps its meaning.
-/
namespace Go.Proofs.Ytelejhggpkfdoaa.SX
open Go.RowKit

structure Sz where
  ni : Nat
  nb : Nat
  nn : Nat
  ns : Nat
  nt : Nat
  nf : Nat

def IE.sc (z : Sz) : IE → Bool
  | .v i => decide (i < z.ni)
  | .c _ => true
  | .add a b | .sub a b | .mul a b | .quo a b | .rem a b | .bit _ _ a b => a.sc z && b.sc z
  | .wr _ a => a.sc z
  | .sg s i => decide (s < z.ns) && i.sc z
  | .sl s => decide (s < z.ns)
  | .tl t => decide (t < z.nt)
  | .tb t i => decide (t < z.nt) && i.sc z

def BE.sc (z : Sz) : BE → Bool
  | .v i => decide (i < z.nb)
  | .c _ => true
  | .eq a b | .lt a b | .le a b => a.sc z && b.sc z
  | .not a => a.sc z
  | .and a b | .or a b | .iff a b => a.sc z && b.sc z
  | .teq t u => decide (t < z.nt) && decide (u < z.nt)
  | .tec t _ => decide (t < z.nt)

def CV.sc (z : Sz) : CV → Bool
  | .int _ e => e.sc z
  | .bool e => e.sc z
  | .ptr n _ => decide (n < z.nn)
  | .elp s i _ _ => decide (s < z.ns) && i.sc z
  | .sl s => decide (s < z.ns)
  | .nsl => true
  | .str t => decide (t < z.nt)
  | .sk _ => true
  | .fn f => decide (f < z.nf)
  | .fc _ => true

def PV.sc (z : Sz) : PV → Bool
  | .c v => v.sc z
  | .a l => l.all (CV.sc z)

def TV.sc (z : Sz) : TV → Bool
  | .p v => v.sc z
  | .tup l => l.all (PV.sc z)
  | .junk => true

def It.sc (z : Sz) : It → Bool
  | .blk n _ cs _ => decide (n < z.nn) && cs.all (CV.sc z)
  | .isl s _ _ _ _ => decide (s < z.ns)

def St.sz (st : St) : Sz := ⟨st.B.bi.length, st.nb, st.nn, st.B.bs.length, st.B.bt.length, st.nf⟩

def St.sc (st : St) : Bool := st.t.all (TV.sc st.sz) && st.h.all (It.sc st.sz) && st.fs.all (BE.sc st.sz)

structure Env.Fits (E : Env) (z : Sz) : Prop where
  i : E.i.length = z.ni
  b : E.b.length = z.nb
  n : E.n.length = z.nn
  s : E.s.length = z.ns
  t : E.t.length = z.nt
  f : E.f.length = z.nf

structure Env.le (E E' : Env) : Prop where
  i : ∃ l, E'.i = E.i ++ l
  b : ∃ l, E'.b = E.b ++ l
  n : ∃ l, E'.n = E.n ++ l
  s : ∃ l, E'.s = E.s ++ l
  t : ∃ l, E'.t = E.t ++ l
  f : ∃ l, E'.f = E.f ++ l

theorem getD_app {α : Type} {l l' : List α} {d : α} {i : Nat} (h : i < l.length) : (l ++ l').getD i d = l.getD i d := by
  simp [List.getD, List.getElem?_append_left h]

section
variable {E E' : Env} {z : Sz} (hf : E.Fits z) (hl : E.le E')
 include hf hl

theorem IE.den_le (e : IE) (h : e.sc z = true) : e.den E' = e.den E := by
  induction e with
  | v i =>
    obtain ⟨l, hl⟩ := hl.i
    simp only [IE.sc, decide_eq_true_eq] at h
    simp only [IE.den, hl]; exact getD_app (by rw [hf.i]; exact h)
  | c n => rfl
  | add a b iha ihb | sub a b iha ihb | mul a b iha ihb | quo a b iha ihb | rem a b iha ihb =>
    simp only [IE.sc, Bool.and_eq_true] at h; simp only [IE.den, iha h.1, ihb h.2]
  | wr k a ih => simp only [IE.sc] at h; simp only [IE.den, ih h]
  | bit op k a b iha ihb => simp only [IE.sc, Bool.and_eq_true] at h; simp only [IE.den, iha h.1, ihb h.2]
  | sg s i ih =>
    simp only [IE.sc, Bool.and_eq_true, decide_eq_true_eq] at h
    obtain ⟨l, hl⟩ := hl.s
    simp only [IE.den, ih h.2, hl]; rw [getD_app (by rw [hf.s]; exact h.1)]
  | sl s =>
    simp only [IE.sc, decide_eq_true_eq] at h
    obtain ⟨l, hl⟩ := hl.s
    simp only [IE.den, hl]; rw [getD_app (by rw [hf.s]; exact h)]
  | tl t =>
    simp only [IE.sc, decide_eq_true_eq] at h
    obtain ⟨l, hl⟩ := hl.t
    simp only [IE.den, hl]; rw [getD_app (by rw [hf.t]; exact h)]
  | tb t i ih =>
    simp only [IE.sc, Bool.and_eq_true, decide_eq_true_eq] at h
    obtain ⟨l, hl⟩ := hl.t
    simp only [IE.den, ih h.2, hl]; rw [getD_app (by rw [hf.t]; exact h.1)]

theorem BE.den_le (e : BE) (h : e.sc z = true) : e.den E' = e.den E := by
  induction e with
  | v i =>
    obtain ⟨l, hl⟩ := hl.b
    simp only [BE.sc, decide_eq_true_eq] at h
    simp only [BE.den, hl]; exact getD_app (by rw [hf.b]; exact h)
  | c n => rfl
  | eq a b | lt a b | le a b =>
    simp only [BE.sc, Bool.and_eq_true] at h; simp only [BE.den, IE.den_le hf hl _ h.1, IE.den_le hf hl _ h.2]
  | not a ih => simp only [BE.sc] at h; simp only [BE.den, ih h]
  | and a b iha ihb | or a b iha ihb | iff a b iha ihb =>
    simp only [BE.sc, Bool.and_eq_true] at h; simp only [BE.den, iha h.1, ihb h.2]
  | teq t u =>
    simp only [BE.sc, Bool.and_eq_true, decide_eq_true_eq] at h
    obtain ⟨l, hl⟩ := hl.t
    simp only [BE.den, hl]; rw [getD_app (by rw [hf.t]; exact h.1), getD_app (by rw [hf.t]; exact h.2)]
  | tec t s =>
    simp only [BE.sc, decide_eq_true_eq] at h
    obtain ⟨l, hl⟩ := hl.t
    simp only [BE.den, hl]; rw [getD_app (by rw [hf.t]; exact h)]

theorem BE.P_le (e : BE) (h : e.sc z = true) : e.P E' ↔ e.P E := by
  rw [← BE.den_iff, ← BE.den_iff, BE.den_le hf hl e h]

theorem CV.den_le (e : CV) (h : e.sc z = true) : e.den E' = e.den E := by
  cases e with
  | int k e => simp only [CV.sc] at h; simp only [CV.den, IE.den_le hf hl _ h]
  | bool e => simp only [CV.sc] at h; simp only [CV.den, BE.den_le hf hl _ h]
  | ptr n off =>
    simp only [CV.sc, decide_eq_true_eq] at h
    obtain ⟨l, hl⟩ := hl.n
    simp only [CV.den, hl]; rw [getD_app (by rw [hf.n]; exact h)]
  | elp s i zz off =>
    simp only [CV.sc, Bool.and_eq_true, decide_eq_true_eq] at h
    obtain ⟨l, hl'⟩ := hl.s
    simp only [CV.den, hl', IE.den_le hf hl _ h.2]; rw [getD_app (by rw [hf.s]; exact h.1)]
  | sl s =>
    simp only [CV.sc, decide_eq_true_eq] at h
    obtain ⟨l, hl⟩ := hl.s
    simp only [CV.den, hl]; rw [getD_app (by rw [hf.s]; exact h)]
  | nsl => rfl
  | str t =>
    simp only [CV.sc, decide_eq_true_eq] at h
    obtain ⟨l, hl⟩ := hl.t
    simp only [CV.den, hl]; rw [getD_app (by rw [hf.t]; exact h)]
  | sk s => rfl
  | fn f =>
    simp only [CV.sc, decide_eq_true_eq] at h
    obtain ⟨l, hl⟩ := hl.f
    simp only [CV.den, hl]; rw [getD_app (by rw [hf.f]; exact h)]
  | fc g => rfl

theorem CV.map_le (l : List CV) (h : l.all (CV.sc z) = true) : l.map (CV.den E') = l.map (CV.den E) := by
  apply List.map_congr_left
  intro c hc
  exact CV.den_le hf hl c (List.all_eq_true.1 h c hc)

theorem PV.den_le (e : PV) (h : e.sc z = true) : e.den E' = e.den E := by
  cases e with
  | c v => exact CV.den_le hf hl v h
  | a l => simp only [PV.den, CV.map_le hf hl l h]

theorem PV.map_le (l : List PV) (h : l.all (PV.sc z) = true) : l.map (PV.den E') = l.map (PV.den E) := by
  apply List.map_congr_left
  intro c hc
  exact PV.den_le hf hl c (List.all_eq_true.1 h c hc)

theorem TV.val_le (e : TV) (h : e.sc z = true) : e.val E' = e.val E := by
  cases e with
  | p v => exact PV.den_le hf hl v h
  | tup l => simp only [TV.val, PV.map_le hf hl l h]
  | junk => rfl

theorem TV.ok_le (e : TV) (h : e.sc z = true) (x : Value) (hx : e.ok E x) : e.ok E' x :=
  hx.imp id fun h' => h'.trans (TV.val_le hf hl e h).symm

theorem It.holds_le (it : It) (h : it.sc z = true) (B : Nat) (w : World) (hx : it.holds B E w) : it.holds B E' w := by
  cases it with
  | blk n T cs o =>
    simp only [It.sc, Bool.and_eq_true, decide_eq_true_eq] at h
    have hc := CV.map_le hf hl cs h.2
    obtain ⟨l, hl'⟩ := hl.n
    simp only [It.holds] at *
    rw [hc, hl', getD_app (by rw [hf.n]; exact h.1)]; exact hx
  | isl s T k zz o =>
    simp only [It.sc, decide_eq_true_eq] at h
    obtain ⟨l, hl'⟩ := hl.s
    have e : E'.s.getD s nilSl = E.s.getD s nilSl := by rw [hl', getD_app (by rw [hf.s]; exact h)]
    cases o <;> (simp only [It.holds] at *; rw [e]; exact hx)

theorem It.fp_le (it : It) (h : it.sc z = true) : it.fp E' = it.fp E := by
  cases it with
  | blk n T cs o =>
    simp only [It.sc, Bool.and_eq_true, decide_eq_true_eq] at h
    obtain ⟨l, hl'⟩ := hl.n
    simp only [It.fp]; rw [hl', getD_app (by rw [hf.n]; exact h.1)]
  | isl s T k zz o =>
    simp only [It.sc, decide_eq_true_eq] at h
    obtain ⟨l, hl'⟩ := hl.s
    have e : E'.s.getD s nilSl = E.s.getD s nilSl := by rw [hl', getD_app (by rw [hf.s]; exact h)]
    cases o <;> simp only [It.fp, e]
end

theorem EOK.fits {st : St} {E : Env} (h : EOK st E) : E.Fits st.sz := ⟨h.li, h.lb, h.ln, h.ls, h.lt, h.lf⟩

/-- The heap's items keep their meaning. -/
theorem HOK.le {B : Nat} {S : List Nat} {h : List It} {E E' : Env} {w : World} {z : Sz} (hf : E.Fits z) (hl : E.le E') (hs : h.all (It.sc z) = true) (hh : HOK B S h E w) : HOK B S h E' w := by
  have hs' := List.all_eq_true.1 hs
  have fpe : ∀ it ∈ h, it.fp E' = it.fp E := fun it hi => It.fp_le hf hl it (hs' it hi)
  refine ⟨fun it hi => It.holds_le hf hl it (hs' it hi) B w (hh.holds it hi), fun it hi k hk => hh.lt it hi k (by rw [← fpe it hi]; exact hk),
    fun it hi ho k hk => hh.own it hi ho k (by rw [← fpe it hi]; exact hk), ?_⟩
  refine List.Pairwise.imp_of_mem (fun {x y} hx hy hxy ho k hk => ?_) hh.sep
  rw [fpe y hy]
  exact hxy ho k (by rw [← fpe x hx]; exact hk)

/-- A world in which the items' blocks are as they were. -/
theorem HOK.same {B : Nat} {S : List Nat} {h : List It} {E : Env} {w w' : World} (hh : HOK B S h E w) (hsz : w.heap.size ≤ w'.heap.size)
    (hb : ∀ it ∈ h, ∀ k ∈ it.fp E, w'.heap[k]? = w.heap[k]?) : HOK B S h E w' :=
  ⟨fun it hi => It.holds_same (hh.holds it hi) (hb it hi), fun it hi k hk => Nat.lt_of_lt_of_le (hh.lt it hi k hk) hsz, hh.own, hh.sep⟩

theorem HOK.below {B : Nat} {S : List Nat} {h : List It} {E : Env} {w w' : World} (hh : HOK B S h E w) (hb : Below w.heap.size w w') : HOK B S h E w' :=
  hh.same hb.size fun it hi k hk => hb.block k (hh.lt it hi k hk)

theorem HOK.nil {B : Nat} {S : List Nat} {E : Env} {w : World} : HOK B S [] E w := ⟨by simp, by simp, by simp, List.Pairwise.nil⟩

/-- A new item. -/
theorem HOK.cons {B : Nat} {S : List Nat} {h : List It} {E : Env} {w : World} (hh : HOK B S h E w) {it : It} (h1 : it.holds B E w)
    (h2 : ∀ k ∈ it.fp E, k < w.heap.size) (h3 : it.own = true → ∀ k ∈ it.fp E, B ≤ k ∨ k ∈ S)
    (h4 : ∀ y ∈ h, (it.own || y.own) = true → ∀ k ∈ it.fp E, k ∉ y.fp E) : HOK B S (it :: h) E w := by
  refine ⟨?_, ?_, ?_, List.Pairwise.cons h4 hh.sep⟩
  · intro x hx; cases hx with
    | head => exact h1
    | tail _ h => exact hh.holds x h
  · intro x hx; cases hx with
    | head => exact h2
    | tail _ h => exact hh.lt x h
  · intro x hx; cases hx with
    | head => exact h3
    | tail _ h => exact hh.own x h

/-- Fewer items. -/
theorem HOK.sub {B : Nat} {S : List Nat} {h h' : List It} {E : Env} {w : World} (hh : HOK B S h E w) (hs : h'.Sublist h) : HOK B S h' E w :=
  ⟨fun x hx => hh.holds x (hs.subset hx), fun x hx => hh.lt x (hs.subset hx), fun x hx => hh.own x (hs.subset hx), hh.sep.sublist hs⟩

end Go.Proofs.Ytelejhggpkfdoaa.SX

/-
  SX, part 4: operations that only compute: what they yield.
-/
namespace Go.Proofs.Ytelejhggpkfdoaa.SX
open Go.RowKit

structure Cfg where
  P : Program
  /-- types whose values, arrays of so many int64, can be compared -/
  eqn : TypeId → Option Nat

def ints64 (xs : List Int) : Value := .agg (xs.map (Value.int .i64)).toArray

structure Cfg.OK (C : Cfg) : Prop where
  eql : ∀ t n, C.eqn t = some n → ∀ (x y : Operand) (xs ys : List Int), xs.length = n → ys.length = n → ∀ w,
    (do eqGuard .eql t x y (ints64 xs) (ints64 ys); binOp .eql t (ints64 xs) (ints64 ys) : Sem Value).run C.P w = .ok (.bool (decide (xs = ys))) w
  neq : ∀ t n, C.eqn t = some n → ∀ (x y : Operand) (xs ys : List Int), xs.length = n → ys.length = n → ∀ w,
    (do eqGuard .neq t x y (ints64 xs) (ints64 ys); binOp .neq t (ints64 xs) (ints64 ys) : Sem Value).run C.P w = .ok (.bool (!decide (xs = ys))) w

def CV.ofV : Value → Option CV
  | .int k n => some (.int k (.c n))
  | .bool b => some (.bool (.c b))
  | .slice none 0 0 => some .nsl
  | .string s => some (.sk s.data.toList)
  | _ => none

def CV.ofL : List Value → Option (List CV)
  | [] => some []
  | v :: r => match CV.ofV v, CV.ofL r with
    | some c, some cs => some (c :: cs)
    | _, _ => none

def TV.ofV : Value → TV
  | .agg cs => match CV.ofL cs.toList with
    | some l => .p (.a l)
    | none => .junk
  | v => match CV.ofV v with
    | some c => .p (.c c)
    | none => .junk

def St.ev (st : St) : Operand → TV
  | .tmp t => st.t.getD t .junk
  | .const v => TV.ofV v
  | .func f => .p (.c (.fc f))
  | .global _ => .junk

theorem CV.ofV_ok {v : Value} {c : CV} (E : Env) (h : CV.ofV v = some c) : c.den E = v := by
  unfold CV.ofV at h
  split at h <;> simp at h <;> subst h <;> rfl

theorem CV.ofL_ok {l : List Value} {cs : List CV} (E : Env) (h : CV.ofL l = some cs) : cs.map (CV.den E) = l := by
  induction l generalizing cs with
  | nil => simp [CV.ofL] at h; subst h; rfl
  | cons v r ih =>
    simp only [CV.ofL] at h
    split at h
    · rename_i c d h1 h2
      simp at h; subst h
      simp [CV.ofV_ok E h1, ih h2]
    · simp at h

theorem TV.ofV_ok {v : Value} (E : Env) : (TV.ofV v).ok E v := by
  unfold TV.ofV
  split
  · rename_i cs
    split
    · rename_i l h
      refine .inr ?_
      simp only [TV.val, PV.den, CV.ofL_ok E h]
    · exact .inl rfl
  · split
    · rename_i c h; exact .inr (CV.ofV_ok E h).symm
    · exact .inl rfl

theorem Rel.ev {B : Nat} {S : List Nat} {w0 : World} {st : St} {E : Env} {a : Act} {w : World} (h : Rel B S w0 st E a w) (x : Operand) : (st.ev x).ok E (a.eval x) := by
  cases x with
  | tmp t =>
    simp only [St.ev, Act.eval]
    rcases Nat.lt_or_ge t st.t.length with ht | ht
    · have := h.tm t _ (List.getElem?_eq_getElem ht)
      rw [List.getD_eq_getElem?_getD, List.getElem?_eq_getElem ht]
      exact this
    · rw [List.getD_eq_getElem?_getD, List.getElem?_eq_none ht]; exact .inl rfl
  | const v => exact TV.ofV_ok E
  | func f => exact .inr rfl
  | global g => exact .inl rfl

def wr? (B : Bd) (k : IntKind) (e : IE) : List BE × CV :=
  match e.iv B with
  | some (l, h) => if k.min ≤ l ∧ h ≤ k.max then ([], .int k e) else (if k.signed then ([.le (.c k.min) e, .le e (.c k.max)], .int k e) else ([], .int k (.wr k e)))
  | none => if k.signed then ([.le (.c k.min) e, .le e (.c k.max)], .int k e) else ([], .int k (.wr k e))

theorem wrap_id (k : IntKind) (n : Int) (h : k.min ≤ n) (h' : n ≤ k.max) : k.wrap n = n := by
  revert h h'
  cases k <;> simp only [IntKind.wrap, IntKind.min, IntKind.max, IntKind.signed, IntKind.bits] <;> simp <;> intro h h' <;> (try split) <;> omega

theorem wr?_ok {B : Bd} {E : Env} (hB : BdOK B E) (k : IntKind) (e : IE) (hn : ∀ c ∈ (wr? B k e).1, c.P E) : (wr? B k e).2.den E = .int k (k.wrap (e.den E)) := by
  have hi := IE.iv_ok hB e
  unfold wr? at *
  split at hn
  · rename_i l h he
    rw [he] at hi
    simp only [inIv] at hi
    split
    · rename_i hr
      simp only [CV.den]; rw [wrap_id k _ (by omega) (by omega)]
    · split
      · rename_i hr hs
        simp only [hr, hs, if_true, if_false] at hn
        have h1 := hn _ (List.mem_cons_self ..)
        have h2 := hn _ (List.mem_cons_of_mem _ (List.mem_cons_self ..))
        simp only [BE.P, IE.den] at h1 h2
        simp only [CV.den]; rw [wrap_id k _ h1 h2]
      · rfl
  · split
    · rename_i hs
      simp only [hs, if_true] at hn
      have h1 := hn _ (List.mem_cons_self ..)
      have h2 := hn _ (List.mem_cons_of_mem _ (List.mem_cons_self ..))
      simp only [BE.P, IE.den] at h1 h2
      simp only [CV.den]; rw [wrap_id k _ h1 h2]
    · rfl

def ge1 (B : Bd) (e : IE) : Bool := match e.iv B with | some (l, _) => decide (1 ≤ l) | none => false
def ge0 (B : Bd) (e : IE) : Bool := match e.iv B with | some (l, _) => decide (0 ≤ l) | none => false
theorem ge1_ok {B : Bd} {E : Env} (hB : BdOK B E) {e : IE} (h : ge1 B e = true) : 1 ≤ e.den E := by
  have hi := IE.iv_ok hB e
  unfold ge1 at h; split at h
  · rename_i l u he; rw [he] at hi; simp only [inIv] at hi; simp at h; omega
  · simp at h
theorem ge0_ok {B : Bd} {E : Env} (hB : BdOK B E) {e : IE} (h : ge0 B e = true) : 0 ≤ e.den E := by
  have hi := IE.iv_ok hB e
  unfold ge0 at h; split at h
  · rename_i l u he; rw [he] at hi; simp only [inIv] at hi; simp at h; omega
  · simp at h

/-- two integers -/
def intBin (B : Bd) (op : BinOp) (k : IntKind) (a b : IE) : Option (List BE × CV) :=
  match op with
  | .add => some (wr? B k (a.addS b))
  | .sub => some (wr? B k (a.subS b))
  | .mul => some (wr? B k (a.mulS b))
  | .quo => let r := wr? B k (.quo a b); some (if ge1 B b then r else (.not (.eq b (.c 0)) :: r.1, r.2))
  | .rem => some (if ge1 B b then [] else [.not (.eq b (.c 0))], .int k (.rem a b))
  | .eql => some ([], .bool (a.eqS b))
  | .neq => some ([], .bool (a.eqS b).nt)
  | .lss => some ([], .bool (a.ltS b))
  | .leq => some ([], .bool (a.leS b))
  | .gtr => some ([], .bool (b.ltS a))
  | .geq => some ([], .bool (b.leS a))
  | .and => some ([], .int k (.bit .and k a b))
  | .or => some ([], .int k (.bit .or k a b))
  | .xor => some ([], .int k (.bit .xor k a b))
  | _ => none

theorem eqGuard_int (op : BinOp) (t : TypeId) (x y : Operand) (k k' : IntKind) (m n : Int) (P : Program) (w : World) : (eqGuard op t x y (.int k m) (.int k' n)).run P w = .ok () w := by
  unfold eqGuard; cases op <;> rfl
theorem eqGuard_bool (op : BinOp) (t : TypeId) (x y : Operand) (m n : Bool) (P : Program) (w : World) : (eqGuard op t x y (.bool m) (.bool n)).run P w = .ok () w := by
  unfold eqGuard; cases op <;> rfl

theorem intBin_ok {B : Bd} {E : Env} (hB : BdOK B E) {op : BinOp} {k : IntKind} {a b : IE} {r : List BE × CV} (h : intBin B op k a b = some r)
    (hn : ∀ c ∈ r.1, c.P E) (t : TypeId) (x y : Operand) (P : Program) (w : World) :
    (do eqGuard op t x y (.int k (a.den E)) (.int k (b.den E)); binOp op t (.int k (a.den E)) (.int k (b.den E)) : Sem Value).run P w = .ok (r.2.den E) w := by
  rw [Sem.run_bind, eqGuard_int]
  simp only [Result.andThen_ok]
  cases op <;> simp only [intBin, Option.some.injEq, reduceCtorEq] at h <;> subst h
  case add => simp [binOp, Op.intArith, wr?_ok hB k _ hn, IE.addS_den]
  case sub => simp [binOp, Op.intArith, wr?_ok hB k _ hn, IE.subS_den]
  case mul => simp [binOp, Op.intArith, wr?_ok hB k _ hn, IE.mulS_den]
  case quo =>
    have hb : b.den E ≠ 0 := by
      split at hn
      · rename_i h1; have := ge1_ok hB h1; omega
      · have := hn _ (List.mem_cons_self ..); simpa [BE.P, IE.den] using this
    have hn' : ∀ c ∈ (wr? B k (.quo a b)).1, c.P E := by
      split at hn
      · exact hn
      · intro c hc; exact hn c (List.mem_cons_of_mem _ hc)
    have hv := wr?_ok hB k (.quo a b) hn'
    have : (if ge1 B b = true then wr? B k (a.quo b) else (BE.not (BE.eq b (IE.c 0)) :: (wr? B k (a.quo b)).fst, (wr? B k (a.quo b)).snd)).2 = (wr? B k (a.quo b)).2 := by split <;> rfl
    simp only [this, hv]
    simp [binOp, Op.intDiv, hb, IE.den]
  case rem =>
    have hb : b.den E ≠ 0 := by
      simp only at hn
      split at hn
      · rename_i h1; have := ge1_ok hB h1; omega
      · have := hn _ (List.mem_cons_self ..); simpa [BE.P, IE.den] using this
    simp [binOp, Op.intDiv, hb, IE.den, CV.den]
  case eql => simp [binOp, Op.intCmp, CV.den, IE.eqS_den]
  case neq => simp [binOp, Op.intCmp, CV.den, BE.nt_den, IE.eqS_den, bne]
  case lss => simp [binOp, Op.intCmp, CV.den, IE.ltS_den]
  case leq => simp [binOp, Op.intCmp, CV.den, IE.leS_den]
  case gtr => simp [binOp, Op.intCmp, CV.den, IE.ltS_den]
  case geq => simp [binOp, Op.intCmp, CV.den, IE.leS_den]
  case and => simp [binOp, Op.intBits, CV.den, IE.den, bitInt]
  case or => simp [binOp, Op.intBits, CV.den, IE.den, bitInt]
  case xor => simp [binOp, Op.intBits, CV.den, IE.den, bitInt]

def shiftOp (B : Bd) (op : BinOp) (k : IntKind) (a b : IE) : Option (List BE × CV) :=
  match op with
  | .shl => some (if ge0 B b then [] else [.le (.c 0) b], .int k (.bit .shl k a b))
  | .shr => some (if ge0 B b then [] else [.le (.c 0) b], .int k (.bit .shr k a b))
  | _ => none

theorem shiftOp_ok {B : Bd} {E : Env} (hB : BdOK B E) {op : BinOp} {k k' : IntKind} {a b : IE} {r : List BE × CV} (h : shiftOp B op k a b = some r)
    (hn : ∀ c ∈ r.1, c.P E) (t : TypeId) (x y : Operand) (P : Program) (w : World) :
    (do eqGuard op t x y (.int k (a.den E)) (.int k' (b.den E)); binOp op t (.int k (a.den E)) (.int k' (b.den E)) : Sem Value).run P w = .ok (r.2.den E) w := by
  rw [Sem.run_bind, eqGuard_int]
  simp only [Result.andThen_ok]
  have key : ∀ r : List BE, (∀ c ∈ (if ge0 B b = true then ([] : List BE) else [.le (.c 0) b]), c.P E) → 0 ≤ b.den E := by
    intro _ hn
    split at hn
    · rename_i h1; exact ge0_ok hB h1
    · have := hn _ (List.mem_cons_self ..); simpa [BE.P, IE.den] using this
  cases op <;> simp only [shiftOp, Option.some.injEq, reduceCtorEq] at h <;> subst h <;> have hb := key [] hn <;>
    simp [binOp, Op.shift, CV.den, IE.den, bitInt, show ¬ b.den E < 0 by omega]

def eqL : List CV → List CV → BE
  | .int _ a :: r, .int _ b :: q => (a.eqS b).an (eqL r q)
  | _, _ => .c true
def allI64 : List CV → Bool
  | [] => true
  | .int .i64 _ :: r => allI64 r
  | _ => false
def iesOf : List CV → List IE
  | .int _ a :: r => a :: iesOf r
  | _ => []
theorem allI64_den {l : List CV} (E : Env) (h : allI64 l = true) : l.map (CV.den E) = ((iesOf l).map (IE.den E)).map (Value.int .i64) := by
  induction l with
  | nil => rfl
  | cons c r ih =>
    cases c with
    | int k e =>
      cases k <;> simp only [allI64, Bool.false_eq_true] at h
      simp [iesOf, CV.den, ih h]
    | _ => simp [allI64] at h
theorem eqL_den (E : Env) : ∀ (l m : List CV), allI64 l = true → allI64 m = true → l.length = m.length →
    (eqL l m).den E = decide ((iesOf l).map (IE.den E) = (iesOf m).map (IE.den E))
  | [], [], _, _, _ => by simp [eqL, iesOf, BE.den]
  | [], _ :: _, _, _, h => by simp at h
  | _ :: _, [], _, _, h => by simp at h
  | .int k a :: r, .int k' b :: q, h1, h2, h3 => by
    have h1' : allI64 r = true := by cases k <;> simp_all [allI64]
    have h2' : allI64 q = true := by cases k' <;> simp_all [allI64]
    have ih := eqL_den E r q h1' h2' (by simpa using h3)
    simp only [eqL, BE.an_den, IE.eqS_den, ih, iesOf, List.map_cons, List.cons.injEq]
    by_cases e : a.den E = b.den E <;> simp [e]
  | .bool _ :: _, _, h, _, _ | .ptr _ _ :: _, _, h, _, _ | .elp _ _ _ _ :: _, _, h, _, _ | .sl _ :: _, _, h, _, _ | .nsl :: _, _, h, _, _ | .str _ :: _, _, h, _, _ | .sk _ :: _, _, h, _, _ | .fn _ :: _, _, h, _, _ | .fc _ :: _, _, h, _, _ => by simp [allI64] at h
  | .int _ _ :: _, .bool _ :: _, _, h, _ | .int _ _ :: _, .ptr _ _ :: _, _, h, _ | .int _ _ :: _, .elp _ _ _ _ :: _, _, h, _ | .int _ _ :: _, .sl _ :: _, _, h, _ | .int _ _ :: _, .nsl :: _, _, h, _ | .int _ _ :: _, .str _ :: _, _, h, _ | .int _ _ :: _, .sk _ :: _, _, h, _ | .int _ _ :: _, .fn _ :: _, _, h, _ | .int _ _ :: _, .fc _ :: _, _, h, _ => by simp [allI64] at h

/-- bools -/
def boolBin (op : BinOp) (a b : BE) : Option CV :=
  match op with
  | .eql => some (.bool (.iff a b))
  | .neq => some (.bool (.not (.iff a b)))
  | _ => none

end Go.Proofs.Ytelejhggpkfdoaa.SX

/-
  SX, part 5: loads, addresses, parts; 'valOp': all that only computes.
-/
namespace Go.Proofs.Ytelejhggpkfdoaa.SX
open Go.RowKit

def findBlk : List It → Nat → Option (TypeId × List CV × Bool)
  | [], _ => none
  | .blk m T cs o :: r, n => if m = n then some (T, cs, o) else findBlk r n
  | _ :: r, n => findBlk r n
def findIsl : List It → Nat → Option (TypeId × IntKind × Nat × Bool)
  | [], _ => none
  | .isl m T k z o :: r, n => if m = n then some (T, k, z, o) else findIsl r n
  | _ :: r, n => findIsl r n

theorem findBlk_mem {h : List It} {n : Nat} {T : TypeId} {cs : List CV} {o : Bool} (hf : findBlk h n = some (T, cs, o)) : It.blk n T cs o ∈ h := by
  induction h with
  | nil => simp [findBlk] at hf
  | cons x r ih =>
    cases x with
    | blk m T' cs' o' =>
      simp only [findBlk] at hf
      split at hf
      · rename_i e; subst e; simp at hf; obtain ⟨rfl, rfl, rfl⟩ := hf; exact List.mem_cons_self ..
      · exact List.mem_cons_of_mem _ (ih hf)
    | isl => simp only [findBlk] at hf; exact List.mem_cons_of_mem _ (ih hf)
theorem findIsl_mem {h : List It} {n : Nat} {T : TypeId} {k : IntKind} {z : Nat} {o : Bool} (hf : findIsl h n = some (T, k, z, o)) : It.isl n T k z o ∈ h := by
  induction h with
  | nil => simp [findIsl] at hf
  | cons x r ih =>
    cases x with
    | isl m T' k' z' o' =>
      simp only [findIsl] at hf
      split at hf
      · rename_i e; subst e; simp at hf; obtain ⟨rfl, rfl, rfl, rfl⟩ := hf; exact List.mem_cons_self ..
      · exact List.mem_cons_of_mem _ (ih hf)
    | blk => simp only [findIsl] at hf; exact List.mem_cons_of_mem _ (ih hf)

def isAggT (P : Program) (t : TypeId) : Option Bool :=
  match P.underlying t with
  | some (.struct _) => some true
  | some (.array _ _) => some true
  | some _ => some false
  | none => none
def szT (P : Program) (t : TypeId) : Option Nat := (P.info? t).map (·.size)

theorem run_isAgg {P : Program} {t : TypeId} {b : Bool} (h : isAggT P t = some b) (w : World) : (isAgg t).run P w = .ok b w := by
  unfold isAggT at h
  split at h <;> simp at h <;> subst h
  · rename_i d; simp [isAgg, run_underlying d]
  · rename_i d; simp [isAgg, run_underlying d]
  · rename_i d h1 h2 hd
    simp only [isAgg, Sem.run_bind, run_underlying hd, Result.andThen_ok]
    cases d <;> simp_all
theorem run_szT {P : Program} {t : TypeId} {n : Nat} (h : szT P t = some n) (w : World) : (sizeOf t).run P w = .ok n w := by
  unfold szT at h
  cases hi : P.info? t with
  | none => simp [hi] at h
  | some i => simp [hi] at h; subst h; simp [sizeOf, typeInfo, hi]

def idx (i : IE) (z off : Nat) : IE := (i.mulS (.c z)).addS (.c off)
theorem idx_den (E : Env) (i : IE) (z off : Nat) : (idx i z off).den E = i.den E * z + off := by
  simp [idx, IE.addS_den, IE.mulS_den, IE.den]
theorem idx_toNat {E : Env} {i : IE} {z off : Nat} (h : 0 ≤ i.den E) : ((idx i z off).den E).toNat = (i.den E).toNat * z + off := by
  rw [idx_den]
  obtain ⟨m, hm⟩ : ∃ m : Nat, i.den E = m := ⟨(i.den E).toNat, by omega⟩
  rw [hm]
  have : ((m : Int) * z + off) = ((m * z + off : Nat) : Int) := by simp
  rw [this]; exact Int.toNat_natCast _

def bnds (B : Bd) (i n : IE) : List BE := (if ge0 B i then [] else [.le (.c 0) i]) ++ [i.ltS n]
theorem bnds_ok {B : Bd} {E : Env} (hB : BdOK B E) {i n : IE} (h : ∀ c ∈ bnds B i n, c.P E) : 0 ≤ i.den E ∧ i.den E < n.den E := by
  unfold bnds at h
  have h2 := h (i.ltS n) (by simp)
  rw [← BE.den_iff, IE.ltS_den] at h2
  refine ⟨?_, by simpa using h2⟩
  split at h
  · rename_i h0; exact ge0_ok hB h0
  · have := h (.le (.c 0) i) (by simp); simpa [BE.P, IE.den] using this

/-- a variable's value -/
def loadV (P : Program) (st : St) (t : TypeId) (a : CV) : Option (List BE × PV) :=
  match a, isAggT P t, szT P t with
  | .ptr n off, some true, some m => match findBlk st.h n with
    | some (_, cs, _) => let l := (cs.drop off).take m; if l.length = m then some ([], .a l) else none
    | none => none
  | .ptr n off, some false, _ => match findBlk st.h n with
    | some (_, cs, _) => match cs[off]? with
      | some c => some ([], .c c)
      | none => none
    | none => none
  | .elp s i z off, some true, some m => match findIsl st.h s with
    | some (_, k, z', _) => if z = z' ∧ off + m ≤ z ∧ 0 < m then some (bnds st.B i (.sl s), .a ((List.range m).map fun j => .int k (.sg s (idx i z (off + j)))))
        else if z = z' ∧ z = 1 ∧ i = .c 0 ∧ off = 0 ∧ 0 < m then some ([.le (.c m) (.sl s)], .a ((List.range m).map fun (j : Nat) => .int k (.sg s (.c (j : Int))))) else none
    | none => none
  | .elp s i z off, some false, _ => match findIsl st.h s with
    | some (_, k, z', _) => if z = z' ∧ off + 1 ≤ z then some (bnds st.B i (.sl s), .c (.int k (.sg s (idx i z off)))) else none
    | none => none
  | _, _, _ => none

theorem cell_blk {w : World} {b : Nat} {cs : List Value} {T : TypeId} {fz : Nat × Nat} (h : w.heap[b]? = some (.cells cs.toArray T fz)) (o : Nat) : w.cell? ⟨b, o, none⟩ = cs[o]? := by
  simp [World.cell?, h]

section
variable {C : Cfg} {B : Nat} {S : List Nat} {st : St} {E : Env} {w : World}

theorem elp_cell (hh : HOK B S st.h E w) {s : Nat} {T : TypeId} {k : IntKind} {z : Nat} {o : Bool} (hf : findIsl st.h s = some (T, k, z, o)) {i : IE} {q : Nat}
    (h0 : 0 ≤ i.den E) (h1 : i.den E < ((E.s.getD s nilSl).n : Int)) (hq : q < z) :
    ∃ a, (E.s.getD s nilSl).a = some a ∧ w.cell? (a.add ((i.den E).toNat * z + q)) = some (.int k ((IE.sg s (idx i z q)).den E)) := by
  have hr := It.reads (hh.holds _ (findIsl_mem hf))
  have hlt : (i.den E).toNat * z + q < (E.s.getD s nilSl).xs.length := by
    rw [hr.len]
    have : (i.den E).toNat + 1 ≤ (E.s.getD s nilSl).n := by omega
    have := Nat.mul_le_mul_right z this
    rw [Nat.add_mul] at this; omega
  obtain ⟨a, ha, hc⟩ := hr.cell ((i.den E).toNat * z + q) _ (by unfold ints; rw [List.getElem?_map, List.getElem?_eq_getElem hlt]; rfl)
  refine ⟨a, ha, ?_⟩
  rw [hc]
  simp only [IE.den]
  rw [idx_toNat h0]
  generalize (E.s.getD s nilSl).xs = xs at *
  rw [List.getD_eq_getElem?_getD, List.getElem?_eq_getElem hlt]
  rfl

theorem loadV_ok (hE : BdOK st.B E) (hh : HOK B S st.h E w) {t : TypeId} {a : CV} {r : List BE × PV} (h : loadV C.P st t a = some r) (hn : ∀ c ∈ r.1, c.P E) :
    (Instr.loadAt t (a.den E)).run C.P w = .ok (r.2.den E) w := by
  unfold loadV at h
  split at h
  · -- ptr, agg
    rename_i n off m hg hz
    split at h
    · rename_i T cs o hf
      simp only at h
      split at h
      · rename_i hl
        simp at h; subst h
        have hb := hh.holds _ (findBlk_mem hf)
        simp only [It.holds] at hb
        have hlc := run_loadCells_list (P := C.P) w ⟨E.n.getD n 0, off, none⟩ (((cs.drop off).take m).map (CV.den E)) (fun j v hv => by
          rw [Addr.add_lit, cell_blk hb]
          rw [List.getElem?_map, List.getElem?_take] at hv
          split at hv
          · rw [List.getElem?_drop] at hv; rw [List.getElem?_map]; exact hv
          · simp at hv)
        simp only [List.length_map, hl] at hlc
        simp only [CV.den, Instr.loadAt, Instr.sureAddr, loadVar]
        simp only [Sem.run_bind, run_isAgg hg, Result.andThen_ok, ↓reduceIte, run_szT hz, hlc, Sem.run_pure, PV.den]
      · simp at h
    · simp at h
  · rename_i n off hg
    split at h
    · rename_i T cs o hf
      split at h
      · rename_i c hc
        simp at h; subst h
        have hb := hh.holds _ (findBlk_mem hf)
        simp only [It.holds] at hb
        have hcell : w.cell? ⟨E.n.getD n 0, off, none⟩ = some (c.den E) := by rw [cell_blk hb, List.getElem?_map, hc]; rfl
        simp only [CV.den, Instr.loadAt, Instr.sureAddr, loadVar]
        simp only [Sem.run_bind, Sem.run_pure, run_isAgg hg, Result.andThen_ok, Bool.false_eq_true, ↓reduceIte, run_load, hcell, PV.den]
      · simp at h
    · simp at h
  · rename_i s i z off m hg hz
    split at h
    · rename_i T k z' o hf
      split at h
      · rename_i hc
        obtain ⟨rfl, hm, hm0⟩ := hc
        simp at h; subst h
        obtain ⟨h0, h1⟩ := bnds_ok hE hn
        have h1' : i.den E < ((E.s.getD s nilSl).n : Int) := by simpa [IE.den] using h1
        have hcells := fun q hq => elp_cell hh hf (q := q) h0 h1' hq
        · obtain ⟨a, ha, _⟩ := hcells off (by omega)
          have hlc := run_loadCells_list (P := C.P) w (a.add ((i.den E).toNat * z + off)) ((List.range m).map fun j => CV.den E (.int k (.sg s (idx i z (off + j))))) (fun j v hv => by
            rw [List.getElem?_map] at hv
            rcases Nat.lt_or_ge j m with hj | hj
            · rw [List.getElem?_range hj] at hv
              simp at hv; subst hv
              obtain ⟨a', ha', hc⟩ := hcells (off + j) (by omega)
              rw [ha] at ha'; injection ha' with e; subst e
              rw [Addr.add_add, Nat.add_assoc, hc]; rfl
            · rw [List.getElem?_eq_none (by simpa using hj)] at hv; simp at hv)
          simp only [List.length_map, List.length_range] at hlc
          simp only [CV.den, Instr.loadAt, ha, Option.map_some, Instr.sureAddr, loadVar]
          simp only [Sem.run_bind, run_isAgg hg, Result.andThen_ok, ↓reduceIte, run_szT hz, hlc, Sem.run_pure, PV.den, List.map_map, Function.comp_def]
      · split at h
        · rename_i hc
          obtain ⟨rfl, rfl, rfl, rfl, hm0⟩ := hc
          simp at h; subst h
          have h1 : ((m : Int)) ≤ ((E.s.getD s nilSl).n : Int) := by simpa [BE.P, IE.den] using hn
          have hcells : ∀ q : Nat, q < m → ∃ a, (E.s.getD s nilSl).a = some a ∧ w.cell? (a.add q) = some (.int k ((IE.sg s (.c q)).den E)) := fun q hq => by
            obtain ⟨a, ha, hc⟩ := elp_cell hh hf (i := .c (q : Int)) (q := 0) (by simp [IE.den]) (by simp only [IE.den]; omega) (by omega)
            refine ⟨a, ha, ?_⟩
            simp only [IE.den, Int.toNat_natCast, Nat.mul_one, Nat.add_zero] at hc
            rw [hc]
            simp only [IE.den, idx_den]
            simp
          obtain ⟨a, ha, _⟩ := hcells 0 hm0
          have hlc := run_loadCells_list (P := C.P) w (a.add 0) ((List.range m).map fun (j : Nat) => CV.den E (.int k (.sg s (.c (j : Int))))) (fun j v hv => by
            rw [List.getElem?_map] at hv
            rcases Nat.lt_or_ge j m with hj | hj
            · rw [List.getElem?_range hj] at hv
              simp at hv; subst hv
              obtain ⟨a', ha', hc⟩ := hcells j hj
              rw [ha] at ha'; injection ha' with e; subst e
              rw [Addr.add_add, Nat.zero_add, hc]; rfl
            · rw [List.getElem?_eq_none (by simpa using hj)] at hv; simp at hv)
          simp only [List.length_map, List.length_range] at hlc
          simp only [CV.den, Instr.loadAt, ha, Option.map_some, Instr.sureAddr, loadVar, IE.den, Int.toNat_zero, Nat.zero_mul, Nat.add_zero]
          simp only [Sem.run_bind, run_isAgg hg, Result.andThen_ok, ↓reduceIte, run_szT hz, hlc, Sem.run_pure, PV.den, List.map_map, Function.comp_def]
        · simp at h
    · simp at h
  · rename_i s i z off hg
    split at h
    · rename_i T k z' o hf
      split at h
      · rename_i hc
        obtain ⟨rfl, hm⟩ := hc
        simp at h; subst h
        obtain ⟨h0, h1⟩ := bnds_ok hE hn
        have h1' : i.den E < ((E.s.getD s nilSl).n : Int) := by simpa [IE.den] using h1
        obtain ⟨a, ha, hc⟩ := elp_cell hh hf (q := off) h0 h1' (by omega)
        simp only [CV.den, Instr.loadAt, ha, Option.map_some, Instr.sureAddr, loadVar]
        simp only [Sem.run_bind, Sem.run_pure, run_isAgg hg, Result.andThen_ok, Bool.false_eq_true, ↓reduceIte, run_load, hc, PV.den, CV.den]
      · simp at h
    · simp at h
  · simp at h
end
end Go.Proofs.Ytelejhggpkfdoaa.SX

/-
  SX, part 6: 'valOp': the operations that only compute.
-/
namespace Go.Proofs.Ytelejhggpkfdoaa.SX
set_option linter.unusedVariables false
set_option linter.unusedSimpArgs false
open Go.RowKit

def St.getP (st : St) (x : Operand) : Option PV := match st.ev x with | .p v => some v | _ => none
def St.getC (st : St) (x : Operand) : Option CV := match st.ev x with | .p (.c v) => some v | _ => none

def structOf (P : Program) (t : TypeId) : Option (Array Field) := match P.underlying t with | some (.struct f) => some f | _ => none
def arrayOf (P : Program) (t : TypeId) : Option (Nat × TypeId) := match P.underlying t with | some (.array n e) => some (n, e) | _ => none
def sliceOf (P : Program) (t : TypeId) : Option TypeId := match P.underlying t with | some (.slice e) => some e | _ => none
def intOf? (P : Program) (t : TypeId) : Option IntKind := match P.underlying t with | some (.int k) => some k | _ => none
theorem structOf_ok {P : Program} {t : TypeId} {f : Array Field} (h : structOf P t = some f) : P.underlying t = some (.struct f) := by
  unfold structOf at h; split at h <;> simp_all
theorem arrayOf_ok {P : Program} {t : TypeId} {r : Nat × TypeId} (h : arrayOf P t = some r) : P.underlying t = some (.array r.1 r.2) := by
  unfold arrayOf at h; split at h
  · rename_i n e he; simp at h; subst h; exact he
  · simp at h
theorem sliceOf_ok {P : Program} {t e : TypeId} (h : sliceOf P t = some e) : P.underlying t = some (.slice e) := by
  unfold sliceOf at h; split at h <;> simp_all
theorem intOf?_ok {P : Program} {t : TypeId} {k : IntKind} (h : intOf? P t = some k) : P.underlying t = some (.int k) := by
  unfold intOf? at h; split at h <;> simp_all

/-- a field's address -/
def fieldA (P : Program) (s : TypeId) (a : CV) (f : Nat) : Option CV :=
  match structOf P s with
  | some fs => match fs[f]? with
    | some fd => match szT P fd.type with
      | some (m + 1) => match a with
        | .ptr n off => some (.ptr n (off + fd.offset))
        | _ => none
      | _ => none
    | none => none
  | none => none

theorem fieldA_ok {P : Program} {s : TypeId} {a r : CV} {f : Nat} (h : fieldA P s a f = some r) (E : Env) (w : World) :
    (Instr.fieldAt s (a.den E) f).run P w = .ok (r.den E) w := by
  unfold fieldA at h
  split at h
  · rename_i fs hs
    split at h
    · rename_i fd hf
      split at h
      · rename_i m hm
        split at h
        · simp at h; subst h
          simp only [Instr.fieldAt, CV.den, Instr.sureAddr, fieldPlace, Sem.run_bind, run_underlying (structOf_ok hs), Result.andThen_ok, hf, Sem.run_pure, run_szT hm, Nat.succ_ne_zero, ↓reduceIte, Addr.add_lit]
        · simp at h
      · simp at h
    · simp at h
  · simp at h

/-- an element's address -/
def indexA (C : Cfg) (st : St) (t : TypeId) (a i : CV) : Option (List BE × CV) :=
  match a, i with
  | .ptr n off, .int _ (.c j) => match arrayOf C.P t with
    | some (len, e) => match szT C.P e with
      | some m => if 0 ≤ j ∧ j < len then some ([], .ptr n (off + j.toNat * m)) else none
      | none => none
    | none => none
  | .elp s q z off, .int _ (.c j) => match arrayOf C.P t with
    | some (len, e) => match szT C.P e, findIsl st.h s with
      | some m, some (_, _, z', _) => if 0 ≤ j ∧ j < len ∧ z = z' ∧ off < z then some (bnds st.B q (.sl s), .elp s q z (off + j.toNat * m)) else none
      | _, _ => none
    | none => none
  | .sl s, .int _ q => match sliceOf C.P t with
    | some e => match szT C.P e, findIsl st.h s with
      | some m, some (_, _, z, _) => if m = z ∧ 0 < z then some (bnds st.B q (.sl s), .elp s q z 0) else none
      | _, _ => none
    | none => none
  | _, _ => none

theorem indexA_ok {C : Cfg} {B : Nat} {S : List Nat} {st : St} {E : Env} {w : World} (hE : BdOK st.B E) (hh : HOK B S st.h E w)
    {t : TypeId} {a i : CV} {r : List BE × CV} (h : indexA C st t a i = some r) (hn : ∀ c ∈ r.1, c.P E) :
    (Instr.indexAt t (a.den E) (i.den E)).run C.P w = .ok (r.2.den E) w := by
  unfold indexA at h
  split at h
  · rename_i n off k j
    split at h
    · rename_i len e ha
      split at h
      · rename_i m hm
        split at h
        · rename_i hj
          simp at h; subst h
          simp only [Instr.indexAt, CV.den, IE.den, asIntOf, Instr.sureAddr, Sem.run_bind, Sem.run_pure, Result.andThen_ok, run_underlying (arrayOf_ok ha), hj, and_self, ↓reduceIte, run_szT hm, Addr.add_lit]
        · simp at h
      · simp at h
    · simp at h
  · rename_i s q z off k j
    split at h
    · rename_i len e ha
      split at h
      · rename_i m x1 z1 z' x2 hm hf
        split at h
        · rename_i hj
          obtain ⟨h0, h1, rfl, hz⟩ := hj
          simp at h; subst h
          obtain ⟨hq0, hq1⟩ := bnds_ok hE hn
          have hq1' : q.den E < ((E.s.getD s nilSl).n : Int) := by simpa [IE.den] using hq1
          obtain ⟨ad, had, _⟩ := elp_cell hh hf (q := off) hq0 hq1' hz
          simp only [Instr.indexAt, CV.den, IE.den, asIntOf, had, Option.map_some, Instr.sureAddr, Sem.run_bind, Sem.run_pure, Result.andThen_ok, run_underlying (arrayOf_ok ha), h0, h1, and_self, ↓reduceIte, run_szT hm, Addr.add_add, Nat.add_assoc]
        · simp at h
      · simp at h
    · simp at h
  · rename_i s k q
    split at h
    · rename_i e ha
      split at h
      · rename_i m x1 z1 z x2 hm hf
        split at h
        · rename_i hj
          obtain ⟨rfl, hz⟩ := hj
          simp at h; subst h
          obtain ⟨hq0, hq1⟩ := bnds_ok hE hn
          have hq1' : q.den E < ((E.s.getD s nilSl).n : Int) := by simpa [IE.den] using hq1
          obtain ⟨ad, had, _⟩ := elp_cell hh hf (q := 0) hq0 hq1' hz
          simp only [Instr.indexAt, CV.den, IE.den, Sl.val, asIntOf, had, Option.map_some, Sem.run_bind, Sem.run_pure, Result.andThen_ok, run_underlying (sliceOf_ok ha), hq0, hq1', and_self, ↓reduceIte, run_szT hm, Nat.add_zero]
        · simp at h
      · simp at h
    · simp at h
  · simp at h

end Go.Proofs.Ytelejhggpkfdoaa.SX

/-
  SX, part 7: parts of values, literals of arrays and structs, 'valOp'.
-/
namespace Go.Proofs.Ytelejhggpkfdoaa.SX
set_option linter.unusedVariables false
set_option linter.unusedSimpArgs false
open Go.RowKit

def partV (P : Program) (t : TypeId) (cs : List CV) (off : Nat) : Option PV :=
  match isAggT P t, szT P t with
  | some true, some m => some (.a ((cs.drop off).take m))
  | some false, _ => match cs[off]? with
    | some c => some (.c c)
    | none => none
  | _, _ => none
theorem partV_ok {P : Program} {t : TypeId} {cs : List CV} {off : Nat} {r : PV} (h : partV P t cs off = some r) (E : Env) (w : World) :
    (part t (cs.map (CV.den E)).toArray off).run P w = .ok (r.den E) w := by
  unfold partV at h
  split at h
  · rename_i m hg hm
    simp at h; subst h
    simp only [part, Sem.run_bind, run_isAgg hg, Result.andThen_ok, ↓reduceIte, run_szT hm, Sem.run_pure, PV.den]
    congr 2
    simp [List.map_take, List.map_drop]
  · rename_i hg
    split at h
    · rename_i c hc
      simp at h; subst h
      have : (cs.map (CV.den E)).toArray[off]? = some (c.den E) := by simp [hc]
      simp only [part, Sem.run_bind, run_isAgg hg, Result.andThen_ok, Bool.false_eq_true, ↓reduceIte, this, Sem.run_pure, PV.den]
    · simp at h
  · simp at h

def setSeg (l : List CV) (off : Nat) : List CV → List CV
  | [] => l
  | c :: r => setSeg (l.set off c) (off + 1) r
theorem setSeg_len (l : List CV) (off : Nat) (cs : List CV) : (setSeg l off cs).length = l.length := by
  induction cs generalizing l off with
  | nil => rfl
  | cons c r ih => simp [setSeg, ih]
theorem setSeg_ok (E : Env) (off : Nat) (vs : List CV) : ∀ (k : Nat) (l : List CV),
    ((vs.map (CV.den E)).zipIdx k).foldl (fun (cs : Array Value) x => cs.setIfInBounds (off + x.2) x.1) (l.map (CV.den E)).toArray = ((setSeg l (off + k) vs).map (CV.den E)).toArray := by
  induction vs with
  | nil => intro k l; rfl
  | cons c r ih =>
    intro k l
    simp only [List.map_cons, List.zipIdx_cons, List.foldl_cons, setSeg]
    have : (l.map (CV.den E)).toArray.setIfInBounds (off + k) (c.den E) = ((l.set (off + k) c).map (CV.den E)).toArray := by simp [List.map_set]
    rw [this, ih (k + 1)]; rfl

def fillC (place : Nat → Option (Nat × Nat)) (cells : List CV) : List (Nat × PV) → Option (List CV)
  | [] => some cells
  | (i, v) :: rest =>
    match place i with
    | none => none
    | some (off, size) => if v.cs.length ≠ size ∨ off + v.cs.length > cells.length then none else fillC place (setSeg cells off v.cs) rest

theorem fillC_ok (E : Env) (place : Nat → Option (Nat × Nat)) : ∀ (ps : List (Nat × PV)) (cells r : List CV), fillC place cells ps = some r →
    Instr.fill place (cells.map (CV.den E)).toArray (ps.map fun x => (x.1, x.2.den E)) = some (r.map (CV.den E)).toArray
  | [], cells, r, h => by simp [fillC] at h; subst h; rfl
  | (i, v) :: rest, cells, r, h => by
    simp only [fillC] at h
    split at h
    · simp at h
    · rename_i off size hp
      split at h
      · simp at h
      · rename_i hc
        simp only [List.map_cons, Instr.fill, hp, PV.den_cells, List.size_toArray, List.length_map]
        rw [if_neg (by simpa using hc)]
        have := setSeg_ok E off v.cs 0 cells
        rw [← fillC_ok E place rest _ r h]
        congr 1
        simpa using this

def zeroC (P : Program) (t : TypeId) : Option (List CV) :=
  match P.info? t with
  | some i => match i.zero with
    | some z => CV.ofL z.cells.toList
    | none => none
  | none => none
theorem zeroC_ok {P : Program} {t : TypeId} {cs : List CV} (h : zeroC P t = some cs) (E : Env) (w : World) : ∃ z, (zeroValue t).run P w = .ok z w ∧ z.cells = (cs.map (CV.den E)).toArray := by
  unfold zeroC at h
  split at h
  · rename_i i hi
    split at h
    · rename_i z hz
      exact ⟨z, by simp [zeroValue, typeInfo, hi, hz], by rw [CV.ofL_ok E h]⟩
    · simp at h
  · simp at h

def fieldSz (P : Program) : List Field → Option (List (Nat × Nat))
  | [] => some []
  | f :: r => match szT P f.type, fieldSz P r with
    | some n, some l => some ((f.offset, n) :: l)
    | _, _ => none
theorem fieldSz_ok {P : Program} (w : World) : ∀ (fs : List Field) (l : List (Nat × Nat)), fieldSz P fs = some l →
    (fs.mapM fun f => do pure (f.offset, ← sizeOf f.type) : Sem (List (Nat × Nat))).run P w = .ok l w
  | [], l, h => by simp [fieldSz] at h; subst h; rfl
  | f :: r, l, h => by
    simp only [fieldSz] at h
    split at h
    · rename_i n q hn hq
      simp at h; subst h
      simp only [List.mapM_cons, Sem.run_bind, run_szT hn, Result.andThen_ok, Sem.run_pure, fieldSz_ok w r q hq]
    · simp at h

def partsC (st : St) : List (Nat × Operand) → Option (List (Nat × PV))
  | [] => some []
  | (i, x) :: r => match st.getP x, partsC st r with
    | some v, some l => some ((i, v) :: l)
    | _, _ => none

def buildV (P : Program) (st : St) (t : TypeId) (ps : List (Nat × Operand)) : Option PV :=
  match zeroC P t, partsC st ps with
  | some z, some l => match P.underlying t with
    | some (.struct fs) => match fieldSz P fs.toList with
      | some q => match fillC (q[·]?) z l with
        | some r => some (.a r)
        | none => none
      | none => none
    | some (.array _ e) => match szT P e with
      | some m => match fillC (fun i => some (i * m, m)) z l with
        | some r => some (.a r)
        | none => none
      | none => none
    | _ => none
  | _, _ => none

section
variable {C : Cfg} {B : Nat} {S : List Nat} {st : St} {E : Env} {a : Act} {w : World} (ha : ∀ x, (st.ev x).ok E (a.eval x))
 include ha

theorem getP_ok {x : Operand} {v : PV} (h : st.getP x = some v) : a.eval x = v.den E := by
  unfold St.getP at h
  split at h
  · rename_i q hq; simp at h; subst h
    rcases ha x with h1 | h1
    · rw [hq] at h1; cases h1
    · rw [h1, hq]; rfl
  · simp at h
theorem getC_ok {x : Operand} {v : CV} (h : st.getC x = some v) : a.eval x = v.den E := by
  unfold St.getC at h
  split at h
  · rename_i q hq; simp at h; subst h
    rcases ha x with h1 | h1
    · rw [hq] at h1; cases h1
    · rw [h1, hq]; rfl
  · simp at h
theorem ev_ok {x : Operand} {tv : TV} (h : st.ev x = tv) (hj : tv ≠ .junk) : a.eval x = tv.val E := by
  rcases ha x with h1 | h1
  · rw [h] at h1; exact (hj h1).elim
  · rw [h1, h]

theorem partsC_ok : ∀ (ps : List (Nat × Operand)) (l : List (Nat × PV)), partsC st ps = some l → ps.map (fun (i, x) => (i, a.eval x)) = l.map fun x => (x.1, x.2.den E)
  | [], l, h => by simp [partsC] at h; subst h; rfl
  | (i, x) :: r, l, h => by
    simp only [partsC] at h
    split at h
    · rename_i v q hv hq
      simp at h; subst h
      simp only [List.map_cons, getP_ok ha hv, partsC_ok r q hq]
    · simp at h

theorem buildV_ok {t : TypeId} {ps : Array (Nat × Operand)} {r : PV} (h : buildV C.P st t ps.toList = some r) :
    (Instr.build t (ps.map fun (i, x) => (i, a.eval x))).run C.P w = .ok (r.den E) w := by
  unfold buildV at h
  split at h
  · rename_i z l hz hl
    obtain ⟨zv, hzr, hzc⟩ := zeroC_ok hz E w
    have hp : (ps.map fun (i, x) => (i, a.eval x)).toList = l.map fun x => (x.1, x.2.den E) := by rw [Array.toList_map]; exact partsC_ok ha _ _ hl
    split at h
    · rename_i fs hu
      split at h
      · rename_i q hq
        split at h
        · rename_i r' hf
          simp at h; subst h
          have h1 := fieldSz_ok (P := C.P) w _ _ hq
          have h2 := fillC_ok E _ _ _ _ hf
          have h3 : (fs.mapM fun f => do pure (f.offset, ← sizeOf f.type) : Sem (Array (Nat × Nat))).run C.P w = .ok q.toArray w := by
            rw [Array.mapM_eq_mapM_toList, Sem.run_map, h1]; rfl
          simp only [Instr.build, Sem.run_bind, hzr, Result.andThen_ok, run_underlying hu, h3, hp, hzc]
          have h4 : Instr.fill (fun x => q.toArray[x]?) (z.map (CV.den E)).toArray (l.map fun x => (x.1, x.2.den E)) = some (r'.map (CV.den E)).toArray := by
            rw [← h2]; congr 1; funext i; simp
          simp only [h4, Sem.run_pure]; rfl
        · simp at h
      · simp at h
    · rename_i n e hu
      split at h
      · rename_i m hm
        split at h
        · rename_i r' hf
          simp at h; subst h
          have h2 := fillC_ok E _ _ _ _ hf
          simp only [Instr.build, Sem.run_bind, hzr, Result.andThen_ok, run_underlying hu, run_szT hm, hp, hzc, h2, Sem.run_pure]; rfl
        · simp at h
      · simp at h
    · simp at h
  · simp at h
end

/-- All that only computes: what must hold, and the value. -/
def valOp (C : Cfg) (st : St) (op : Op) : Option (List BE × TV) :=
  match op with
  | .move x | .assign x => match st.ev x with
    | .junk => none
    | tv => some ([], tv)
  | .pick c x y => match st.getC c with
    | some (.bool (.c true)) => (match st.ev x with | .junk => none | tv => some ([], tv))
    | some (.bool (.c false)) => (match st.ev y with | .junk => none | tv => some ([], tv))
    | _ => none
  | .nilCheck x => match st.getC x with
    | some (.ptr n off) => some ([], .p (.c (.ptr n off)))
    | some (.fn f) => some ([], .p (.c (.fn f)))
    | _ => none
  | .binOp op t x y _ => match st.getP x, st.getP y with
    | some (.c (.int k a)), some (.c (.int k' b)) =>
      if op = .shl ∨ op = .shr then (match shiftOp st.B op k a b with | some r => some (r.1, .p (.c r.2)) | none => none)
      else if k = k' then (match intBin st.B op k a b with | some r => some (r.1, .p (.c r.2)) | none => none) else none
    | some (.c (.bool a)), some (.c (.bool b)) => if (P_bool C.P t) then (match boolBin op a b with | some r => some ([], .p (.c r)) | none => none) else none
    | some (.a xs), some (.a ys) => match C.eqn t with
      | some n => if allI64 xs ∧ allI64 ys ∧ xs.length = n ∧ ys.length = n then
          (match op with
          | .eql => some ([], .p (.c (.bool (eqL xs ys))))
          | .neq => some ([], .p (.c (.bool (eqL xs ys).nt)))
          | _ => none) else none
      | none => none
    | _, _ => none
  | .unOp .neg _ x => match st.getC x with
    | some (.int k a) => let r := wr? st.B k (IE.subS (.c 0) a); some (r.1, .p (.c r.2))
    | _ => none
  | .unOp .not _ x => match st.getC x with
    | some (.bool a) => some ([], .p (.c (.bool a.nt)))
    | _ => none
  | .convert s d x => match st.getC x, intOf? C.P d, intOf? C.P s with
    | some (.int _ a), some k, some _ => (match a.iv st.B with
      | some (l, h) => if k.min ≤ l ∧ h ≤ k.max then some ([], .p (.c (.int k a))) else some ([], .p (.c (.int k (.wr k a))))
      | none => some ([], .p (.c (.int k (.wr k a)))))
    | _, _, _ => none
  | .load t x => match st.getC x with
    | some a => (match loadV C.P st t a with | some r => some (r.1, .p r.2) | none => none)
    | none => none
  | .fieldAddr s x f => match st.getC x with
    | some a => (match fieldA C.P s a f with | some r => some ([], .p (.c r)) | none => none)
    | none => none
  | .indexAddr t x i => match st.getC x, st.getC i with
    | some a, some j => (match indexA C st t a j with | some r => some (r.1, .p (.c r.2)) | none => none)
    | _, _ => none
  | .index t x i => match st.getP x, st.getC i, arrayOf C.P t with
    | some (.a cs), some (.int _ (.c j)), some (n, e) => match szT C.P e with
      | some m => if 0 ≤ j ∧ j < n then (match partV C.P e cs (j.toNat * m) with | some r => some ([], .p r) | none => none) else none
      | none => none
    | _, _, _ => none
  | .field t x f => match st.getP x, structOf C.P t with
    | some (.a cs), some fs => (match fs[f]? with
      | some fd => (match partV C.P fd.type cs fd.offset with | some r => some ([], .p r) | none => none)
      | none => none)
    | _, _ => none
  | .extract x i => match st.ev x with
    | .tup l => (match l[i]? with | some v => some ([], .p v) | none => none)
    | _ => none
  | .build t ps => (match buildV C.P st t ps.toList with | some r => some ([], .p r) | none => none)
  | .sliceToArrayPointer t x => match st.getC x, arrayOf C.P t with
    | some (.sl s), some (n, _) => (match findIsl st.h s with
      | some (_, _, z, _) => if 0 < n then some ([.le (.c n) (.sl s)], .p (.c (.elp s (.c 0) z 0))) else none
      | none => none)
    | _, _ => none
  | .call { callee := .builtin .len, args, argTypes } => match args.toList, argTypes.toList with
    | [x], [t] => (match st.getC x, sliceOf C.P t with
      | some (.sl s), some _ => some ([], .p (.c (.int .i64 (.sl s))))
      | some .nsl, some _ => some ([], .p (.c (.int .i64 (.c 0))))
      | _, _ => none)
    | _, _ => none
  | _ => none
where P_bool (P : Program) (t : TypeId) : Bool := match P.underlying t with | some .bool => true | _ => false

end Go.Proofs.Ytelejhggpkfdoaa.SX

/-
  SX, part 8: 'valOp' is right.
-/
namespace Go.Proofs.Ytelejhggpkfdoaa.SX
set_option linter.unusedVariables false
set_option linter.unusedSimpArgs false
open Go.RowKit

theorem run_v (P : Program) (s : Sem Value) (w w' : World) (v : Value) (h : s.run P w = .ok v w') : (do pure (.value (← s)) : Sem Next).run P w = .ok (.value v) w' := by
  simp only [Sem.run_bind, h, Result.andThen_ok, Sem.run_pure]

theorem equal_bool {P : Program} {t : TypeId} (hu : P.underlying t = some .bool) (a b : Bool) (w : World) : (Op.equal t (.bool a) (.bool b)).run P w = .ok (a == b) w := by
  have h : ∀ d, (Op.equalIn (d + 1) t (.bool a) (.bool b)).run P w = .ok (a == b) w := by
    intro d
    rw [Op.equalIn, Sem.run_bind, run_underlying hu, Result.andThen_ok]
    rfl
  exact h 9999

theorem valOp_ok {C : Cfg} {B : Nat} {S : List Nat} {st : St} {E : Env} {a : Act} {w : World} (hC : C.OK) (hE : BdOK st.B E) (hh : HOK B S st.h E w)
    (ha : ∀ x, (st.ev x).ok E (a.eval x)) {o : Oper} {r : List BE × TV} (h : valOp C st o.op = some r) (hn : ∀ c ∈ r.1, c.P E) :
    (execOp a.eval o).run C.P w = .ok (.value (r.2.val E)) w ∧ r.2 ≠ .junk := by
  unfold execOp
  generalize o.op = op at *
  unfold valOp at h
  split at h
  · rename_i x
    split at h
    · simp at h
    · rename_i tv he; simp at h; subst h
      refine ⟨?_, he⟩
      simp only [ev_ok ha rfl he]; rfl
  · rename_i x
    split at h
    · simp at h
    · rename_i tv he; simp at h; subst h
      refine ⟨?_, he⟩
      simp only [ev_ok ha rfl he]; rfl
  · rename_i c x y
    split at h
    · rename_i hc
      have hc' := getC_ok ha hc
      split at h
      · simp at h
      · rename_i tv he; simp at h; subst h
        refine ⟨?_, he⟩
        simp only [hc', CV.den, BE.den, asBool, pure_bind, ↓reduceIte, ev_ok ha rfl he]; rfl
    · rename_i hc
      have hc' := getC_ok ha hc
      split at h
      · simp at h
      · rename_i tv he; simp at h; subst h
        refine ⟨?_, he⟩
        simp only [hc', CV.den, BE.den, asBool, pure_bind, Bool.false_eq_true, ↓reduceIte, ev_ok ha rfl he]; rfl
    · simp at h
  · rename_i x
    split at h
    · rename_i n off hc
      simp at h; subst h
      refine ⟨?_, by simp⟩
      simp only [getC_ok ha hc, CV.den]; rfl
    · rename_i f hc
      simp at h; subst h
      refine ⟨?_, by simp⟩
      simp only [getC_ok ha hc, CV.den, Clo.val]; rfl
    · simp at h
  · rename_i op t x y yt
    split at h
    · rename_i k a1 k' b1 hx hy
      have hx' := getP_ok ha hx
      have hy' := getP_ok ha hy
      split at h
      · split at h
        · rename_i q hq
          simp at h; subst h
          refine ⟨?_, by simp⟩
          apply run_v
          simp only [hx', hy', PV.den, CV.den]
          exact shiftOp_ok hE hq hn t x y C.P w
        · simp at h
      · split at h
        · rename_i hk; subst hk
          split at h
          · rename_i q hq
            simp at h; subst h
            refine ⟨?_, by simp⟩
            apply run_v
            simp only [hx', hy', PV.den, CV.den]
            exact intBin_ok hE hq hn t x y C.P w
          · simp at h
        · simp at h
    · rename_i a1 b1 hx hy
      have hx' := getP_ok ha hx
      have hy' := getP_ok ha hy
      split at h
      · rename_i hb
        split at h
        · rename_i q hq
          simp at h; subst h
          refine ⟨?_, by simp⟩
          apply run_v
          have hu : C.P.underlying t = some .bool := by
            unfold valOp.P_bool at hb; split at hb <;> simp_all
          simp only [hx', hy', PV.den, CV.den, Sem.run_bind, eqGuard_bool, Result.andThen_ok]
          cases op <;> simp only [boolBin, Option.some.injEq, reduceCtorEq] at hq <;> subst hq
          · simp only [binOp, Sem.run_bind, equal_bool hu, Result.andThen_ok, Sem.run_pure, TV.val, PV.den, CV.den, BE.den]
          · simp only [binOp, Sem.run_bind, equal_bool hu, Result.andThen_ok, Sem.run_pure, TV.val, PV.den, CV.den, BE.den]
        · simp at h
      · simp at h
    · rename_i xs ys hx hy
      have hx' := getP_ok ha hx
      have hy' := getP_ok ha hy
      split at h
      · rename_i n hn'
        split at h
        · rename_i hc
          obtain ⟨h1, h2, h3, h4⟩ := hc
          have e1 : PV.den E (.a xs) = ints64 ((iesOf xs).map (IE.den E)) := by simp only [PV.den, allI64_den E h1]; rfl
          have e2 : PV.den E (.a ys) = ints64 ((iesOf ys).map (IE.den E)) := by simp only [PV.den, allI64_den E h2]; rfl
          have l1 : ((iesOf xs).map (IE.den E)).length = n := by have := congrArg List.length (allI64_den E h1); simp at this; simp; omega
          have l2 : ((iesOf ys).map (IE.den E)).length = n := by have := congrArg List.length (allI64_den E h2); simp at this; simp; omega
          split at h
          · simp at h; subst h
            refine ⟨?_, by simp⟩
            apply run_v
            rw [hx', hy', e1, e2, hC.eql t n hn' x y _ _ l1 l2 w]
            simp only [TV.val, PV.den, CV.den, eqL_den E xs ys h1 h2 (h3.trans h4.symm)]
          · simp at h; subst h
            refine ⟨?_, by simp⟩
            apply run_v
            rw [hx', hy', e1, e2, hC.neq t n hn' x y _ _ l1 l2 w]
            simp only [TV.val, PV.den, CV.den, BE.nt_den, eqL_den E xs ys h1 h2 (h3.trans h4.symm)]
          · simp at h
        · simp at h
      · simp at h
    · simp at h
  · rename_i t x
    split at h
    · rename_i k a1 hc
      simp at h; subst h
      refine ⟨?_, by simp⟩
      apply run_v
      have e1 : a.eval x = .int k (a1.den E) := getC_ok ha hc
      have e2 : TV.val E (.p (.c (wr? st.B k (IE.subS (.c 0) a1)).2)) = .int k (k.wrap ((IE.subS (.c 0) a1).den E)) := wr?_ok hE k _ hn
      rw [e1, e2, IE.subS_den]
      rfl
    · simp at h
  · rename_i t x
    split at h
    · rename_i a1 hc
      simp at h; subst h
      refine ⟨?_, by simp⟩
      apply run_v
      simp only [getC_ok ha hc, CV.den, Op.unary, Sem.run_pure, TV.val, PV.den, BE.nt_den]
    · simp at h
  · rename_i s d x
    split at h
    · rename_i k0 a1 k k1 hc hd hs
      have key : ∀ e : CV, e.den E = .int k (k.wrap (a1.den E)) → (convert s d (a.eval x)).run C.P w = .ok (e.den E) w := by
        intro e he
        have e1 : a.eval x = .int k0 (a1.den E) := getC_ok ha hc
        rw [e1, he]
        simp only [convert, Sem.run_bind, run_underlying (intOf?_ok hs), run_underlying (intOf?_ok hd), Result.andThen_ok, Conv.intToInt, Sem.run_pure]
      split at h
      · rename_i l u hi
        have hv := IE.iv_ok hE a1
        rw [hi] at hv
        simp only [inIv] at hv
        split at h
        · rename_i hr
          simp at h; subst h
          refine ⟨?_, by simp⟩
          apply run_v
          exact key (.int k a1) (by simp only [CV.den]; rw [wrap_id k _ (by omega) (by omega)])
        · simp at h; subst h
          exact ⟨run_v _ _ _ _ _ (key (.int k (.wr k a1)) rfl), by simp⟩
      · simp at h; subst h
        exact ⟨run_v _ _ _ _ _ (key (.int k (.wr k a1)) rfl), by simp⟩
    · simp at h
  · rename_i t x
    split at h
    · rename_i a1 hc
      split at h
      · rename_i q hq
        simp at h; subst h
        refine ⟨?_, by simp⟩
        apply run_v
        rw [getC_ok ha hc]
        exact loadV_ok (C := C) hE hh hq hn
      · simp at h
    · simp at h
  · rename_i s x f
    split at h
    · rename_i a1 hc
      split at h
      · rename_i q hq
        simp at h; subst h
        refine ⟨?_, by simp⟩
        apply run_v
        rw [getC_ok ha hc]
        exact fieldA_ok hq E w
      · simp at h
    · simp at h
  · rename_i t x i
    split at h
    · rename_i a1 j hc hj
      split at h
      · rename_i q hq
        simp at h; subst h
        refine ⟨?_, by simp⟩
        apply run_v
        rw [getC_ok ha hc, getC_ok ha hj]
        exact indexA_ok hE hh hq hn
      · simp at h
    · simp at h
  · rename_i t x i
    split at h
    · rename_i cs k j n e hx hi hu
      split at h
      · rename_i m hm
        split at h
        · rename_i hj
          split at h
          · rename_i q hq
            simp at h; subst h
            refine ⟨?_, by simp⟩
            apply run_v
            simp only [getP_ok ha hx, getC_ok ha hi, PV.den, CV.den, IE.den, Instr.index, asIntOf, Sem.run_bind, Sem.run_pure, Result.andThen_ok, run_underlying (arrayOf_ok hu), hj, and_self, ↓reduceIte, run_szT hm]
            exact partV_ok hq E w
          · simp at h
        · simp at h
      · simp at h
    · simp at h
  · rename_i t x f
    split at h
    · rename_i cs fs hx hu
      split at h
      · rename_i fd hf
        split at h
        · rename_i q hq
          simp at h; subst h
          refine ⟨?_, by simp⟩
          apply run_v
          simp only [getP_ok ha hx, PV.den, Instr.field, Sem.run_bind, Sem.run_pure, Result.andThen_ok, run_underlying (structOf_ok hu), hf, asAgg]
          exact partV_ok hq E w
        · simp at h
      · simp at h
    · simp at h
  · rename_i x i
    split at h
    · rename_i l hx
      split at h
      · rename_i v hv
        simp at h; subst h
        refine ⟨?_, by simp⟩
        apply run_v
        have : a.eval x = (TV.tup l).val E := ev_ok ha hx (by simp)
        rw [this]
        have hv' : (l.map (PV.den E)).toArray[i]? = some (v.den E) := by simp [hv]
        simp only [TV.val, Instr.extract, hv', Sem.run_pure]
      · simp at h
    · simp at h
  · rename_i t ps
    split at h
    · rename_i q hq
      simp at h; subst h
      refine ⟨?_, by simp⟩
      apply run_v
      exact buildV_ok ha hq
    · simp at h
  · rename_i t x
    split at h
    · rename_i s n e hc hu
      split at h
      · rename_i T k z o hf
        split at h
        · rename_i hpos
          simp at h; subst h
          refine ⟨?_, by simp⟩
          apply run_v
          have hle := hn _ (List.mem_cons_self ..)
          simp only [BE.P, IE.den] at hle
          have hlt : ¬ (E.s.getD s nilSl).n < n := by omega
          simp only [getC_ok ha hc, CV.den, Sl.val, Instr.arrayAt, Sem.run_bind, run_underlying (arrayOf_ok hu), Result.andThen_ok, hlt, ↓reduceIte, Sem.run_pure, TV.val, PV.den, IE.den]
          congr 2
          cases (E.s.getD s nilSl).a with
          | none => rfl
          | some ad => simp [Addr.add]
        · simp at h
      · simp at h
    · simp at h
  · rename_i args argTypes
    split at h
    · rename_i x t hx ht
      have hargs : args = #[x] := by cases args; simp_all
      have htys : argTypes = #[t] := by cases argTypes; simp_all
      subst hargs; subst htys
      split at h
      · rename_i s e hc hu
        simp at h; subst h
        refine ⟨?_, by simp⟩
        simp only [resolve, invoke, builtin, Sem.run_bind, Sem.run_pure, Result.andThen_ok, List.map_toArray, List.map_cons, List.map_nil, Builtin.len_, getC_ok ha hc, CV.den, Sl.val,
          List.getElem?_toArray, List.getElem?_cons_zero, run_underlying (sliceOf_ok hu), goInt, TV.val, PV.den, IE.den]
      · rename_i e hc hu
        simp at h; subst h
        refine ⟨?_, by simp⟩
        simp only [resolve, invoke, builtin, Sem.run_bind, Sem.run_pure, Result.andThen_ok, List.map_toArray, List.map_cons, List.map_nil, Builtin.len_, getC_ok ha hc, CV.den, Sl.val,
          List.getElem?_toArray, List.getElem?_cons_zero, run_underlying (sliceOf_ok hu), goInt, TV.val, PV.den, IE.den]
        rfl
      · simp at h
    · simp at h
  · simp at h

end Go.Proofs.Ytelejhggpkfdoaa.SX

/-
  SX, part 9: the tree that a symbolic walk yields, and what it says.
-/
namespace Go.Proofs.Ytelejhggpkfdoaa.SX
set_option linter.unusedVariables false
set_option linter.unusedSimpArgs false
open Go.RowKit

inductive Sh where
  | int (k : IntKind)
  | bool
  | agg (ks : List IntKind)
  | sl (T : TypeId) (k : IntKind) (z : Nat)
  | str
  deriving DecidableEq, Inhabited

def aggC : List IntKind → Nat → List CV
  | [], _ => []
  | k :: r, n => .int k (.v n) :: aggC r (n + 1)
/-- results, out of new variables -/
def shPV : List Sh → (ni nb ns nt : Nat) → List PV
  | [], _, _, _, _ => []
  | .int k :: r, ni, nb, ns, nt => .c (.int k (.v ni)) :: shPV r (ni + 1) nb ns nt
  | .bool :: r, ni, nb, ns, nt => .c (.bool (.v nb)) :: shPV r ni (nb + 1) ns nt
  | .agg ks :: r, ni, nb, ns, nt => .a (aggC ks ni) :: shPV r (ni + ks.length) nb ns nt
  | .sl _ _ _ :: r, ni, nb, ns, nt => .c (.sl ns) :: shPV r ni nb (ns + 1) nt
  | .str :: r, ni, nb, ns, nt => .c (.str nt) :: shPV r ni nb ns (nt + 1)
def shI : List Sh → Nat
  | [] => 0
  | .int _ :: r => 1 + shI r
  | .agg ks :: r => ks.length + shI r
  | _ :: r => shI r
def shB : List Sh → Nat
  | [] => 0
  | .bool :: r => 1 + shB r
  | _ :: r => shB r
def shS : List Sh → List (TypeId × IntKind × Nat)
  | [] => []
  | .sl T k z :: r => (T, k, z) :: shS r
  | _ :: r => shS r
def shT : List Sh → Nat
  | [] => 0
  | .str :: r => 1 + shT r
  | _ :: r => shT r

def Env.ext (E : Env) (is : List Int) (bs : List Bool) (ss : List Sl) (ts : List ByteArray) : Env :=
  { E with i := E.i ++ is, b := E.b ++ bs, s := E.s ++ ss, t := E.t ++ ts }
def Env.pn (E : Env) (b : Nat) : Env := { E with n := E.n ++ [b] }
def Env.pf (E : Env) (c : Clo) : Env := { E with f := E.f ++ [c] }

def pack : List Value → Value
  | [v] => v
  | l => .tuple l.toArray

inductive Tgt where
  | fc (g : FuncId)
  | fn (f : Nat)
  deriving DecidableEq, Inhabited
def Tgt.g (E : Env) : Tgt → FuncId
  | .fc g => g
  | .fn f => (E.f.getD f nilClo).g
def Tgt.caps (E : Env) : Tgt → Array Value
  | .fc _ => #[]
  | .fn f => (E.f.getD f nilClo).caps

/-- a function that can be entered -/
def Callable (P : Program) (g : FuncId) : Prop := ∀ args w, (callFunc g args).run P w = .ok (.enter g args) w

/-- an array's numbers as a slice -/
inductive SE where
  | arr (n off len cap : Nat) (es : List IE)
  deriving DecidableEq, Inhabited
def SE.den (E : Env) : SE → Sl
  | .arr n off len cap es => ⟨some ⟨E.n.getD n 0, off, none⟩, len, cap, es.map (IE.den E)⟩

/-- a list of numbers -/
inductive LE where
  | lit (es : List IE)
  | app (s q : Nat)
  | rep (n : IE) (z : Nat)
  deriving DecidableEq, Inhabited
def LE.den (E : Env) : LE → List Int
  | .lit es => es.map (IE.den E)
  | .app s q => (E.s.getD s nilSl).xs ++ (E.s.getD q nilSl).xs
  | .rep n z => List.replicate ((n.den E).toNat * z) 0

/-- numbers from place i on replaced -/
def setInts (l : List Int) (i : Nat) : List Int → List Int
  | [] => l
  | x :: r => setInts (l.set i x) (i + 1) r

inductive T where
  | ret (vs : List PV) (mb : List (List CV))
  | need (c : BE) (k : T)
  | br (c : BE) (x y : T)
  | blk (k : T)
  | clo (g : FuncId) (caps : List PV) (k : T)
  | dsl (e : SE) (k : T)
  | fs (n : IE) (e : LE) (k : T)
  | set (s : Nat) (i : IE) (es : List IE) (k : T)
  | callD (g : Tgt) (args : List PV) (shs : List Sh) (bi : List Iv) (h : List It) (k : T)
  | callG (g : Tgt) (args : List PV) (shs : List Sh) (hv : List It) (bi : List Iv) (bs : List (Iv × Int)) (bt : List Int) (h : List It) (k : T)
  | callP (g : FuncId) (args : List PV) (ty : TypeId) (cs : List CV) (bi : List Iv) (h : List It) (k : T)
  | loop (is : List IE) (bs : List BE) (ss : List Nat) (ts : List Nat) (bi : List Iv) (bS : List (Iv × Int)) (bT : List Int) (k : T)
  | again (d : Nat) (is : List IE) (bs : List BE) (ss : List Nat) (ts : List Nat)
  | cut (ni nb ns nt : Nat) (bi : List Iv) (bS : List (Iv × Int)) (bT : List Int) (x y : T)
  deriving DecidableEq, Inhabited

structure Ctx where
  P : Program
  B : Nat
  S : List Nat
  w0 : World
  Q : Value → List Sl → List (List Value) → Prop

abbrev Hd := List Int → List Bool → List Sl → List ByteArray → Prop

def PV.sls (E : Env) : PV → List Sl
  | .c (.sl s) => [E.s.getD s nilSl]
  | .c .nsl => [nilSl]
  | _ => []

def inIvs : List Iv → List Int → Prop
  | [], _ => True
  | _, [] => True
  | b :: r, x :: q => inIv b x ∧ inIvs r q
def inIvS : List (Iv × Int) → List Sl → Prop
  | [], _ => True
  | _, [] => True
  | b :: r, x :: q => ((∀ v ∈ x.xs, inIv b.1 v) ∧ (0 ≤ b.2 → (x.n : Int) ≤ b.2)) ∧ inIvS r q
def inIvT : List Int → List ByteArray → Prop
  | [], _ => True
  | _, [] => True
  | b :: r, x :: q => (0 ≤ b → (x.size : Int) ≤ b) ∧ inIvT r q

def islItems : List (TypeId × IntKind × Nat) → Nat → List It
  | [], _ => []
  | (T, k, z) :: r, s => .isl s T k z true :: islItems r (s + 1)

def T.den (Γ : Ctx) : T → List Hd → Env → Prop
  | .ret vs mb, _, E => Γ.Q (pack (vs.map (PV.den E))) (vs.flatMap (PV.sls E)) (mb.map (·.map (CV.den E)))
  | .need c k, H, E => c.P E ∧ (c.P E → k.den Γ H E)
  | .br c x y, H, E => (c.P E → x.den Γ H E) ∧ (¬ c.P E → y.den Γ H E)
  | .blk k, H, E => ∀ b : Nat, k.den Γ H (E.pn b)
  | .clo g caps k, H, E => k.den Γ H (E.pf ⟨g, (caps.map (PV.den E)).toArray⟩)
  | .dsl e k, H, E => k.den Γ H (E.ext [] [] [e.den E] [])
  | .fs n e k, H, E => ∀ s : Sl, s.n = (n.den E).toNat → s.xs = e.den E → k.den Γ H (E.ext [] [] [s] [])
  | .set s i es k, H, E => k.den Γ H (E.ext [] [] [{ E.s.getD s nilSl with xs := setInts (E.s.getD s nilSl).xs (i.den E).toNat (es.map (IE.den E)) }] [])
  | .callD g args shs bi h k, H, E => ∃ is bs, is.length = shI shs ∧ bs.length = shB shs ∧ inIvs bi is ∧ Callable Γ.P (g.g E) ∧
      (∀ w, HOK Γ.B Γ.S h E w → Γ.B ≤ w.heap.size → Kp Γ.B Γ.S Γ.w0 w → Calls Γ.P (g.g E) ((args.map (PV.den E)).toArray ++ g.caps E) w fun e w' =>
        e = .returned (pack ((shPV shs E.i.length E.b.length 0 0).map (PV.den (E.ext is bs [] [])))) ∧ Below w.heap.size w w') ∧
      k.den Γ H (E.ext is bs [] [])
  | .callG g args shs hv bi bS bT h k, H, E => Callable Γ.P (g.g E) ∧
      ∀ w, HOK Γ.B Γ.S h E w → Γ.B ≤ w.heap.size → Kp Γ.B Γ.S Γ.w0 w → Calls Γ.P (g.g E) ((args.map (PV.den E)).toArray ++ g.caps E) w fun e w' =>
        ∃ is bs ss ts, is.length = bi.length ∧ shI shs ≤ is.length ∧ bs.length = shB shs ∧ ss.length = bS.length ∧ ss.length = (shS shs).length ∧ ts.length = bT.length ∧ ts.length = shT shs ∧ inIvs bi is ∧ inIvS bS ss ∧ inIvT bT ts ∧
          e = .returned (pack ((shPV shs E.i.length E.b.length E.s.length E.t.length).map (PV.den (E.ext is bs ss ts)))) ∧
          Kp w.heap.size (hv.flatMap (It.fp E)) w w' ∧ HOK w.heap.size [] (islItems (shS shs) E.s.length) (E.ext is bs ss ts) w' ∧ (∀ it ∈ hv, it.holds 0 (E.ext is bs ss ts) w') ∧
          k.den Γ H (E.ext is bs ss ts)
  | .callP g args ty cs bi h k, H, E => Callable Γ.P g ∧
      ∀ w, HOK Γ.B Γ.S h E w → Γ.B ≤ w.heap.size → Kp Γ.B Γ.S Γ.w0 w → Calls Γ.P g ((args.map (PV.den E)).toArray ++ #[]) w fun e w' =>
        ∃ is b, is.length = bi.length ∧ inIvs bi is ∧ e = .returned (.pointer (some ⟨b, 0, none⟩)) ∧ Below w.heap.size w w' ∧ w.heap.size ≤ b ∧
          w'.heap[b]? = some (.cells (cs.map (CV.den (E.ext is [] [] []))).toArray ty (0, 0)) ∧ k.den Γ H (E.ext is [] [] [])
  | .loop is bs ss ts bi bS bT k, H, E => ∃ (I : Hd) (μ : List Int → List Bool → List Sl → List ByteArray → Nat),
      (inIvs bi (is.map (IE.den E)) ∧ inIvS bS (ss.map (E.s.getD · nilSl)) ∧ inIvT bT (ts.map (E.t.getD · ByteArray.empty)) ∧
        I (is.map (IE.den E)) (bs.map (BE.den E)) (ss.map (E.s.getD · nilSl)) (ts.map (E.t.getD · ByteArray.empty))) ∧
      ∀ is' bs' ss' ts', is'.length = is.length → bs'.length = bs.length → ss'.length = ss.length → ts'.length = ts.length →
        inIvs bi is' → inIvS bS ss' → inIvT bT ts' → I is' bs' ss' ts' →
        k.den Γ (H ++ [fun i b s t => (inIvs bi i ∧ inIvS bS s ∧ inIvT bT t ∧ I i b s t) ∧ μ i b s t < μ is' bs' ss' ts']) (E.ext is' bs' ss' ts')
  | .again d is bs ss ts, H, E => (H.getD d fun _ _ _ _ => False) (is.map (IE.den E)) (bs.map (BE.den E)) (ss.map (E.s.getD · nilSl)) (ts.map (E.t.getD · ByteArray.empty))
  | .cut ni nb ns nt bi bS bT x y, H, E => ∃ J : Hd,
      x.den Γ (H ++ [fun i b s t => inIvs bi i ∧ inIvS bS s ∧ inIvT bT t ∧ J i b s t]) E ∧
      ∀ is' bs' ss' ts', is'.length = ni → bs'.length = nb → ss'.length = ns → ts'.length = nt →
        inIvs bi is' → inIvS bS ss' → inIvT bT ts' → J is' bs' ss' ts' → y.den Γ (H ++ [fun _ _ _ _ => False]) (E.ext is' bs' ss' ts')

end Go.Proofs.Ytelejhggpkfdoaa.SX

