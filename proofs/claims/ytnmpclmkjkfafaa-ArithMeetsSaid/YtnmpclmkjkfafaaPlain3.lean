/- Layer 1: that what Spans says holds all that an operation makes of numbers out of two spans: plain laws. -/
import Derived.Test.YtnmpclmkjkfafaaPlain2
set_option linter.all false
namespace Go.Arith
open Go Go.Eng
theorem w64_R (n : Int) : R64 (w64 n) := by unfold R64 w64; omega
theorem w64_of (n : Int) (h : R64 n) : w64 n = n := by obtain ⟨h1, h2⟩ := h; unfold w64; omega
theorem bits_R (op : BinOp) (a b : Int) : R64 (bitsK op .i64 a b) := by
  unfold bitsK; rw [wrap_i64]; exact w64_R _
theorem tr_R (b : Bool) : R64 (tr b) := by cases b <;> exact ⟨by decide, by decide⟩
theorem zero_R : R64 0 := ⟨by decide, by decide⟩
theorem tmod_R {x y : Int} (hy : R64 y) (h0 : y ≠ 0) : R64 (x.tmod y) := by
  have := Int.natAbs_tmod x y
  have := Nat.mod_lt x.natAbs (show 0 < y.natAbs by omega)
  obtain ⟨h1, h2⟩ := hy
  constructor <;> omega
theorem divF_R (op x y : Int) (hy : R64 y) : R64 (divF op x y).1 := by
  unfold divF
  by_cases h0 : y = 0
  · rw [if_pos h0]; exact zero_R
  rw [if_neg h0]
  by_cases h1 : y = -1 ∧ op = 4
  · rw [if_pos h1]; exact w64_R _
  rw [if_neg h1]
  by_cases h2 : y = -1
  · rw [if_pos h2]; exact zero_R
  rw [if_neg h2]
  by_cases h3 : op = 4
  · rw [if_pos h3]; exact w64_R _
  · rw [if_neg h3]; exact tmod_R hy h0
theorem shr_R (x y : Int) (hx : R64 x) : R64 (x.fdiv (2 ^ (y % 64).toNat)) := by
  generalize hp : (2 : Int) ^ (y % 64).toNat = p
  have hp1 : 1 ≤ p := by rw [← hp]; have := Int.pow_pos (n := 2) (m := (y % 64).toNat) (by decide); omega
  rw [Int.fdiv_eq_ediv_of_nonneg _ (by omega)]
  obtain ⟨h1, h2⟩ := hx
  have e := Int.mul_ediv_add_emod x p
  have e1 := Int.emod_nonneg x (show p ≠ 0 by omega)
  have e2 := Int.emod_lt_of_pos x (show 0 < p by omega)
  constructor
  · rcases Int.lt_or_le (x / p) (-9223372036854775808) with h | h
    · exfalso
      have k : p * (x / p + 1) ≤ 1 * (x / p + 1) := Int.mul_le_mul_of_nonpos_right hp1 (by omega)
      rw [Int.mul_add] at k
      omega
    · exact h
  · rcases Int.lt_or_le 9223372036854775807 (x / p) with h | h
    · exfalso
      have : 1 * (x / p) ≤ p * (x / p) := Int.mul_le_mul_of_nonneg_right hp1 (by omega)
      omega
    · exact h
theorem ite_R {c : Prop} [Decidable c] {a b : Int × Int} (h1 : R64 a.1) (h2 : R64 b.1) : R64 (if c then a else b).1 := by
  by_cases h : c
  · rw [if_pos h]; exact h1
  · rw [if_neg h]; exact h2
theorem doF_R (op x y : Int) (hx : R64 x) (hy : R64 y) : R64 (doF op x y).1 := by
  have h1 := divF_R op x y hy
  have h2 := shr_R x y hx
  unfold doF
  generalize divF op x y = d at *
  generalize x.fdiv (2 ^ (y % 64).toNat) = f at *
  repeat' (with_reducible refine ite_R ?_ ?_)
  all_goals (try dsimp only)
  all_goals with_reducible first | exact h1 | exact h2 | exact w64_R _ | exact bits_R _ _ _ | exact tr_R _ | exact zero_R
/-! ### signs of bits -/
theorem top_bit (x : Nat) : x.testBit 63 = decide (x / 9223372036854775808 % 2 = 1) := by
  rw [Nat.testBit_eq_decide_div_mod_eq]
theorem w64_neg (n : Nat) (h : n < 2 ^ 64) : w64 (n : Int) < 0 ↔ n.testBit 63 = true := by
  rw [top_bit, decide_eq_true_iff]
  have h : n < 18446744073709551616 := h
  unfold w64; omega
theorem top_of (a : Int) (x : Nat) (ha : R64 a) (hx : (x : Int) = a % 18446744073709551616) : x.testBit 63 = decide (a < 0) := by
  rw [top_bit]
  obtain ⟨h1, h2⟩ := ha
  apply decide_eq_decide.2
  omega
theorem sgn (a b : Int) (ha : R64 a) (hb : R64 b) : (bitsK .and .i64 a b < 0 ↔ (a < 0 ∧ b < 0)) ∧ (bitsK .xor .i64 a b < 0 ↔ ¬ (a < 0 ↔ b < 0)) := by
  obtain ⟨x, y, hl, hx, hy, e1, e2, e3⟩ := bits_of a b
  have hl2 : y < 2 ^ 64 := by show y < 18446744073709551616; omega
  have t1 := top_of a x ha hx
  have t2 := top_of b y hb hy
  constructor
  · rw [e1, w64_neg _ (Nat.and_lt_two_pow x hl2), Nat.testBit_and, t1, t2]; simp
  · rw [e3, w64_neg _ (Nat.xor_lt_two_pow hl hl2), Nat.testBit_xor, t1, t2]
    by_cases h1 : a < 0 <;> by_cases h2 : b < 0 <;> simp [h1, h2]
/-- What an operation makes where nothing wraps round. -/
def exF (op x y : Int) : Int := if op = 1 then x + y else if op = 2 then x - y else x * y
theorem szF_eq {a : Int} (h : R64 a) : szF a = if a < 0 then -a else a := by
  obtain ⟨h1, h2⟩ := h
  unfold szF; split <;> omega
theorem fits_iff (a b : Int) (ha : R64 a) (hb : R64 b) : fitsF a b = true ↔ R64 (a * b) := by
  unfold fitsF hiF loF
  rw [szF_eq ha, szF_eq hb]
  obtain ⟨a1, a2⟩ := ha
  obtain ⟨b1, b2⟩ := hb
  unfold R64
  by_cases h1 : a < 0 <;> by_cases h2 : b < 0 <;> simp only [h1, h2, if_true, if_false, decide_true, decide_false, Bool.and_eq_true, decide_eq_true_eq, bne_self_eq_false, Bool.false_eq_true]
  · have e : -a * -b = a * b := by rw [Int.neg_mul_neg]
    rw [e]
    have := Int.mul_nonneg (show 0 ≤ -a by omega) (show 0 ≤ -b by omega)
    rw [e] at this
    generalize a * b = p at *
    omega
  · have e : -a * b = -(a * b) := by rw [Int.neg_mul]
    have := Int.mul_nonneg (show 0 ≤ -a by omega) (show 0 ≤ b by omega)
    rw [e] at this
    simp only [e]
    generalize a * b = p at *
    simp
    omega
  · have e : a * -b = -(a * b) := by rw [Int.mul_neg]
    have := Int.mul_nonneg (show 0 ≤ a by omega) (show 0 ≤ -b by omega)
    rw [e] at this
    simp only [e]
    generalize a * b = p at *
    simp
    omega
  · have := Int.mul_nonneg (show 0 ≤ a by omega) (show 0 ≤ b by omega)
    generalize a * b = p at *
    omega
theorem corner_iff (op a b : Int) (h : op = 1 ∨ op = 2 ∨ op = 3) (ha : R64 a) (hb : R64 b) : (cornerF op a b).1 = w64 (exF op a b) ∧ ((cornerF op a b).2 = true ↔ R64 (exF op a b)) := by
  rcases h with rfl | rfl | rfl
  · refine ⟨rfl, ?_⟩
    show (decide (0 ≤ bitsK .and .i64 (bitsK .xor .i64 a (w64 (a + b))) (bitsK .xor .i64 b (w64 (a + b)))) = true) ↔ R64 (a + b)
    have s0 := (sgn _ _ (bits_R .xor a (w64 (a + b))) (bits_R .xor b (w64 (a + b)))).1
    have s1 := (sgn a (w64 (a + b)) ha (w64_R _)).2
    have s2 := (sgn b (w64 (a + b)) hb (w64_R _)).2
    rw [decide_eq_true_iff]
    generalize bitsK .and .i64 _ _ = z at *
    generalize bitsK .xor .i64 a _ = z1 at *
    generalize bitsK .xor .i64 b _ = z2 at *
    obtain ⟨a1, a2⟩ := ha
    obtain ⟨b1, b2⟩ := hb
    unfold R64
    unfold w64 at s1 s2
    omega
  · refine ⟨rfl, ?_⟩
    show (decide (0 ≤ bitsK .and .i64 (bitsK .xor .i64 a b) (bitsK .xor .i64 a (w64 (a - b)))) = true) ↔ R64 (a - b)
    have s0 := (sgn _ _ (bits_R .xor a b) (bits_R .xor a (w64 (a - b)))).1
    have s1 := (sgn a b ha hb).2
    have s2 := (sgn a (w64 (a - b)) ha (w64_R _)).2
    rw [decide_eq_true_iff]
    generalize bitsK .and .i64 _ _ = z at *
    generalize bitsK .xor .i64 a b = z1 at *
    generalize bitsK .xor .i64 a _ = z2 at *
    obtain ⟨a1, a2⟩ := ha
    obtain ⟨b1, b2⟩ := hb
    unfold R64
    unfold w64 at s2
    omega
  · exact ⟨rfl, fits_iff a b ha hb⟩
end Go.Arith
