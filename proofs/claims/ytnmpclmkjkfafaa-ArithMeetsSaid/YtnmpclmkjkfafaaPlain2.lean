/- Layer 1: sums, bits, quotients, as plain laws. -/
import Derived.Test.YtnmpclmkjkfafaaWalk3
set_option linter.all false
namespace Go.Arith
open Go Go.Eng
theorem w64_mod (x : Int) : w64 x % 18446744073709551616 = x % 18446744073709551616 := by unfold w64; omega
theorem w64_congr {x y : Int} (h : x % 18446744073709551616 = y % 18446744073709551616) : w64 x = w64 y := by unfold w64; omega
theorem w64_mul_left (x y : Int) : w64 (w64 x * y) = w64 (x * y) := w64_congr (by rw [Int.mul_emod, w64_mod, ← Int.mul_emod])
theorem ring1 (a b : Int) : (doF 1 b a).1 = (doF 1 a b).1 := by show w64 _ = w64 _; rw [Int.add_comm]
theorem ring2 (a b c : Int) : (doF 1 (doF 3 a c).1 (doF 3 c b).1).1 = (doF 3 (doF 1 a b).1 c).1 := by
  show w64 (w64 (a * c) + w64 (c * b)) = w64 (w64 (a + b) * c)
  rw [w64_mul_left]
  have e : (a + b) * c = a * c + c * b := by rw [Int.add_mul, Int.mul_comm b c]
  rw [e]
  generalize a * c = x
  generalize c * b = y
  unfold w64; omega
theorem ring3 (a b : Int) (h : R64 a) : (doF 2 (doF 1 a b).1 b).1 = a := by
  show w64 (w64 (a + b) - b) = a
  obtain ⟨h1, h2⟩ := h
  unfold w64; omega
theorem ring4 (a c : Int) : (doF 1 a (doF 13 a c).1).1 = 0 := by
  show w64 (a + w64 (-a)) = 0
  unfold w64; omega
/-! ### bits -/
theorem nat_bits (n : Nat) : ∀ x y : Nat, x < 2 ^ n → (x &&& y) + (x ||| y) = x + y ∧ (x ^^^ y) + (x &&& y) = (x ||| y) := by
  induction n with
  | zero => intro x y h; have : x = 0 := by omega
            subst this; simp
  | succ n ih =>
    intro x y h
    obtain ⟨i1, i2⟩ := ih (x / 2) (y / 2) (by rw [Nat.pow_succ] at h; omega)
    have a1 := Nat.and_div_two (a := x) (b := y)
    have a2 := Nat.or_div_two (a := x) (b := y)
    have a3 := Nat.xor_div_two (a := x) (b := y)
    have b1 : (x &&& y) % 2 = (x % 2) &&& (y % 2) := Nat.and_mod_two_pow (n := 1)
    have b2 : (x ||| y) % 2 = (x % 2) ||| (y % 2) := Nat.or_mod_two_pow (n := 1)
    have b3 : (x ^^^ y) % 2 = (x % 2) ^^^ (y % 2) := Nat.xor_mod_two_pow (n := 1)
    have t : (0 &&& 0 : Nat) = 0 ∧ (0 &&& 1 : Nat) = 0 ∧ (1 &&& 0 : Nat) = 0 ∧ (1 &&& 1 : Nat) = 1 ∧ (0 ||| 0 : Nat) = 0 ∧ (0 ||| 1 : Nat) = 1 ∧ (1 ||| 0 : Nat) = 1 ∧ (1 ||| 1 : Nat) = 1 ∧ (0 ^^^ 0 : Nat) = 0 ∧ (0 ^^^ 1 : Nat) = 1 ∧ (1 ^^^ 0 : Nat) = 1 ∧ (1 ^^^ 1 : Nat) = 0 := by decide
    obtain ⟨t1, t2, t3, t4, t5, t6, t7, t8, t9, ta, tb, tc⟩ := t
    clear ih h
    rcases Nat.mod_two_eq_zero_or_one x with hx | hx <;> rcases Nat.mod_two_eq_zero_or_one y with hy | hy <;> rw [hx, hy] at b1 b2 b3 <;> first | rw [t1] at b1 | rw [t2] at b1 | rw [t3] at b1 | rw [t4] at b1
    all_goals first | rw [t5] at b2 | rw [t6] at b2 | rw [t7] at b2 | rw [t8] at b2
    all_goals first | rw [t9] at b3 | rw [ta] at b3 | rw [tb] at b3 | rw [tc] at b3
    all_goals clear t1 t2 t3 t4 t5 t6 t7 t8 t9 ta tb tc
    all_goals constructor <;> omega
theorem bits_of (a b : Int) : ∃ x y : Nat, x < 2 ^ 64 ∧ (x : Int) = a % 18446744073709551616 ∧ (y : Int) = b % 18446744073709551616 ∧
    bitsK .and .i64 a b = w64 ((x &&& y : Nat) : Int) ∧ bitsK .or .i64 a b = w64 ((x ||| y : Nat) : Int) ∧ bitsK .xor .i64 a b = w64 ((x ^^^ y : Nat) : Int) := by
  refine ⟨(BitVec.ofInt 64 a).toNat, (BitVec.ofInt 64 b).toNat, BitVec.isLt _, ?_, ?_, ?_, ?_, ?_⟩
  · rw [BitVec.toNat_ofInt]; omega
  · rw [BitVec.toNat_ofInt]; omega
  all_goals
    unfold bitsK
    rw [← wrap_i64]
    first | rw [← BitVec.toNat_and] | rw [← BitVec.toNat_or] | rw [← BitVec.toNat_xor]
    rfl
theorem bits1 (a b c : Int) (h : R64 a) : (doF 15 (doF 15 a b).1 c).1 = a := by
  show bitsK .xor .i64 (-1) (bitsK .xor .i64 (-1) a) = a
  rw [← Go.Proofs.Ytnmpclmkjkfafaa.flipx, ← Go.Proofs.Ytnmpclmkjkfafaa.flipx]
  obtain ⟨h1, h2⟩ := h
  unfold w64; omega
theorem bits2' {a b x y p q : Int} (hx : x = a % 18446744073709551616) (hy : y = b % 18446744073709551616) (k : p + q = x + y) : w64 (w64 p + w64 q) = w64 (a + b) := by
  subst hx hy
  obtain rfl : p = a % 18446744073709551616 + b % 18446744073709551616 - q := by omega
  unfold w64; omega
theorem bits3' {p q r : Int} (k : r + p = q) : w64 (w64 r + w64 p) = w64 q := by
  subst k
  unfold w64; omega
theorem bits2 (a b : Int) : (doF 1 (doF 8 a b).1 (doF 9 a b).1).1 = (doF 1 a b).1 := by
  show w64 (bitsK .and .i64 a b + bitsK .or .i64 a b) = w64 (a + b)
  obtain ⟨x, y, hl, hx, hy, e1, e2, e3⟩ := bits_of a b
  rw [e1, e2]
  exact bits2' hx hy (by have := (nat_bits 64 x y hl).1; exact_mod_cast this)
theorem bits3 (a b : Int) : (doF 1 (doF 10 a b).1 (doF 8 a b).1).1 = (doF 9 a b).1 := by
  show w64 (bitsK .xor .i64 a b + bitsK .and .i64 a b) = bitsK .or .i64 a b
  obtain ⟨x, y, hl, hx, hy, e1, e2, e3⟩ := bits_of a b
  rw [e1, e2, e3]
  exact bits3' (by have := (nat_bits 64 x y hl).2; exact_mod_cast this)
/-! ### quotients and rests -/
theorem wrap_u64' (n : Int) : IntKind.u64.wrap n = n % 18446744073709551616 := wrap_u64 n
theorem div0 (a : Int) : (doF 4 a 0).1 = 0 ∧ (doF 4 a 0).2 = 1 ∧ (doF 5 a 0).1 = 0 ∧ (doF 5 a 0).2 = 1 := by simp [doF, divF]
/-- What the law asks of a quotient and a rest. -/
theorem div1 (a b : Int) (ha : R64 a) (hb : R64 b) (h0 : b ≠ 0) : (doF 4 a b).2 = 0 ∧ (doF 5 a b).2 = 0 ∧ (doF 1 (doF 3 (doF 4 a b).1 b).1 (doF 5 a b).1).1 = a ∧
    ((doF 5 a b).1 ≠ 0 → ((doF 5 a b).1 < 0 ↔ a < 0)) ∧ ((doF 5 a b).1 < 0 → (-(doF 5 a b).1 < b ∨ -(doF 5 a b).1 < -b)) ∧ (0 ≤ (doF 5 a b).1 → ((doF 5 a b).1 < b ∨ (doF 5 a b).1 < -b)) := by
  obtain ⟨a1, a2⟩ := ha
  obtain ⟨b1, b2⟩ := hb
  have e4 : doF 4 a b = divF 4 a b := rfl
  have e5 : doF 5 a b = divF 5 a b := rfl
  rw [e4, e5]
  by_cases hm : b = -1
  · subst hm
    have f4 : divF 4 a (-1) = (w64 (-a), 0) := by simp [divF]
    have f5 : divF 5 a (-1) = (0, 0) := by simp [divF]
    rw [f4, f5]
    refine ⟨rfl, rfl, ?_, by simp, by simp, by simp⟩
    show w64 (w64 (w64 (-a) * -1) + 0) = a
    unfold w64; omega
  · have f4 : divF 4 a b = (w64 (a.tdiv b), 0) := by simp [divF, h0, hm]
    have f5 : divF 5 a b = (a.tmod b, 0) := by simp [divF, h0, hm]
    rw [f4, f5]
    have hd := Int.mul_tdiv_add_tmod a b
    refine ⟨rfl, rfl, ?_, ?_, ?_, ?_⟩
    · show w64 (w64 (w64 (a.tdiv b) * b) + a.tmod b) = a
      rw [w64_mul_left, Int.mul_comm]
      generalize b * a.tdiv b = x at *
      generalize a.tmod b = y at *
      unfold w64; omega
    · intro hr
      have s1 : 0 ≤ a → 0 ≤ a.tmod b := fun h => Int.tmod_nonneg b h
      have s2 : a ≤ 0 → a.tmod b ≤ 0 := fun h => by
        have := Int.tmod_nonneg b (a := -a) (by omega)
        rw [Int.neg_tmod] at this; omega
      show a.tmod b < 0 ↔ a < 0
      have hr : a.tmod b ≠ 0 := hr
      constructor <;> intro h <;> omega
    · intro _
      show -(a.tmod b) < b ∨ -(a.tmod b) < -b
      have := Int.natAbs_tmod a b
      have := Nat.mod_lt a.natAbs (show 0 < b.natAbs by omega)
      omega
    · intro _
      show a.tmod b < b ∨ a.tmod b < -b
      have := Int.natAbs_tmod a b
      have := Nat.mod_lt a.natAbs (show 0 < b.natAbs by omega)
      omega
end Go.Arith
