/- Numbers that wrap round and spans of them: what the walks of layer 1 come to, as plain functions. -/
import Derived.Test.YtnmpclmkjkfafaaEngOps
set_option linter.unusedSimpArgs false
set_option linter.unusedVariables false
set_option linter.all false
namespace Go.Arith
open Go Go.Eng
def R64 (n : Int) : Prop := -9223372036854775808 ≤ n ∧ n ≤ 9223372036854775807
def divF (op a b : Int) : Int × Int :=
  if b = 0 then (0, 1) else if b = -1 ∧ op = 4 then (w64 (-a), 0) else if b = -1 then (0, 0) else if op = 4 then (w64 (a.tdiv b), 0) else (a.tmod b, 0)
def tr (b : Bool) : Int := if b then 1 else 0
/-- P1.1 -/
def doF (op a b : Int) : Int × Int :=
  if op = 1 then (w64 (a + b), 0) else if op = 2 then (w64 (a - b), 0) else if op = 3 then (w64 (a * b), 0)
  else if op = 4 ∨ op = 5 then divF op a b
  else if op = 6 then (w64 (a * 2 ^ (b % 64).toNat), 0) else if op = 7 then (a.fdiv (2 ^ (b % 64).toNat), 0)
  else if op = 8 then (bitsK .and .i64 a b, 0) else if op = 9 then (bitsK .or .i64 a b, 0) else if op = 10 then (bitsK .xor .i64 a b, 0)
  else if op = 12 then (tr (decide (a ≤ b)), 0) else if op = 11 then (tr (decide (a < b)), 0)
  else if op = 13 then (w64 (-a), 0) else if op = 14 then (tr (decide (a = 0)), 0) else if op = 15 then (bitsK .xor .i64 (-1) a, 0) else (0, 6)
theorem and63 (b : Int) : bitsK .and .i64 b 63 = b % 64 := by
  have h : (BitVec.ofInt 64 b &&& BitVec.ofInt 64 63).toNat = (b % 64).toNat := by
    have e : BitVec.ofInt 64 63 = 63#64 := by decide
    rw [e, BitVec.toNat_and, BitVec.toNat_ofInt]
    have : (63#64 : BitVec 64).toNat = 2 ^ 6 - 1 := by decide
    rw [this, Nat.and_two_pow_sub_one_eq_mod]
    omega
  unfold bitsK
  show IntKind.i64.wrap (((BitVec.ofInt 64 b &&& BitVec.ofInt 64 63).toNat : Nat) : Int) = _
  rw [wrap_i64, h]; unfold w64; omega
theorem or00 : bitsK .or .i64 0 0 = 0 := by decide
theorem or01 : bitsK .or .i64 0 1 = 1 := by decide
theorem or10 : bitsK .or .i64 1 0 = 1 := by decide
theorem or11 : bitsK .or .i64 1 1 = 1 := by decide
theorem min63 (b : Int) : min (b % 64).toNat IntKind.i64.bits = (b % 64).toNat := by simp only [IntKind.bits]; omega
theorem or0tr (p : Bool) : bitsK .or .i64 0 (tr p) = tr p := by cases p <;> decide
theorem or1tr (p : Bool) : bitsK .or .i64 1 (tr p) = 1 := by cases p <;> decide
theorem allOnes : (if IntKind.i64.signed = true then (-1 : Int) else IntKind.i64.max) = -1 := by decide
def names : List ByteArray := [⟨#[]⟩, ⟨#[43]⟩, ⟨#[45]⟩, ⟨#[42]⟩, ⟨#[47]⟩, ⟨#[37]⟩, ⟨#[60, 60]⟩, ⟨#[62, 62]⟩, ⟨#[38]⟩, ⟨#[124]⟩, ⟨#[94]⟩, ⟨#[60]⟩, ⟨#[60, 61]⟩, ⟨#[45]⟩, ⟨#[33]⟩, ⟨#[126]⟩]
def nameF (op : Int) : ByteArray := if op < 0 ∨ 16 ≤ op then ⟨#[]⟩ else names.getD op.toNat ⟨#[]⟩
theorem nameAt (op : Int) (h0 : 0 ≤ op) (h1 : op < 16) : (names.map Value.string).toArray[op.toNat]? = some (.string (nameF op)) := by
  have hk : op.toNat < names.length := by simp [names]; omega
  have h2 : ¬ (op < 0 ∨ 16 ≤ op) := by omega
  rw [nameF, if_neg h2]
  rw [List.getElem?_toArray, List.getElem?_map, List.getElem?_eq_getElem hk]
  simp [List.getD_eq_getElem?_getD, List.getElem?_eq_getElem hk]
def unF (op : Int) : Bool := decide (op = 13 ∨ op = 14 ∨ op = 15)
abbrev Sp := Int × Int
abbrev V (s : Sp) : Value := .agg #[.int .i64 s.1, .int .i64 s.2]
def noneS : Sp := (0, -1)
def wholeS : Sp := (-9223372036854775808, 9223372036854775807)
def emptyS (s : Sp) : Bool := decide (s.2 < s.1)
def hasS (s : Sp) (n : Int) : Bool := decide (s.1 ≤ n) && decide (n ≤ s.2)
def joinS (a b : Sp) : Sp := if emptyS a && emptyS b then noneS else if emptyS a then b else if emptyS b then a else (mnI a.1 b.1, mxI a.2 b.2)
def meetS (a b : Sp) : Sp := if emptyS (mxI a.1 b.1, mnI a.2 b.2) then noneS else (mxI a.1 b.1, mnI a.2 b.2)
/-! ### the product of two numbers of 64 bits -/
def M : Int := 18446744073709551616
theorem bits_lo (x : Int) : bitsK .and .u64 x 4294967295 = x % 4294967296 := by
  have h : (BitVec.ofInt 64 x &&& BitVec.ofInt 64 4294967295).toNat = (x % 4294967296).toNat := by
    have e : BitVec.ofInt 64 4294967295 = 4294967295#64 := by decide
    rw [e, BitVec.toNat_and, BitVec.toNat_ofInt]
    have : (4294967295#64 : BitVec 64).toNat = 2 ^ 32 - 1 := by decide
    rw [this, Nat.and_two_pow_sub_one_eq_mod]
    omega
  unfold bitsK
  show IntKind.u64.wrap (((BitVec.ofInt 64 x &&& BitVec.ofInt 64 4294967295).toNat : Nat) : Int) = _
  rw [wrap_u64, h]; omega
theorem pow32 : (2 : Int) ^ min (Int.toNat 32) IntKind.u64.bits = 4294967296 := by decide
theorem pow32' : (2 : Int) ^ min 32 IntKind.u64.bits = 4294967296 := by decide
def hiF (x y : Int) : Int := x * y / 18446744073709551616
def loF (x y : Int) : Int := x * y % 18446744073709551616
theorem mulb {a b A B : Int} (ha : 0 ≤ a) (ha2 : a ≤ A) (hb : 0 ≤ b) (hb2 : b ≤ B) : 0 ≤ a * b ∧ a * b ≤ A * B :=
  ⟨Int.mul_nonneg ha hb, Int.mul_le_mul ha2 hb2 hb (Int.le_trans ha ha2)⟩
/-- The words of the product, as math/bits makes them. -/
theorem mul64_plain (x y : Int) (hx : 0 ≤ x) (hx2 : x < 18446744073709551616) (hy : 0 ≤ y) (hy2 : y < 18446744073709551616) :
    ((x / 4294967296) * (y / 4294967296) % 18446744073709551616 + ((x / 4294967296) * (y % 4294967296) % 18446744073709551616 + ((x % 4294967296) * (y % 4294967296) % 18446744073709551616) / 4294967296) % 18446744073709551616 / 4294967296) % 18446744073709551616
      + (((x / 4294967296) * (y % 4294967296) % 18446744073709551616 + ((x % 4294967296) * (y % 4294967296) % 18446744073709551616) / 4294967296) % 18446744073709551616 % 4294967296 + (x % 4294967296) * (y / 4294967296) % 18446744073709551616) % 18446744073709551616 / 4294967296
      = hiF x y := by
  obtain ⟨x1, x0, hxe, h1, h2, h3, h4⟩ : ∃ x1 x0 : Int, x = x1 * 4294967296 + x0 ∧ 0 ≤ x1 ∧ x1 ≤ 4294967295 ∧ 0 ≤ x0 ∧ x0 ≤ 4294967295 := ⟨x / 4294967296, x % 4294967296, by omega, by omega, by omega, by omega, by omega⟩
  obtain ⟨y1, y0, hye, k1, k2, k3, k4⟩ : ∃ y1 y0 : Int, y = y1 * 4294967296 + y0 ∧ 0 ≤ y1 ∧ y1 ≤ 4294967295 ∧ 0 ≤ y0 ∧ y0 ≤ 4294967295 := ⟨y / 4294967296, y % 4294967296, by omega, by omega, by omega, by omega, by omega⟩
  have ex1 : x / 4294967296 = x1 := by omega
  have ex0 : x % 4294967296 = x0 := by omega
  have ey1 : y / 4294967296 = y1 := by omega
  have ey0 : y % 4294967296 = y0 := by omega
  rw [ex1, ex0, ey1, ey0]
  have e : x * y = (x1 * y1) * 18446744073709551616 + (x1 * y0) * 4294967296 + (x0 * y1) * 4294967296 + x0 * y0 := by
    rw [hxe, hye, Int.add_mul, Int.mul_add, Int.mul_add]
    have a1 : x1 * 4294967296 * (y1 * 4294967296) = x1 * y1 * 18446744073709551616 := by
      rw [Int.mul_assoc, Int.mul_left_comm 4294967296 y1, ← Int.mul_assoc, ← Int.mul_assoc]; omega
    have a2 : x1 * 4294967296 * y0 = x1 * y0 * 4294967296 := by rw [Int.mul_assoc, Int.mul_comm 4294967296, ← Int.mul_assoc]
    have a3 : x0 * (y1 * 4294967296) = x0 * y1 * 4294967296 := by rw [Int.mul_assoc]
    rw [a1, a2, a3]; omega
  have b11 := mulb h1 h2 k1 k2
  have b10 := mulb h1 h2 k3 k4
  have b01 := mulb h3 h4 k1 k2
  have b00 := mulb h3 h4 k3 k4
  unfold hiF
  rw [e]
  generalize x1 * y1 = p11 at *
  generalize x1 * y0 = p10 at *
  generalize x0 * y1 = p01 at *
  generalize x0 * y0 = p00 at *
  omega
theorem fdiv32 (x : Int) : x.fdiv 4294967296 = x / 4294967296 := Int.fdiv_eq_ediv_of_nonneg _ (by decide)
def szF (n : Int) : Int := (if n < 0 then -n else n) % 18446744073709551616
def fitsF (a b : Int) : Bool := if decide (a < 0) != decide (b < 0) then decide (hiF (szF a) (szF b) = 0) && decide (loF (szF a) (szF b) ≤ 9223372036854775808) else decide (hiF (szF a) (szF b) = 0) && decide (loF (szF a) (szF b) < 9223372036854775808)
def cornerF (op a b : Int) : Int × Bool :=
  let c := (doF op a b).1
  (c, if op = 1 then decide (0 ≤ bitsK .and .i64 (bitsK .xor .i64 a c) (bitsK .xor .i64 b c)) else if op = 2 then decide (0 ≤ bitsK .and .i64 (bitsK .xor .i64 a b) (bitsK .xor .i64 a c)) else fitsF a b)
def stepC (acc : Sp) (c : Int × Bool) (k : Sp → Sp) : Sp := if c.2 then k (joinS acc (c.1, c.1)) else wholeS
def cornersF (op : Int) (a b : Sp) : Sp :=
  stepC noneS (cornerF op a.1 b.1) fun o => stepC o (cornerF op a.1 b.2) fun o => stepC o (cornerF op a.2 b.1) fun o => stepC o (cornerF op a.2 b.2) fun o => o
def restS (a b : Sp) : Sp := (if 0 ≤ a.1 then 0 else w64 (1 - b.1), w64 (b.1 - 1))
def comparedS (op : Int) (a b : Sp) : Sp := ((doF op a.2 b.1).1, (doF op a.1 b.2).1)
def isOne (s : Sp) : Bool := decide (s.1 = s.1 ∧ s.2 = s.1)
def spansF (op : Int) (a b0 : Sp) : Sp :=
  let b := if unF op then (0, 0) else b0
  if decide (nameF op = ⟨#[]⟩) || emptyS a || emptyS b then noneS
  else if isOne a && isOne b && decide ((doF op a.1 b.1).2 = 0) then ((doF op a.1 b.1).1, (doF op a.1 b.1).1)
  else if op ≤ 3 then cornersF op a b
  else if op = 11 ∨ op = 12 then comparedS op a b
  else if op = 13 ∧ a.1 ≠ -9223372036854775808 then (w64 (-a.2), w64 (-a.1))
  else if op = 14 ∧ hasS a 0 then (0, 1)
  else if op = 14 then (0, 0)
  else if op = 8 ∧ 0 ≤ a.1 ∧ 0 ≤ b.1 then (0, mnI a.2 b.2)
  else if op = 5 ∧ isOne b ∧ 0 < b.1 then restS a b
  else wholeS
end Go.Arith
