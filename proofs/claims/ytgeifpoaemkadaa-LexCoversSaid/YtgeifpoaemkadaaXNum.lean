/- Layer 4: numbers. -/
import Derived.Test.YtgeifpoaemkadaaXRef
set_option linter.unusedSimpArgs false
set_option linter.unusedVariables false
set_option linter.all false
namespace Go.Lex
open Go Go.Eng
/-- A digit's worth; 99: none. -/
def figV (c : Int) : Int := if 48 ≤ c ∧ c ≤ 57 then c - 48 else if 97 ≤ c ∧ c ≤ 102 then c - 97 + 10 else if 65 ≤ c ∧ c ≤ 70 then c - 65 + 10 else 99
theorem figV_range (c : Int) : 0 ≤ figV c ∧ figV c ≤ 99 := by unfold figV; split; omega; split; omega; split <;> omega
def maxI : Int := 9223372036854775807
/-- Digits to a base. -/
def whl (s : ByteArray) (base : Int) : Nat → Nat → Int → Option Int
  | 0, _, n => some n
  | f + 1, i, n => if i < s.size then (if figV (byteAt s i) < base ∧ n * base + figV (byteAt s i) ≤ maxI then whl s base f (i + 1) (n * base + figV (byteAt s i)) else none) else some n
def whole (s : ByteArray) (base : Int) (i : Nat) (n : Int) : Option Int := whl s base (s.size - i) i n
theorem whole_eq (s : ByteArray) (base : Int) (i : Nat) (n : Int) : whole s base i n = if i < s.size then (if figV (byteAt s i) < base ∧ n * base + figV (byteAt s i) ≤ maxI then whole s base (i + 1) (n * base + figV (byteAt s i)) else none) else some n := by
  unfold whole
  by_cases h : i < s.size
  · rw [show s.size - i = (s.size - (i + 1)) + 1 by omega]; rfl
  · rw [show s.size - i = 0 by omega, if_neg h]; rfl
def outcome (s : ByteArray) : Option Int → Int × Bool
  | none => (0, false)
  | some n => (n, decide (s ≠ ⟨#[]⟩))
def pairV (p : Int × Bool) : Value := .tuple #[.int .i64 p.1, .bool p.2]
def isHex (s : ByteArray) : Bool := decide (1 < s.size) && decide (byteAt s 0 = 48) && decide (byteAt s 1 = 120)
/-- The number that a text is. -/
def number (s : ByteArray) : Int × Bool :=
  if byteAt s 0 = 39 then (if s.size = 3 ∧ byteAt s 2 = 39 ∧ 32 ≤ byteAt s 1 ∧ byteAt s 1 ≤ 126 then (byteAt s 1, true) else (0, false))
  else if isHex s then outcome (s.extract 2 s.size) (whole (s.extract 2 s.size) 16 0 0) else outcome s (whole s 10 0 0)
theorem byteAt_none (s : ByteArray) (i : Int) (h : (s.size : Int) ≤ i) : byteAt s i = 0 := by
  unfold byteAt
  have : s[i.toNat]? = none := by rw [getElem?_eq_none_iff]; omega
  rw [this]; rfl
theorem byteAt_some (s : ByteArray) (i : Nat) (h : i < s.size) : byteAt s i = s[i].toNat := by
  unfold byteAt
  rw [Int.toNat_natCast, getElem?_pos s i h]; rfl
theorem extract_size (s : ByteArray) (a b : Nat) (h : a ≤ b ∧ b ≤ s.size) : (s.extract a b).size = b - a := by
  rw [ByteArray.size_extract]; omega
theorem byteAt_extract (s : ByteArray) (a b i : Nat) (h : a + i < b ∧ b ≤ s.size) : byteAt (s.extract a b) i = byteAt s ((a + i : Nat) : Int) := by
  rw [byteAt_some s (a + i) (by omega), byteAt_some _ i (by rw [extract_size _ _ _ (by omega)]; omega)]
  rw [ByteArray.getElem_extract]
theorem ext_byteAt (s t : ByteArray) (h : s.size = t.size) (hb : ∀ i : Nat, i < s.size → byteAt s i = byteAt t i) : s = t := by
  apply ByteArray.ext_getElem h
  intro i h1 h2
  have := hb i h1
  rw [byteAt_some s i h1, byteAt_some t i h2] at this
  exact UInt8.toNat_inj.1 (by omega)
theorem hex_iff (s : ByteArray) (h : 2 ≤ s.size) : s.extract 0 2 = ⟨#[48, 120]⟩ ↔ byteAt s 0 = 48 ∧ byteAt s 1 = 120 := by
  have e0 := byteAt_extract s 0 2 0 (by omega)
  have e1 := byteAt_extract s 0 2 1 (by omega)
  simp only [Nat.zero_add, Int.natCast_zero, Int.natCast_one] at e0 e1
  constructor
  · intro hh
    rw [hh] at e0 e1
    exact ⟨e0.symm.trans rfl, e1.symm.trans rfl⟩
  · rintro ⟨h0, h1⟩
    refine ext_byteAt _ _ (by rw [extract_size _ _ _ (by omega)]; rfl) fun i hi => ?_
    rw [extract_size _ _ _ (by omega)] at hi
    have : i = 0 ∨ i = 1 := by omega
    rcases this with rfl | rfl
    · exact e0.trans h0
    · exact e1.trans h1
theorem empty_iff (s : ByteArray) : s = ⟨#[]⟩ ↔ s.size = 0 := by
  constructor
  · intro h; rw [h]; rfl
  · intro h; exact ext_byteAt _ _ h fun i hi => by omega
end Go.Lex
namespace Go.Proofs.Ytgeifpoaemkadaa
open Go Go.Eng Go.Lex
theorem worth_ct (c : Int) (base : Int) (h : 0 ≤ c ∧ c < 256) (hb : base = 10 ∨ base = 16) : Pur Try.prog 29 [.int .u8 c, .int .u64 base] (fun v => ∃ d, v = .tuple #[.int .u64 d, .bool (decide (figV c < base))] ∧ 0 ≤ d ∧ d ≤ 255 ∧ (figV c < base → d = figV c)) := by
  unfold figV
  intro m; refine cta_of_T Try.func29 rfl rfl (by kernel_rfl) (by kernel_rfl) ?_
  by_cases c1 : 48 ≤ c ∧ c ≤ 57
  · rw [if_pos c1]
    obtain ⟨c1, c2⟩ := c1
    repeat' (first | simp (maxSteps := 1000000) (disch := omega) only [↓eng_pre, eng_post, ↓Fa.all_pc, Fa.all_fa, eng_core, Nat.reduceBEq, ne_eq, reduceIte, Nat.reduceEqDiff, Nat.reduceAdd, Nat.reduceMul, Nat.reduceLT, Nat.reduceSub, Int.reduceLT, Int.reduceLE, Int.reduceEq, Int.reduceAdd, Int.reduceSub, Int.reduceMul, Int.reduceNeg, Int.reduceToNat, *] | (with_reducible (first | (refine newA_of (fun _ => ?_)))) | (with_reducible (first | (refine cond_if (fun h => ?_) (fun h => ?_)) | (refine guard_t (fun h => ?_) (fun h => ?_)) | (refine guard_f (fun h => ?_) (fun h => ?_)) | (refine cond_nif (fun h => ?_) (fun h => ?_)) | (refine cond_nsplit (fun h => ?_) (fun h => ?_)) | (refine cond_split (fun h => ?_) (fun h => ?_)) | (refine guard_split (fun h => ?_) (fun h => ?_)))) | fail)
    all_goals exact end_here ⟨rfl, rfl, _, by rw [show (c - 48) % 256 % 18446744073709551616 = c - 48 by omega], by omega, by omega, fun _ => rfl⟩
  · rw [if_neg c1]
    by_cases c2 : 97 ≤ c ∧ c ≤ 102
    · rw [if_pos c2]
      obtain ⟨d1, d2⟩ := c2
      repeat' (first | simp (maxSteps := 1000000) (disch := omega) only [↓eng_pre, eng_post, ↓Fa.all_pc, Fa.all_fa, eng_core, Nat.reduceBEq, ne_eq, reduceIte, Nat.reduceEqDiff, Nat.reduceAdd, Nat.reduceMul, Nat.reduceLT, Nat.reduceSub, Int.reduceLT, Int.reduceLE, Int.reduceEq, Int.reduceAdd, Int.reduceSub, Int.reduceMul, Int.reduceNeg, Int.reduceToNat, *] | (with_reducible (first | (refine newA_of (fun _ => ?_)))) | (with_reducible (first | (refine cond_if (fun h => ?_) (fun h => ?_)) | (refine guard_t (fun h => ?_) (fun h => ?_)) | (refine guard_f (fun h => ?_) (fun h => ?_)) | (refine cond_nif (fun h => ?_) (fun h => ?_)) | (refine cond_nsplit (fun h => ?_) (fun h => ?_)) | (refine cond_split (fun h => ?_) (fun h => ?_)) | (refine guard_split (fun h => ?_) (fun h => ?_)))) | fail)
      all_goals first | omega | exact end_here ⟨rfl, rfl, _, by rw [show ((c - 97) % 256 % 18446744073709551616 + 10) % 18446744073709551616 = c - 97 + 10 by omega], by omega, by omega, fun _ => rfl⟩
    · rw [if_neg c2]
      by_cases c3 : 65 ≤ c ∧ c ≤ 70
      · rw [if_pos c3]
        obtain ⟨d1, d2⟩ := c3
        repeat' (first | simp (maxSteps := 1000000) (disch := omega) only [↓eng_pre, eng_post, ↓Fa.all_pc, Fa.all_fa, eng_core, Nat.reduceBEq, ne_eq, reduceIte, Nat.reduceEqDiff, Nat.reduceAdd, Nat.reduceMul, Nat.reduceLT, Nat.reduceSub, Int.reduceLT, Int.reduceLE, Int.reduceEq, Int.reduceAdd, Int.reduceSub, Int.reduceMul, Int.reduceNeg, Int.reduceToNat, *] | (with_reducible (first | (refine newA_of (fun _ => ?_)))) | (with_reducible (first | (refine cond_if (fun h => ?_) (fun h => ?_)) | (refine guard_t (fun h => ?_) (fun h => ?_)) | (refine guard_f (fun h => ?_) (fun h => ?_)) | (refine cond_nif (fun h => ?_) (fun h => ?_)) | (refine cond_nsplit (fun h => ?_) (fun h => ?_)) | (refine cond_split (fun h => ?_) (fun h => ?_)) | (refine guard_split (fun h => ?_) (fun h => ?_)))) | fail)
        all_goals first | omega | exact end_here ⟨rfl, rfl, _, by rw [show ((c - 65) % 256 % 18446744073709551616 + 10) % 18446744073709551616 = c - 65 + 10 by omega], by omega, by omega, fun _ => rfl⟩
      · rw [if_neg c3]
        repeat' (first | simp (maxSteps := 1000000) (disch := omega) only [↓eng_pre, eng_post, ↓Fa.all_pc, Fa.all_fa, eng_core, Nat.reduceBEq, ne_eq, reduceIte, Nat.reduceEqDiff, Nat.reduceAdd, Nat.reduceMul, Nat.reduceLT, Nat.reduceSub, Int.reduceLT, Int.reduceLE, Int.reduceEq, Int.reduceAdd, Int.reduceSub, Int.reduceMul, Int.reduceNeg, Int.reduceToNat, *] | (with_reducible (first | (refine newA_of (fun _ => ?_)))) | (with_reducible (first | (refine cond_if (fun h => ?_) (fun h => ?_)) | (refine guard_t (fun h => ?_) (fun h => ?_)) | (refine guard_f (fun h => ?_) (fun h => ?_)) | (refine cond_nif (fun h => ?_) (fun h => ?_)) | (refine cond_nsplit (fun h => ?_) (fun h => ?_)) | (refine cond_split (fun h => ?_) (fun h => ?_)) | (refine guard_split (fun h => ?_) (fun h => ?_)))) | fail)
        all_goals first | omega | (refine end_here ⟨rfl, rfl, 255, ?_, by omega, by omega, fun _ => by omega⟩; rw [decide_eq_false (by omega)]; try rw [decide_eq_false (by omega)])
end Go.Proofs.Ytgeifpoaemkadaa
