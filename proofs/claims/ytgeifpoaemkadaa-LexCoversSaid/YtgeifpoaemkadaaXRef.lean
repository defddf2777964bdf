/- Layer 4: the document's bytes. -/
import Derived.Test.YtgeifpoaemkadaaXPlain
set_option linter.unusedSimpArgs false
set_option linter.unusedVariables false
set_option linter.all false
namespace Go.Lex
open Go Go.Eng
def digB (c : Int) : Bool := decide (cls c = 3)
def ltrB (c : Int) : Bool := decide (cls c = 2)
theorem cls3 (c : Int) (h : 0 ≤ c) : cls c = 3 ↔ 48 ≤ c ∧ c ≤ 57 := by
  unfold cls clsV; constructor
  · intro h1; (repeat' split at h1) <;> simp_all <;> omega
  · intro h1; rw [if_neg (by omega), if_pos (by omega)]
theorem cls2 (c : Int) (h : 0 ≤ c) : cls c = 2 ↔ (97 ≤ c ∧ c ≤ 122) ∨ (65 ≤ c ∧ c ≤ 90) ∨ c = 95 := by
  unfold cls clsV; constructor
  · intro h1; (repeat' split at h1) <;> simp_all <;> omega
  · intro h1; rw [if_pos (by omega)]
theorem cls1 (c : Int) (h : 0 ≤ c) : cls c = 1 ↔ c = 32 ∨ c = 9 ∨ c = 10 ∨ c = 13 := by
  unfold cls clsV; constructor
  · intro h1; (repeat' split at h1) <;> simp_all <;> omega
  · intro h1; rw [if_neg (by omega), if_neg (by omega), if_pos (by omega)]
theorem cls5 (c : Int) (h : 0 ≤ c) : cls c = 5 ↔ c = 39 := by
  unfold cls clsV; constructor
  · intro h1; (repeat' split at h1) <;> simp_all <;> omega
  · intro h1; rw [if_neg (by omega), if_neg (by omega), if_neg (by omega), if_pos (by omega)]
theorem digB_eq (c : Int) (h : 0 ≤ c) : digB c = (decide (48 ≤ c) && decide (c ≤ 57)) := by
  unfold digB; rw [Bool.eq_iff_iff]; simp [cls3 c h]
theorem ltrB_eq (c : Int) (h : 0 ≤ c) : ltrB c = (decide (97 ≤ c) && decide (c ≤ 122) || decide (65 ≤ c) && decide (c ≤ 90) || decide (c = 95)) := by
  unfold ltrB; rw [Bool.eq_iff_iff]; simp [cls2 c h]; omega
/-- A byte, 0 where there is none. -/
def atF (s : ByteArray) (i : Int) : Int := if i < s.size then byteAt s i else 0
end Go.Lex
namespace Go.Proofs.Ytgeifpoaemkadaa
open Go Go.Eng Go.Lex
theorem digit_ct (c : Int) (h : 0 ≤ c) : Pur Try.prog 27 [.int .u8 c] (· = .bool (digB c)) := by
  rw [digB_eq c h]
  intro m; refine cta_of_T Try.func27 rfl rfl (by kernel_rfl) (by kernel_rfl) ?_
  repeat' (first | simp (maxSteps := 1000000) (disch := omega) only [↓eng_pre, eng_post, ↓Fa.all_pc, Fa.all_fa, eng_core, Nat.reduceBEq, ne_eq, reduceIte, Nat.reduceEqDiff, Nat.reduceAdd, Nat.reduceMul, Nat.reduceLT, Nat.reduceSub, Int.reduceLT, Int.reduceLE, Int.reduceEq, Int.reduceAdd, Int.reduceSub, Int.reduceMul, Int.reduceNeg, Int.reduceToNat, *] | (with_reducible (first | (refine cond_if (fun h => ?_) (fun h => ?_)) | (refine guard_t (fun h => ?_) (fun h => ?_)) | (refine guard_f (fun h => ?_) (fun h => ?_)) | (refine cond_nif (fun h => ?_) (fun h => ?_)) | (refine cond_nsplit (fun h => ?_) (fun h => ?_)) | (refine cond_split (fun h => ?_) (fun h => ?_)) | (refine guard_split (fun h => ?_) (fun h => ?_)))) | fail)
  all_goals (refine end_here ⟨rfl, ?_⟩; simp_all)
theorem letter_ct (c : Int) (h : 0 ≤ c) : Pur Try.prog 24 [.int .u8 c] (· = .bool (ltrB c)) := by
  rw [ltrB_eq c h]
  intro m; refine cta_of_T Try.func24 rfl rfl (by kernel_rfl) (by kernel_rfl) ?_
  repeat' (first | simp (maxSteps := 1000000) (disch := omega) only [↓eng_pre, eng_post, ↓Fa.all_pc, Fa.all_fa, eng_core, Nat.reduceBEq, ne_eq, reduceIte, Nat.reduceEqDiff, Nat.reduceAdd, Nat.reduceMul, Nat.reduceLT, Nat.reduceSub, Int.reduceLT, Int.reduceLE, Int.reduceEq, Int.reduceAdd, Int.reduceSub, Int.reduceMul, Int.reduceNeg, Int.reduceToNat, *] | (with_reducible (first | (refine eq_ptr_nil (by kernel_rfl) ?_) | (refine neq_ptr_nil (by kernel_rfl) ?_) | (refine eq_iface_nil (by kernel_rfl) rfl ?_) | (refine neq_iface_nil (by kernel_rfl) rfl ?_))) | (with_reducible (first | (refine cond_if (fun h => ?_) (fun h => ?_)) | (refine guard_t (fun h => ?_) (fun h => ?_)) | (refine guard_f (fun h => ?_) (fun h => ?_)) | (refine cond_nif (fun h => ?_) (fun h => ?_)) | (refine cond_nsplit (fun h => ?_) (fun h => ?_)) | (refine cond_split (fun h => ?_) (fun h => ?_)) | (refine guard_split (fun h => ?_) (fun h => ?_)))) | fail)
  all_goals (refine end_here ⟨rfl, ?_⟩; simp_all)
theorem at_ct (s : ByteArray) (i : Int) (h : 0 ≤ i) : Pur Try.prog 39 [.string s, .int .i64 i] (· = .int .u8 (atF s i)) := by
  unfold atF
  by_cases hc : i < s.size
  · rw [if_pos hc]
    intro m; refine cta_of_T Try.func39 rfl rfl (by kernel_rfl) (by kernel_rfl) ?_
    repeat' (first | simp (maxSteps := 1000000) (disch := omega) only [↓eng_pre, eng_post, ↓Fa.all_pc, Fa.all_fa, eng_core, Nat.reduceBEq, ne_eq, reduceIte, Nat.reduceEqDiff, Nat.reduceAdd, Nat.reduceMul, Nat.reduceLT, Nat.reduceSub, Int.reduceLT, Int.reduceLE, Int.reduceEq, Int.reduceAdd, Int.reduceSub, Int.reduceMul, Int.reduceNeg, Int.reduceToNat, *] | (with_reducible (first | (refine bi_len (by kernel_rfl) ?_) | (refine bi_lens (by kernel_rfl) ?_))) | (with_reducible (first | (refine cond_if (fun h => ?_) (fun h => ?_)) | (refine guard_t (fun h => ?_) (fun h => ?_)) | (refine guard_f (fun h => ?_) (fun h => ?_)) | (refine cond_nif (fun h => ?_) (fun h => ?_)) | (refine cond_nsplit (fun h => ?_) (fun h => ?_)) | (refine cond_split (fun h => ?_) (fun h => ?_)) | (refine guard_split (fun h => ?_) (fun h => ?_)))) | fail)
    all_goals (exact end_here ⟨rfl, rfl⟩)
  · rw [if_neg hc]
    intro m; refine cta_of_T Try.func39 rfl rfl (by kernel_rfl) (by kernel_rfl) ?_
    repeat' (first | simp (maxSteps := 1000000) (disch := omega) only [↓eng_pre, eng_post, ↓Fa.all_pc, Fa.all_fa, eng_core, Nat.reduceBEq, ne_eq, reduceIte, Nat.reduceEqDiff, Nat.reduceAdd, Nat.reduceMul, Nat.reduceLT, Nat.reduceSub, Int.reduceLT, Int.reduceLE, Int.reduceEq, Int.reduceAdd, Int.reduceSub, Int.reduceMul, Int.reduceNeg, Int.reduceToNat, *] | (with_reducible (first | (refine bi_len (by kernel_rfl) ?_) | (refine bi_lens (by kernel_rfl) ?_))) | (with_reducible (first | (refine cond_if (fun h => ?_) (fun h => ?_)) | (refine guard_t (fun h => ?_) (fun h => ?_)) | (refine guard_f (fun h => ?_) (fun h => ?_)) | (refine cond_nif (fun h => ?_) (fun h => ?_)) | (refine cond_nsplit (fun h => ?_) (fun h => ?_)) | (refine cond_split (fun h => ?_) (fun h => ?_)) | (refine guard_split (fun h => ?_) (fun h => ?_)))) | fail)
    all_goals (exact end_here ⟨rfl, rfl⟩)
set_option maxHeartbeats 0 in
theorem rrun_ct (s : ByteArray) (i : Nat) (hs : s.size ≤ 100000000) (hi : i ≤ s.size) : Pur Try.prog 25 [.string s, .int .i64 (i : Int)] (· = .int .i64 (run s i : Int)) := by
  intro m; refine cta_of_T Try.func25 rfl rfl (by kernel_rfl) (by kernel_rfl) ?_
  repeat' (first | simp (maxSteps := 1000000) (disch := omega) only [↓eng_pre, eng_post, ↓Fa.all_pc, Fa.all_fa, eng_core, Nat.reduceBEq, ne_eq, reduceIte, Nat.reduceEqDiff, Nat.reduceAdd, Nat.reduceMul, Nat.reduceLT, Nat.reduceSub, Int.reduceLT, Int.reduceLE, Int.reduceEq, Int.reduceAdd, Int.reduceSub, Int.reduceMul, Int.reduceNeg, Int.reduceToNat, *] | (with_reducible (first | (refine bi_len (by kernel_rfl) ?_) | (refine bi_lens (by kernel_rfl) ?_))) | (with_reducible (first | (refine cond_if (fun h => ?_) (fun h => ?_)) | (refine guard_t (fun h => ?_) (fun h => ?_)) | (refine guard_f (fun h => ?_) (fun h => ?_)) | (refine cond_nif (fun h => ?_) (fun h => ?_)) | (refine cond_nsplit (fun h => ?_) (fun h => ?_)) | (refine cond_split (fun h => ?_) (fun h => ?_)) | (refine guard_split (fun h => ?_) (fun h => ?_)))) | fail)
  refine loopA_of (γ := Nat) (fun j => [(0, .string s), (1, .int .i64 (j : Int))]) (fun j m' L' => m' = m ∧ L' = [] ∧ j ≤ s.size ∧ run s i = run s j) (fun j => s.size - j) i (by (first | (simp (maxSteps := 1000000) (disch := omega) only [↓eng_pre, eng_post, ↓Fa.all_pc, Fa.all_fa, eng_core, Nat.reduceBEq, ne_eq, reduceIte, Nat.reduceEqDiff, Nat.reduceAdd, Nat.reduceMul, Nat.reduceLT, Nat.reduceSub, Int.reduceLT, Int.reduceLE, Int.reduceEq, Int.reduceAdd, Int.reduceSub, Int.reduceMul, Int.reduceNeg, Int.reduceToNat, *]; done) | (simp (maxSteps := 1000000) (disch := omega) only [↓eng_pre, eng_post, ↓Fa.all_pc, Fa.all_fa, eng_core, Nat.reduceBEq, ne_eq, reduceIte, Nat.reduceEqDiff, Nat.reduceAdd, Nat.reduceMul, Nat.reduceLT, Nat.reduceSub, Int.reduceLT, Int.reduceLE, Int.reduceEq, Int.reduceAdd, Int.reduceSub, Int.reduceMul, Int.reduceNeg, Int.reduceToNat, *, Value.int.injEq, true_and, and_true, Int.natCast_add, Int.natCast_one, Int.natCast_zero, Int.add_zero]; done) | (simp (maxSteps := 1000000) (disch := omega) only [↓eng_pre, eng_post, ↓Fa.all_pc, Fa.all_fa, eng_core, Nat.reduceBEq, ne_eq, reduceIte, Nat.reduceEqDiff, Nat.reduceAdd, Nat.reduceMul, Nat.reduceLT, Nat.reduceSub, Int.reduceLT, Int.reduceLE, Int.reduceEq, Int.reduceAdd, Int.reduceSub, Int.reduceMul, Int.reduceNeg, Int.reduceToNat, *, Value.int.injEq, true_and, and_true]; omega) | (simp (maxSteps := 1000000) (disch := omega) only [↓eng_pre, eng_post, ↓Fa.all_pc, Fa.all_fa, eng_core, Nat.reduceBEq, ne_eq, reduceIte, Nat.reduceEqDiff, Nat.reduceAdd, Nat.reduceMul, Nat.reduceLT, Nat.reduceSub, Int.reduceLT, Int.reduceLE, Int.reduceEq, Int.reduceAdd, Int.reduceSub, Int.reduceMul, Int.reduceNeg, Int.reduceToNat, *, Value.int.injEq, true_and, and_true]; exact rfl))) (end_here ⟨rfl, rfl, hi, rfl⟩) ?_
  rintro j e m' L' hf ⟨rfl, rfl, hj, hr⟩
  simp only [fits_cons, fits_nil, and_true] at hf
  obtain ⟨e0, e1⟩ := hf
  have hre := run_eq s j
  by_cases hlt : j < s.size
  · have hlt' : (j : Int) < s.size := by omega
    have hb := (byteAt_lt s j).1
    have q1 := letter_ct (byteAt s j) hb
    have q2 := digit_ct (byteAt s j) hb
    by_cases hl : cls (byteAt s j) = 2
    · rw [if_pos ⟨hlt, by unfold wordy; simp [hl]⟩] at hre
      rw [show ltrB (byteAt s j) = true by unfold ltrB; simp [hl]] at q1
      repeat' (first | simp (maxSteps := 1000000) (disch := omega) only [↓eng_pre, eng_post, ↓Fa.all_pc, Fa.all_fa, eng_core, Nat.reduceBEq, ne_eq, reduceIte, Nat.reduceEqDiff, Nat.reduceAdd, Nat.reduceMul, Nat.reduceLT, Nat.reduceSub, Int.reduceLT, Int.reduceLE, Int.reduceEq, Int.reduceAdd, Int.reduceSub, Int.reduceMul, Int.reduceNeg, Int.reduceToNat, *] | (with_reducible (first | (refine bi_len (by kernel_rfl) ?_) | (refine bi_lens (by kernel_rfl) ?_))) | ((with_reducible refine pur_of (q1) ?_); rintro _ rfl) | ((with_reducible refine pur_of (q2) ?_); rintro _ rfl) | (with_reducible (first | (refine cond_if (fun h => ?_) (fun h => ?_)) | (refine guard_t (fun h => ?_) (fun h => ?_)) | (refine guard_f (fun h => ?_) (fun h => ?_)) | (refine cond_nif (fun h => ?_) (fun h => ?_)) | (refine cond_nsplit (fun h => ?_) (fun h => ?_)) | (refine cond_split (fun h => ?_) (fun h => ?_)) | (refine guard_split (fun h => ?_) (fun h => ?_)))) | fail)
      exact next_of (j + 1) (by (first | (simp (maxSteps := 1000000) (disch := omega) only [↓eng_pre, eng_post, ↓Fa.all_pc, Fa.all_fa, eng_core, Nat.reduceBEq, ne_eq, reduceIte, Nat.reduceEqDiff, Nat.reduceAdd, Nat.reduceMul, Nat.reduceLT, Nat.reduceSub, Int.reduceLT, Int.reduceLE, Int.reduceEq, Int.reduceAdd, Int.reduceSub, Int.reduceMul, Int.reduceNeg, Int.reduceToNat, *]; done) | (simp (maxSteps := 1000000) (disch := omega) only [↓eng_pre, eng_post, ↓Fa.all_pc, Fa.all_fa, eng_core, Nat.reduceBEq, ne_eq, reduceIte, Nat.reduceEqDiff, Nat.reduceAdd, Nat.reduceMul, Nat.reduceLT, Nat.reduceSub, Int.reduceLT, Int.reduceLE, Int.reduceEq, Int.reduceAdd, Int.reduceSub, Int.reduceMul, Int.reduceNeg, Int.reduceToNat, *, Value.int.injEq, true_and, and_true, Int.natCast_add, Int.natCast_one, Int.natCast_zero, Int.add_zero]; done) | (simp (maxSteps := 1000000) (disch := omega) only [↓eng_pre, eng_post, ↓Fa.all_pc, Fa.all_fa, eng_core, Nat.reduceBEq, ne_eq, reduceIte, Nat.reduceEqDiff, Nat.reduceAdd, Nat.reduceMul, Nat.reduceLT, Nat.reduceSub, Int.reduceLT, Int.reduceLE, Int.reduceEq, Int.reduceAdd, Int.reduceSub, Int.reduceMul, Int.reduceNeg, Int.reduceToNat, *, Value.int.injEq, true_and, and_true]; omega) | (simp (maxSteps := 1000000) (disch := omega) only [↓eng_pre, eng_post, ↓Fa.all_pc, Fa.all_fa, eng_core, Nat.reduceBEq, ne_eq, reduceIte, Nat.reduceEqDiff, Nat.reduceAdd, Nat.reduceMul, Nat.reduceLT, Nat.reduceSub, Int.reduceLT, Int.reduceLE, Int.reduceEq, Int.reduceAdd, Int.reduceSub, Int.reduceMul, Int.reduceNeg, Int.reduceToNat, *, Value.int.injEq, true_and, and_true]; exact rfl))) (end_here ⟨rfl, rfl, by omega, by rw [hr, hre]⟩) (by omega)
    · rw [show ltrB (byteAt s j) = false by unfold ltrB; simp [hl]] at q1
      by_cases hd : cls (byteAt s j) = 3
      · rw [if_pos ⟨hlt, by unfold wordy; simp [hd]⟩] at hre
        rw [show digB (byteAt s j) = true by unfold digB; simp [hd]] at q2
        repeat' (first | simp (maxSteps := 1000000) (disch := omega) only [↓eng_pre, eng_post, ↓Fa.all_pc, Fa.all_fa, eng_core, Nat.reduceBEq, ne_eq, reduceIte, Nat.reduceEqDiff, Nat.reduceAdd, Nat.reduceMul, Nat.reduceLT, Nat.reduceSub, Int.reduceLT, Int.reduceLE, Int.reduceEq, Int.reduceAdd, Int.reduceSub, Int.reduceMul, Int.reduceNeg, Int.reduceToNat, *] | (with_reducible (first | (refine bi_len (by kernel_rfl) ?_) | (refine bi_lens (by kernel_rfl) ?_))) | ((with_reducible refine pur_of (q1) ?_); rintro _ rfl) | ((with_reducible refine pur_of (q2) ?_); rintro _ rfl) | (with_reducible (first | (refine cond_if (fun h => ?_) (fun h => ?_)) | (refine guard_t (fun h => ?_) (fun h => ?_)) | (refine guard_f (fun h => ?_) (fun h => ?_)) | (refine cond_nif (fun h => ?_) (fun h => ?_)) | (refine cond_nsplit (fun h => ?_) (fun h => ?_)) | (refine cond_split (fun h => ?_) (fun h => ?_)) | (refine guard_split (fun h => ?_) (fun h => ?_)))) | fail)
        exact next_of (j + 1) (by (first | (simp (maxSteps := 1000000) (disch := omega) only [↓eng_pre, eng_post, ↓Fa.all_pc, Fa.all_fa, eng_core, Nat.reduceBEq, ne_eq, reduceIte, Nat.reduceEqDiff, Nat.reduceAdd, Nat.reduceMul, Nat.reduceLT, Nat.reduceSub, Int.reduceLT, Int.reduceLE, Int.reduceEq, Int.reduceAdd, Int.reduceSub, Int.reduceMul, Int.reduceNeg, Int.reduceToNat, *]; done) | (simp (maxSteps := 1000000) (disch := omega) only [↓eng_pre, eng_post, ↓Fa.all_pc, Fa.all_fa, eng_core, Nat.reduceBEq, ne_eq, reduceIte, Nat.reduceEqDiff, Nat.reduceAdd, Nat.reduceMul, Nat.reduceLT, Nat.reduceSub, Int.reduceLT, Int.reduceLE, Int.reduceEq, Int.reduceAdd, Int.reduceSub, Int.reduceMul, Int.reduceNeg, Int.reduceToNat, *, Value.int.injEq, true_and, and_true, Int.natCast_add, Int.natCast_one, Int.natCast_zero, Int.add_zero]; done) | (simp (maxSteps := 1000000) (disch := omega) only [↓eng_pre, eng_post, ↓Fa.all_pc, Fa.all_fa, eng_core, Nat.reduceBEq, ne_eq, reduceIte, Nat.reduceEqDiff, Nat.reduceAdd, Nat.reduceMul, Nat.reduceLT, Nat.reduceSub, Int.reduceLT, Int.reduceLE, Int.reduceEq, Int.reduceAdd, Int.reduceSub, Int.reduceMul, Int.reduceNeg, Int.reduceToNat, *, Value.int.injEq, true_and, and_true]; omega) | (simp (maxSteps := 1000000) (disch := omega) only [↓eng_pre, eng_post, ↓Fa.all_pc, Fa.all_fa, eng_core, Nat.reduceBEq, ne_eq, reduceIte, Nat.reduceEqDiff, Nat.reduceAdd, Nat.reduceMul, Nat.reduceLT, Nat.reduceSub, Int.reduceLT, Int.reduceLE, Int.reduceEq, Int.reduceAdd, Int.reduceSub, Int.reduceMul, Int.reduceNeg, Int.reduceToNat, *, Value.int.injEq, true_and, and_true]; exact rfl))) (end_here ⟨rfl, rfl, by omega, by rw [hr, hre]⟩) (by omega)
      · rw [if_neg (fun hc => by have := hc.2; unfold wordy at this; simp [hl, hd] at this)] at hre
        rw [show digB (byteAt s j) = false by unfold digB; simp [hd]] at q2
        rw [hr, hre]
        repeat' (first | simp (maxSteps := 1000000) (disch := omega) only [↓eng_pre, eng_post, ↓Fa.all_pc, Fa.all_fa, eng_core, Nat.reduceBEq, ne_eq, reduceIte, Nat.reduceEqDiff, Nat.reduceAdd, Nat.reduceMul, Nat.reduceLT, Nat.reduceSub, Int.reduceLT, Int.reduceLE, Int.reduceEq, Int.reduceAdd, Int.reduceSub, Int.reduceMul, Int.reduceNeg, Int.reduceToNat, *] | (with_reducible (first | (refine bi_len (by kernel_rfl) ?_) | (refine bi_lens (by kernel_rfl) ?_))) | ((with_reducible refine pur_of (q1) ?_); rintro _ rfl) | ((with_reducible refine pur_of (q2) ?_); rintro _ rfl) | (with_reducible (first | (refine cond_if (fun h => ?_) (fun h => ?_)) | (refine guard_t (fun h => ?_) (fun h => ?_)) | (refine guard_f (fun h => ?_) (fun h => ?_)) | (refine cond_nif (fun h => ?_) (fun h => ?_)) | (refine cond_nsplit (fun h => ?_) (fun h => ?_)) | (refine cond_split (fun h => ?_) (fun h => ?_)) | (refine guard_split (fun h => ?_) (fun h => ?_)))) | fail)
        exact end_here ⟨rfl, rfl⟩
  · have hlt' : ¬ (j : Int) < s.size := by omega
    rw [if_neg (fun hc => hlt hc.1)] at hre
    rw [hr, hre]
    repeat' (first | simp (maxSteps := 1000000) (disch := omega) only [↓eng_pre, eng_post, ↓Fa.all_pc, Fa.all_fa, eng_core, Nat.reduceBEq, ne_eq, reduceIte, Nat.reduceEqDiff, Nat.reduceAdd, Nat.reduceMul, Nat.reduceLT, Nat.reduceSub, Int.reduceLT, Int.reduceLE, Int.reduceEq, Int.reduceAdd, Int.reduceSub, Int.reduceMul, Int.reduceNeg, Int.reduceToNat, *] | (with_reducible (first | (refine bi_len (by kernel_rfl) ?_) | (refine bi_lens (by kernel_rfl) ?_))) | (with_reducible (first | (refine cond_if (fun h => ?_) (fun h => ?_)) | (refine guard_t (fun h => ?_) (fun h => ?_)) | (refine guard_f (fun h => ?_) (fun h => ?_)) | (refine cond_nif (fun h => ?_) (fun h => ?_)) | (refine cond_nsplit (fun h => ?_) (fun h => ?_)) | (refine cond_split (fun h => ?_) (fun h => ?_)) | (refine guard_split (fun h => ?_) (fun h => ?_)))) | fail)
    exact end_here ⟨rfl, rfl⟩
end Go.Proofs.Ytgeifpoaemkadaa
