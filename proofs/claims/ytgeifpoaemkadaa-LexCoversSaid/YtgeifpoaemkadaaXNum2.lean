/- Layer 4: numbers, of the document. -/
import Derived.Test.YtgeifpoaemkadaaXNum
set_option linter.unusedSimpArgs false
set_option linter.unusedVariables false
set_option linter.all false
namespace Go.Proofs.Ytgeifpoaemkadaa
open Go Go.Eng Go.Lex
theorem figure_ct (c : Int) (h : 0 ≤ c ∧ c < 256) : Pur Try.prog 40 [.int .u8 c] (· = .int .u64 (figV c)) := by
  have dc := digit_ct c h.1
  rw [digB_eq c h.1] at dc
  unfold figV
  intro m; refine cta_of_T Try.func40 rfl rfl (by kernel_rfl) (by kernel_rfl) ?_
  by_cases c1 : 48 ≤ c ∧ c ≤ 57
  · rw [if_pos c1]
    obtain ⟨c1, c2⟩ := c1
    rw [decide_eq_true c1, decide_eq_true c2] at dc
    repeat' (first | simp (maxSteps := 1000000) (disch := omega) only [↓eng_pre, eng_post, ↓Fa.all_pc, Fa.all_fa, eng_core, Nat.reduceBEq, ne_eq, reduceIte, Nat.reduceEqDiff, Nat.reduceAdd, Nat.reduceMul, Nat.reduceLT, Nat.reduceSub, Int.reduceLT, Int.reduceLE, Int.reduceEq, Int.reduceAdd, Int.reduceSub, Int.reduceMul, Int.reduceNeg, Int.reduceToNat, *] | (with_reducible (first | (refine newA_of (fun _ => ?_)))) | ((with_reducible refine pur_of (dc) ?_); rintro _ rfl) | (with_reducible (first | (refine cond_if (fun h => ?_) (fun h => ?_)) | (refine guard_t (fun h => ?_) (fun h => ?_)) | (refine guard_f (fun h => ?_) (fun h => ?_)) | (refine cond_nif (fun h => ?_) (fun h => ?_)) | (refine cond_nsplit (fun h => ?_) (fun h => ?_)) | (refine cond_split (fun h => ?_) (fun h => ?_)) | (refine guard_split (fun h => ?_) (fun h => ?_)))) | fail)
    all_goals exact end_here ⟨rfl, rfl, by rw [show (c - 48) % 256 % 18446744073709551616 = c - 48 by omega]⟩
  · rw [if_neg c1]
    have e1 : (decide (48 ≤ c) && decide (c ≤ 57)) = false := by rw [Bool.eq_false_iff]; intro hh; simp at hh; exact c1 hh
    rw [e1] at dc
    by_cases c2 : 97 ≤ c ∧ c ≤ 102
    · rw [if_pos c2]
      obtain ⟨d1, d2⟩ := c2
      repeat' (first | simp (maxSteps := 1000000) (disch := omega) only [↓eng_pre, eng_post, ↓Fa.all_pc, Fa.all_fa, eng_core, Nat.reduceBEq, ne_eq, reduceIte, Nat.reduceEqDiff, Nat.reduceAdd, Nat.reduceMul, Nat.reduceLT, Nat.reduceSub, Int.reduceLT, Int.reduceLE, Int.reduceEq, Int.reduceAdd, Int.reduceSub, Int.reduceMul, Int.reduceNeg, Int.reduceToNat, *] | (with_reducible (first | (refine newA_of (fun _ => ?_)))) | ((with_reducible refine pur_of (dc) ?_); rintro _ rfl) | (with_reducible (first | (refine cond_if (fun h => ?_) (fun h => ?_)) | (refine guard_t (fun h => ?_) (fun h => ?_)) | (refine guard_f (fun h => ?_) (fun h => ?_)) | (refine cond_nif (fun h => ?_) (fun h => ?_)) | (refine cond_nsplit (fun h => ?_) (fun h => ?_)) | (refine cond_split (fun h => ?_) (fun h => ?_)) | (refine guard_split (fun h => ?_) (fun h => ?_)))) | fail)
      all_goals first | omega | exact end_here ⟨rfl, rfl, by rw [show ((c - 97) % 256 % 18446744073709551616 + 10) % 18446744073709551616 = c - 97 + 10 by omega]⟩
    · rw [if_neg c2]
      by_cases c3 : 65 ≤ c ∧ c ≤ 70
      · rw [if_pos c3]
        obtain ⟨d1, d2⟩ := c3
        repeat' (first | simp (maxSteps := 1000000) (disch := omega) only [↓eng_pre, eng_post, ↓Fa.all_pc, Fa.all_fa, eng_core, Nat.reduceBEq, ne_eq, reduceIte, Nat.reduceEqDiff, Nat.reduceAdd, Nat.reduceMul, Nat.reduceLT, Nat.reduceSub, Int.reduceLT, Int.reduceLE, Int.reduceEq, Int.reduceAdd, Int.reduceSub, Int.reduceMul, Int.reduceNeg, Int.reduceToNat, *] | (with_reducible (first | (refine newA_of (fun _ => ?_)))) | ((with_reducible refine pur_of (dc) ?_); rintro _ rfl) | (with_reducible (first | (refine cond_if (fun h => ?_) (fun h => ?_)) | (refine guard_t (fun h => ?_) (fun h => ?_)) | (refine guard_f (fun h => ?_) (fun h => ?_)) | (refine cond_nif (fun h => ?_) (fun h => ?_)) | (refine cond_nsplit (fun h => ?_) (fun h => ?_)) | (refine cond_split (fun h => ?_) (fun h => ?_)) | (refine guard_split (fun h => ?_) (fun h => ?_)))) | fail)
        all_goals first | omega | exact end_here ⟨rfl, rfl, by rw [show ((c - 65) % 256 % 18446744073709551616 + 10) % 18446744073709551616 = c - 65 + 10 by omega]⟩
      · rw [if_neg c3]
        repeat' (first | simp (maxSteps := 1000000) (disch := omega) only [↓eng_pre, eng_post, ↓Fa.all_pc, Fa.all_fa, eng_core, Nat.reduceBEq, ne_eq, reduceIte, Nat.reduceEqDiff, Nat.reduceAdd, Nat.reduceMul, Nat.reduceLT, Nat.reduceSub, Int.reduceLT, Int.reduceLE, Int.reduceEq, Int.reduceAdd, Int.reduceSub, Int.reduceMul, Int.reduceNeg, Int.reduceToNat, *] | (with_reducible (first | (refine newA_of (fun _ => ?_)))) | ((with_reducible refine pur_of (dc) ?_); rintro _ rfl) | (with_reducible (first | (refine cond_if (fun h => ?_) (fun h => ?_)) | (refine guard_t (fun h => ?_) (fun h => ?_)) | (refine guard_f (fun h => ?_) (fun h => ?_)) | (refine cond_nif (fun h => ?_) (fun h => ?_)) | (refine cond_nsplit (fun h => ?_) (fun h => ?_)) | (refine cond_split (fun h => ?_) (fun h => ?_)) | (refine guard_split (fun h => ?_) (fun h => ?_)))) | fail)
        all_goals first | omega | (first | exact end_here ⟨rfl, rfl⟩ | exact end_here ⟨rfl, rfl, rfl⟩ | exact end_drop (end_here ⟨rfl, rfl⟩) | exact end_drop (end_here ⟨rfl, rfl, rfl⟩) | exact end_drop (end_drop (end_here ⟨rfl, rfl⟩)) | exact end_drop (end_drop (end_here ⟨rfl, rfl, rfl⟩)))
set_option maxHeartbeats 0 in
theorem whole_ct (s : ByteArray) (base : Int) (hb : base = 10 ∨ base = 16) (hs : s.size ≤ 100000000) : Pur Try.prog 30 [.string s, .int .u64 base] (· = pairV (outcome s (whole s base 0 0))) := by
  unfold pairV
  intro m; refine cta_of_T Try.func30 rfl rfl (by kernel_rfl) (by kernel_rfl) ?_
  repeat' (first | simp (maxSteps := 1000000) (disch := omega) only [↓eng_pre, eng_post, ↓Fa.all_pc, Fa.all_fa, eng_core, Nat.reduceBEq, ne_eq, reduceIte, Nat.reduceEqDiff, Nat.reduceAdd, Nat.reduceMul, Nat.reduceLT, Nat.reduceSub, Int.reduceLT, Int.reduceLE, Int.reduceEq, Int.reduceAdd, Int.reduceSub, Int.reduceMul, Int.reduceNeg, Int.reduceToNat, *] | (with_reducible (first | (refine newA_of (fun _ => ?_)) | (refine bi_len (by kernel_rfl) ?_) | (refine bi_lens (by kernel_rfl) ?_) | (refine eq_ptr_nil (by kernel_rfl) ?_) | (refine neq_ptr_nil (by kernel_rfl) ?_) | (refine eq_iface_nil (by kernel_rfl) rfl ?_) | (refine neq_iface_nil (by kernel_rfl) rfl ?_))) | (with_reducible (first | (refine cond_if (fun h => ?_) (fun h => ?_)) | (refine guard_t (fun h => ?_) (fun h => ?_)) | (refine guard_f (fun h => ?_) (fun h => ?_)) | (refine cond_nif (fun h => ?_) (fun h => ?_)) | (refine cond_nsplit (fun h => ?_) (fun h => ?_)) | (refine cond_split (fun h => ?_) (fun h => ?_)) | (refine guard_split (fun h => ?_) (fun h => ?_)))) | fail)
  refine loopA_of (γ := Nat × Int) (fun g => [(0, .string s), (1, .int .u64 base), (6, .int .u64 g.2), (7, .int .i64 (g.1 : Int))]) (fun g m' L' => m' = m ∧ L' = [] ∧ g.1 ≤ s.size ∧ 0 ≤ g.2 ∧ g.2 ≤ maxI ∧ whole s base 0 0 = whole s base g.1 g.2) (fun g => s.size - g.1) (0, 0) (by (first | (simp (maxSteps := 1000000) (disch := omega) only [↓eng_pre, eng_post, ↓Fa.all_pc, Fa.all_fa, eng_core, Nat.reduceBEq, ne_eq, reduceIte, Nat.reduceEqDiff, Nat.reduceAdd, Nat.reduceMul, Nat.reduceLT, Nat.reduceSub, Int.reduceLT, Int.reduceLE, Int.reduceEq, Int.reduceAdd, Int.reduceSub, Int.reduceMul, Int.reduceNeg, Int.reduceToNat, *]; done) | (simp (maxSteps := 1000000) (disch := omega) only [↓eng_pre, eng_post, ↓Fa.all_pc, Fa.all_fa, eng_core, Nat.reduceBEq, ne_eq, reduceIte, Nat.reduceEqDiff, Nat.reduceAdd, Nat.reduceMul, Nat.reduceLT, Nat.reduceSub, Int.reduceLT, Int.reduceLE, Int.reduceEq, Int.reduceAdd, Int.reduceSub, Int.reduceMul, Int.reduceNeg, Int.reduceToNat, *, Value.int.injEq, true_and, and_true, Int.natCast_add, Int.natCast_one, Int.natCast_zero, Int.add_zero]; done) | (simp (maxSteps := 1000000) (disch := omega) only [↓eng_pre, eng_post, ↓Fa.all_pc, Fa.all_fa, eng_core, Nat.reduceBEq, ne_eq, reduceIte, Nat.reduceEqDiff, Nat.reduceAdd, Nat.reduceMul, Nat.reduceLT, Nat.reduceSub, Int.reduceLT, Int.reduceLE, Int.reduceEq, Int.reduceAdd, Int.reduceSub, Int.reduceMul, Int.reduceNeg, Int.reduceToNat, *, Value.int.injEq, true_and, and_true]; omega) | (simp (maxSteps := 1000000) (disch := omega) only [↓eng_pre, eng_post, ↓Fa.all_pc, Fa.all_fa, eng_core, Nat.reduceBEq, ne_eq, reduceIte, Nat.reduceEqDiff, Nat.reduceAdd, Nat.reduceMul, Nat.reduceLT, Nat.reduceSub, Int.reduceLT, Int.reduceLE, Int.reduceEq, Int.reduceAdd, Int.reduceSub, Int.reduceMul, Int.reduceNeg, Int.reduceToNat, *, Value.int.injEq, true_and, and_true]; exact rfl))) (end_here ⟨rfl, rfl, by omega, by omega, by decide, rfl⟩) ?_
  rintro ⟨i, n⟩ e m' L' hf ⟨rfl, rfl, hi, hn0, hn1, hr⟩
  simp only [fits_cons, fits_nil, and_true] at hf hi hn0 hn1 hr
  obtain ⟨e0, e1, e6, e7⟩ := hf
  have hre := whole_eq s base i n
  obtain ⟨b1, b2⟩ := byteAt_lt s i
  obtain ⟨f1, f2⟩ := figV_range (byteAt s i)
  have fc := figure_ct (byteAt s i) ⟨b1, b2⟩
  unfold maxI at hn1 hre
  by_cases hlt : i < s.size
  · have hlt' : (i : Int) < s.size := by omega
    rw [if_pos hlt] at hre
    generalize figV (byteAt s i) = d at *
    by_cases hd : d < base
    · have q0 : (9223372036854775807 - d).tdiv base = (9223372036854775807 - d) / base := Int.tdiv_eq_ediv_of_nonneg (by omega)
      have q1 : n ≤ (9223372036854775807 - d) / base ↔ n * base ≤ 9223372036854775807 - d := Int.le_ediv_iff_mul_le (by omega)
      have q2 : 0 ≤ (9223372036854775807 - d) / base := Int.ediv_nonneg (by omega) (by omega)
      have q3 : (9223372036854775807 - d) / base ≤ 9223372036854775807 - d := Int.ediv_le_self _ (by omega)
      have q4 : 0 ≤ n * base := Int.mul_nonneg hn0 (by omega)
      have q5 : base * n = n * base := Int.mul_comm _ _
      have hbn : base ≠ 0 := by omega
      have hnd : ¬ base ≤ d := by omega
      have w0 : (9223372036854775807 - d) % 18446744073709551616 = 9223372036854775807 - d := by omega
      have w1 : ((9223372036854775807 - d) / base) % 18446744073709551616 = (9223372036854775807 - d) / base := by
        generalize (9223372036854775807 - d) / base = Q at *; omega
      by_cases hm : n * base + d ≤ 9223372036854775807
      · rw [if_pos ⟨hd, hm⟩] at hre
        have hq : ¬ (9223372036854775807 - d) / base < n := Int.not_lt.2 (q1.2 (by omega))
        generalize (9223372036854775807 - d) / base = Q at *
        generalize hP : n * base = P0 at *
        have w2 : P0 % 18446744073709551616 = P0 := by omega
        have w3 : (P0 + d) % 18446744073709551616 = P0 + d := by omega
        clear hb q1
        repeat' (first | simp (maxSteps := 1000000) (disch := omega) only [↓eng_pre, eng_post, ↓Fa.all_pc, Fa.all_fa, eng_core, Nat.reduceBEq, ne_eq, reduceIte, Nat.reduceEqDiff, Nat.reduceAdd, Nat.reduceMul, Nat.reduceLT, Nat.reduceSub, Int.reduceLT, Int.reduceLE, Int.reduceEq, Int.reduceAdd, Int.reduceSub, Int.reduceMul, Int.reduceNeg, Int.reduceToNat, *, Int.toNat_natCast] | (with_reducible (first | (refine newA_of (fun _ => ?_)) | (refine bi_len (by kernel_rfl) ?_) | (refine bi_lens (by kernel_rfl) ?_) | (refine eq_ptr_nil (by kernel_rfl) ?_) | (refine neq_ptr_nil (by kernel_rfl) ?_) | (refine eq_iface_nil (by kernel_rfl) rfl ?_) | (refine neq_iface_nil (by kernel_rfl) rfl ?_))) | ((with_reducible refine pur_of (fc) ?_); rintro _ rfl) | (with_reducible (first | (refine cond_if (fun h => ?_) (fun h => ?_)) | (refine guard_t (fun h => ?_) (fun h => ?_)) | (refine guard_f (fun h => ?_) (fun h => ?_)) | (refine cond_nif (fun h => ?_) (fun h => ?_)) | (refine cond_nsplit (fun h => ?_) (fun h => ?_)) | (refine cond_split (fun h => ?_) (fun h => ?_)) | (refine guard_split (fun h => ?_) (fun h => ?_)))) | fail)
        exact next_of (i + 1, P0 + d) (by (first | (simp (maxSteps := 1000000) (disch := omega) only [↓eng_pre, eng_post, ↓Fa.all_pc, Fa.all_fa, eng_core, Nat.reduceBEq, ne_eq, reduceIte, Nat.reduceEqDiff, Nat.reduceAdd, Nat.reduceMul, Nat.reduceLT, Nat.reduceSub, Int.reduceLT, Int.reduceLE, Int.reduceEq, Int.reduceAdd, Int.reduceSub, Int.reduceMul, Int.reduceNeg, Int.reduceToNat, *]; done) | (simp (maxSteps := 1000000) (disch := omega) only [↓eng_pre, eng_post, ↓Fa.all_pc, Fa.all_fa, eng_core, Nat.reduceBEq, ne_eq, reduceIte, Nat.reduceEqDiff, Nat.reduceAdd, Nat.reduceMul, Nat.reduceLT, Nat.reduceSub, Int.reduceLT, Int.reduceLE, Int.reduceEq, Int.reduceAdd, Int.reduceSub, Int.reduceMul, Int.reduceNeg, Int.reduceToNat, *, Value.int.injEq, true_and, and_true, Int.natCast_add, Int.natCast_one, Int.natCast_zero, Int.add_zero]; done) | (simp (maxSteps := 1000000) (disch := omega) only [↓eng_pre, eng_post, ↓Fa.all_pc, Fa.all_fa, eng_core, Nat.reduceBEq, ne_eq, reduceIte, Nat.reduceEqDiff, Nat.reduceAdd, Nat.reduceMul, Nat.reduceLT, Nat.reduceSub, Int.reduceLT, Int.reduceLE, Int.reduceEq, Int.reduceAdd, Int.reduceSub, Int.reduceMul, Int.reduceNeg, Int.reduceToNat, *, Value.int.injEq, true_and, and_true]; omega) | (simp (maxSteps := 1000000) (disch := omega) only [↓eng_pre, eng_post, ↓Fa.all_pc, Fa.all_fa, eng_core, Nat.reduceBEq, ne_eq, reduceIte, Nat.reduceEqDiff, Nat.reduceAdd, Nat.reduceMul, Nat.reduceLT, Nat.reduceSub, Int.reduceLT, Int.reduceLE, Int.reduceEq, Int.reduceAdd, Int.reduceSub, Int.reduceMul, Int.reduceNeg, Int.reduceToNat, *, Value.int.injEq, true_and, and_true]; exact rfl))) (end_here ⟨rfl, rfl, by simp only; omega, by simp only; omega, by unfold maxI; simp only; omega, by rw [hr, hre]⟩) (by simp only; omega)
      · rw [if_neg (fun hc => hm hc.2)] at hre
        have hq : (9223372036854775807 - d) / base < n := Int.not_le.1 fun h => hm (by have := q1.1 h; omega)
        generalize (9223372036854775807 - d) / base = Q at *
        rw [hr, hre]
        clear hb q1 q4 q5 hm hr hre
        repeat' (first | simp (maxSteps := 1000000) (disch := omega) only [↓eng_pre, eng_post, ↓Fa.all_pc, Fa.all_fa, eng_core, Nat.reduceBEq, ne_eq, reduceIte, Nat.reduceEqDiff, Nat.reduceAdd, Nat.reduceMul, Nat.reduceLT, Nat.reduceSub, Int.reduceLT, Int.reduceLE, Int.reduceEq, Int.reduceAdd, Int.reduceSub, Int.reduceMul, Int.reduceNeg, Int.reduceToNat, *, Int.toNat_natCast] | (with_reducible (first | (refine newA_of (fun _ => ?_)) | (refine bi_len (by kernel_rfl) ?_) | (refine bi_lens (by kernel_rfl) ?_) | (refine eq_ptr_nil (by kernel_rfl) ?_) | (refine neq_ptr_nil (by kernel_rfl) ?_) | (refine eq_iface_nil (by kernel_rfl) rfl ?_) | (refine neq_iface_nil (by kernel_rfl) rfl ?_))) | ((with_reducible refine pur_of (fc) ?_); rintro _ rfl) | (with_reducible (first | (refine cond_if (fun h => ?_) (fun h => ?_)) | (refine guard_t (fun h => ?_) (fun h => ?_)) | (refine guard_f (fun h => ?_) (fun h => ?_)) | (refine cond_nif (fun h => ?_) (fun h => ?_)) | (refine cond_nsplit (fun h => ?_) (fun h => ?_)) | (refine cond_split (fun h => ?_) (fun h => ?_)) | (refine guard_split (fun h => ?_) (fun h => ?_)))) | fail)
        (first | exact end_here ⟨rfl, rfl⟩ | exact end_here ⟨rfl, rfl, rfl⟩ | exact end_drop (end_here ⟨rfl, rfl⟩) | exact end_drop (end_here ⟨rfl, rfl, rfl⟩) | exact end_drop (end_drop (end_here ⟨rfl, rfl⟩)) | exact end_drop (end_drop (end_here ⟨rfl, rfl, rfl⟩)))
    · rw [if_neg (fun hc => hd hc.1)] at hre
      have hnd : base ≤ d := by omega
      rw [hr, hre]
      clear hb hr hre
      repeat' (first | simp (maxSteps := 1000000) (disch := omega) only [↓eng_pre, eng_post, ↓Fa.all_pc, Fa.all_fa, eng_core, Nat.reduceBEq, ne_eq, reduceIte, Nat.reduceEqDiff, Nat.reduceAdd, Nat.reduceMul, Nat.reduceLT, Nat.reduceSub, Int.reduceLT, Int.reduceLE, Int.reduceEq, Int.reduceAdd, Int.reduceSub, Int.reduceMul, Int.reduceNeg, Int.reduceToNat, *, Int.toNat_natCast] | (with_reducible (first | (refine newA_of (fun _ => ?_)) | (refine bi_len (by kernel_rfl) ?_) | (refine bi_lens (by kernel_rfl) ?_) | (refine eq_ptr_nil (by kernel_rfl) ?_) | (refine neq_ptr_nil (by kernel_rfl) ?_) | (refine eq_iface_nil (by kernel_rfl) rfl ?_) | (refine neq_iface_nil (by kernel_rfl) rfl ?_))) | ((with_reducible refine pur_of (fc) ?_); rintro _ rfl) | (with_reducible (first | (refine cond_if (fun h => ?_) (fun h => ?_)) | (refine guard_t (fun h => ?_) (fun h => ?_)) | (refine guard_f (fun h => ?_) (fun h => ?_)) | (refine cond_nif (fun h => ?_) (fun h => ?_)) | (refine cond_nsplit (fun h => ?_) (fun h => ?_)) | (refine cond_split (fun h => ?_) (fun h => ?_)) | (refine guard_split (fun h => ?_) (fun h => ?_)))) | fail)
      (first | exact end_here ⟨rfl, rfl⟩ | exact end_here ⟨rfl, rfl, rfl⟩ | exact end_drop (end_here ⟨rfl, rfl⟩) | exact end_drop (end_here ⟨rfl, rfl, rfl⟩) | exact end_drop (end_drop (end_here ⟨rfl, rfl⟩)) | exact end_drop (end_drop (end_here ⟨rfl, rfl, rfl⟩)))
  · have hlt' : ¬ (i : Int) < s.size := by omega
    rw [if_neg hlt] at hre
    rw [hr, hre]
    clear hr hre hb
    unfold outcome
    repeat' (first | simp (maxSteps := 1000000) (disch := omega) only [↓eng_pre, eng_post, ↓Fa.all_pc, Fa.all_fa, eng_core, Nat.reduceBEq, ne_eq, reduceIte, Nat.reduceEqDiff, Nat.reduceAdd, Nat.reduceMul, Nat.reduceLT, Nat.reduceSub, Int.reduceLT, Int.reduceLE, Int.reduceEq, Int.reduceAdd, Int.reduceSub, Int.reduceMul, Int.reduceNeg, Int.reduceToNat, *, Int.toNat_natCast] | (with_reducible (first | (refine newA_of (fun _ => ?_)) | (refine bi_len (by kernel_rfl) ?_) | (refine bi_lens (by kernel_rfl) ?_) | (refine eq_ptr_nil (by kernel_rfl) ?_) | (refine neq_ptr_nil (by kernel_rfl) ?_) | (refine eq_iface_nil (by kernel_rfl) rfl ?_) | (refine neq_iface_nil (by kernel_rfl) rfl ?_))) | (with_reducible (first | (refine cond_if (fun h => ?_) (fun h => ?_)) | (refine guard_t (fun h => ?_) (fun h => ?_)) | (refine guard_f (fun h => ?_) (fun h => ?_)) | (refine cond_nif (fun h => ?_) (fun h => ?_)) | (refine cond_nsplit (fun h => ?_) (fun h => ?_)) | (refine cond_split (fun h => ?_) (fun h => ?_)) | (refine guard_split (fun h => ?_) (fun h => ?_)))) | fail)
    (first | exact end_here ⟨rfl, rfl⟩ | exact end_here ⟨rfl, rfl, rfl⟩ | exact end_drop (end_here ⟨rfl, rfl⟩) | exact end_drop (end_here ⟨rfl, rfl, rfl⟩) | exact end_drop (end_drop (end_here ⟨rfl, rfl⟩)) | exact end_drop (end_drop (end_here ⟨rfl, rfl, rfl⟩)))
end Go.Proofs.Ytgeifpoaemkadaa
