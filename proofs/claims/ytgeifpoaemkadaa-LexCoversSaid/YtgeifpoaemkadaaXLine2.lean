/- Layer 4: lines and columns. -/
import Derived.Test.YtgeifpoaemkadaaXLine
import Derived.Test.YtgeifpoaemkadaaEngStr
set_option linter.unusedSimpArgs false
set_option linter.unusedVariables false
set_option linter.all false
namespace Go.Lex
open Go Go.Eng
/-- A place that is in the text. -/
def clampP (s : ByteArray) (p : Int) : Nat := (min (max p 0) s.size).toNat
def lastI (l : List Int) : Int := l.getLast?.getD 0
def lineF (s : ByteArray) (p : Nat) : Int := (starts s p).length
def colF (s : ByteArray) (p : Nat) : Int := p - lastI (starts s p) + 1
theorem lastI_snoc (l : List Int) (x : Int) : lastI (l ++ [x]) = x := by unfold lastI; simp
theorem lineF_zero (s : ByteArray) : lineF s 0 = 1 := rfl
theorem colF_zero (s : ByteArray) : colF s 0 = 1 := rfl
theorem line_succ (s : ByteArray) (n : Nat) (h : byteAt s n = 10) : lineF s (n + 1) = lineF s n + 1 ∧ colF s (n + 1) = 1 := by
  unfold lineF colF
  rw [starts, if_pos h, List.length_append, lastI_snoc]
  exact ⟨by simp, by push_cast; omega⟩
theorem line_same (s : ByteArray) (n : Nat) (h : byteAt s n ≠ 10) : lineF s (n + 1) = lineF s n ∧ colF s (n + 1) = colF s n + 1 := by
  unfold lineF colF
  rw [starts, if_neg h]
  exact ⟨rfl, by omega⟩
theorem lastI_le (s : ByteArray) (n : Nat) : 0 ≤ lastI (starts s n) ∧ lastI (starts s n) ≤ n := by
  unfold lastI
  cases h : (starts s n).getLast? with
  | none => simp
  | some x => have := starts_le s n x (List.mem_of_getLast? h); simpa using this
theorem starts_length_le (s : ByteArray) (n : Nat) : (starts s n).length ≤ n + 1 := by
  induction n with
  | zero => exact Nat.le_refl _
  | succ n ih =>
    rw [starts]
    split
    · rw [List.length_append, List.length_singleton]; omega
    · omega
end Go.Lex
namespace Go.Proofs.Ytgeifpoaemkadaa
open Go Go.Eng Go.Lex
set_option maxHeartbeats 0 in
theorem rLine_ct (s : ByteArray) (p : Int) (hs : s.size ≤ 100000000) : Pur Try.prog 18 [.string s, .int .i64 p] (· = .tuple #[.int .i64 (lineF s (clampP s p)), .int .i64 (colF s (clampP s p))]) := by
  obtain ⟨q, hq⟩ : ∃ q, q = clampP s p := ⟨_, rfl⟩
  rw [← hq]
  have hqs : q ≤ s.size := by rw [hq]; unfold clampP; omega
  have hk : Kf (q = clampP s p) := ⟨hq⟩
  clear hq
  intro m; refine cta_of_T Try.func18 rfl rfl (by kernel_rfl) (by kernel_rfl) ?_
  apply once [(0, .string s), (1, .int .i64 (q : Int)), (6, .int .i64 1), (7, .int .i64 1), (8, .int .i64 0)]
  · intro key
    repeat' (first | simp (maxSteps := 1000000) (disch := omega) only [↓eng_pre, eng_post, ↓Fa.all_pc, Fa.all_fa, eng_core, Nat.reduceBEq, ne_eq, reduceIte, Nat.reduceEqDiff, Nat.reduceAdd, Nat.reduceMul, Nat.reduceLT, Nat.reduceSub, Int.reduceLT, Int.reduceLE, Int.reduceEq, Int.reduceAdd, Int.reduceSub, Int.reduceMul, Int.reduceNeg, Int.reduceToNat, *] | (with_reducible (first | (refine bi_len (by kernel_rfl) ?_) | (refine bi_lens (by kernel_rfl) ?_) | (refine eq_ptr_nil (by kernel_rfl) ?_) | (refine neq_ptr_nil (by kernel_rfl) ?_) | (refine eq_iface_nil (by kernel_rfl) rfl ?_) | (refine neq_iface_nil (by kernel_rfl) rfl ?_))) | (with_reducible (first | (refine cond_if (fun h => ?_) (fun h => ?_)) | (refine guard_t (fun h => ?_) (fun h => ?_)) | (refine guard_f (fun h => ?_) (fun h => ?_)) | (refine cond_nif (fun h => ?_) (fun h => ?_)) | (refine cond_nsplit (fun h => ?_) (fun h => ?_)) | (refine cond_split (fun h => ?_) (fun h => ?_)) | (refine guard_split (fun h => ?_) (fun h => ?_)))) | fail)
    all_goals
      refine loop_gen fun e0 hE => ?_
      refine key.out e0 ?_
      obtain ⟨hq⟩ := hk
      unfold clampP at hq
      subst hE
      first | (rw [show (q : Int) = 0 by omega]; (first | (simp (maxSteps := 1000000) (disch := omega) only [↓eng_pre, eng_post, ↓Fa.all_pc, Fa.all_fa, eng_core, Nat.reduceBEq, ne_eq, reduceIte, Nat.reduceEqDiff, Nat.reduceAdd, Nat.reduceMul, Nat.reduceLT, Nat.reduceSub, Int.reduceLT, Int.reduceLE, Int.reduceEq, Int.reduceAdd, Int.reduceSub, Int.reduceMul, Int.reduceNeg, Int.reduceToNat, *]; done) | (simp (maxSteps := 1000000) (disch := omega) only [↓eng_pre, eng_post, ↓Fa.all_pc, Fa.all_fa, eng_core, Nat.reduceBEq, ne_eq, reduceIte, Nat.reduceEqDiff, Nat.reduceAdd, Nat.reduceMul, Nat.reduceLT, Nat.reduceSub, Int.reduceLT, Int.reduceLE, Int.reduceEq, Int.reduceAdd, Int.reduceSub, Int.reduceMul, Int.reduceNeg, Int.reduceToNat, *, Value.int.injEq, true_and, and_true, Int.natCast_add, Int.natCast_one, Int.natCast_zero, Int.add_zero]; done) | (simp (maxSteps := 1000000) (disch := omega) only [↓eng_pre, eng_post, ↓Fa.all_pc, Fa.all_fa, eng_core, Nat.reduceBEq, ne_eq, reduceIte, Nat.reduceEqDiff, Nat.reduceAdd, Nat.reduceMul, Nat.reduceLT, Nat.reduceSub, Int.reduceLT, Int.reduceLE, Int.reduceEq, Int.reduceAdd, Int.reduceSub, Int.reduceMul, Int.reduceNeg, Int.reduceToNat, *, Value.int.injEq, true_and, and_true]; omega) | (simp (maxSteps := 1000000) (disch := omega) only [↓eng_pre, eng_post, ↓Fa.all_pc, Fa.all_fa, eng_core, Nat.reduceBEq, ne_eq, reduceIte, Nat.reduceEqDiff, Nat.reduceAdd, Nat.reduceMul, Nat.reduceLT, Nat.reduceSub, Int.reduceLT, Int.reduceLE, Int.reduceEq, Int.reduceAdd, Int.reduceSub, Int.reduceMul, Int.reduceNeg, Int.reduceToNat, *, Value.int.injEq, true_and, and_true]; exact rfl))) | (rw [show (q : Int) = s.size by omega]; (first | (simp (maxSteps := 1000000) (disch := omega) only [↓eng_pre, eng_post, ↓Fa.all_pc, Fa.all_fa, eng_core, Nat.reduceBEq, ne_eq, reduceIte, Nat.reduceEqDiff, Nat.reduceAdd, Nat.reduceMul, Nat.reduceLT, Nat.reduceSub, Int.reduceLT, Int.reduceLE, Int.reduceEq, Int.reduceAdd, Int.reduceSub, Int.reduceMul, Int.reduceNeg, Int.reduceToNat, *]; done) | (simp (maxSteps := 1000000) (disch := omega) only [↓eng_pre, eng_post, ↓Fa.all_pc, Fa.all_fa, eng_core, Nat.reduceBEq, ne_eq, reduceIte, Nat.reduceEqDiff, Nat.reduceAdd, Nat.reduceMul, Nat.reduceLT, Nat.reduceSub, Int.reduceLT, Int.reduceLE, Int.reduceEq, Int.reduceAdd, Int.reduceSub, Int.reduceMul, Int.reduceNeg, Int.reduceToNat, *, Value.int.injEq, true_and, and_true, Int.natCast_add, Int.natCast_one, Int.natCast_zero, Int.add_zero]; done) | (simp (maxSteps := 1000000) (disch := omega) only [↓eng_pre, eng_post, ↓Fa.all_pc, Fa.all_fa, eng_core, Nat.reduceBEq, ne_eq, reduceIte, Nat.reduceEqDiff, Nat.reduceAdd, Nat.reduceMul, Nat.reduceLT, Nat.reduceSub, Int.reduceLT, Int.reduceLE, Int.reduceEq, Int.reduceAdd, Int.reduceSub, Int.reduceMul, Int.reduceNeg, Int.reduceToNat, *, Value.int.injEq, true_and, and_true]; omega) | (simp (maxSteps := 1000000) (disch := omega) only [↓eng_pre, eng_post, ↓Fa.all_pc, Fa.all_fa, eng_core, Nat.reduceBEq, ne_eq, reduceIte, Nat.reduceEqDiff, Nat.reduceAdd, Nat.reduceMul, Nat.reduceLT, Nat.reduceSub, Int.reduceLT, Int.reduceLE, Int.reduceEq, Int.reduceAdd, Int.reduceSub, Int.reduceMul, Int.reduceNeg, Int.reduceToNat, *, Value.int.injEq, true_and, and_true]; exact rfl))) | (rw [show (q : Int) = p by omega]; (first | (simp (maxSteps := 1000000) (disch := omega) only [↓eng_pre, eng_post, ↓Fa.all_pc, Fa.all_fa, eng_core, Nat.reduceBEq, ne_eq, reduceIte, Nat.reduceEqDiff, Nat.reduceAdd, Nat.reduceMul, Nat.reduceLT, Nat.reduceSub, Int.reduceLT, Int.reduceLE, Int.reduceEq, Int.reduceAdd, Int.reduceSub, Int.reduceMul, Int.reduceNeg, Int.reduceToNat, *]; done) | (simp (maxSteps := 1000000) (disch := omega) only [↓eng_pre, eng_post, ↓Fa.all_pc, Fa.all_fa, eng_core, Nat.reduceBEq, ne_eq, reduceIte, Nat.reduceEqDiff, Nat.reduceAdd, Nat.reduceMul, Nat.reduceLT, Nat.reduceSub, Int.reduceLT, Int.reduceLE, Int.reduceEq, Int.reduceAdd, Int.reduceSub, Int.reduceMul, Int.reduceNeg, Int.reduceToNat, *, Value.int.injEq, true_and, and_true, Int.natCast_add, Int.natCast_one, Int.natCast_zero, Int.add_zero]; done) | (simp (maxSteps := 1000000) (disch := omega) only [↓eng_pre, eng_post, ↓Fa.all_pc, Fa.all_fa, eng_core, Nat.reduceBEq, ne_eq, reduceIte, Nat.reduceEqDiff, Nat.reduceAdd, Nat.reduceMul, Nat.reduceLT, Nat.reduceSub, Int.reduceLT, Int.reduceLE, Int.reduceEq, Int.reduceAdd, Int.reduceSub, Int.reduceMul, Int.reduceNeg, Int.reduceToNat, *, Value.int.injEq, true_and, and_true]; omega) | (simp (maxSteps := 1000000) (disch := omega) only [↓eng_pre, eng_post, ↓Fa.all_pc, Fa.all_fa, eng_core, Nat.reduceBEq, ne_eq, reduceIte, Nat.reduceEqDiff, Nat.reduceAdd, Nat.reduceMul, Nat.reduceLT, Nat.reduceSub, Int.reduceLT, Int.reduceLE, Int.reduceEq, Int.reduceAdd, Int.reduceSub, Int.reduceMul, Int.reduceNeg, Int.reduceToNat, *, Value.int.injEq, true_and, and_true]; exact rfl)))
  · intro e00 hf0
    refine loopA_of (γ := Nat) (fun i => [(0, .string s), (1, .int .i64 (q : Int)), (6, .int .i64 (lineF s i)), (7, .int .i64 (colF s i)), (8, .int .i64 (i : Int))])
      (fun i m' L' => m' = m ∧ L' = [] ∧ i ≤ q) (fun i => q - i) 0 (by rw [lineF_zero, colF_zero]; exact hf0) (end_here ⟨rfl, rfl, by omega⟩) ?_
    clear hf0
    rintro i e m' L' hf ⟨rfl, rfl, hi⟩
    simp only [fits_cons, fits_nil, and_true] at hf
    obtain ⟨e0, e1, e6, e7, e8⟩ := hf
    obtain ⟨l1, l2⟩ := lastI_le s i
    have l3 := starts_length_le s i
    have c1 : 0 ≤ colF s i ∧ colF s i ≤ 200000000 := by unfold colF; omega
    have c2 : 0 ≤ lineF s i ∧ lineF s i ≤ 200000000 := by unfold lineF; omega
    clear l1 l2 l3
    by_cases hlt : i < q
    · have hlt' : (i : Int) < q := by omega
      have hlt2 : (i : Int) < s.size := by omega
      by_cases h10 : byteAt s i = 10
      · obtain ⟨k1, k2⟩ := line_succ s i h10
        repeat' (first | simp (maxSteps := 1000000) (disch := omega) only [↓eng_pre, eng_post, ↓Fa.all_pc, Fa.all_fa, eng_core, Nat.reduceBEq, ne_eq, reduceIte, Nat.reduceEqDiff, Nat.reduceAdd, Nat.reduceMul, Nat.reduceLT, Nat.reduceSub, Int.reduceLT, Int.reduceLE, Int.reduceEq, Int.reduceAdd, Int.reduceSub, Int.reduceMul, Int.reduceNeg, Int.reduceToNat, *, Int.toNat_natCast] | (with_reducible (first | (refine bi_len (by kernel_rfl) ?_) | (refine bi_lens (by kernel_rfl) ?_) | (refine eq_ptr_nil (by kernel_rfl) ?_) | (refine neq_ptr_nil (by kernel_rfl) ?_) | (refine eq_iface_nil (by kernel_rfl) rfl ?_) | (refine neq_iface_nil (by kernel_rfl) rfl ?_))) | (with_reducible (first | (refine cond_if (fun h => ?_) (fun h => ?_)) | (refine guard_t (fun h => ?_) (fun h => ?_)) | (refine guard_f (fun h => ?_) (fun h => ?_)) | (refine cond_nif (fun h => ?_) (fun h => ?_)) | (refine cond_nsplit (fun h => ?_) (fun h => ?_)) | (refine cond_split (fun h => ?_) (fun h => ?_)) | (refine guard_split (fun h => ?_) (fun h => ?_)))) | fail)
        exact next_of (i + 1) (by (first | (simp (maxSteps := 1000000) (disch := omega) only [↓eng_pre, eng_post, ↓Fa.all_pc, Fa.all_fa, eng_core, Nat.reduceBEq, ne_eq, reduceIte, Nat.reduceEqDiff, Nat.reduceAdd, Nat.reduceMul, Nat.reduceLT, Nat.reduceSub, Int.reduceLT, Int.reduceLE, Int.reduceEq, Int.reduceAdd, Int.reduceSub, Int.reduceMul, Int.reduceNeg, Int.reduceToNat, *]; done) | (simp (maxSteps := 1000000) (disch := omega) only [↓eng_pre, eng_post, ↓Fa.all_pc, Fa.all_fa, eng_core, Nat.reduceBEq, ne_eq, reduceIte, Nat.reduceEqDiff, Nat.reduceAdd, Nat.reduceMul, Nat.reduceLT, Nat.reduceSub, Int.reduceLT, Int.reduceLE, Int.reduceEq, Int.reduceAdd, Int.reduceSub, Int.reduceMul, Int.reduceNeg, Int.reduceToNat, *, Value.int.injEq, true_and, and_true, Int.natCast_add, Int.natCast_one, Int.natCast_zero, Int.add_zero]; done) | (simp (maxSteps := 1000000) (disch := omega) only [↓eng_pre, eng_post, ↓Fa.all_pc, Fa.all_fa, eng_core, Nat.reduceBEq, ne_eq, reduceIte, Nat.reduceEqDiff, Nat.reduceAdd, Nat.reduceMul, Nat.reduceLT, Nat.reduceSub, Int.reduceLT, Int.reduceLE, Int.reduceEq, Int.reduceAdd, Int.reduceSub, Int.reduceMul, Int.reduceNeg, Int.reduceToNat, *, Value.int.injEq, true_and, and_true]; omega) | (simp (maxSteps := 1000000) (disch := omega) only [↓eng_pre, eng_post, ↓Fa.all_pc, Fa.all_fa, eng_core, Nat.reduceBEq, ne_eq, reduceIte, Nat.reduceEqDiff, Nat.reduceAdd, Nat.reduceMul, Nat.reduceLT, Nat.reduceSub, Int.reduceLT, Int.reduceLE, Int.reduceEq, Int.reduceAdd, Int.reduceSub, Int.reduceMul, Int.reduceNeg, Int.reduceToNat, *, Value.int.injEq, true_and, and_true]; exact rfl))) (end_here ⟨rfl, rfl, by omega⟩) (by omega)
      · obtain ⟨k1, k2⟩ := line_same s i h10
        repeat' (first | simp (maxSteps := 1000000) (disch := omega) only [↓eng_pre, eng_post, ↓Fa.all_pc, Fa.all_fa, eng_core, Nat.reduceBEq, ne_eq, reduceIte, Nat.reduceEqDiff, Nat.reduceAdd, Nat.reduceMul, Nat.reduceLT, Nat.reduceSub, Int.reduceLT, Int.reduceLE, Int.reduceEq, Int.reduceAdd, Int.reduceSub, Int.reduceMul, Int.reduceNeg, Int.reduceToNat, *, Int.toNat_natCast] | (with_reducible (first | (refine bi_len (by kernel_rfl) ?_) | (refine bi_lens (by kernel_rfl) ?_) | (refine eq_ptr_nil (by kernel_rfl) ?_) | (refine neq_ptr_nil (by kernel_rfl) ?_) | (refine eq_iface_nil (by kernel_rfl) rfl ?_) | (refine neq_iface_nil (by kernel_rfl) rfl ?_))) | (with_reducible (first | (refine cond_if (fun h => ?_) (fun h => ?_)) | (refine guard_t (fun h => ?_) (fun h => ?_)) | (refine guard_f (fun h => ?_) (fun h => ?_)) | (refine cond_nif (fun h => ?_) (fun h => ?_)) | (refine cond_nsplit (fun h => ?_) (fun h => ?_)) | (refine cond_split (fun h => ?_) (fun h => ?_)) | (refine guard_split (fun h => ?_) (fun h => ?_)))) | fail)
        exact next_of (i + 1) (by (first | (simp (maxSteps := 1000000) (disch := omega) only [↓eng_pre, eng_post, ↓Fa.all_pc, Fa.all_fa, eng_core, Nat.reduceBEq, ne_eq, reduceIte, Nat.reduceEqDiff, Nat.reduceAdd, Nat.reduceMul, Nat.reduceLT, Nat.reduceSub, Int.reduceLT, Int.reduceLE, Int.reduceEq, Int.reduceAdd, Int.reduceSub, Int.reduceMul, Int.reduceNeg, Int.reduceToNat, *]; done) | (simp (maxSteps := 1000000) (disch := omega) only [↓eng_pre, eng_post, ↓Fa.all_pc, Fa.all_fa, eng_core, Nat.reduceBEq, ne_eq, reduceIte, Nat.reduceEqDiff, Nat.reduceAdd, Nat.reduceMul, Nat.reduceLT, Nat.reduceSub, Int.reduceLT, Int.reduceLE, Int.reduceEq, Int.reduceAdd, Int.reduceSub, Int.reduceMul, Int.reduceNeg, Int.reduceToNat, *, Value.int.injEq, true_and, and_true, Int.natCast_add, Int.natCast_one, Int.natCast_zero, Int.add_zero]; done) | (simp (maxSteps := 1000000) (disch := omega) only [↓eng_pre, eng_post, ↓Fa.all_pc, Fa.all_fa, eng_core, Nat.reduceBEq, ne_eq, reduceIte, Nat.reduceEqDiff, Nat.reduceAdd, Nat.reduceMul, Nat.reduceLT, Nat.reduceSub, Int.reduceLT, Int.reduceLE, Int.reduceEq, Int.reduceAdd, Int.reduceSub, Int.reduceMul, Int.reduceNeg, Int.reduceToNat, *, Value.int.injEq, true_and, and_true]; omega) | (simp (maxSteps := 1000000) (disch := omega) only [↓eng_pre, eng_post, ↓Fa.all_pc, Fa.all_fa, eng_core, Nat.reduceBEq, ne_eq, reduceIte, Nat.reduceEqDiff, Nat.reduceAdd, Nat.reduceMul, Nat.reduceLT, Nat.reduceSub, Int.reduceLT, Int.reduceLE, Int.reduceEq, Int.reduceAdd, Int.reduceSub, Int.reduceMul, Int.reduceNeg, Int.reduceToNat, *, Value.int.injEq, true_and, and_true]; exact rfl))) (end_here ⟨rfl, rfl, by omega⟩) (by omega)
    · have hlt' : ¬ (i : Int) < q := by omega
      obtain rfl : i = q := by omega
      repeat' (first | simp (maxSteps := 1000000) (disch := omega) only [↓eng_pre, eng_post, ↓Fa.all_pc, Fa.all_fa, eng_core, Nat.reduceBEq, ne_eq, reduceIte, Nat.reduceEqDiff, Nat.reduceAdd, Nat.reduceMul, Nat.reduceLT, Nat.reduceSub, Int.reduceLT, Int.reduceLE, Int.reduceEq, Int.reduceAdd, Int.reduceSub, Int.reduceMul, Int.reduceNeg, Int.reduceToNat, *, Int.toNat_natCast] | (with_reducible (first | (refine bi_len (by kernel_rfl) ?_) | (refine bi_lens (by kernel_rfl) ?_) | (refine eq_ptr_nil (by kernel_rfl) ?_) | (refine neq_ptr_nil (by kernel_rfl) ?_) | (refine eq_iface_nil (by kernel_rfl) rfl ?_) | (refine neq_iface_nil (by kernel_rfl) rfl ?_))) | (with_reducible (first | (refine cond_if (fun h => ?_) (fun h => ?_)) | (refine guard_t (fun h => ?_) (fun h => ?_)) | (refine guard_f (fun h => ?_) (fun h => ?_)) | (refine cond_nif (fun h => ?_) (fun h => ?_)) | (refine cond_nsplit (fun h => ?_) (fun h => ?_)) | (refine cond_split (fun h => ?_) (fun h => ?_)) | (refine guard_split (fun h => ?_) (fun h => ?_)))) | fail)
      (first | exact end_here ⟨rfl, rfl⟩ | exact end_here ⟨rfl, rfl, rfl⟩ | exact end_drop (end_here ⟨rfl, rfl⟩) | exact end_drop (end_here ⟨rfl, rfl, rfl⟩) | exact end_drop (end_drop (end_here ⟨rfl, rfl⟩)) | exact end_drop (end_drop (end_here ⟨rfl, rfl, rfl⟩)))
end Go.Proofs.Ytgeifpoaemkadaa
