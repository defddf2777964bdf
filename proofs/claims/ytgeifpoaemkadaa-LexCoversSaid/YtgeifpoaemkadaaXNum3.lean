/- Layer 4: Number, and the document's. -/
import Derived.Test.YtgeifpoaemkadaaXNum2
set_option linter.unusedSimpArgs false
set_option linter.unusedVariables false
set_option linter.all false
namespace Go.Proofs.Ytgeifpoaemkadaa
open Go Go.Eng Go.Lex
set_option maxHeartbeats 0 in
theorem rNumber_ct (s : ByteArray) (hs : s.size ≤ 100000000) : Pur Try.prog 14 [.string s] (· = pairV (number s)) := by
  have w1 := whole_ct s 10 (.inl rfl) hs
  unfold number
  by_cases h0 : s.size = 0
  · have hse : (¬ s = ⟨#[]⟩) = False := by simp [(empty_iff s).2 h0]
    have c1' : ¬ (1 : Int) < s.size := by omega
    have hq : ¬ byteAt s 0 = 39 := by rw [byteAt_none s 0 (by omega)]; decide
    rw [if_neg hq, show isHex s = false by unfold isHex; simp; omega, if_neg (by simp)]
    clear hq h0
    unfold pairV at *
    intro m; refine cta_of_T Try.func14 rfl rfl (by kernel_rfl) (by kernel_rfl) ?_
    repeat' (first | simp (maxSteps := 1000000) (disch := omega) only [↓eng_pre, eng_post, ↓Fa.all_pc, Fa.all_fa, eng_core, Nat.reduceBEq, ne_eq, reduceIte, Nat.reduceEqDiff, Nat.reduceAdd, Nat.reduceMul, Nat.reduceLT, Nat.reduceSub, Int.reduceLT, Int.reduceLE, Int.reduceEq, Int.reduceAdd, Int.reduceSub, Int.reduceMul, Int.reduceNeg, Int.reduceToNat, *] | (with_reducible (first | (refine newA_of (fun _ => ?_)) | (refine bi_len (by kernel_rfl) ?_) | (refine bi_lens (by kernel_rfl) ?_) | (refine ss_l (by kernel_rfl) (by omega) ?_) | (refine eq_ptr_nil (by kernel_rfl) ?_) | (refine neq_ptr_nil (by kernel_rfl) ?_) | (refine eq_iface_nil (by kernel_rfl) rfl ?_) | (refine neq_iface_nil (by kernel_rfl) rfl ?_))) | ((with_reducible refine pur_of (w1) ?_); rintro _ rfl) | (with_reducible (first | (refine cond_if (fun h => ?_) (fun h => ?_)) | (refine guard_t (fun h => ?_) (fun h => ?_)) | (refine guard_f (fun h => ?_) (fun h => ?_)) | (refine cond_nif (fun h => ?_) (fun h => ?_)) | (refine cond_nsplit (fun h => ?_) (fun h => ?_)) | (refine cond_split (fun h => ?_) (fun h => ?_)) | (refine guard_split (fun h => ?_) (fun h => ?_)))) | fail)
    all_goals (first | exact end_here ⟨rfl, rfl⟩ | exact end_here ⟨rfl, rfl, rfl⟩ | exact end_drop (end_here ⟨rfl, rfl⟩) | exact end_drop (end_here ⟨rfl, rfl, rfl⟩) | exact end_drop (end_drop (end_here ⟨rfl, rfl⟩)) | exact end_drop (end_drop (end_here ⟨rfl, rfl, rfl⟩)))
  · have hne : ¬ s = ⟨#[]⟩ := fun h => h0 ((empty_iff s).1 h)
    have hpos : (0 : Int) < s.size := by omega
    by_cases hq : byteAt s 0 = 39
    · rw [if_pos hq]
      by_cases c1 : s.size = 3
      · by_cases c2 : byteAt s 2 = 39
        · obtain ⟨b1, b2⟩ := byteAt_lt s 1
          by_cases c3 : 32 ≤ byteAt s 1
          · by_cases c4 : byteAt s 1 ≤ 126
            · rw [if_pos ⟨c1, c2, c3, c4⟩]
              clear w1 h0
              have c1' : (s.size : Int) = 3 := by omega
              intro m; refine cta_of_T Try.func14 rfl rfl (by kernel_rfl) (by kernel_rfl) ?_
              repeat' (first | simp (maxSteps := 1000000) (disch := omega) only [↓eng_pre, eng_post, ↓Fa.all_pc, Fa.all_fa, eng_core, Nat.reduceBEq, ne_eq, reduceIte, Nat.reduceEqDiff, Nat.reduceAdd, Nat.reduceMul, Nat.reduceLT, Nat.reduceSub, Int.reduceLT, Int.reduceLE, Int.reduceEq, Int.reduceAdd, Int.reduceSub, Int.reduceMul, Int.reduceNeg, Int.reduceToNat, *] | (with_reducible (first | (refine newA_of (fun _ => ?_)) | (refine bi_len (by kernel_rfl) ?_) | (refine bi_lens (by kernel_rfl) ?_) | (refine ss_l (by kernel_rfl) (by omega) ?_) | (refine eq_ptr_nil (by kernel_rfl) ?_) | (refine neq_ptr_nil (by kernel_rfl) ?_) | (refine eq_iface_nil (by kernel_rfl) rfl ?_) | (refine neq_iface_nil (by kernel_rfl) rfl ?_))) | (with_reducible (first | (refine cond_if (fun h => ?_) (fun h => ?_)) | (refine guard_t (fun h => ?_) (fun h => ?_)) | (refine guard_f (fun h => ?_) (fun h => ?_)) | (refine cond_nif (fun h => ?_) (fun h => ?_)) | (refine cond_nsplit (fun h => ?_) (fun h => ?_)) | (refine cond_split (fun h => ?_) (fun h => ?_)) | (refine guard_split (fun h => ?_) (fun h => ?_)))) | fail)
              all_goals first | omega | (first | exact end_here ⟨rfl, rfl⟩ | exact end_here ⟨rfl, rfl, rfl⟩ | exact end_drop (end_here ⟨rfl, rfl⟩) | exact end_drop (end_here ⟨rfl, rfl, rfl⟩) | exact end_drop (end_drop (end_here ⟨rfl, rfl⟩)) | exact end_drop (end_drop (end_here ⟨rfl, rfl, rfl⟩)))
            · rw [if_neg (fun h => c4 h.2.2.2)]
              clear w1 h0
              have c1' : (s.size : Int) = 3 := by omega
              intro m; refine cta_of_T Try.func14 rfl rfl (by kernel_rfl) (by kernel_rfl) ?_
              repeat' (first | simp (maxSteps := 1000000) (disch := omega) only [↓eng_pre, eng_post, ↓Fa.all_pc, Fa.all_fa, eng_core, Nat.reduceBEq, ne_eq, reduceIte, Nat.reduceEqDiff, Nat.reduceAdd, Nat.reduceMul, Nat.reduceLT, Nat.reduceSub, Int.reduceLT, Int.reduceLE, Int.reduceEq, Int.reduceAdd, Int.reduceSub, Int.reduceMul, Int.reduceNeg, Int.reduceToNat, *] | (with_reducible (first | (refine newA_of (fun _ => ?_)) | (refine bi_len (by kernel_rfl) ?_) | (refine bi_lens (by kernel_rfl) ?_) | (refine ss_l (by kernel_rfl) (by omega) ?_) | (refine eq_ptr_nil (by kernel_rfl) ?_) | (refine neq_ptr_nil (by kernel_rfl) ?_) | (refine eq_iface_nil (by kernel_rfl) rfl ?_) | (refine neq_iface_nil (by kernel_rfl) rfl ?_))) | (with_reducible (first | (refine cond_if (fun h => ?_) (fun h => ?_)) | (refine guard_t (fun h => ?_) (fun h => ?_)) | (refine guard_f (fun h => ?_) (fun h => ?_)) | (refine cond_nif (fun h => ?_) (fun h => ?_)) | (refine cond_nsplit (fun h => ?_) (fun h => ?_)) | (refine cond_split (fun h => ?_) (fun h => ?_)) | (refine guard_split (fun h => ?_) (fun h => ?_)))) | fail)
              all_goals first | omega | (first | exact end_here ⟨rfl, rfl⟩ | exact end_here ⟨rfl, rfl, rfl⟩ | exact end_drop (end_here ⟨rfl, rfl⟩) | exact end_drop (end_here ⟨rfl, rfl, rfl⟩) | exact end_drop (end_drop (end_here ⟨rfl, rfl⟩)) | exact end_drop (end_drop (end_here ⟨rfl, rfl, rfl⟩)))
          · rw [if_neg (fun h => c3 h.2.2.1)]
            clear w1 h0
            have c1' : (s.size : Int) = 3 := by omega
            intro m; refine cta_of_T Try.func14 rfl rfl (by kernel_rfl) (by kernel_rfl) ?_
            repeat' (first | simp (maxSteps := 1000000) (disch := omega) only [↓eng_pre, eng_post, ↓Fa.all_pc, Fa.all_fa, eng_core, Nat.reduceBEq, ne_eq, reduceIte, Nat.reduceEqDiff, Nat.reduceAdd, Nat.reduceMul, Nat.reduceLT, Nat.reduceSub, Int.reduceLT, Int.reduceLE, Int.reduceEq, Int.reduceAdd, Int.reduceSub, Int.reduceMul, Int.reduceNeg, Int.reduceToNat, *] | (with_reducible (first | (refine newA_of (fun _ => ?_)) | (refine bi_len (by kernel_rfl) ?_) | (refine bi_lens (by kernel_rfl) ?_) | (refine ss_l (by kernel_rfl) (by omega) ?_) | (refine eq_ptr_nil (by kernel_rfl) ?_) | (refine neq_ptr_nil (by kernel_rfl) ?_) | (refine eq_iface_nil (by kernel_rfl) rfl ?_) | (refine neq_iface_nil (by kernel_rfl) rfl ?_))) | (with_reducible (first | (refine cond_if (fun h => ?_) (fun h => ?_)) | (refine guard_t (fun h => ?_) (fun h => ?_)) | (refine guard_f (fun h => ?_) (fun h => ?_)) | (refine cond_nif (fun h => ?_) (fun h => ?_)) | (refine cond_nsplit (fun h => ?_) (fun h => ?_)) | (refine cond_split (fun h => ?_) (fun h => ?_)) | (refine guard_split (fun h => ?_) (fun h => ?_)))) | fail)
            all_goals first | omega | (first | exact end_here ⟨rfl, rfl⟩ | exact end_here ⟨rfl, rfl, rfl⟩ | exact end_drop (end_here ⟨rfl, rfl⟩) | exact end_drop (end_here ⟨rfl, rfl, rfl⟩) | exact end_drop (end_drop (end_here ⟨rfl, rfl⟩)) | exact end_drop (end_drop (end_here ⟨rfl, rfl, rfl⟩)))
        · rw [if_neg (fun h => c2 h.2.1)]
          clear w1 h0
          have c1' : (s.size : Int) = 3 := by omega
          intro m; refine cta_of_T Try.func14 rfl rfl (by kernel_rfl) (by kernel_rfl) ?_
          repeat' (first | simp (maxSteps := 1000000) (disch := omega) only [↓eng_pre, eng_post, ↓Fa.all_pc, Fa.all_fa, eng_core, Nat.reduceBEq, ne_eq, reduceIte, Nat.reduceEqDiff, Nat.reduceAdd, Nat.reduceMul, Nat.reduceLT, Nat.reduceSub, Int.reduceLT, Int.reduceLE, Int.reduceEq, Int.reduceAdd, Int.reduceSub, Int.reduceMul, Int.reduceNeg, Int.reduceToNat, *] | (with_reducible (first | (refine newA_of (fun _ => ?_)) | (refine bi_len (by kernel_rfl) ?_) | (refine bi_lens (by kernel_rfl) ?_) | (refine ss_l (by kernel_rfl) (by omega) ?_) | (refine eq_ptr_nil (by kernel_rfl) ?_) | (refine neq_ptr_nil (by kernel_rfl) ?_) | (refine eq_iface_nil (by kernel_rfl) rfl ?_) | (refine neq_iface_nil (by kernel_rfl) rfl ?_))) | (with_reducible (first | (refine cond_if (fun h => ?_) (fun h => ?_)) | (refine guard_t (fun h => ?_) (fun h => ?_)) | (refine guard_f (fun h => ?_) (fun h => ?_)) | (refine cond_nif (fun h => ?_) (fun h => ?_)) | (refine cond_nsplit (fun h => ?_) (fun h => ?_)) | (refine cond_split (fun h => ?_) (fun h => ?_)) | (refine guard_split (fun h => ?_) (fun h => ?_)))) | fail)
          all_goals first | omega | (first | exact end_here ⟨rfl, rfl⟩ | exact end_here ⟨rfl, rfl, rfl⟩ | exact end_drop (end_here ⟨rfl, rfl⟩) | exact end_drop (end_here ⟨rfl, rfl, rfl⟩) | exact end_drop (end_drop (end_here ⟨rfl, rfl⟩)) | exact end_drop (end_drop (end_here ⟨rfl, rfl, rfl⟩)))
      · rw [if_neg (fun h => c1 h.1)]
        clear w1 h0
        have c1' : ¬ (s.size : Int) = 3 := by omega
        intro m; refine cta_of_T Try.func14 rfl rfl (by kernel_rfl) (by kernel_rfl) ?_
        repeat' (first | simp (maxSteps := 1000000) (disch := omega) only [↓eng_pre, eng_post, ↓Fa.all_pc, Fa.all_fa, eng_core, Nat.reduceBEq, ne_eq, reduceIte, Nat.reduceEqDiff, Nat.reduceAdd, Nat.reduceMul, Nat.reduceLT, Nat.reduceSub, Int.reduceLT, Int.reduceLE, Int.reduceEq, Int.reduceAdd, Int.reduceSub, Int.reduceMul, Int.reduceNeg, Int.reduceToNat, *] | (with_reducible (first | (refine newA_of (fun _ => ?_)) | (refine bi_len (by kernel_rfl) ?_) | (refine bi_lens (by kernel_rfl) ?_) | (refine ss_l (by kernel_rfl) (by omega) ?_) | (refine eq_ptr_nil (by kernel_rfl) ?_) | (refine neq_ptr_nil (by kernel_rfl) ?_) | (refine eq_iface_nil (by kernel_rfl) rfl ?_) | (refine neq_iface_nil (by kernel_rfl) rfl ?_))) | (with_reducible (first | (refine cond_if (fun h => ?_) (fun h => ?_)) | (refine guard_t (fun h => ?_) (fun h => ?_)) | (refine guard_f (fun h => ?_) (fun h => ?_)) | (refine cond_nif (fun h => ?_) (fun h => ?_)) | (refine cond_nsplit (fun h => ?_) (fun h => ?_)) | (refine cond_split (fun h => ?_) (fun h => ?_)) | (refine guard_split (fun h => ?_) (fun h => ?_)))) | fail)
        all_goals first | omega | (first | exact end_here ⟨rfl, rfl⟩ | exact end_here ⟨rfl, rfl, rfl⟩ | exact end_drop (end_here ⟨rfl, rfl⟩) | exact end_drop (end_here ⟨rfl, rfl, rfl⟩) | exact end_drop (end_drop (end_here ⟨rfl, rfl⟩)) | exact end_drop (end_drop (end_here ⟨rfl, rfl, rfl⟩)))
    · rw [if_neg hq]
      unfold isHex
      by_cases c1 : 1 < s.size
      · have c1' : (1 : Int) < s.size := by omega
        by_cases c2 : byteAt s 0 = 48
        · by_cases c3 : byteAt s 1 = 120
          · have w2 := whole_ct (s.extract 2 s.size) 16 (.inr rfl) (by rw [extract_size _ _ _ (by omega)]; omega)
            rw [decide_eq_true c1, decide_eq_true c2, decide_eq_true c3, if_pos (by rfl)]
            clear w1 h0
            intro m; refine cta_of_T Try.func14 rfl rfl (by kernel_rfl) (by kernel_rfl) ?_
            unfold pairV at *
            repeat' (first | simp (maxSteps := 1000000) (disch := omega) only [↓eng_pre, eng_post, ↓Fa.all_pc, Fa.all_fa, eng_core, Nat.reduceBEq, ne_eq, reduceIte, Nat.reduceEqDiff, Nat.reduceAdd, Nat.reduceMul, Nat.reduceLT, Nat.reduceSub, Int.reduceLT, Int.reduceLE, Int.reduceEq, Int.reduceAdd, Int.reduceSub, Int.reduceMul, Int.reduceNeg, Int.reduceToNat, *] | (with_reducible (first | (refine newA_of (fun _ => ?_)) | (refine bi_len (by kernel_rfl) ?_) | (refine bi_lens (by kernel_rfl) ?_) | (refine ss_l (by kernel_rfl) (by omega) ?_) | (refine eq_ptr_nil (by kernel_rfl) ?_) | (refine neq_ptr_nil (by kernel_rfl) ?_) | (refine eq_iface_nil (by kernel_rfl) rfl ?_) | (refine neq_iface_nil (by kernel_rfl) rfl ?_))) | ((with_reducible refine pur_of (w2) ?_); rintro _ rfl) | (with_reducible (first | (refine cond_if (fun h => ?_) (fun h => ?_)) | (refine guard_t (fun h => ?_) (fun h => ?_)) | (refine guard_f (fun h => ?_) (fun h => ?_)) | (refine cond_nif (fun h => ?_) (fun h => ?_)) | (refine cond_nsplit (fun h => ?_) (fun h => ?_)) | (refine cond_split (fun h => ?_) (fun h => ?_)) | (refine guard_split (fun h => ?_) (fun h => ?_)))) | fail)
            trace_state
            all_goals first | omega | (first | exact end_here ⟨rfl, rfl⟩ | exact end_here ⟨rfl, rfl, rfl⟩ | exact end_drop (end_here ⟨rfl, rfl⟩) | exact end_drop (end_here ⟨rfl, rfl, rfl⟩) | exact end_drop (end_drop (end_here ⟨rfl, rfl⟩)) | exact end_drop (end_drop (end_here ⟨rfl, rfl, rfl⟩)))
          · rw [decide_eq_false c3, if_neg (by simp)]
            clear h0
            intro m; refine cta_of_T Try.func14 rfl rfl (by kernel_rfl) (by kernel_rfl) ?_
            unfold pairV at *
            repeat' (first | simp (maxSteps := 1000000) (disch := omega) only [↓eng_pre, eng_post, ↓Fa.all_pc, Fa.all_fa, eng_core, Nat.reduceBEq, ne_eq, reduceIte, Nat.reduceEqDiff, Nat.reduceAdd, Nat.reduceMul, Nat.reduceLT, Nat.reduceSub, Int.reduceLT, Int.reduceLE, Int.reduceEq, Int.reduceAdd, Int.reduceSub, Int.reduceMul, Int.reduceNeg, Int.reduceToNat, *] | (with_reducible (first | (refine newA_of (fun _ => ?_)) | (refine bi_len (by kernel_rfl) ?_) | (refine bi_lens (by kernel_rfl) ?_) | (refine ss_l (by kernel_rfl) (by omega) ?_) | (refine eq_ptr_nil (by kernel_rfl) ?_) | (refine neq_ptr_nil (by kernel_rfl) ?_) | (refine eq_iface_nil (by kernel_rfl) rfl ?_) | (refine neq_iface_nil (by kernel_rfl) rfl ?_))) | ((with_reducible refine pur_of (w1) ?_); rintro _ rfl) | (with_reducible (first | (refine cond_if (fun h => ?_) (fun h => ?_)) | (refine guard_t (fun h => ?_) (fun h => ?_)) | (refine guard_f (fun h => ?_) (fun h => ?_)) | (refine cond_nif (fun h => ?_) (fun h => ?_)) | (refine cond_nsplit (fun h => ?_) (fun h => ?_)) | (refine cond_split (fun h => ?_) (fun h => ?_)) | (refine guard_split (fun h => ?_) (fun h => ?_)))) | fail)
            all_goals first | omega | (first | exact end_here ⟨rfl, rfl⟩ | exact end_here ⟨rfl, rfl, rfl⟩ | exact end_drop (end_here ⟨rfl, rfl⟩) | exact end_drop (end_here ⟨rfl, rfl, rfl⟩) | exact end_drop (end_drop (end_here ⟨rfl, rfl⟩)) | exact end_drop (end_drop (end_here ⟨rfl, rfl, rfl⟩)))
        · rw [decide_eq_false c2, if_neg (by simp)]
          clear h0
          intro m; refine cta_of_T Try.func14 rfl rfl (by kernel_rfl) (by kernel_rfl) ?_
          unfold pairV at *
          repeat' (first | simp (maxSteps := 1000000) (disch := omega) only [↓eng_pre, eng_post, ↓Fa.all_pc, Fa.all_fa, eng_core, Nat.reduceBEq, ne_eq, reduceIte, Nat.reduceEqDiff, Nat.reduceAdd, Nat.reduceMul, Nat.reduceLT, Nat.reduceSub, Int.reduceLT, Int.reduceLE, Int.reduceEq, Int.reduceAdd, Int.reduceSub, Int.reduceMul, Int.reduceNeg, Int.reduceToNat, *] | (with_reducible (first | (refine newA_of (fun _ => ?_)) | (refine bi_len (by kernel_rfl) ?_) | (refine bi_lens (by kernel_rfl) ?_) | (refine ss_l (by kernel_rfl) (by omega) ?_) | (refine eq_ptr_nil (by kernel_rfl) ?_) | (refine neq_ptr_nil (by kernel_rfl) ?_) | (refine eq_iface_nil (by kernel_rfl) rfl ?_) | (refine neq_iface_nil (by kernel_rfl) rfl ?_))) | ((with_reducible refine pur_of (w1) ?_); rintro _ rfl) | (with_reducible (first | (refine cond_if (fun h => ?_) (fun h => ?_)) | (refine guard_t (fun h => ?_) (fun h => ?_)) | (refine guard_f (fun h => ?_) (fun h => ?_)) | (refine cond_nif (fun h => ?_) (fun h => ?_)) | (refine cond_nsplit (fun h => ?_) (fun h => ?_)) | (refine cond_split (fun h => ?_) (fun h => ?_)) | (refine guard_split (fun h => ?_) (fun h => ?_)))) | fail)
          all_goals first | omega | (first | exact end_here ⟨rfl, rfl⟩ | exact end_here ⟨rfl, rfl, rfl⟩ | exact end_drop (end_here ⟨rfl, rfl⟩) | exact end_drop (end_here ⟨rfl, rfl, rfl⟩) | exact end_drop (end_drop (end_here ⟨rfl, rfl⟩)) | exact end_drop (end_drop (end_here ⟨rfl, rfl, rfl⟩)))
      · have c1' : ¬ (1 : Int) < s.size := by omega
        rw [decide_eq_false c1, if_neg (by simp)]
        clear h0
        intro m; refine cta_of_T Try.func14 rfl rfl (by kernel_rfl) (by kernel_rfl) ?_
        unfold pairV at *
        repeat' (first | simp (maxSteps := 1000000) (disch := omega) only [↓eng_pre, eng_post, ↓Fa.all_pc, Fa.all_fa, eng_core, Nat.reduceBEq, ne_eq, reduceIte, Nat.reduceEqDiff, Nat.reduceAdd, Nat.reduceMul, Nat.reduceLT, Nat.reduceSub, Int.reduceLT, Int.reduceLE, Int.reduceEq, Int.reduceAdd, Int.reduceSub, Int.reduceMul, Int.reduceNeg, Int.reduceToNat, *] | (with_reducible (first | (refine newA_of (fun _ => ?_)) | (refine bi_len (by kernel_rfl) ?_) | (refine bi_lens (by kernel_rfl) ?_) | (refine ss_l (by kernel_rfl) (by omega) ?_) | (refine eq_ptr_nil (by kernel_rfl) ?_) | (refine neq_ptr_nil (by kernel_rfl) ?_) | (refine eq_iface_nil (by kernel_rfl) rfl ?_) | (refine neq_iface_nil (by kernel_rfl) rfl ?_))) | ((with_reducible refine pur_of (w1) ?_); rintro _ rfl) | (with_reducible (first | (refine cond_if (fun h => ?_) (fun h => ?_)) | (refine guard_t (fun h => ?_) (fun h => ?_)) | (refine guard_f (fun h => ?_) (fun h => ?_)) | (refine cond_nif (fun h => ?_) (fun h => ?_)) | (refine cond_nsplit (fun h => ?_) (fun h => ?_)) | (refine cond_split (fun h => ?_) (fun h => ?_)) | (refine guard_split (fun h => ?_) (fun h => ?_)))) | fail)
        all_goals first | omega | (first | exact end_here ⟨rfl, rfl⟩ | exact end_here ⟨rfl, rfl, rfl⟩ | exact end_drop (end_here ⟨rfl, rfl⟩) | exact end_drop (end_here ⟨rfl, rfl, rfl⟩) | exact end_drop (end_drop (end_here ⟨rfl, rfl⟩)) | exact end_drop (end_drop (end_here ⟨rfl, rfl, rfl⟩)))
end Go.Proofs.Ytgeifpoaemkadaa
