/- Layer 4: the laws LexNames and LexLines. -/
import Derived.Test.YtgeifpoaemkadaaXAwake
import Derived.Test.YtgeifpoaemkadaaXNum3
set_option linter.unusedSimpArgs false
set_option linter.unusedVariables false
set_option linter.all false
namespace Go.Lex
open Go Go.Eng
theorem number_not_name (s : ByteArray) (h : (number s).2 = true) : nameB s = false := by
  rw [Bool.eq_false_iff]
  intro hn
  unfold nameB at hn
  simp only [Bool.and_eq_true, decide_eq_true_eq] at hn
  have h1 := hn.1.1
  unfold pkc at h1
  have hb := (byteAt_lt s 0).1
  by_cases hz : (s.size : Int) ≤ 0
  · rw [if_pos hz] at h1; omega
  · rw [if_neg hz, cls2 _ hb] at h1
    unfold number at h
    rw [if_neg (by omega), if_neg (by unfold isHex; simp; omega)] at h
    rw [whole_eq, if_pos (by omega), if_neg] at h
    · exact absurd h (by simp [outcome])
    · rintro ⟨h2, _⟩
      rw [Int.natCast_zero] at h2
      unfold figV at h2
      (repeat' split at h2) <;> omega
end Go.Lex
namespace Go.Proofs.Ytgeifpoaemkadaa
open Go Go.Eng Go.Lex
set_option maxHeartbeats 0 in
theorem names_law (s : ByteArray) (m : Mem) : Cta Try.prog 4 [.string s] m [] (fun v m' _ => v = .bool true ∧ m.Le m') := by
  have aw := awake_ct
  by_cases hs : (2000 : Int) < s.size
  · refine cta_of_T Try.func4 rfl rfl (by kernel_rfl) (by kernel_rfl) ?_
    repeat' (first | simp (maxSteps := 1000000) (disch := omega) only [↓eng_pre, eng_post, ↓Fa.all_pc, Fa.all_fa, eng_core, Nat.reduceBEq, ne_eq, reduceIte, Nat.reduceEqDiff, Nat.reduceAdd, Nat.reduceMul, Nat.reduceLT, Nat.reduceSub, Int.reduceLT, Int.reduceLE, Int.reduceEq, Int.reduceAdd, Int.reduceSub, Int.reduceMul, Int.reduceNeg, Int.reduceToNat, *] | (with_reducible (first | (refine bi_len (by kernel_rfl) ?_) | (refine bi_lens (by kernel_rfl) ?_) | (refine eq_ptr_nil (by kernel_rfl) ?_) | (refine neq_ptr_nil (by kernel_rfl) ?_) | (refine eq_iface_nil (by kernel_rfl) rfl ?_) | (refine neq_iface_nil (by kernel_rfl) rfl ?_))) | ((with_reducible refine pur_of (aw) ?_); rintro _ rfl) | (with_reducible (first | (refine cond_if (fun h => ?_) (fun h => ?_)) | (refine guard_t (fun h => ?_) (fun h => ?_)) | (refine guard_f (fun h => ?_) (fun h => ?_)) | (refine cond_nif (fun h => ?_) (fun h => ?_)) | (refine cond_nsplit (fun h => ?_) (fun h => ?_)) | (refine cond_split (fun h => ?_) (fun h => ?_)) | (refine guard_split (fun h => ?_) (fun h => ?_)))) | fail)
    all_goals exact end_clear (Mem.Le.refl _)
  · have q1 := Number_ct s (by omega)
    have q2 := rNumber_ct s (by omega)
    have q3 := fun m => Name_ct s (by omega) m
    have q4 := rName_ct s (by omega)
    have hn := number_not_name s
    unfold pairV at q1 q2
    generalize number s = p at *
    generalize nameB s = b at *
    obtain ⟨n, k⟩ := p
    dsimp only at hn q1 q2
    cases k
    · cases b
      · clear hn
        refine cta_of_T Try.func4 rfl rfl (by kernel_rfl) (by kernel_rfl) ?_
        repeat' (first | simp (maxSteps := 1000000) (disch := omega) only [↓eng_pre, eng_post, ↓Fa.all_pc, Fa.all_fa, eng_core, Nat.reduceBEq, ne_eq, reduceIte, Nat.reduceEqDiff, Nat.reduceAdd, Nat.reduceMul, Nat.reduceLT, Nat.reduceSub, Int.reduceLT, Int.reduceLE, Int.reduceEq, Int.reduceAdd, Int.reduceSub, Int.reduceMul, Int.reduceNeg, Int.reduceToNat, *] | (with_reducible (first | (refine bi_len (by kernel_rfl) ?_) | (refine bi_lens (by kernel_rfl) ?_) | (refine eq_ptr_nil (by kernel_rfl) ?_) | (refine neq_ptr_nil (by kernel_rfl) ?_) | (refine eq_iface_nil (by kernel_rfl) rfl ?_) | (refine neq_iface_nil (by kernel_rfl) rfl ?_))) | ((with_reducible refine pur_of (aw) ?_); rintro _ rfl) | ((with_reducible refine pur_of (q1) ?_); rintro _ rfl) | ((with_reducible refine pur_of (q2) ?_); rintro _ rfl) | ((with_reducible refine ca_of (q3 _) (by (repeat (first | exact Takes.nil | (apply Takes.cons; (· (repeat (first | exact Take.here | apply Take.there | apply Take.app)))) | (apply Takes.app; (· ((repeat ((fail_if_success (first | exact TakeL.here | exact TakeL.all)); (first | apply TakeL.cons | apply TakeL.app))); (first | exact TakeL.here | exact TakeL.all)))) | (apply Takes.lst; (· ((repeat ((fail_if_success (first | exact TakeL.here | exact TakeL.all)); (first | apply TakeL.cons | apply TakeL.app))); (first | exact TakeL.here | exact TakeL.all)))) | fail))) ?_); rintro _ _ _ ⟨rfl, rfl⟩) | ((with_reducible refine pur_of (q4) ?_); rintro _ rfl) | (with_reducible (first | (refine cond_if (fun h => ?_) (fun h => ?_)) | (refine guard_t (fun h => ?_) (fun h => ?_)) | (refine guard_f (fun h => ?_) (fun h => ?_)) | (refine cond_nif (fun h => ?_) (fun h => ?_)) | (refine cond_nsplit (fun h => ?_) (fun h => ?_)) | (refine cond_split (fun h => ?_) (fun h => ?_)) | (refine guard_split (fun h => ?_) (fun h => ?_)))) | fail)
        all_goals exact end_clear (Mem.Le.refl _)
      · clear hn
        refine cta_of_T Try.func4 rfl rfl (by kernel_rfl) (by kernel_rfl) ?_
        repeat' (first | simp (maxSteps := 1000000) (disch := omega) only [↓eng_pre, eng_post, ↓Fa.all_pc, Fa.all_fa, eng_core, Nat.reduceBEq, ne_eq, reduceIte, Nat.reduceEqDiff, Nat.reduceAdd, Nat.reduceMul, Nat.reduceLT, Nat.reduceSub, Int.reduceLT, Int.reduceLE, Int.reduceEq, Int.reduceAdd, Int.reduceSub, Int.reduceMul, Int.reduceNeg, Int.reduceToNat, *] | (with_reducible (first | (refine bi_len (by kernel_rfl) ?_) | (refine bi_lens (by kernel_rfl) ?_) | (refine eq_ptr_nil (by kernel_rfl) ?_) | (refine neq_ptr_nil (by kernel_rfl) ?_) | (refine eq_iface_nil (by kernel_rfl) rfl ?_) | (refine neq_iface_nil (by kernel_rfl) rfl ?_))) | ((with_reducible refine pur_of (aw) ?_); rintro _ rfl) | ((with_reducible refine pur_of (q1) ?_); rintro _ rfl) | ((with_reducible refine pur_of (q2) ?_); rintro _ rfl) | ((with_reducible refine ca_of (q3 _) (by (repeat (first | exact Takes.nil | (apply Takes.cons; (· (repeat (first | exact Take.here | apply Take.there | apply Take.app)))) | (apply Takes.app; (· ((repeat ((fail_if_success (first | exact TakeL.here | exact TakeL.all)); (first | apply TakeL.cons | apply TakeL.app))); (first | exact TakeL.here | exact TakeL.all)))) | (apply Takes.lst; (· ((repeat ((fail_if_success (first | exact TakeL.here | exact TakeL.all)); (first | apply TakeL.cons | apply TakeL.app))); (first | exact TakeL.here | exact TakeL.all)))) | fail))) ?_); rintro _ _ _ ⟨rfl, rfl⟩) | ((with_reducible refine pur_of (q4) ?_); rintro _ rfl) | (with_reducible (first | (refine cond_if (fun h => ?_) (fun h => ?_)) | (refine guard_t (fun h => ?_) (fun h => ?_)) | (refine guard_f (fun h => ?_) (fun h => ?_)) | (refine cond_nif (fun h => ?_) (fun h => ?_)) | (refine cond_nsplit (fun h => ?_) (fun h => ?_)) | (refine cond_split (fun h => ?_) (fun h => ?_)) | (refine guard_split (fun h => ?_) (fun h => ?_)))) | fail)
        all_goals exact end_clear (Mem.Le.refl _)
    · obtain rfl := hn rfl
      clear hn
      refine cta_of_T Try.func4 rfl rfl (by kernel_rfl) (by kernel_rfl) ?_
      repeat' (first | simp (maxSteps := 1000000) (disch := omega) only [↓eng_pre, eng_post, ↓Fa.all_pc, Fa.all_fa, eng_core, Nat.reduceBEq, ne_eq, reduceIte, Nat.reduceEqDiff, Nat.reduceAdd, Nat.reduceMul, Nat.reduceLT, Nat.reduceSub, Int.reduceLT, Int.reduceLE, Int.reduceEq, Int.reduceAdd, Int.reduceSub, Int.reduceMul, Int.reduceNeg, Int.reduceToNat, *] | (with_reducible (first | (refine bi_len (by kernel_rfl) ?_) | (refine bi_lens (by kernel_rfl) ?_) | (refine eq_ptr_nil (by kernel_rfl) ?_) | (refine neq_ptr_nil (by kernel_rfl) ?_) | (refine eq_iface_nil (by kernel_rfl) rfl ?_) | (refine neq_iface_nil (by kernel_rfl) rfl ?_))) | ((with_reducible refine pur_of (aw) ?_); rintro _ rfl) | ((with_reducible refine pur_of (q1) ?_); rintro _ rfl) | ((with_reducible refine pur_of (q2) ?_); rintro _ rfl) | ((with_reducible refine ca_of (q3 _) (by (repeat (first | exact Takes.nil | (apply Takes.cons; (· (repeat (first | exact Take.here | apply Take.there | apply Take.app)))) | (apply Takes.app; (· ((repeat ((fail_if_success (first | exact TakeL.here | exact TakeL.all)); (first | apply TakeL.cons | apply TakeL.app))); (first | exact TakeL.here | exact TakeL.all)))) | (apply Takes.lst; (· ((repeat ((fail_if_success (first | exact TakeL.here | exact TakeL.all)); (first | apply TakeL.cons | apply TakeL.app))); (first | exact TakeL.here | exact TakeL.all)))) | fail))) ?_); rintro _ _ _ ⟨rfl, rfl⟩) | ((with_reducible refine pur_of (q4) ?_); rintro _ rfl) | (with_reducible (first | (refine cond_if (fun h => ?_) (fun h => ?_)) | (refine guard_t (fun h => ?_) (fun h => ?_)) | (refine guard_f (fun h => ?_) (fun h => ?_)) | (refine cond_nif (fun h => ?_) (fun h => ?_)) | (refine cond_nsplit (fun h => ?_) (fun h => ?_)) | (refine cond_split (fun h => ?_) (fun h => ?_)) | (refine guard_split (fun h => ?_) (fun h => ?_)))) | fail)
      all_goals exact end_clear (Mem.Le.refl _)
theorem names_all (s : ByteArray) (w : World) : Ct Try.prog 4 [.string s] w (fun v w' => v = .bool true ∧ Ext w w') := Cta.ct (fun m => names_law s m)
set_option maxHeartbeats 0 in
theorem lines_law (s : ByteArray) (p : Int) (m : Mem) : Cta Try.prog 5 [.string s, .int .i64 p] m [] (fun v m' _ => v = .bool true ∧ m.Le m') := by
  have aw := awake_ct
  by_cases hs : (2000 : Int) < s.size
  · refine cta_of_T Try.func5 rfl rfl (by kernel_rfl) (by kernel_rfl) ?_
    repeat' (first | simp (maxSteps := 1000000) (disch := omega) only [↓eng_pre, eng_post, ↓Fa.all_pc, Fa.all_fa, eng_core, Nat.reduceBEq, ne_eq, reduceIte, Nat.reduceEqDiff, Nat.reduceAdd, Nat.reduceMul, Nat.reduceLT, Nat.reduceSub, Int.reduceLT, Int.reduceLE, Int.reduceEq, Int.reduceAdd, Int.reduceSub, Int.reduceMul, Int.reduceNeg, Int.reduceToNat, *] | (with_reducible (first | (refine bi_len (by kernel_rfl) ?_) | (refine bi_lens (by kernel_rfl) ?_) | (refine eq_ptr_nil (by kernel_rfl) ?_) | (refine neq_ptr_nil (by kernel_rfl) ?_) | (refine eq_iface_nil (by kernel_rfl) rfl ?_) | (refine neq_iface_nil (by kernel_rfl) rfl ?_))) | ((with_reducible refine pur_of (aw) ?_); rintro _ rfl) | (with_reducible (first | (refine cond_if (fun h => ?_) (fun h => ?_)) | (refine guard_t (fun h => ?_) (fun h => ?_)) | (refine guard_f (fun h => ?_) (fun h => ?_)) | (refine cond_nif (fun h => ?_) (fun h => ?_)) | (refine cond_nsplit (fun h => ?_) (fun h => ?_)) | (refine cond_split (fun h => ?_) (fun h => ?_)) | (refine guard_split (fun h => ?_) (fun h => ?_)))) | fail)
    all_goals exact end_clear (Mem.Le.refl _)
  · have q1 := Line_ct s p (by omega)
    have q2 := rLine_ct s p (by omega)
    generalize lineF s (clampP s p) = a at *
    generalize colF s (clampP s p) = b at *
    refine cta_of_T Try.func5 rfl rfl (by kernel_rfl) (by kernel_rfl) ?_
    repeat' (first | simp (maxSteps := 1000000) (disch := omega) only [↓eng_pre, eng_post, ↓Fa.all_pc, Fa.all_fa, eng_core, Nat.reduceBEq, ne_eq, reduceIte, Nat.reduceEqDiff, Nat.reduceAdd, Nat.reduceMul, Nat.reduceLT, Nat.reduceSub, Int.reduceLT, Int.reduceLE, Int.reduceEq, Int.reduceAdd, Int.reduceSub, Int.reduceMul, Int.reduceNeg, Int.reduceToNat, *] | (with_reducible (first | (refine bi_len (by kernel_rfl) ?_) | (refine bi_lens (by kernel_rfl) ?_) | (refine eq_ptr_nil (by kernel_rfl) ?_) | (refine neq_ptr_nil (by kernel_rfl) ?_) | (refine eq_iface_nil (by kernel_rfl) rfl ?_) | (refine neq_iface_nil (by kernel_rfl) rfl ?_))) | ((with_reducible refine pur_of (aw) ?_); rintro _ rfl) | ((with_reducible refine pur_of (q1) ?_); rintro _ rfl) | ((with_reducible refine pur_of (q2) ?_); rintro _ rfl) | (with_reducible (first | (refine cond_if (fun h => ?_) (fun h => ?_)) | (refine guard_t (fun h => ?_) (fun h => ?_)) | (refine guard_f (fun h => ?_) (fun h => ?_)) | (refine cond_nif (fun h => ?_) (fun h => ?_)) | (refine cond_nsplit (fun h => ?_) (fun h => ?_)) | (refine cond_split (fun h => ?_) (fun h => ?_)) | (refine guard_split (fun h => ?_) (fun h => ?_)))) | fail)
    all_goals exact end_clear (Mem.Le.refl _)
theorem lines_all (s : ByteArray) (p : Int) (w : World) : Ct Try.prog 5 [.string s, .int .i64 p] w (fun v w' => v = .bool true ∧ Ext w w') := Cta.ct (fun m => lines_law s p m)
end Go.Proofs.Ytgeifpoaemkadaa
