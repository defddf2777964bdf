/- Layer 4: the law LexScans. -/
import Derived.Test.YtgeifpoaemkadaaXRAll
import Derived.Test.YtgeifpoaemkadaaXEach
import Derived.Test.YtgeifpoaemkadaaXLaw0
set_option linter.unusedSimpArgs false
set_option linter.unusedVariables false
set_option linter.all false
namespace Go.Proofs.Ytgeifpoaemkadaa
open Go Go.Eng Go.Lex
theorem rscan_parts (s : ByteArray) (l : List Tok) (at' er : Int) (h : scanF s = (l, at', er)) (m : Mem) : Cta Try.prog 11 [.string s] m [] (fun v m' L' => m' = m ∧ ∃ p c, v = .tuple #[.slice p l.length c, .int .i64 at', .int .i64 er] ∧ TokS p c l L') := by
  have := rscan_ct s m
  unfold ScanR at this
  rw [h] at this
  exact this
theorem gsame_ct (p1 p2 : Option Addr) (q1 q2 : Nat) (l : List Tok) (m : Mem) (L1 L2 : Lst) (hn : l.length < 1000000000) (h1 : GS 37 5 (.slice p1 l.length q1) l.length (encT l) L1) (h2 : GS 37 5 (.slice p2 l.length q2) l.length (encT l) L2) :
    Obs Try.prog 12 [.slice p1 l.length q1, .slice p2 l.length q2] m (L2 ++ L1) (· = .bool true) :=
  tsame_ct p1 p2 q1 q2 l m (L2 ++ L1) hn (h1.at (L' := L2 ++ []) (TakeL.app .all)) (h2.at TakeL.here)
set_option maxHeartbeats 0 in
theorem scans_law (s : ByteArray) (m : Mem) : Cta Try.prog 3 [.string s] m [] (fun v m' _ => v = .bool true ∧ m.Le m') := by
  have aw := awake_ct
  by_cases hs : (3000 : Int) < s.size
  · refine cta_of_T Try.func3 rfl rfl (by kernel_rfl) (by kernel_rfl) ?_
    repeat' (first | simp (maxSteps := 1000000) (disch := omega) only [↓eng_pre, eng_post, ↓Fa.all_pc, Fa.all_fa, eng_core, Nat.reduceBEq, ne_eq, reduceIte, Nat.reduceEqDiff, Nat.reduceAdd, Nat.reduceMul, Nat.reduceLT, Nat.reduceSub, Int.reduceLT, Int.reduceLE, Int.reduceEq, Int.reduceAdd, Int.reduceSub, Int.reduceMul, Int.reduceNeg, Int.reduceToNat, hs] | (with_reducible (first | (refine bi_len (by kernel_rfl) ?_) | (refine bi_lens (by kernel_rfl) ?_) | (refine eq_ptr_nil (by kernel_rfl) ?_) | (refine neq_ptr_nil (by kernel_rfl) ?_) | (refine eq_iface_nil (by kernel_rfl) rfl ?_) | (refine neq_iface_nil (by kernel_rfl) rfl ?_))) | ((with_reducible refine pur_of (aw) ?_); rintro _ rfl) | (with_reducible (first | (refine cond_if (fun h => ?_) (fun h => ?_)) | (refine guard_t (fun h => ?_) (fun h => ?_)) | (refine guard_f (fun h => ?_) (fun h => ?_)) | (refine cond_nif (fun h => ?_) (fun h => ?_)) | (refine cond_nsplit (fun h => ?_) (fun h => ?_)) | (refine cond_split (fun h => ?_) (fun h => ?_)) | (refine guard_split (fun h => ?_) (fun h => ?_)))) | fail)
    all_goals exact end_clear (Mem.Le.refl _)
  · obtain ⟨k1, k2, k3, k4, k5, k6⟩ := scan_bounds s (by omega)
    have c1 := fun l a er h m => scan_parts s l a er h m
    have c2 := fun l a er h m => rscan_parts s l a er h m
    generalize scanF s = r at *
    obtain ⟨l, a, er⟩ := r
    have c1 := fun m => c1 l a er rfl m
    have c2 := fun m => c2 l a er rfl m
    dsimp only at k1 k2 k3 k4 k5 k6
    unfold TokS at c1 c2
    by_cases he : er = 0
    · obtain ⟨rfl, k7, k8⟩ := k6 he
      subst he
      have sm := fun p1 p2 q1 q2 m L1 L2 h1 h2 => gsame_ct p1 p2 q1 q2 l m L1 L2 (by omega) h1 h2
      clear k1 k5 k6 k7 k8
      refine cta_of_T Try.func3 rfl rfl (by kernel_rfl) (by kernel_rfl) ?_
      repeat' (first | simp (maxSteps := 1000000) (disch := omega) only [↓eng_pre, eng_post, ↓Fa.all_pc, Fa.all_fa, eng_core, Nat.reduceBEq, ne_eq, reduceIte, Nat.reduceEqDiff, Nat.reduceAdd, Nat.reduceMul, Nat.reduceLT, Nat.reduceSub, Int.reduceLT, Int.reduceLE, Int.reduceEq, Int.reduceAdd, Int.reduceSub, Int.reduceMul, Int.reduceNeg, Int.reduceToNat, hs] | (with_reducible (first | (refine bi_len (by kernel_rfl) ?_) | (refine bi_lens (by kernel_rfl) ?_) | (refine eq_ptr_nil (by kernel_rfl) ?_) | (refine neq_ptr_nil (by kernel_rfl) ?_) | (refine eq_iface_nil (by kernel_rfl) rfl ?_) | (refine neq_iface_nil (by kernel_rfl) rfl ?_))) | ((with_reducible refine pur_of (aw) ?_); rintro _ rfl) | ((with_reducible refine ca_of (c1 _) (by (repeat (first | exact Takes.nil | (apply Takes.cons; (· (repeat (first | exact Take.here | apply Take.there | apply Take.app)))) | (apply Takes.app; (· ((repeat ((fail_if_success (first | exact TakeL.here | exact TakeL.all)); (first | apply TakeL.cons | apply TakeL.app))); (first | exact TakeL.here | exact TakeL.all)))) | (apply Takes.lst; (· ((repeat ((fail_if_success (first | exact TakeL.here | exact TakeL.all)); (first | apply TakeL.cons | apply TakeL.app))); (first | exact TakeL.here | exact TakeL.all)))) | fail))) ?_); rintro _ _ _ ⟨rfl, p1, q1, rfl, hg1⟩) | ((with_reducible refine ca_of (c2 _) (by (repeat (first | exact Takes.nil | (apply Takes.cons; (· (repeat (first | exact Take.here | apply Take.there | apply Take.app)))) | (apply Takes.app; (· ((repeat ((fail_if_success (first | exact TakeL.here | exact TakeL.all)); (first | apply TakeL.cons | apply TakeL.app))); (first | exact TakeL.here | exact TakeL.all)))) | (apply Takes.lst; (· ((repeat ((fail_if_success (first | exact TakeL.here | exact TakeL.all)); (first | apply TakeL.cons | apply TakeL.app))); (first | exact TakeL.here | exact TakeL.all)))) | fail))) ?_); rintro _ _ _ ⟨rfl, p2, q2, rfl, hg2⟩) | ((with_reducible refine obs_of (sm _ _ _ _ _ _ _ hg1 hg2) (by (repeat (first | exact Takes.nil | (apply Takes.cons; (· (repeat (first | exact Take.here | apply Take.there | apply Take.app)))) | (apply Takes.app; (· ((repeat ((fail_if_success (first | exact TakeL.here | exact TakeL.all)); (first | apply TakeL.cons | apply TakeL.app))); (first | exact TakeL.here | exact TakeL.all)))) | (apply Takes.lst; (· ((repeat ((fail_if_success (first | exact TakeL.here | exact TakeL.all)); (first | apply TakeL.cons | apply TakeL.app))); (first | exact TakeL.here | exact TakeL.all)))) | fail))) ?_); rintro _ rfl) | (with_reducible (first | (refine cond_if (fun h => ?_) (fun h => ?_)) | (refine guard_t (fun h => ?_) (fun h => ?_)) | (refine guard_f (fun h => ?_) (fun h => ?_)) | (refine cond_nif (fun h => ?_) (fun h => ?_)) | (refine cond_nsplit (fun h => ?_) (fun h => ?_)) | (refine cond_split (fun h => ?_) (fun h => ?_)) | (refine guard_split (fun h => ?_) (fun h => ?_)))) | fail)
      all_goals exact end_clear (Mem.Le.refl _)
    · obtain rfl := k5 he
      clear k1 k4 k5 k6
      refine cta_of_T Try.func3 rfl rfl (by kernel_rfl) (by kernel_rfl) ?_
      repeat' (first | simp (maxSteps := 1000000) (disch := omega) only [↓eng_pre, eng_post, ↓Fa.all_pc, Fa.all_fa, eng_core, Nat.reduceBEq, ne_eq, reduceIte, Nat.reduceEqDiff, Nat.reduceAdd, Nat.reduceMul, Nat.reduceLT, Nat.reduceSub, Int.reduceLT, Int.reduceLE, Int.reduceEq, Int.reduceAdd, Int.reduceSub, Int.reduceMul, Int.reduceNeg, Int.reduceToNat, hs, he, Int.natCast_zero] | (with_reducible (first | (refine bi_len (by kernel_rfl) ?_) | (refine bi_lens (by kernel_rfl) ?_) | (refine eq_ptr_nil (by kernel_rfl) ?_) | (refine neq_ptr_nil (by kernel_rfl) ?_) | (refine eq_iface_nil (by kernel_rfl) rfl ?_) | (refine neq_iface_nil (by kernel_rfl) rfl ?_))) | ((with_reducible refine pur_of (aw) ?_); rintro _ rfl) | ((with_reducible refine ca_of (c1 _) (by (repeat (first | exact Takes.nil | (apply Takes.cons; (· (repeat (first | exact Take.here | apply Take.there | apply Take.app)))) | (apply Takes.app; (· ((repeat ((fail_if_success (first | exact TakeL.here | exact TakeL.all)); (first | apply TakeL.cons | apply TakeL.app))); (first | exact TakeL.here | exact TakeL.all)))) | (apply Takes.lst; (· ((repeat ((fail_if_success (first | exact TakeL.here | exact TakeL.all)); (first | apply TakeL.cons | apply TakeL.app))); (first | exact TakeL.here | exact TakeL.all)))) | fail))) ?_); rintro _ _ _ ⟨rfl, p1, q1, rfl, hg1⟩) | ((with_reducible refine ca_of (c2 _) (by (repeat (first | exact Takes.nil | (apply Takes.cons; (· (repeat (first | exact Take.here | apply Take.there | apply Take.app)))) | (apply Takes.app; (· ((repeat ((fail_if_success (first | exact TakeL.here | exact TakeL.all)); (first | apply TakeL.cons | apply TakeL.app))); (first | exact TakeL.here | exact TakeL.all)))) | (apply Takes.lst; (· ((repeat ((fail_if_success (first | exact TakeL.here | exact TakeL.all)); (first | apply TakeL.cons | apply TakeL.app))); (first | exact TakeL.here | exact TakeL.all)))) | fail))) ?_); rintro _ _ _ ⟨rfl, p2, q2, rfl, hg2⟩) | (with_reducible (first | (refine cond_if (fun h => ?_) (fun h => ?_)) | (refine guard_t (fun h => ?_) (fun h => ?_)) | (refine guard_f (fun h => ?_) (fun h => ?_)) | (refine cond_nif (fun h => ?_) (fun h => ?_)) | (refine cond_nsplit (fun h => ?_) (fun h => ?_)) | (refine cond_split (fun h => ?_) (fun h => ?_)) | (refine guard_split (fun h => ?_) (fun h => ?_)))) | fail)
      all_goals exact end_clear (Mem.Le.refl _)
theorem scans_all (s : ByteArray) (w : World) : Ct Try.prog 3 [.string s] w (fun v w' => v = .bool true ∧ Ext w w') := Cta.ct (fun m => scans_law s m)
end Go.Proofs.Ytgeifpoaemkadaa
