/- Layer 3: small numbers are shown. -/
import Derived.Test.YtkcacgjbofabfaaDoorSShow
set_option linter.unusedSimpArgs false
set_option linter.unusedVariables false
set_option maxRecDepth 20000
set_option linter.all false
-- @FC
namespace Go.Proofs.YtkcacgjbofabfaaDoor
open Go Go.Eng Go.Heap
set_option maxRecDepth 20000 in
theorem small_ct (n : Int) (h0 : 0 ≤ n) (h9 : n < 10) (m : Mem) : Cta Tryd.prog 47 [.int .i64 n] m [] (fun y m2 L2 => m2 = m ∧ y = .string (itoaB n) ∧ L2 = []) := by
  have h1 : w64 (n + 1) = n + 1 := by simp only [w64]; omega
  refine cta_of_T (c := Fc.k47_0) Tryd.func47 rfl rfl (by kernel_rfl) (by kernel_rfl) ?_
  repeat' (first | simp (maxSteps := 1000000) (disch := omega) only [↓Fc.x47_0, ↓eng_pre, eng_post, ↓Fa.all_pc, Fa.all_fa, eng_core, Nat.reduceBEq, ne_eq, reduceIte, Nat.reduceEqDiff, Nat.reduceAdd, Nat.reduceMul, Nat.reduceLT, Nat.reduceSub, Int.reduceLT, Int.reduceLE, Int.reduceEq, Int.reduceAdd, Int.reduceSub, Int.reduceMul, Int.reduceNeg, Int.reduceToNat, h9, h1] | (with_reducible (apply gd_slice; first | (refine ss_lh (by kernel_rfl) (by omega) (by omega) ?_))) | (refine ss_lh (by kernel_rfl) (by omega) (by show n + 1 ≤ ((36 : Nat) : Int); omega) ?_) | (with_reducible (apply gd_cond; first | (refine cond_if (fun h => ?_) (fun h => ?_)) | (refine cond_nif (fun h => ?_) (fun h => ?_)) | (refine cond_nsplit (fun h => ?_) (fun h => ?_)) | (refine cond_split (fun h => ?_) (fun h => ?_)))) | (with_reducible (apply gd_guard; first | (refine guard_t (fun h => ?_) (fun h => ?_)) | (refine guard_f (fun h => ?_) (fun h => ?_)) | (refine guard_split (fun h => ?_) (fun h => ?_)))) | fail)
  refine end_here ⟨rfl, ?_, rfl⟩
  have : n = 0 ∨ n = 1 ∨ n = 2 ∨ n = 3 ∨ n = 4 ∨ n = 5 ∨ n = 6 ∨ n = 7 ∨ n = 8 ∨ n = 9 := by omega
  rcases this with rfl | rfl | rfl | rfl | rfl | rfl | rfl | rfl | rfl | rfl <;> exact congrArg Value.string (by decide +kernel)
theorem numOk_small (n : Int) (h0 : 0 ≤ n) (h9 : n < 10) (m : Mem) : NumOk m n := by
  refine ⟨itoaB_size n (by omega) (by omega), fun m' _ => ?_⟩
  have sc := small_ct n h0 h9 m'
  have h1 : n < 100 := by omega
  refine cta_of_T (c := Fc.k43_0) Tryd.func43 rfl rfl (by kernel_rfl) (by kernel_rfl) ?_
  repeat' (first | simp (maxSteps := 1000000) (disch := omega) only [↓Fc.x43_0, ↓Fc.x43_1, ↓eng_pre, eng_post, ↓Fa.all_pc, Fa.all_fa, eng_core, Nat.reduceBEq, ne_eq, reduceIte, Nat.reduceEqDiff, Nat.reduceAdd, Nat.reduceMul, Nat.reduceLT, Nat.reduceSub, Int.reduceLT, Int.reduceLE, Int.reduceEq, Int.reduceAdd, Int.reduceSub, Int.reduceMul, Int.reduceNeg, Int.reduceToNat, h0, h1] | (with_reducible (apply gd_new; first | (refine newA_of (fun _ => ?_)))) | (with_reducible (apply gd_store; first | (refine st_own (by (repeat (first | apply Put.here | apply Put.there | apply Put.app))) (by simp only [eng_sm, eng_core, Nat.reduceAdd, Nat.reduceLeDiff] <;> with_reducible assumption) (by simp only [eng_sm, eng_core, Nat.reduceAdd, Nat.reduceLeDiff] <;> first | with_reducible assumption | omega) ?_))) | (with_reducible (apply gd_slice; first | (refine sl_h (by kernel_rfl) (by first | exact Fa.es_52 | exact Fa.es_80 | exact Fa.es_23 | exact Fa.es_115 | exact Fa.es_125 | fail) (by omega) ?_) | (refine sl_lh (by kernel_rfl) (by first | exact Fa.es_52 | exact Fa.es_80 | exact Fa.es_23 | exact Fa.es_115 | exact Fa.es_125 | fail) (by omega) (by omega) ?_))) | (with_reducible (apply gd_eq; first | (refine eq_ptr_nil (by kernel_rfl) ?_) | (refine neq_ptr_nil (by kernel_rfl) ?_) | (refine eq_iface_nil (by kernel_rfl) rfl ?_) | (refine neq_iface_nil (by kernel_rfl) rfl ?_))) | (with_reducible (apply gd_call; first | ((refine ca_of (sc) (by (repeat (first | apply Takes.nil | (apply Takes.cons; (· (repeat (first | apply Take.here | apply Take.there | apply Take.app)))) | (apply Takes.app; (· ((repeat ((fail_if_success (first | apply TakeL.here | apply TakeL.all | apply TakeL.hd)); (first | apply TakeL.cons | apply TakeL.app))); (first | apply TakeL.here | apply TakeL.all | apply TakeL.hd)))) | (apply Takes.lst; (· ((repeat ((fail_if_success (first | apply TakeL.here | apply TakeL.all | apply TakeL.hd)); (first | apply TakeL.cons | apply TakeL.app))); (first | apply TakeL.here | apply TakeL.all | apply TakeL.hd)))) | fail))) ?_); rintro _ _ _ ⟨rfl, rfl, rfl⟩))) | (with_reducible (apply gd_cond; first | (refine cond_if (fun h => ?_) (fun h => ?_)) | (refine cond_nif (fun h => ?_) (fun h => ?_)) | (refine cond_nsplit (fun h => ?_) (fun h => ?_)) | (refine cond_split (fun h => ?_) (fun h => ?_)))) | (with_reducible (apply gd_guard; first | (refine guard_t (fun h => ?_) (fun h => ?_)) | (refine guard_f (fun h => ?_) (fun h => ?_)) | (refine guard_split (fun h => ?_) (fun h => ?_)))) | fail)
  exact end_here ⟨rfl, rfl⟩
end Go.Proofs.YtkcacgjbofabfaaDoor
