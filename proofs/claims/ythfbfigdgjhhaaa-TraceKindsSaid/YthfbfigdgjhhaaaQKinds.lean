/- Layer 16: TraceKinds. -/
import Derived.Test.YthfbfigdgjhhaaaQAwake
import Derived.Test.YthfbfigdgjhhaaaQRow
import Derived.Test.YthfbfigdgjhhaaaEngOff
set_option linter.unusedSimpArgs false
set_option linter.unusedVariables false
set_option maxRecDepth 20000
set_option linter.all false
-- @FC
namespace Go.Proofs.Ythfbfigdgjhhaaa
open Go Go.Eng Go.Tr
set_option maxHeartbeats 0 in
theorem kinds_law (op : Int) (m : Mem) : Cta Try.prog 3 [.int .i64 op] m [] (fun v m' L' => v = .bool true ∧ m.Le m') := by
  have a1 := makes_ct op
  have a2 := rmakes_ct op
  have b1 := may_ct op
  have b2 := rmay_ct op
  have c1 := args_ct op
  have c2 := rargs_ct op
  generalize (ofF op).makes = x at *
  generalize (ofF op).may = y at *
  generalize (ofF op).args = z at *
  have aw := awake_ct
  cases x <;> cases y
  all_goals (
    refine cta_of_T (c := Fc.k3_0) Try.func3 rfl rfl (by kernel_rfl) (by kernel_rfl) ?_
    repeat' (first | simp (maxSteps := 1000000) (disch := omega) only [↓Fc.x3_0, ↓eng_pre, eng_post, ↓Fa.all_pc, Fa.all_fa, eng_core, Nat.reduceBEq, ne_eq, reduceIte, Nat.reduceEqDiff, Nat.reduceAdd, Nat.reduceMul, Nat.reduceLT, Nat.reduceSub, Int.reduceLT, Int.reduceLE, Int.reduceEq, Int.reduceAdd, Int.reduceSub, Int.reduceMul, Int.reduceNeg, Int.reduceToNat, *] | (with_reducible (apply gd_call; first | ((refine ca_of (aw _) (by (repeat (first | apply Takes.nil | (apply Takes.cons; (· (repeat (first | apply Take.here | apply Take.there | apply Take.app)))) | (apply Takes.app; (· ((repeat ((fail_if_success (first | apply TakeL.here | apply TakeL.all | apply TakeL.hd)); (first | apply TakeL.cons | apply TakeL.app))); (first | apply TakeL.here | apply TakeL.all | apply TakeL.hd)))) | (apply Takes.lst; (· ((repeat ((fail_if_success (first | apply TakeL.here | apply TakeL.all | apply TakeL.hd)); (first | apply TakeL.cons | apply TakeL.app))); (first | apply TakeL.here | apply TakeL.all | apply TakeL.hd)))) | fail))) ?_); rintro _ _ _ ⟨hle, rfl⟩) | ((refine pur_of (a1) ?_); rintro _ rfl) | ((refine pur_of (a2) ?_); rintro _ rfl) | ((refine pur_of (b1) ?_); rintro _ rfl) | ((refine pur_of (b2) ?_); rintro _ rfl) | ((refine pur_of (c1) ?_); rintro _ rfl) | ((refine pur_of (c2) ?_); rintro _ rfl) | fail)) | (with_reducible (apply gd_cond; first | (refine cond_if (fun h => ?_) (fun h => ?_)) | (refine cond_nif (fun h => ?_) (fun h => ?_)) | (refine cond_nsplit (fun h => ?_) (fun h => ?_)) | (refine cond_split (fun h => ?_) (fun h => ?_)))) | (with_reducible (apply gd_guard; first | (refine guard_t (fun h => ?_) (fun h => ?_)) | (refine guard_f (fun h => ?_) (fun h => ?_)) | (refine guard_split (fun h => ?_) (fun h => ?_)))) | fail)
    exact end_clear hle)
theorem kinds_row (op : Int) (W : World) : Ct Try.prog 3 [.int .i64 op] W (fun v w' => v = .bool true ∧ Ext W w') := by
  refine Cta.ctM ?_
  exact kinds_law op _
end Go.Proofs.Ythfbfigdgjhhaaa
