/- Layer 3: what is reached: the document's. -/
import Derived.Test.YtkcacgjbofabfaaDoorIRMem
import Derived.Test.YtkcacgjbofabfaaDoorJDfs
import Derived.Test.YtkcacgjbofabfaaDoorEngIter
import Derived.Test.YtkcacgjbofabfaaDoorFactsC
set_option linter.unusedSimpArgs false
set_option linter.unusedVariables false
set_option maxRecDepth 20000
set_option linter.all false
-- @FC
namespace Go.Heap
open Go Go.Eng
def intsV (l : List Int) : List Value := l.map fun n => .int .i64 n
theorem intsV_snoc (l : List Int) (n : Int) : intsV (l ++ [n]) = intsV l ++ [.int .i64 n] := by unfold intsV; simp
/-- A number's place in a list; -1: it isn't there. -/
def findF (l : List Int) (n : Int) : Int := match l.findIdx? (· == n) with | some i => i | none => -1
theorem findF_neg (l : List Int) (n : Int) : findF l n < 0 ↔ n ∉ l := by
  unfold findF
  cases h : l.findIdx? (· == n) with
  | none => rw [List.findIdx?_eq_none_iff] at h; constructor
            · intro _ hm; have := h n hm; simp at this
            · intro _; decide
  | some i => 
    constructor
    · intro hi; simp only at hi; omega
    · intro hn
      obtain ⟨h1, h2, _⟩ := List.findIdx?_eq_some_iff_getElem.1 h
      exact absurd (by have := List.getElem_mem h1; simp at h2; rwa [h2] at this) hn
end Go.Heap
namespace Go.Proofs.YtkcacgjbofabfaaDoor
open Go Go.Eng Go.Heap
set_option maxHeartbeats 0 in
theorem find_ct2 (p : Option Addr) (c : Nat) (l : List Int) (n : Int) (m : Mem) (L : Lst) (h : SlAt m L (.slice p l.length c) l.length 1 (intsV l)) (hn : l.length ≤ 1000000000) :
    Obs Tryd.prog 41 [.slice p l.length c, .int .i64 n] m L (· = .int .i64 (findF l n)) := by
  refine cta_of_T (c := Fc.k41_0) Tryd.func41 rfl rfl (by kernel_rfl) (by kernel_rfl) ?_
  repeat' (first | simp (maxSteps := 1000000) (disch := omega) only [↓Fc.x41_0, ↓eng_pre, eng_post, ↓Fa.all_pc, Fa.all_fa, eng_core, Nat.reduceBEq, ne_eq, reduceIte, Nat.reduceEqDiff, Nat.reduceAdd, Nat.reduceMul, Nat.reduceLT, Nat.reduceSub, Int.reduceLT, Int.reduceLE, Int.reduceEq, Int.reduceAdd, Int.reduceSub, Int.reduceMul, Int.reduceNeg, Int.reduceToNat, *] | (with_reducible (apply gd_load; first | (refine ld_by (by (first | (apply at_own; (· (repeat (first | apply Take.here | apply Take.there | apply Take.app)))) | (apply at_mem; assumption) | (apply At.up; assumption) | assumption)) ?_; first | (refine lb_one (by first | with_reducible rfl | (simp only [get_l, List.getElem?_cons_zero, List.getElem?_cons_succ, Option.some.injEq]; exact rfl) | assumption) ?_) | (refine lb_agg (by first | (simp only [subL_succ, subL_zero, get_l, List.getElem?_cons_zero, List.getElem?_cons_succ, consO_some, Nat.reduceAdd]; exact rfl) | assumption) ?_) | fail) | fail)) | (with_reducible (apply gd_bi; first | (refine bi_len (by kernel_rfl) ?_) | (refine bi_lens (by kernel_rfl) ?_) | fail)) | (with_reducible (apply gd_cond; first | (refine cond_if (fun h => ?_) (fun h => ?_)) | (refine cond_nif (fun h => ?_) (fun h => ?_)) | (refine cond_nsplit (fun h => ?_) (fun h => ?_)) | (refine cond_split (fun h => ?_) (fun h => ?_)))) | fail)
  refine loopA_of (γ := Nat) (fun i => [(1, .int .i64 n), (7, .slice p l.length c), (8, .int .i64 l.length), (9, .int .i64 (i : Int))]) (fun i m' L' => m' = _ ∧ L' = L ∧ i ≤ l.length ∧ ∀ j, j < i → l[j]? ≠ some n) (fun i => l.length - i) 0 (by (first | (simp (maxSteps := 1000000) (disch := omega) only [↓eng_pre, eng_post, ↓Fa.all_pc, Fa.all_fa, eng_core, Nat.reduceBEq, ne_eq, reduceIte, Nat.reduceEqDiff, Nat.reduceAdd, Nat.reduceMul, Nat.reduceLT, Nat.reduceSub, Int.reduceLT, Int.reduceLE, Int.reduceEq, Int.reduceAdd, Int.reduceSub, Int.reduceMul, Int.reduceNeg, Int.reduceToNat, *]; done) | (simp (maxSteps := 1000000) (disch := omega) only [↓eng_pre, eng_post, ↓Fa.all_pc, Fa.all_fa, eng_core, Nat.reduceBEq, ne_eq, reduceIte, Nat.reduceEqDiff, Nat.reduceAdd, Nat.reduceMul, Nat.reduceLT, Nat.reduceSub, Int.reduceLT, Int.reduceLE, Int.reduceEq, Int.reduceAdd, Int.reduceSub, Int.reduceMul, Int.reduceNeg, Int.reduceToNat, *, Value.int.injEq, true_and, and_true, Int.natCast_add, Int.natCast_one, Int.natCast_zero, Int.add_zero]; done) | (simp (maxSteps := 1000000) (disch := omega) only [↓eng_pre, eng_post, ↓Fa.all_pc, Fa.all_fa, eng_core, Nat.reduceBEq, ne_eq, reduceIte, Nat.reduceEqDiff, Nat.reduceAdd, Nat.reduceMul, Nat.reduceLT, Nat.reduceSub, Int.reduceLT, Int.reduceLE, Int.reduceEq, Int.reduceAdd, Int.reduceSub, Int.reduceMul, Int.reduceNeg, Int.reduceToNat, *, Value.int.injEq, true_and, and_true]; omega) | (simp (maxSteps := 1000000) (disch := omega) only [↓eng_pre, eng_post, ↓Fa.all_pc, Fa.all_fa, eng_core, Nat.reduceBEq, ne_eq, reduceIte, Nat.reduceEqDiff, Nat.reduceAdd, Nat.reduceMul, Nat.reduceLT, Nat.reduceSub, Int.reduceLT, Int.reduceLE, Int.reduceEq, Int.reduceAdd, Int.reduceSub, Int.reduceMul, Int.reduceNeg, Int.reduceToNat, *, Value.int.injEq, true_and, and_true]; exact rfl))) (end_here ⟨rfl, rfl, Nat.zero_le _, fun j hj => absurd hj (by omega)⟩) ?_
  rintro i e m' L' hf ⟨rfl, rfl, hi, hno⟩
  simp only [fits_cons, fits_nil, and_true] at hf
  obtain ⟨e1, e7, e8, e9⟩ := hf
  by_cases hlt : i < l.length
  · obtain ⟨b1, o1, cs1, rfl, _, at1, g1⟩ := h.block (by omega)
    obtain ⟨x, hx⟩ : ∃ x, l[i]? = some x := ⟨_, List.getElem?_eq_getElem hlt⟩
    have hc := g1 i (.int .i64 x) (by unfold intsV; rw [List.getElem?_map, hx]; rfl)
    have hlt' : (i : Int) < l.length := by omega
    clear g1 h
    by_cases hxn : x = n
    · have hff : findF l n = i := by
        have : l.findIdx? (· == n) = some i := by
          rw [List.findIdx?_eq_some_iff_getElem]
          refine ⟨hlt, by rw [List.getElem?_eq_getElem hlt] at hx; simp [Option.some.inj hx, hxn], fun j hj => ?_⟩
          have := hno j hj
          rw [List.getElem?_eq_getElem (by omega)] at this
          simpa using this
        unfold findF; rw [this]
      rw [hff]
      clear hno hff hx
      generalize l.length = ln at *
      repeat' (first | simp (maxSteps := 1000000) (disch := omega) only [↓Fc.x41_0, ↓eng_pre, eng_post, ↓Fa.all_pc, Fa.all_fa, eng_core, Nat.reduceBEq, ne_eq, reduceIte, Nat.reduceEqDiff, Nat.reduceAdd, Nat.reduceMul, Nat.reduceLT, Nat.reduceSub, Int.reduceLT, Int.reduceLE, Int.reduceEq, Int.reduceAdd, Int.reduceSub, Int.reduceMul, Int.reduceNeg, Int.reduceToNat, e1, e7, e8, e9, hlt', hc, hxn, Int.toNat_natCast, Nat.mul_one] | (with_reducible (apply gd_load; first | (refine ld_by (by (first | (apply at_own; (· (repeat (first | apply Take.here | apply Take.there | apply Take.app)))) | (apply at_mem; assumption) | (apply At.up; assumption) | assumption)) ?_; first | (refine lb_one (by first | with_reducible rfl | (simp only [get_l, List.getElem?_cons_zero, List.getElem?_cons_succ, Option.some.injEq]; exact rfl) | assumption) ?_) | (refine lb_agg (by first | (simp only [subL_succ, subL_zero, get_l, List.getElem?_cons_zero, List.getElem?_cons_succ, consO_some, Nat.reduceAdd]; exact rfl) | assumption) ?_) | fail) | fail)) | (with_reducible (apply gd_bi; first | (refine bi_len (by kernel_rfl) ?_) | (refine bi_lens (by kernel_rfl) ?_) | fail)) | (with_reducible (apply gd_cond; first | (refine cond_if (fun h => ?_) (fun h => ?_)) | (refine cond_nif (fun h => ?_) (fun h => ?_)) | (refine cond_nsplit (fun h => ?_) (fun h => ?_)) | (refine cond_split (fun h => ?_) (fun h => ?_)))) | fail)
      (first | exact end_here ⟨rfl, rfl⟩ | exact end_here ⟨rfl, rfl, rfl⟩ | exact end_drop (end_here ⟨rfl, rfl⟩) | exact end_drop (end_here ⟨rfl, rfl, rfl⟩) | exact end_drop (end_drop (end_here ⟨rfl, rfl⟩)) | exact end_drop (end_drop (end_here ⟨rfl, rfl, rfl⟩)))
    · have hno2 : ∀ j, j < i + 1 → l[j]? ≠ some n := fun j hj => by
        by_cases hji : j = i
        · rw [hji, hx]; exact fun e => hxn (Option.some.inj e)
        · exact hno j (by omega)
      clear hno hx
      repeat' (first | simp (maxSteps := 1000000) (disch := omega) only [↓Fc.x41_0, ↓eng_pre, eng_post, ↓Fa.all_pc, Fa.all_fa, eng_core, Nat.reduceBEq, ne_eq, reduceIte, Nat.reduceEqDiff, Nat.reduceAdd, Nat.reduceMul, Nat.reduceLT, Nat.reduceSub, Int.reduceLT, Int.reduceLE, Int.reduceEq, Int.reduceAdd, Int.reduceSub, Int.reduceMul, Int.reduceNeg, Int.reduceToNat, e1, e7, e8, e9, hlt', hc, hxn, Int.toNat_natCast, Nat.mul_one] | (with_reducible (apply gd_load; first | (refine ld_by (by (first | (apply at_own; (· (repeat (first | apply Take.here | apply Take.there | apply Take.app)))) | (apply at_mem; assumption) | (apply At.up; assumption) | assumption)) ?_; first | (refine lb_one (by first | with_reducible rfl | (simp only [get_l, List.getElem?_cons_zero, List.getElem?_cons_succ, Option.some.injEq]; exact rfl) | assumption) ?_) | (refine lb_agg (by first | (simp only [subL_succ, subL_zero, get_l, List.getElem?_cons_zero, List.getElem?_cons_succ, consO_some, Nat.reduceAdd]; exact rfl) | assumption) ?_) | fail) | fail)) | (with_reducible (apply gd_bi; first | (refine bi_len (by kernel_rfl) ?_) | (refine bi_lens (by kernel_rfl) ?_) | fail)) | (with_reducible (apply gd_cond; first | (refine cond_if (fun h => ?_) (fun h => ?_)) | (refine cond_nif (fun h => ?_) (fun h => ?_)) | (refine cond_nsplit (fun h => ?_) (fun h => ?_)) | (refine cond_split (fun h => ?_) (fun h => ?_)))) | fail)
      exact next_of (i + 1) (by (first | (simp (maxSteps := 1000000) (disch := omega) only [↓eng_pre, eng_post, ↓Fa.all_pc, Fa.all_fa, eng_core, Nat.reduceBEq, ne_eq, reduceIte, Nat.reduceEqDiff, Nat.reduceAdd, Nat.reduceMul, Nat.reduceLT, Nat.reduceSub, Int.reduceLT, Int.reduceLE, Int.reduceEq, Int.reduceAdd, Int.reduceSub, Int.reduceMul, Int.reduceNeg, Int.reduceToNat, *]; done) | (simp (maxSteps := 1000000) (disch := omega) only [↓eng_pre, eng_post, ↓Fa.all_pc, Fa.all_fa, eng_core, Nat.reduceBEq, ne_eq, reduceIte, Nat.reduceEqDiff, Nat.reduceAdd, Nat.reduceMul, Nat.reduceLT, Nat.reduceSub, Int.reduceLT, Int.reduceLE, Int.reduceEq, Int.reduceAdd, Int.reduceSub, Int.reduceMul, Int.reduceNeg, Int.reduceToNat, *, Value.int.injEq, true_and, and_true, Int.natCast_add, Int.natCast_one, Int.natCast_zero, Int.add_zero]; done) | (simp (maxSteps := 1000000) (disch := omega) only [↓eng_pre, eng_post, ↓Fa.all_pc, Fa.all_fa, eng_core, Nat.reduceBEq, ne_eq, reduceIte, Nat.reduceEqDiff, Nat.reduceAdd, Nat.reduceMul, Nat.reduceLT, Nat.reduceSub, Int.reduceLT, Int.reduceLE, Int.reduceEq, Int.reduceAdd, Int.reduceSub, Int.reduceMul, Int.reduceNeg, Int.reduceToNat, *, Value.int.injEq, true_and, and_true]; omega) | (simp (maxSteps := 1000000) (disch := omega) only [↓eng_pre, eng_post, ↓Fa.all_pc, Fa.all_fa, eng_core, Nat.reduceBEq, ne_eq, reduceIte, Nat.reduceEqDiff, Nat.reduceAdd, Nat.reduceMul, Nat.reduceLT, Nat.reduceSub, Int.reduceLT, Int.reduceLE, Int.reduceEq, Int.reduceAdd, Int.reduceSub, Int.reduceMul, Int.reduceNeg, Int.reduceToNat, *, Value.int.injEq, true_and, and_true]; exact rfl))) (end_here ⟨rfl, rfl, by omega, hno2⟩) (by omega)
  · have hlt' : ¬ (i : Int) < l.length := by omega
    have hff : findF l n = -1 := by
      have : l.findIdx? (· == n) = none := by
        rw [List.findIdx?_eq_none_iff]
        intro x hx
        obtain ⟨j, hj, rfl⟩ := List.getElem_of_mem hx
        have := hno j (by omega)
        rw [List.getElem?_eq_getElem hj] at this
        simpa using this
      unfold findF; rw [this]
    rw [hff]
    clear hno hff h
    repeat' (first | simp (maxSteps := 1000000) (disch := omega) only [↓Fc.x41_0, ↓eng_pre, eng_post, ↓Fa.all_pc, Fa.all_fa, eng_core, Nat.reduceBEq, ne_eq, reduceIte, Nat.reduceEqDiff, Nat.reduceAdd, Nat.reduceMul, Nat.reduceLT, Nat.reduceSub, Int.reduceLT, Int.reduceLE, Int.reduceEq, Int.reduceAdd, Int.reduceSub, Int.reduceMul, Int.reduceNeg, Int.reduceToNat, e1, e7, e8, e9, hlt', Int.toNat_natCast] | (with_reducible (apply gd_load; first | (refine ld_by (by (first | (apply at_own; (· (repeat (first | apply Take.here | apply Take.there | apply Take.app)))) | (apply at_mem; assumption) | (apply At.up; assumption) | assumption)) ?_; first | (refine lb_one (by first | with_reducible rfl | (simp only [get_l, List.getElem?_cons_zero, List.getElem?_cons_succ, Option.some.injEq]; exact rfl) | assumption) ?_) | (refine lb_agg (by first | (simp only [subL_succ, subL_zero, get_l, List.getElem?_cons_zero, List.getElem?_cons_succ, consO_some, Nat.reduceAdd]; exact rfl) | assumption) ?_) | fail) | fail)) | (with_reducible (apply gd_bi; first | (refine bi_len (by kernel_rfl) ?_) | (refine bi_lens (by kernel_rfl) ?_) | fail)) | (with_reducible (apply gd_cond; first | (refine cond_if (fun h => ?_) (fun h => ?_)) | (refine cond_nif (fun h => ?_) (fun h => ?_)) | (refine cond_nsplit (fun h => ?_) (fun h => ?_)) | (refine cond_split (fun h => ?_) (fun h => ?_)))) | fail)
    (first | exact end_here ⟨rfl, rfl⟩ | exact end_here ⟨rfl, rfl, rfl⟩ | exact end_drop (end_here ⟨rfl, rfl⟩) | exact end_drop (end_here ⟨rfl, rfl, rfl⟩) | exact end_drop (end_drop (end_here ⟨rfl, rfl⟩)) | exact end_drop (end_drop (end_here ⟨rfl, rfl, rfl⟩)))
end Go.Proofs.YtkcacgjbofabfaaDoor
