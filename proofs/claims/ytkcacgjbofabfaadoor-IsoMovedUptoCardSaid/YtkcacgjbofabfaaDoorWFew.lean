/- Layer 3: heaps that are laid down. -/
import Derived.Test.YtkcacgjbofabfaaDoorWAwake
import Derived.Test.YtkcacgjbofabfaaDoorIRLay
import Derived.Test.YtkcacgjbofabfaaDoorEngRow
set_option linter.unusedSimpArgs false
set_option linter.unusedVariables false
set_option maxRecDepth 20000
set_option linter.all false
-- @FC
namespace Go.Heap
open Go Go.Eng Go.Proofs.YtkcacgjbofabfaaDoor
abbrev ObjT := Int × Sl V
abbrev opV : Sh V := opPair (opInt .i64) (opInt .i64)
abbrev opObj : Sh ObjT := opPair (opInt .i64) (opSl 2 opV)
/-- What is known of each thing. -/
def ObjOk (m : Mem) (a : ObjT) : Prop := ∃ p c, opObj.enc a = [.int .i64 a.1, .slice p a.2.xs.length c] ∧ a.2.xs.length ≤ c ∧ SlAt m [] (.slice p a.2.xs.length c) a.2.xs.length 2 (encs a.2.xs) ∧ a.2.xs.length ≤ 1048576
theorem ObjOk.le {m m' : Mem} {a : ObjT} (h : ObjOk m a) (hm : m.Le m') : ObjOk m' a := by
  obtain ⟨p, c, h1, h2, h3, h4⟩ := h
  exact ⟨p, c, h1, h2, h3.le hm, h4⟩
def sumO (xs : List ObjT) : Nat := (xs.map fun o => o.2.xs.length + 1).sum
def laidF (xs : List ObjT) : HS := xs.foldl (fun s o => layF s o.1 o.2.xs) (newF 0)
theorem sumO_take {xs : List ObjT} {i : Nat} {a : ObjT} (h : xs[i]? = some a) : sumO (xs.take (i + 1)) = sumO (xs.take i) + (a.2.xs.length + 1) := by
  unfold sumO; rw [List.take_succ, h]; simp
theorem sumO_le (xs : List ObjT) (i : Nat) : sumO (xs.take i) ≤ sumO xs := by
  conv => rhs; rw [← List.take_append_drop i xs]
  unfold sumO; rw [List.map_append, List.sum_append]; omega
theorem laidF_take {xs : List ObjT} {i : Nat} {a : ObjT} (h : xs[i]? = some a) : laidF (xs.take (i + 1)) = layF (laidF (xs.take i)) a.1 a.2.xs := by
  unfold laidF; rw [List.take_succ, h]; simp
theorem laidF_objs (xs : List ObjT) : (laidF xs).objs = xs.map fun o => (recO o.1, o.2.xs) := by
  have : ∀ (xs : List ObjT) (s : HS), (xs.foldl (fun s o => layF s o.1 o.2.xs) s).objs = s.objs ++ xs.map fun o => (recO o.1, o.2.xs) := by
    intro xs
    induction xs with
    | nil => intro s; simp
    | cons a xs ih => intro s; rw [List.foldl_cons, ih]; simp [layF]
  unfold laidF; rw [this]; rfl
end Go.Heap
namespace Go.Proofs.YtkcacgjbofabfaaDoor
open Go Go.Eng Go.Heap
section
variable (p : Option Addr) (c : Nat) (xs : List ObjT) (m : Mem) (hl : xs.length ≤ 1048576) (hlen : ∀ y ∈ xs, (opObj.enc y).length = 2) (hok : ∀ a ∈ xs, ObjOk m a)
  (hsl : SlAt m [] (.slice p xs.length c) xs.length 2 (xs.flatMap opObj.enc))
include hl hlen hok hsl
set_option maxHeartbeats 0 in
theorem few_ct (p2 : Option Addr) (n2 c2 : Nat) (hs : sumO xs ≤ 1048576) (hn : n2 ≤ 1048576) : Cta Tryd.prog 10 [.slice p xs.length c, .slice p2 n2 c2] m [] (fun v m' L' => (∃ β : Bool, v = .bool β ∧ (β = true → n2 + sumO xs ≤ 300)) ∧ m' = m ∧ L' = []) := by
  have z0 : sumO ([] : List ObjT) = 0 := rfl
  refine cta_of_T (c := Fc.k10_0) Tryd.func10 rfl rfl (by kernel_rfl) (by kernel_rfl) ?_
  repeat' (first | simp (maxSteps := 1000000) (disch := omega) only [↓Fc.x10_0, ↓eng_pre, eng_post, ↓Fa.all_pc, Fa.all_fa, eng_core, Nat.reduceBEq, ne_eq, reduceIte, Nat.reduceEqDiff, Nat.reduceAdd, Nat.reduceMul, Nat.reduceLT, Nat.reduceSub, Int.reduceLT, Int.reduceLE, Int.reduceEq, Int.reduceAdd, Int.reduceSub, Int.reduceMul, Int.reduceNeg, Int.reduceToNat, Int.toNat_natCast] | (with_reducible (apply gd_new; first | (refine newA_of (fun _ => ?_)) | fail)) | (with_reducible (apply gd_load; first | (refine ld_by (by (first | (apply at_own; (· (repeat (first | apply Take.here | apply Take.there | apply Take.app)))) | (apply at_mem; assumption) | (apply At.up; assumption) | assumption)) ?_; first | (refine lb_one (by first | with_reducible rfl | (simp only [get_l, List.getElem?_cons_zero, List.getElem?_cons_succ, Option.some.injEq]; exact rfl) | assumption) ?_) | (refine lb_agg (by first | (simp only [subL_succ, subL_zero, get_l, List.getElem?_cons_zero, List.getElem?_cons_succ, consO_some, Nat.reduceAdd]; exact rfl) | assumption) ?_) | fail) | fail)) | (with_reducible (apply gd_store; first | (refine st_own (by (repeat (first | apply Put.here | apply Put.there | apply Put.app))) (by simp only [eng_sm, eng_core, Nat.reduceAdd, Nat.reduceLeDiff] <;> with_reducible assumption) (by simp only [eng_sm, eng_core, Nat.reduceAdd, Nat.reduceLeDiff] <;> first | with_reducible assumption | omega) ?_) | fail)) | (with_reducible (apply gd_bi; first | (refine bi_len (by kernel_rfl) ?_) | (refine bi_lens (by kernel_rfl) ?_) | fail)) | (with_reducible (apply gd_cond; first | (refine cond_if (fun h => ?_) (fun h => ?_)) | (refine cond_nif (fun h => ?_) (fun h => ?_)) | (refine cond_nsplit (fun h => ?_) (fun h => ?_)) | (refine cond_split (fun h => ?_) (fun h => ?_)))) | fail)
  refine loopA_of (γ := Nat) (fun i => [(5, .int .i64 ((n2 + sumO (xs.take i) : Nat) : Int)), (10, .slice p xs.length c), (11, .int .i64 xs.length), (12, .int .i64 (i : Int))])
    (fun i m' L' => m' = m ∧ L' = [] ∧ i ≤ xs.length) (fun i => xs.length - i) 0 (by simp only [List.take_zero, z0, Nat.add_zero]; clear hl hlen hok hsl hs hn z0; (first | (simp (maxSteps := 1000000) (disch := omega) only [↓eng_pre, eng_post, ↓Fa.all_pc, Fa.all_fa, eng_core, Nat.reduceBEq, ne_eq, reduceIte, Nat.reduceEqDiff, Nat.reduceAdd, Nat.reduceMul, Nat.reduceLT, Nat.reduceSub, Int.reduceLT, Int.reduceLE, Int.reduceEq, Int.reduceAdd, Int.reduceSub, Int.reduceMul, Int.reduceNeg, Int.reduceToNat, *]; done) | (simp (maxSteps := 1000000) (disch := omega) only [↓eng_pre, eng_post, ↓Fa.all_pc, Fa.all_fa, eng_core, Nat.reduceBEq, ne_eq, reduceIte, Nat.reduceEqDiff, Nat.reduceAdd, Nat.reduceMul, Nat.reduceLT, Nat.reduceSub, Int.reduceLT, Int.reduceLE, Int.reduceEq, Int.reduceAdd, Int.reduceSub, Int.reduceMul, Int.reduceNeg, Int.reduceToNat, *, Value.int.injEq, true_and, and_true, Int.natCast_add, Int.natCast_one, Int.natCast_zero, Int.add_zero]; done) | (simp (maxSteps := 1000000) (disch := omega) only [↓eng_pre, eng_post, ↓Fa.all_pc, Fa.all_fa, eng_core, Nat.reduceBEq, ne_eq, reduceIte, Nat.reduceEqDiff, Nat.reduceAdd, Nat.reduceMul, Nat.reduceLT, Nat.reduceSub, Int.reduceLT, Int.reduceLE, Int.reduceEq, Int.reduceAdd, Int.reduceSub, Int.reduceMul, Int.reduceNeg, Int.reduceToNat, *, Value.int.injEq, true_and, and_true]; omega) | (simp (maxSteps := 1000000) (disch := omega) only [↓eng_pre, eng_post, ↓Fa.all_pc, Fa.all_fa, eng_core, Nat.reduceBEq, ne_eq, reduceIte, Nat.reduceEqDiff, Nat.reduceAdd, Nat.reduceMul, Nat.reduceLT, Nat.reduceSub, Int.reduceLT, Int.reduceLE, Int.reduceEq, Int.reduceAdd, Int.reduceSub, Int.reduceMul, Int.reduceNeg, Int.reduceToNat, *, Value.int.injEq, true_and, and_true]; exact rfl))) (end_here ⟨rfl, rfl, Nat.zero_le _⟩) ?_
  rintro i e m' L' hf ⟨rfl, rfl, hi⟩
  simp only [fits_cons, fits_nil, and_true] at hf
  obtain ⟨e5, e10, e11, e12⟩ := hf
  have hsi := sumO_le xs i
  by_cases hlt : i < xs.length
  · obtain ⟨a, ha⟩ : ∃ a, xs[i]? = some a := ⟨_, List.getElem?_eq_getElem hlt⟩
    obtain ⟨bb, o, cs, rfl, hat, hsub⟩ := hsl.row hlen ha
    obtain ⟨p3, c3, he, hn3, hs3, hb3⟩ := hok a (List.mem_of_getElem? ha)
    rw [he] at hsub
    have hst := sumO_take ha
    have hlt' : (i : Int) < xs.length := by omega
    clear hsl hok hlen he hs3
    have hw1 : ((n2 + sumO (xs.take i) : Nat) : Int) + ((a.2.xs.length : Int) + 1) = ((n2 + sumO (xs.take (i + 1)) : Nat) : Int) := by omega
    have hs2 := sumO_le xs (i + 1)
    generalize hS2 : sumO (xs.take (i + 1)) = s2 at *
    generalize sumO (xs.take i) = s1 at *
    generalize sumO xs = s0 at *
    generalize a.2.xs.length = ln at *
    generalize hnn : xs.length = n at *
    repeat' (first | simp (maxSteps := 1000000) (disch := omega) only [↓Fc.x10_0, ↓eng_pre, eng_post, ↓Fa.all_pc, Fa.all_fa, eng_core, Nat.reduceBEq, ne_eq, reduceIte, Nat.reduceEqDiff, Nat.reduceAdd, Nat.reduceMul, Nat.reduceLT, Nat.reduceSub, Int.reduceLT, Int.reduceLE, Int.reduceEq, Int.reduceAdd, Int.reduceSub, Int.reduceMul, Int.reduceNeg, Int.reduceToNat, e5, e10, e11, e12, hlt', hw1, Int.toNat_natCast] | (with_reducible (apply gd_new; first | (refine newA_of (fun _ => ?_)) | fail)) | (with_reducible (apply gd_load; first | (refine ld_by (by (first | (apply at_own; (· (repeat (first | apply Take.here | apply Take.there | apply Take.app)))) | (apply at_mem; assumption) | (apply At.up; assumption) | assumption | (apply At.sub; assumption; (· ((repeat ((fail_if_success (first | apply TakeL.here | apply TakeL.all | apply TakeL.hd)); (first | apply TakeL.cons | apply TakeL.app))); (first | apply TakeL.here | apply TakeL.all | apply TakeL.hd)))))) ?_; first | (refine lb_one (by first | with_reducible rfl | (simp only [get_l, List.getElem?_cons_zero, List.getElem?_cons_succ, Option.some.injEq]; exact rfl) | assumption) ?_) | (refine lb_agg (by first | (simp only [subL_succ, subL_zero, get_l, List.getElem?_cons_zero, List.getElem?_cons_succ, consO_some, Nat.reduceAdd]; exact rfl) | assumption) ?_) | fail) | fail)) | (with_reducible (apply gd_store; first | (refine st_own (by (repeat (first | apply Put.here | apply Put.there | apply Put.app))) (by simp only [eng_sm, eng_core, Nat.reduceAdd, Nat.reduceLeDiff] <;> with_reducible assumption) (by simp only [eng_sm, eng_core, Nat.reduceAdd, Nat.reduceLeDiff] <;> first | with_reducible assumption | omega) ?_) | fail)) | (with_reducible (apply gd_bi; first | (refine bi_len (by kernel_rfl) ?_) | (refine bi_lens (by kernel_rfl) ?_) | fail)) | (with_reducible (apply gd_cond; first | (refine cond_if (fun h => ?_) (fun h => ?_)) | (refine cond_nif (fun h => ?_) (fun h => ?_)) | (refine cond_nsplit (fun h => ?_) (fun h => ?_)) | (refine cond_split (fun h => ?_) (fun h => ?_)))) | fail)
    exact next_of (i + 1) (by (first | (simp (maxSteps := 1000000) (disch := omega) only [↓eng_pre, eng_post, ↓Fa.all_pc, Fa.all_fa, eng_core, Nat.reduceBEq, ne_eq, reduceIte, Nat.reduceEqDiff, Nat.reduceAdd, Nat.reduceMul, Nat.reduceLT, Nat.reduceSub, Int.reduceLT, Int.reduceLE, Int.reduceEq, Int.reduceAdd, Int.reduceSub, Int.reduceMul, Int.reduceNeg, Int.reduceToNat, *]; done) | (simp (maxSteps := 1000000) (disch := omega) only [↓eng_pre, eng_post, ↓Fa.all_pc, Fa.all_fa, eng_core, Nat.reduceBEq, ne_eq, reduceIte, Nat.reduceEqDiff, Nat.reduceAdd, Nat.reduceMul, Nat.reduceLT, Nat.reduceSub, Int.reduceLT, Int.reduceLE, Int.reduceEq, Int.reduceAdd, Int.reduceSub, Int.reduceMul, Int.reduceNeg, Int.reduceToNat, *, Value.int.injEq, true_and, and_true, Int.natCast_add, Int.natCast_one, Int.natCast_zero, Int.add_zero]; done) | (simp (maxSteps := 1000000) (disch := omega) only [↓eng_pre, eng_post, ↓Fa.all_pc, Fa.all_fa, eng_core, Nat.reduceBEq, ne_eq, reduceIte, Nat.reduceEqDiff, Nat.reduceAdd, Nat.reduceMul, Nat.reduceLT, Nat.reduceSub, Int.reduceLT, Int.reduceLE, Int.reduceEq, Int.reduceAdd, Int.reduceSub, Int.reduceMul, Int.reduceNeg, Int.reduceToNat, *, Value.int.injEq, true_and, and_true]; omega) | (simp (maxSteps := 1000000) (disch := omega) only [↓eng_pre, eng_post, ↓Fa.all_pc, Fa.all_fa, eng_core, Nat.reduceBEq, ne_eq, reduceIte, Nat.reduceEqDiff, Nat.reduceAdd, Nat.reduceMul, Nat.reduceLT, Nat.reduceSub, Int.reduceLT, Int.reduceLE, Int.reduceEq, Int.reduceAdd, Int.reduceSub, Int.reduceMul, Int.reduceNeg, Int.reduceToNat, *, Value.int.injEq, true_and, and_true]; exact rfl))) (end_drop (end_here ⟨rfl, rfl, by omega⟩)) (by omega)
  · have hlt' : ¬ (i : Int) < xs.length := by omega
    have hie : i = xs.length := by omega
    subst hie
    rw [List.take_length] at e5
    clear hsl hok hlen
    repeat' (first | simp (maxSteps := 1000000) (disch := omega) only [↓Fc.x10_0, ↓eng_pre, eng_post, ↓Fa.all_pc, Fa.all_fa, eng_core, Nat.reduceBEq, ne_eq, reduceIte, Nat.reduceEqDiff, Nat.reduceAdd, Nat.reduceMul, Nat.reduceLT, Nat.reduceSub, Int.reduceLT, Int.reduceLE, Int.reduceEq, Int.reduceAdd, Int.reduceSub, Int.reduceMul, Int.reduceNeg, Int.reduceToNat, e5, e10, e11, e12, hlt', Int.toNat_natCast] | (with_reducible (apply gd_new; first | (refine newA_of (fun _ => ?_)) | fail)) | (with_reducible (apply gd_load; first | (refine ld_by (by (first | (apply at_own; (· (repeat (first | apply Take.here | apply Take.there | apply Take.app)))) | (apply at_mem; assumption) | (apply At.up; assumption) | assumption)) ?_; first | (refine lb_one (by first | with_reducible rfl | (simp only [get_l, List.getElem?_cons_zero, List.getElem?_cons_succ, Option.some.injEq]; exact rfl) | assumption) ?_) | (refine lb_agg (by first | (simp only [subL_succ, subL_zero, get_l, List.getElem?_cons_zero, List.getElem?_cons_succ, consO_some, Nat.reduceAdd]; exact rfl) | assumption) ?_) | fail) | fail)) | (with_reducible (apply gd_store; first | (refine st_own (by (repeat (first | apply Put.here | apply Put.there | apply Put.app))) (by simp only [eng_sm, eng_core, Nat.reduceAdd, Nat.reduceLeDiff] <;> with_reducible assumption) (by simp only [eng_sm, eng_core, Nat.reduceAdd, Nat.reduceLeDiff] <;> first | with_reducible assumption | omega) ?_) | fail)) | (with_reducible (apply gd_bi; first | (refine bi_len (by kernel_rfl) ?_) | (refine bi_lens (by kernel_rfl) ?_) | fail)) | (with_reducible (apply gd_cond; first | (refine cond_if (fun h => ?_) (fun h => ?_)) | (refine cond_nif (fun h => ?_) (fun h => ?_)) | (refine cond_nsplit (fun h => ?_) (fun h => ?_)) | (refine cond_split (fun h => ?_) (fun h => ?_)))) | fail)
    exact end_here ⟨⟨_, rfl, fun h => by have := of_decide_eq_true h; omega⟩, rfl, rfl⟩
set_option maxHeartbeats 0 in
theorem laid_ct : Cta Tryd.prog 11 [.slice p xs.length c] m [] (fun v m' L' => m' = m ∧ ∃ b1 b2 Lh Lr, v = .tuple #[ptr b1, ptr b2] ∧ L' = Lh ++ Lr ∧ HP b1 (laidF xs) Lh ∧ RP b2 (laidF xs) Lr) := by
  have c1 := new_ct 0
  have c2 := rnew_ct 0
  have z0 : laidF ([] : List ObjT) = newF 0 := rfl
  refine cta_of_T (c := Fc.k11_0) Tryd.func11 rfl rfl (by kernel_rfl) (by kernel_rfl) ?_
  repeat' (first | simp (maxSteps := 1000000) (disch := omega) only [↓Fc.x11_0, ↓Fc.x11_1, ↓eng_pre, eng_post, ↓Fa.all_pc, Fa.all_fa, eng_core, Nat.reduceBEq, ne_eq, reduceIte, Nat.reduceEqDiff, Nat.reduceAdd, Nat.reduceMul, Nat.reduceLT, Nat.reduceSub, Int.reduceLT, Int.reduceLE, Int.reduceEq, Int.reduceAdd, Int.reduceSub, Int.reduceMul, Int.reduceNeg, Int.reduceToNat, Int.toNat_natCast] | (with_reducible (apply gd_new; first | (refine newA_of (fun _ => ?_)) | fail)) | (with_reducible (apply gd_load; first | (refine ld_by (by (first | (apply at_own; (· (repeat (first | apply Take.here | apply Take.there | apply Take.app)))) | (apply at_mem; assumption) | (apply At.up; assumption) | assumption)) ?_; first | (refine lb_one (by first | with_reducible rfl | (simp only [get_l, List.getElem?_cons_zero, List.getElem?_cons_succ, Option.some.injEq]; exact rfl) | assumption) ?_) | (refine lb_agg (by first | (simp only [subL_succ, subL_zero, get_l, List.getElem?_cons_zero, List.getElem?_cons_succ, consO_some, Nat.reduceAdd]; exact rfl) | assumption) ?_) | fail) | fail)) | (with_reducible (apply gd_store; first | (refine st_own (by (repeat (first | apply Put.here | apply Put.there | apply Put.app))) (by simp only [eng_sm, eng_core, Nat.reduceAdd, Nat.reduceLeDiff] <;> with_reducible assumption) (by simp only [eng_sm, eng_core, Nat.reduceAdd, Nat.reduceLeDiff] <;> first | with_reducible assumption | omega) ?_) | fail)) | (with_reducible (apply gd_bi; first | (refine bi_len (by kernel_rfl) ?_) | (refine bi_lens (by kernel_rfl) ?_) | fail)) | (with_reducible (apply gd_eq; first | (refine eq_ptr_nil (by kernel_rfl) ?_) | (refine neq_ptr_nil (by kernel_rfl) ?_) | (refine eq_iface_nil (by kernel_rfl) rfl ?_) | (refine neq_iface_nil (by kernel_rfl) rfl ?_) | fail)) | (with_reducible (apply gd_call; first | ((refine ca_of (c1 _) (by (repeat (first | apply Takes.nil | (apply Takes.cons; (· (repeat (first | apply Take.here | apply Take.there | apply Take.app)))) | (apply Takes.app; (· ((repeat ((fail_if_success (first | apply TakeL.here | apply TakeL.all | apply TakeL.hd)); (first | apply TakeL.cons | apply TakeL.app))); (first | apply TakeL.here | apply TakeL.all | apply TakeL.hd)))) | (apply Takes.lst; (· ((repeat ((fail_if_success (first | apply TakeL.here | apply TakeL.all | apply TakeL.hd)); (first | apply TakeL.cons | apply TakeL.app))); (first | apply TakeL.here | apply TakeL.all | apply TakeL.hd)))) | fail))) ?_); rintro _ _ _ ⟨rfl, b1, rfl, hp⟩) | ((refine ca_of (c2 _) (by (repeat (first | apply Takes.nil | (apply Takes.cons; (· (repeat (first | apply Take.here | apply Take.there | apply Take.app)))) | (apply Takes.app; (· ((repeat ((fail_if_success (first | apply TakeL.here | apply TakeL.all | apply TakeL.hd)); (first | apply TakeL.cons | apply TakeL.app))); (first | apply TakeL.here | apply TakeL.all | apply TakeL.hd)))) | (apply Takes.lst; (· ((repeat ((fail_if_success (first | apply TakeL.here | apply TakeL.all | apply TakeL.hd)); (first | apply TakeL.cons | apply TakeL.app))); (first | apply TakeL.here | apply TakeL.all | apply TakeL.hd)))) | fail))) ?_); rintro _ _ _ ⟨rfl, b2, rfl, hr⟩) | fail)) | (with_reducible (apply gd_cond; first | (refine cond_if (fun h => ?_) (fun h => ?_)) | (refine cond_nif (fun h => ?_) (fun h => ?_)) | (refine cond_nsplit (fun h => ?_) (fun h => ?_)) | (refine cond_split (fun h => ?_) (fun h => ?_)))) | fail)
  rename_i Lh m Lr
  refine loopA_of (γ := Nat) (fun i => [(4, ptr b1), (5, ptr b2), (12, .slice p xs.length c), (13, .int .i64 xs.length), (14, .int .i64 (i : Int))])
    (fun i m' L' => m' = m ∧ i ≤ xs.length ∧ ∃ Lh Lr, L' = Lh ++ Lr ∧ HP b1 (laidF (xs.take i)) Lh ∧ RP b2 (laidF (xs.take i)) Lr) (fun i => xs.length - i) 0 (by (first | (simp (maxSteps := 1000000) (disch := omega) only [↓eng_pre, eng_post, ↓Fa.all_pc, Fa.all_fa, eng_core, Nat.reduceBEq, ne_eq, reduceIte, Nat.reduceEqDiff, Nat.reduceAdd, Nat.reduceMul, Nat.reduceLT, Nat.reduceSub, Int.reduceLT, Int.reduceLE, Int.reduceEq, Int.reduceAdd, Int.reduceSub, Int.reduceMul, Int.reduceNeg, Int.reduceToNat, *]; done) | (simp (maxSteps := 1000000) (disch := omega) only [↓eng_pre, eng_post, ↓Fa.all_pc, Fa.all_fa, eng_core, Nat.reduceBEq, ne_eq, reduceIte, Nat.reduceEqDiff, Nat.reduceAdd, Nat.reduceMul, Nat.reduceLT, Nat.reduceSub, Int.reduceLT, Int.reduceLE, Int.reduceEq, Int.reduceAdd, Int.reduceSub, Int.reduceMul, Int.reduceNeg, Int.reduceToNat, *, Value.int.injEq, true_and, and_true, Int.natCast_add, Int.natCast_one, Int.natCast_zero, Int.add_zero]; done) | (simp (maxSteps := 1000000) (disch := omega) only [↓eng_pre, eng_post, ↓Fa.all_pc, Fa.all_fa, eng_core, Nat.reduceBEq, ne_eq, reduceIte, Nat.reduceEqDiff, Nat.reduceAdd, Nat.reduceMul, Nat.reduceLT, Nat.reduceSub, Int.reduceLT, Int.reduceLE, Int.reduceEq, Int.reduceAdd, Int.reduceSub, Int.reduceMul, Int.reduceNeg, Int.reduceToNat, *, Value.int.injEq, true_and, and_true]; omega) | (simp (maxSteps := 1000000) (disch := omega) only [↓eng_pre, eng_post, ↓Fa.all_pc, Fa.all_fa, eng_core, Nat.reduceBEq, ne_eq, reduceIte, Nat.reduceEqDiff, Nat.reduceAdd, Nat.reduceMul, Nat.reduceLT, Nat.reduceSub, Int.reduceLT, Int.reduceLE, Int.reduceEq, Int.reduceAdd, Int.reduceSub, Int.reduceMul, Int.reduceNeg, Int.reduceToNat, *, Value.int.injEq, true_and, and_true]; exact rfl))) (end_takeR (Lp := Lh ++ Lr) ⟨rfl, Nat.zero_le _, _, _, rfl, hp, hr⟩ (by (repeat (first | apply Takes.nil | (apply Takes.cons; (· (repeat (first | apply Take.here | apply Take.there | apply Take.app)))) | (apply Takes.app; (· ((repeat ((fail_if_success (first | apply TakeL.here | apply TakeL.all | apply TakeL.hd)); (first | apply TakeL.cons | apply TakeL.app))); (first | apply TakeL.here | apply TakeL.all | apply TakeL.hd)))) | (apply Takes.lst; (· ((repeat ((fail_if_success (first | apply TakeL.here | apply TakeL.all | apply TakeL.hd)); (first | apply TakeL.cons | apply TakeL.app))); (first | apply TakeL.here | apply TakeL.all | apply TakeL.hd)))) | fail)))) ?_
  clear hp hr c1 c2
  rintro i e m' L' hf ⟨rfl, hi, Lh, Lr, rfl, hp, hr⟩
  simp only [fits_cons, fits_nil, and_true] at hf
  obtain ⟨e4, e5, e12, e13, e14⟩ := hf
  by_cases hlt : i < xs.length
  · obtain ⟨a, ha⟩ : ∃ a, xs[i]? = some a := ⟨_, List.getElem?_eq_getElem hlt⟩
    obtain ⟨bb, o, cs, rfl, hat, hsub⟩ := hsl.row hlen ha
    obtain ⟨p3, c3, he, hn3, hs3, hb3⟩ := hok a (List.mem_of_getElem? ha)
    rw [he] at hsub
    have hlt' : (i : Int) < xs.length := by omega
    have hol : (laidF (xs.take i)).objs.length ≤ 1048576 := by rw [laidF_objs, List.length_map, List.length_take]; omega
    have l1 := lay_ct b1 _ Lh [] a.1 _ a.2.xs hp m' hs3 (by omega) (by omega)
    have l2 := rlay_ct b2 _ Lr [] a.1 _ a.2.xs hr m' hs3 (by omega) (by omega)
    rw [← laidF_take ha] at l1 l2
    simp only [List.append_nil] at l1 l2
    have e1 : ∀ s : HS, vv (layV s) = .agg #[.int .i64 2, .int .i64 (s.objs.length : Int)] := fun s => rfl
    rw [e1] at l1 l2
    clear hsl hok hlen he hs3 hp hr e1
    generalize laidF (xs.take i) = s1 at *
    generalize hs2 : laidF (xs.take (i + 1)) = s2 at *
    generalize a.2.xs.length = ln at *
    generalize hnn : xs.length = n at *
    repeat' (first | simp (maxSteps := 1000000) (disch := omega) only [↓Fc.x11_0, ↓Fc.x11_1, ↓eng_pre, eng_post, ↓Fa.all_pc, Fa.all_fa, eng_core, Nat.reduceBEq, ne_eq, reduceIte, Nat.reduceEqDiff, Nat.reduceAdd, Nat.reduceMul, Nat.reduceLT, Nat.reduceSub, Int.reduceLT, Int.reduceLE, Int.reduceEq, Int.reduceAdd, Int.reduceSub, Int.reduceMul, Int.reduceNeg, Int.reduceToNat, e4, e5, e12, e13, e14, hlt', Int.toNat_natCast] | (with_reducible (apply gd_new; first | (refine newA_of (fun _ => ?_)) | fail)) | (with_reducible (apply gd_load; first | (refine ld_by (by (first | (apply at_own; (· (repeat (first | apply Take.here | apply Take.there | apply Take.app)))) | (apply at_mem; assumption) | (apply At.up; assumption) | assumption | (apply At.sub; assumption; (· ((repeat ((fail_if_success (first | apply TakeL.here | apply TakeL.all | apply TakeL.hd)); (first | apply TakeL.cons | apply TakeL.app))); (first | apply TakeL.here | apply TakeL.all | apply TakeL.hd)))))) ?_; first | (refine lb_one (by first | with_reducible rfl | (simp only [get_l, List.getElem?_cons_zero, List.getElem?_cons_succ, Option.some.injEq]; exact rfl) | assumption) ?_) | (refine lb_agg (by first | (simp only [subL_succ, subL_zero, get_l, List.getElem?_cons_zero, List.getElem?_cons_succ, consO_some, Nat.reduceAdd]; exact rfl) | assumption) ?_) | fail) | fail)) | (with_reducible (apply gd_store; first | (refine st_own (by (repeat (first | apply Put.here | apply Put.there | apply Put.app))) (by simp only [eng_sm, eng_core, Nat.reduceAdd, Nat.reduceLeDiff] <;> with_reducible assumption) (by simp only [eng_sm, eng_core, Nat.reduceAdd, Nat.reduceLeDiff] <;> first | with_reducible assumption | omega) ?_) | fail)) | (with_reducible (apply gd_bi; first | (refine bi_len (by kernel_rfl) ?_) | (refine bi_lens (by kernel_rfl) ?_) | fail)) | (with_reducible (apply gd_eq; first | (refine eq_ptr_nil (by kernel_rfl) ?_) | (refine neq_ptr_nil (by kernel_rfl) ?_) | (refine eq_iface_nil (by kernel_rfl) rfl ?_) | (refine neq_iface_nil (by kernel_rfl) rfl ?_) | fail)) | (with_reducible (apply gd_call; first | ((refine ca_of (l1) (by (repeat (first | apply Takes.nil | (apply Takes.cons; (· (repeat (first | apply Take.here | apply Take.there | apply Take.app)))) | (apply Takes.app; (· ((repeat ((fail_if_success (first | apply TakeL.here | apply TakeL.all | apply TakeL.hd)); (first | apply TakeL.cons | apply TakeL.app))); (first | apply TakeL.here | apply TakeL.all | apply TakeL.hd)))) | (apply Takes.lst; (· ((repeat ((fail_if_success (first | apply TakeL.here | apply TakeL.all | apply TakeL.hd)); (first | apply TakeL.cons | apply TakeL.app))); (first | apply TakeL.here | apply TakeL.all | apply TakeL.hd)))) | fail))) ?_); rintro _ _ _ ⟨rfl, rfl, Lh2, rfl, hp2⟩) | ((refine ca_of (l2) (by (repeat (first | apply Takes.nil | (apply Takes.cons; (· (repeat (first | apply Take.here | apply Take.there | apply Take.app)))) | (apply Takes.app; (· ((repeat ((fail_if_success (first | apply TakeL.here | apply TakeL.all | apply TakeL.hd)); (first | apply TakeL.cons | apply TakeL.app))); (first | apply TakeL.here | apply TakeL.all | apply TakeL.hd)))) | (apply Takes.lst; (· ((repeat ((fail_if_success (first | apply TakeL.here | apply TakeL.all | apply TakeL.hd)); (first | apply TakeL.cons | apply TakeL.app))); (first | apply TakeL.here | apply TakeL.all | apply TakeL.hd)))) | fail))) ?_); rintro _ _ _ ⟨rfl, rfl, Lr2, rfl, hr2⟩) | fail)) | (with_reducible (apply gd_cond; first | (refine cond_if (fun h => ?_) (fun h => ?_)) | (refine cond_nif (fun h => ?_) (fun h => ?_)) | (refine cond_nsplit (fun h => ?_) (fun h => ?_)) | (refine cond_split (fun h => ?_) (fun h => ?_)))) | fail)
    exact next_of (i + 1) (by (first | (simp (maxSteps := 1000000) (disch := omega) only [↓eng_pre, eng_post, ↓Fa.all_pc, Fa.all_fa, eng_core, Nat.reduceBEq, ne_eq, reduceIte, Nat.reduceEqDiff, Nat.reduceAdd, Nat.reduceMul, Nat.reduceLT, Nat.reduceSub, Int.reduceLT, Int.reduceLE, Int.reduceEq, Int.reduceAdd, Int.reduceSub, Int.reduceMul, Int.reduceNeg, Int.reduceToNat, *]; done) | (simp (maxSteps := 1000000) (disch := omega) only [↓eng_pre, eng_post, ↓Fa.all_pc, Fa.all_fa, eng_core, Nat.reduceBEq, ne_eq, reduceIte, Nat.reduceEqDiff, Nat.reduceAdd, Nat.reduceMul, Nat.reduceLT, Nat.reduceSub, Int.reduceLT, Int.reduceLE, Int.reduceEq, Int.reduceAdd, Int.reduceSub, Int.reduceMul, Int.reduceNeg, Int.reduceToNat, *, Value.int.injEq, true_and, and_true, Int.natCast_add, Int.natCast_one, Int.natCast_zero, Int.add_zero]; done) | (simp (maxSteps := 1000000) (disch := omega) only [↓eng_pre, eng_post, ↓Fa.all_pc, Fa.all_fa, eng_core, Nat.reduceBEq, ne_eq, reduceIte, Nat.reduceEqDiff, Nat.reduceAdd, Nat.reduceMul, Nat.reduceLT, Nat.reduceSub, Int.reduceLT, Int.reduceLE, Int.reduceEq, Int.reduceAdd, Int.reduceSub, Int.reduceMul, Int.reduceNeg, Int.reduceToNat, *, Value.int.injEq, true_and, and_true]; omega) | (simp (maxSteps := 1000000) (disch := omega) only [↓eng_pre, eng_post, ↓Fa.all_pc, Fa.all_fa, eng_core, Nat.reduceBEq, ne_eq, reduceIte, Nat.reduceEqDiff, Nat.reduceAdd, Nat.reduceMul, Nat.reduceLT, Nat.reduceSub, Int.reduceLT, Int.reduceLE, Int.reduceEq, Int.reduceAdd, Int.reduceSub, Int.reduceMul, Int.reduceNeg, Int.reduceToNat, *, Value.int.injEq, true_and, and_true]; exact rfl))) (end_takeR ⟨rfl, by omega, _, _, rfl, hs2.symm ▸ hp2, hs2.symm ▸ hr2⟩ (by (repeat (first | apply Takes.nil | (apply Takes.cons; (· (repeat (first | apply Take.here | apply Take.there | apply Take.app)))) | (apply Takes.app; (· ((repeat ((fail_if_success (first | apply TakeL.here | apply TakeL.all | apply TakeL.hd)); (first | apply TakeL.cons | apply TakeL.app))); (first | apply TakeL.here | apply TakeL.all | apply TakeL.hd)))) | (apply Takes.lst; (· ((repeat ((fail_if_success (first | apply TakeL.here | apply TakeL.all | apply TakeL.hd)); (first | apply TakeL.cons | apply TakeL.app))); (first | apply TakeL.here | apply TakeL.all | apply TakeL.hd)))) | fail)))) (by omega)
  · have hlt' : ¬ (i : Int) < xs.length := by omega
    have hie : i = xs.length := by omega
    subst hie
    rw [List.take_length] at hp hr
    clear hsl hok hlen
    repeat' (first | simp (maxSteps := 1000000) (disch := omega) only [↓Fc.x11_0, ↓Fc.x11_1, ↓eng_pre, eng_post, ↓Fa.all_pc, Fa.all_fa, eng_core, Nat.reduceBEq, ne_eq, reduceIte, Nat.reduceEqDiff, Nat.reduceAdd, Nat.reduceMul, Nat.reduceLT, Nat.reduceSub, Int.reduceLT, Int.reduceLE, Int.reduceEq, Int.reduceAdd, Int.reduceSub, Int.reduceMul, Int.reduceNeg, Int.reduceToNat, e4, e5, e12, e13, e14, hlt', Int.toNat_natCast] | (with_reducible (apply gd_new; first | (refine newA_of (fun _ => ?_)) | fail)) | (with_reducible (apply gd_load; first | (refine ld_by (by (first | (apply at_own; (· (repeat (first | apply Take.here | apply Take.there | apply Take.app)))) | (apply at_mem; assumption) | (apply At.up; assumption) | assumption)) ?_; first | (refine lb_one (by first | with_reducible rfl | (simp only [get_l, List.getElem?_cons_zero, List.getElem?_cons_succ, Option.some.injEq]; exact rfl) | assumption) ?_) | (refine lb_agg (by first | (simp only [subL_succ, subL_zero, get_l, List.getElem?_cons_zero, List.getElem?_cons_succ, consO_some, Nat.reduceAdd]; exact rfl) | assumption) ?_) | fail) | fail)) | (with_reducible (apply gd_store; first | (refine st_own (by (repeat (first | apply Put.here | apply Put.there | apply Put.app))) (by simp only [eng_sm, eng_core, Nat.reduceAdd, Nat.reduceLeDiff] <;> with_reducible assumption) (by simp only [eng_sm, eng_core, Nat.reduceAdd, Nat.reduceLeDiff] <;> first | with_reducible assumption | omega) ?_) | fail)) | (with_reducible (apply gd_bi; first | (refine bi_len (by kernel_rfl) ?_) | (refine bi_lens (by kernel_rfl) ?_) | fail)) | (with_reducible (apply gd_eq; first | (refine eq_ptr_nil (by kernel_rfl) ?_) | (refine neq_ptr_nil (by kernel_rfl) ?_) | (refine eq_iface_nil (by kernel_rfl) rfl ?_) | (refine neq_iface_nil (by kernel_rfl) rfl ?_) | fail)) | (with_reducible (apply gd_cond; first | (refine cond_if (fun h => ?_) (fun h => ?_)) | (refine cond_nif (fun h => ?_) (fun h => ?_)) | (refine cond_nsplit (fun h => ?_) (fun h => ?_)) | (refine cond_split (fun h => ?_) (fun h => ?_)))) | fail)
    exact end_here ⟨rfl, _, _, _, _, rfl, rfl, hp, hr⟩
end
end Go.Proofs.YtkcacgjbofabfaaDoor
namespace Go.Heap
open Go Go.Eng Go.Proofs.YtkcacgjbofabfaaDoor
theorem sum_mem {α : Type} {f : α → Nat} {xs : List α} {y : α} (h : y ∈ xs) : f y ≤ (xs.map f).sum := by
  induction xs with
  | nil => cases h
  | cons a l ih =>
    rcases List.mem_cons.1 h with rfl | h
    · simp
    · have := ih h; simp only [List.map_cons, List.sum_cons]; omega
theorem wt_laid (xs : List ObjT) : wt (laidF xs) [] = sumO xs := by
  unfold wt sumO
  rw [laidF_objs]
  have : ∀ (l : List ObjT) (i : Nat), (((l.map fun o => (recO o.1, o.2.xs)).zipIdx i).map fun p => if (p.2 : Int) ∈ ([] : List Int) then 0 else 1 + p.1.2.length).sum = (l.map fun o => o.2.xs.length + 1).sum := by
    intro l
    induction l with
    | nil => intro i; rfl
    | cons a l ih =>
      intro i
      rw [List.map_cons, List.zipIdx_cons, List.map_cons, List.map_cons, List.sum_cons, List.sum_cons, ih]
      simp; omega
  exact this xs 0
theorem r64 {a : Int} (h : (Lit.int .i64 a).wf = true) : -9223372036854775808 ≤ a ∧ a ≤ 9223372036854775807 := by
  simp [Lit.wf, IntKind.min, IntKind.max, IntKind.bits, IntKind.signed] at h
  omega
/-- What a row says of things. -/
structure ObjsOk (m : Mem) (p : Option Addr) (c : Nat) (xs : List ObjT) : Prop where
  hl : xs.length ≤ 1048576
  hlen : ∀ y ∈ xs, (opObj.enc y).length = 2
  hok : ∀ a ∈ xs, ObjOk m a
  hsl : SlAt m [] (.slice p xs.length c) xs.length 2 (xs.flatMap opObj.enc)
  hs : sumO xs ≤ 1048576
theorem ObjsOk.le {m m' : Mem} {p : Option Addr} {c : Nat} {xs : List ObjT} (h : ObjsOk m p c xs) (hm : m.Le m') : ObjsOk m' p c xs :=
  ⟨h.hl, h.hlen, fun a ha => (h.hok a ha).le hm, h.hsl.le hm, h.hs⟩
theorem objs_open {m : Mem} {a : Sl ObjT} (ok : SlOk 2 opObj m a) (hw : (opSl 2 opObj).wt a ≤ 1048576) : ∃ p c, a.v = .slice p a.xs.length c ∧ ObjsOk m p c a.xs := by
  obtain ⟨p, c, hv, _⟩ := ok.cap
  have hw1 : (a.xs.map opObj.wt).sum + 1 ≤ 1048576 := hw
  have hwo : ∀ o : ObjT, opObj.wt o = 1 + ((o.2.xs.map opV.wt).sum + 1) := fun o => rfl
  have hwv : ∀ l : List V, (l.map opV.wt).sum = l.length * 2 := by
    intro l
    induction l with
    | nil => rfl
    | cons b l ih => rw [List.map_cons, List.sum_cons, ih, List.length_cons]; show 2 + _ = _; omega
  have hso : sumO a.xs ≤ (a.xs.map opObj.wt).sum := by
    unfold sumO
    exact sum_le_of fun o _ => by rw [hwo, hwv]; omega
  have hll : ∀ l : List ObjT, l.length ≤ sumO l := by
    intro l
    induction l with
    | nil => exact Nat.zero_le _
    | cons b l ih => unfold sumO at ih ⊢; rw [List.map_cons, List.sum_cons, List.length_cons]; omega
  refine ⟨p, c, hv, by have := hll a.xs; omega, ok.len, fun o ho => ?_, hv ▸ ok.at_, by omega⟩
  obtain ⟨p2, c2, hv2, hc2, _⟩ := (ok.each o ho).2.cap
  have h1 := sum_mem (f := opObj.wt) ho
  rw [hwo, hwv] at h1
  refine ⟨p2, c2, by show [.int .i64 o.1] ++ [o.2.v] = _; rw [hv2]; rfl, hc2, hv2 ▸ (ok.each o ho).2.at_, by omega⟩
theorem vals_open {m : Mem} {a : Sl V} (ok : SlOk 2 opV m a) (hw : (opSl 2 opV).wt a ≤ 1048576) : ∃ p c, a.v = .slice p a.xs.length c ∧ a.xs.length ≤ c ∧ SlAt m [] (.slice p a.xs.length c) a.xs.length 2 (encs a.xs) ∧ a.xs.length ≤ 1048576 := by
  obtain ⟨p, c, hv, hc, _⟩ := ok.cap
  have hw1 : (a.xs.map opV.wt).sum + 1 ≤ 1048576 := hw
  have hwv : ∀ l : List V, (l.map opV.wt).sum = l.length * 2 := by
    intro l
    induction l with
    | nil => rfl
    | cons b l ih => rw [List.map_cons, List.sum_cons, ih, List.length_cons]; show 2 + _ = _; omega
  rw [hwv] at hw1
  exact ⟨p, c, hv, hc, hv ▸ ok.at_, by omega⟩
end Go.Heap
