/- Layer 16: the operations' rows: the program's. -/
import Derived.Test.YthfbfigdgjhhaaaQMem
set_option linter.unusedSimpArgs false
set_option linter.unusedVariables false
set_option maxRecDepth 20000
set_option linter.all false
-- @FC
namespace Go.Proofs.Ythfbfigdgjhhaaa
open Go Go.Eng Go.Tr
theorem setL_all : ∀ (vs l : List Value) (pre : List Value), l.length = vs.length → setL (pre ++ l) pre.length vs = pre ++ vs
  | [], l, pre, h => by
    have : l = [] := List.eq_nil_of_length_eq_zero h
    subst this; rfl
  | v :: vs, [], pre, h => by simp at h
  | v :: vs, a :: l, pre, h => by
    rw [setL_cons]
    have := setL_all vs l (pre ++ [v]) (by simpa using h)
    rw [List.length_append, List.append_assoc, List.append_assoc] at this
    rw [List.set_append_right _ _ (Nat.le_refl _), Nat.sub_self]
    exact this
theorem setL_z {l vs : List Value} (h : l.length = vs.length) : setL l 0 vs = vs := setL_all vs l [] h
theorem subL_all : ∀ (l pre : List Value), subL (pre ++ l).toArray pre.length l.length = some l
  | [], pre => by unfold subL; rfl
  | a :: l, pre => by
    rw [List.length_cons, subL_succ]
    have h1 : (pre ++ a :: l).toArray[pre.length]? = some a := by simp
    have h2 := subL_all l (pre ++ [a])
    rw [List.append_assoc, List.length_append] at h2
    rw [h1, show subL (pre ++ a :: l).toArray (pre.length + 1) l.length = some l from h2, consO_some]
theorem subL_z (l : List Value) : subL l.toArray 0 l.length = some l := subL_all l []
set_option maxHeartbeats 0 in
theorem rows_ct : Pur Try.prog 46 [] (· = .agg rowsL.toArray) := by
  intro m; refine cta_of_T (c := Fc.k46_0) Try.func46 rfl rfl (by kernel_rfl) (by kernel_rfl) ?_
  repeat' (first | simp (maxSteps := 1000000) (disch := omega) only [↓Fc.x46_0, ↓eng_pre, eng_post, ↓Fa.all_pc, Fa.all_fa, eng_core, Nat.reduceBEq, ne_eq, reduceIte, Nat.reduceEqDiff, Nat.reduceAdd, Nat.reduceMul, Nat.reduceLT, Nat.reduceSub, Int.reduceLT, Int.reduceLE, Int.reduceEq, Int.reduceAdd, Int.reduceSub, Int.reduceMul, Int.reduceNeg, Int.reduceToNat, *] | (with_reducible (apply gd_new; first | (refine newA_of (fun _ => ?_)) | fail)) | (with_reducible (apply gd_rload; first | (refine rl_by (by (first | (apply at_own; (· (repeat (first | apply Take.here | apply Take.there | apply Take.app)))) | (apply at_mem; assumption) | (apply At.up; assumption) | assumption)) ?_; first | (refine rb_one (by first | with_reducible rfl | (simp only [get_l, List.getElem?_cons_zero, List.getElem?_cons_succ, Option.some.injEq]; exact rfl) | assumption) ?_) | (refine rb_agg (by first | (simp only [subL_succ, subL_zero, get_l, List.getElem?_cons_zero, List.getElem?_cons_succ, consO_some, Nat.reduceAdd]; exact rfl) | assumption) ?_) | fail) | fail)) | (with_reducible (apply gd_store; first | (refine st_own (by (repeat (first | apply Put.here | apply Put.there | apply Put.app))) (by simp only [eng_sm, eng_core, Nat.reduceAdd, Nat.reduceLeDiff] <;> with_reducible assumption) (by simp only [eng_sm, eng_core, Nat.reduceAdd, Nat.reduceLeDiff] <;> first | with_reducible assumption | omega) ?_) | fail)) | fail)
  rw [buildA_eq (cs := rowsL.toArray) (by kernel_rfl)]
  have hlen : rowsL.length = 252 := by decide +kernel
  have hone : oneAll rowsL = true := by decide +kernel
  have hsub := subL_z rowsL
  rw [hlen] at hsub
  generalize rowsL = R at *
  repeat' (first | simp (maxSteps := 1000000) (disch := omega) only [↓Fc.x46_0, ↓eng_pre, eng_post, ↓Fa.all_pc, Fa.all_fa, eng_core, Nat.reduceBEq, ne_eq, reduceIte, Nat.reduceEqDiff, Nat.reduceAdd, Nat.reduceMul, Nat.reduceLT, Nat.reduceSub, Int.reduceLT, Int.reduceLE, Int.reduceEq, Int.reduceAdd, Int.reduceSub, Int.reduceMul, Int.reduceNeg, Int.reduceToNat, hlen] | (with_reducible (apply gd_new; first | (refine newA_of (fun _ => ?_)) | fail)) | (with_reducible (apply gd_rload; first | (refine rl_by (by (first | (apply at_own; (· (repeat (first | apply Take.here | apply Take.there | apply Take.app)))) | (apply at_mem; assumption) | (apply At.up; assumption) | assumption)) ?_; first | (refine rb_one (by first | with_reducible rfl | (simp only [get_l, List.getElem?_cons_zero, List.getElem?_cons_succ, Option.some.injEq]; exact rfl) | assumption) ?_) | (refine rb_agg (by first | (simp only [subL_succ, subL_zero, get_l, List.getElem?_cons_zero, List.getElem?_cons_succ, consO_some, Nat.reduceAdd]; exact rfl) | assumption) ?_) | fail) | fail)) | (with_reducible (apply gd_store; first | (refine st_own (by (repeat (first | apply Put.here | apply Put.there | apply Put.app))) (by simp only [eng_sm, eng_core, Nat.reduceAdd, Nat.reduceLeDiff] <;> with_reducible assumption) (by simp only [eng_sm, eng_core, Nat.reduceAdd, Nat.reduceLeDiff] <;> first | with_reducible assumption | omega) ?_) | fail)) | fail)
  rw [setL_z (by rw [hlen]; rfl)]
  repeat' (first | simp (maxSteps := 1000000) (disch := omega) only [↓Fc.x46_0, ↓eng_pre, eng_post, ↓Fa.all_pc, Fa.all_fa, eng_core, Nat.reduceBEq, ne_eq, reduceIte, Nat.reduceEqDiff, Nat.reduceAdd, Nat.reduceMul, Nat.reduceLT, Nat.reduceSub, Int.reduceLT, Int.reduceLE, Int.reduceEq, Int.reduceAdd, Int.reduceSub, Int.reduceMul, Int.reduceNeg, Int.reduceToNat, hlen, hsub] | (with_reducible (apply gd_new; first | (refine newA_of (fun _ => ?_)) | fail)) | (with_reducible (apply gd_rload; first | (refine rl_by (by (first | (apply at_own; (· (repeat (first | apply Take.here | apply Take.there | apply Take.app)))) | (apply at_mem; assumption) | (apply At.up; assumption) | assumption)) ?_; first | (refine rb_one (by first | with_reducible rfl | (simp only [get_l, List.getElem?_cons_zero, List.getElem?_cons_succ, Option.some.injEq]; exact rfl) | assumption) ?_) | (refine rb_agg (by first | (simp only [subL_succ, subL_zero, get_l, List.getElem?_cons_zero, List.getElem?_cons_succ, consO_some, Nat.reduceAdd]; exact rfl) | assumption) ?_) | fail) | fail)) | (with_reducible (apply gd_store; first | (refine st_own (by (repeat (first | apply Put.here | apply Put.there | apply Put.app))) (by simp only [eng_sm, eng_core, Nat.reduceAdd, Nat.reduceLeDiff] <;> with_reducible assumption) (by simp only [eng_sm, eng_core, Nat.reduceAdd, Nat.reduceLeDiff] <;> first | with_reducible assumption | omega) ?_) | fail)) | fail)
  exact end_drop (end_here ⟨rfl, rfl⟩)
theorem rows_len : ∀ (l : List Row), (l.flatMap rowC).length = l.length * 7
  | [] => rfl
  | r :: l => by rw [List.flatMap_cons, List.length_append, rows_len l, List.length_cons]; show 7 + _ = _; omega
theorem rows_at {l : List Row} {k : Nat} {r : Row} (h : l[k]? = some r) : subL (l.flatMap rowC).toArray (k * 7) 7 = some (rowC r) ∧ ∀ j x, (rowC r)[j]? = some x → (l.flatMap rowC).toArray[k * 7 + j]? = some x := by
  have key : ∀ j x, (rowC r)[j]? = some x → (l.flatMap rowC)[k * 7 + j]? = some x := by
    induction l generalizing k with
    | nil => simp at h
    | cons a l ih =>
      intro j x hx
      have hj : j < 7 := (List.getElem?_eq_some_iff.1 hx).1
      have ha : (rowC a).length = 7 := rfl
      rw [List.flatMap_cons]
      cases k with
      | zero =>
        simp at h
        subst h
        rw [List.getElem?_append_left (by omega)]
        simpa using hx
      | succ k =>
        rw [List.getElem?_append_right (by omega), ha]
        have := ih (by simpa using h) j x hx
        rw [← this]; congr 1; omega
  refine ⟨?_, fun j x hx => by rw [List.getElem?_toArray]; exact key j x hx⟩
  simp only [subL_succ, subL_zero, List.getElem?_toArray]
  have h0 := key 0 _ rfl; have h1 := key 1 _ rfl; have h2 := key 2 _ rfl; have h3 := key 3 _ rfl; have h4 := key 4 _ rfl; have h5 := key 5 _ rfl; have h6 := key 6 _ rfl
  rw [Nat.add_zero] at h0
  simp only [Nat.add_assoc, Nat.reduceAdd, h0, h1, h2, h3, h4, h5, h6, consO_some]
  rfl
abbrev rowV (r : Row) : Value := .agg #[.string r.name, .int .i64 r.args, .bool r.k, .bool r.c, .bool r.makes, .bool r.may, .bool r.is]
set_option maxHeartbeats 0 in
theorem of_ct (op : Int) : Pur Try.prog 22 [.int .i64 op] (· = rowV (ofF op)) := by
  have rc := rows_ct
  have hlen : rowsL.length = 252 := by decide +kernel
  have hone : oneAll rowsL = true := by decide +kernel
  have hl : rowT.length = 36 := rfl
  by_cases h0 : op < 0
  · have hf : ofF op = row0 := by unfold ofF; rw [if_neg (by omega)]
    rw [hf]
    generalize rowsL = R at *
    intro m; refine cta_of_T (c := Fc.k22_0) Try.func22 rfl rfl (by kernel_rfl) (by kernel_rfl) ?_
    repeat' (first | simp (maxSteps := 1000000) (disch := omega) only [↓Fc.x22_0, ↓eng_pre, eng_post, ↓Fa.all_pc, Fa.all_fa, eng_core, Nat.reduceBEq, ne_eq, reduceIte, Nat.reduceEqDiff, Nat.reduceAdd, Nat.reduceMul, Nat.reduceLT, Nat.reduceSub, Int.reduceLT, Int.reduceLE, Int.reduceEq, Int.reduceAdd, Int.reduceSub, Int.reduceMul, Int.reduceNeg, Int.reduceToNat, hlen, h0] | (with_reducible (apply gd_new; first | (refine newA_of (fun _ => ?_)) | fail)) | (with_reducible (apply gd_load; first | (refine ld_by (by (first | (apply at_own; (· (repeat (first | apply Take.here | apply Take.there | apply Take.app)))) | (apply at_mem; assumption) | (apply At.up; assumption) | assumption)) ?_; first | (refine lb_one (by first | with_reducible rfl | (simp only [get_l, List.getElem?_cons_zero, List.getElem?_cons_succ, Option.some.injEq]; exact rfl) | assumption) ?_) | (refine lb_agg (by first | (simp only [subL_succ, subL_zero, get_l, List.getElem?_cons_zero, List.getElem?_cons_succ, consO_some, Nat.reduceAdd]; exact rfl) | assumption) ?_) | fail) | fail)) | (with_reducible (apply gd_rload; first | (refine rl_by (by (first | (apply at_own; (· (repeat (first | apply Take.here | apply Take.there | apply Take.app)))) | (apply at_mem; assumption) | (apply At.up; assumption) | assumption)) ?_; first | (refine rb_one (by first | with_reducible rfl | (simp only [get_l, List.getElem?_cons_zero, List.getElem?_cons_succ, Option.some.injEq]; exact rfl) | assumption) ?_) | (refine rb_agg (by first | (simp only [subL_succ, subL_zero, get_l, List.getElem?_cons_zero, List.getElem?_cons_succ, consO_some, Nat.reduceAdd]; exact rfl) | assumption) ?_) | fail) | fail)) | (with_reducible (apply gd_store; first | (refine st_own (by (repeat (first | apply Put.here | apply Put.there | apply Put.app))) (by simp only [eng_sm, eng_core, Nat.reduceAdd, Nat.reduceLeDiff] <;> with_reducible assumption) (by simp only [eng_sm, eng_core, Nat.reduceAdd, Nat.reduceLeDiff] <;> first | with_reducible assumption | omega) ?_) | fail)) | (with_reducible (apply gd_call; first | ((refine pur_of (rc) ?_); rintro _ rfl) | fail)) | (with_reducible (apply gd_cond; first | (refine cond_if (fun h => ?_) (fun h => ?_)) | (refine cond_nif (fun h => ?_) (fun h => ?_)) | (refine cond_nsplit (fun h => ?_) (fun h => ?_)) | (refine cond_split (fun h => ?_) (fun h => ?_)))) | (with_reducible (apply gd_guard; first | (refine guard_t (fun h => ?_) (fun h => ?_)) | (refine guard_f (fun h => ?_) (fun h => ?_)) | (refine guard_split (fun h => ?_) (fun h => ?_)))) | fail)
    exact end_drop (end_drop (end_here ⟨rfl, rfl, rfl⟩))
  by_cases h1 : 36 ≤ op
  · have hf : ofF op = row0 := by
      unfold ofF; rw [if_pos (by omega)]
      have : rowT[op.toNat]? = none := List.getElem?_eq_none (by omega)
      rw [this]
    rw [hf]
    generalize rowsL = R at *
    intro m; refine cta_of_T (c := Fc.k22_0) Try.func22 rfl rfl (by kernel_rfl) (by kernel_rfl) ?_
    repeat' (first | simp (maxSteps := 1000000) (disch := omega) only [↓Fc.x22_0, ↓eng_pre, eng_post, ↓Fa.all_pc, Fa.all_fa, eng_core, Nat.reduceBEq, ne_eq, reduceIte, Nat.reduceEqDiff, Nat.reduceAdd, Nat.reduceMul, Nat.reduceLT, Nat.reduceSub, Int.reduceLT, Int.reduceLE, Int.reduceEq, Int.reduceAdd, Int.reduceSub, Int.reduceMul, Int.reduceNeg, Int.reduceToNat, hlen, h0, h1] | (with_reducible (apply gd_new; first | (refine newA_of (fun _ => ?_)) | fail)) | (with_reducible (apply gd_load; first | (refine ld_by (by (first | (apply at_own; (· (repeat (first | apply Take.here | apply Take.there | apply Take.app)))) | (apply at_mem; assumption) | (apply At.up; assumption) | assumption)) ?_; first | (refine lb_one (by first | with_reducible rfl | (simp only [get_l, List.getElem?_cons_zero, List.getElem?_cons_succ, Option.some.injEq]; exact rfl) | assumption) ?_) | (refine lb_agg (by first | (simp only [subL_succ, subL_zero, get_l, List.getElem?_cons_zero, List.getElem?_cons_succ, consO_some, Nat.reduceAdd]; exact rfl) | assumption) ?_) | fail) | fail)) | (with_reducible (apply gd_rload; first | (refine rl_by (by (first | (apply at_own; (· (repeat (first | apply Take.here | apply Take.there | apply Take.app)))) | (apply at_mem; assumption) | (apply At.up; assumption) | assumption)) ?_; first | (refine rb_one (by first | with_reducible rfl | (simp only [get_l, List.getElem?_cons_zero, List.getElem?_cons_succ, Option.some.injEq]; exact rfl) | assumption) ?_) | (refine rb_agg (by first | (simp only [subL_succ, subL_zero, get_l, List.getElem?_cons_zero, List.getElem?_cons_succ, consO_some, Nat.reduceAdd]; exact rfl) | assumption) ?_) | fail) | fail)) | (with_reducible (apply gd_store; first | (refine st_own (by (repeat (first | apply Put.here | apply Put.there | apply Put.app))) (by simp only [eng_sm, eng_core, Nat.reduceAdd, Nat.reduceLeDiff] <;> with_reducible assumption) (by simp only [eng_sm, eng_core, Nat.reduceAdd, Nat.reduceLeDiff] <;> first | with_reducible assumption | omega) ?_) | fail)) | (with_reducible (apply gd_call; first | ((refine pur_of (rc) ?_); rintro _ rfl) | fail)) | (with_reducible (apply gd_cond; first | (refine cond_if (fun h => ?_) (fun h => ?_)) | (refine cond_nif (fun h => ?_) (fun h => ?_)) | (refine cond_nsplit (fun h => ?_) (fun h => ?_)) | (refine cond_split (fun h => ?_) (fun h => ?_)))) | (with_reducible (apply gd_guard; first | (refine guard_t (fun h => ?_) (fun h => ?_)) | (refine guard_f (fun h => ?_) (fun h => ?_)) | (refine guard_split (fun h => ?_) (fun h => ?_)))) | fail)
    exact end_drop (end_drop (end_here ⟨rfl, rfl, rfl⟩))
  obtain ⟨k, rfl⟩ : ∃ k : Nat, op = k := ⟨op.toNat, by omega⟩
  obtain ⟨r, hr⟩ : ∃ r, rowT[k]? = some r := ⟨_, List.getElem?_eq_getElem (by omega)⟩
  obtain ⟨hs, hg⟩ := rows_at hr
  have h6 := hg 6 _ rfl
  change subL rowsL.toArray (k * 7) 7 = some (rowC r) at hs
  change rowsL.toArray[k * 7 + 6]? = some (.bool r.is) at h6
  have hk0 : (0 : Int) ≤ k := by omega
  have hk1 : (k : Int) < 36 := by omega
  have hk2 : ¬ (36 : Int) ≤ k := by omega
  have hf : ofF (k : Int) = if r.is then r else row0 := by unfold ofF; rw [if_pos (by omega), Int.toNat_natCast, hr]
  rw [hf]
  unfold rowC at hs
  clear hr hg hf
  generalize rowsL = R at *
  obtain ⟨name, args, rk, rcc, mk, my, is⟩ := r
  dsimp only at hs h6 ⊢
  cases is with
  | true =>
    rw [if_pos rfl]
    intro m; refine cta_of_T (c := Fc.k22_0) Try.func22 rfl rfl (by kernel_rfl) (by kernel_rfl) ?_
    repeat' (first | simp (maxSteps := 1000000) (disch := omega) only [↓Fc.x22_0, ↓eng_pre, eng_post, ↓Fa.all_pc, Fa.all_fa, eng_core, Nat.reduceBEq, ne_eq, reduceIte, Nat.reduceEqDiff, Nat.reduceAdd, Nat.reduceMul, Nat.reduceLT, Nat.reduceSub, Int.reduceLT, Int.reduceLE, Int.reduceEq, Int.reduceAdd, Int.reduceSub, Int.reduceMul, Int.reduceNeg, Int.reduceToNat, hlen, h0, hk0, hk1, hk2, Int.toNat_natCast] | (with_reducible (apply gd_new; first | (refine newA_of (fun _ => ?_)) | fail)) | (with_reducible (apply gd_load; first | (refine ld_by (by (first | (apply at_own; (· (repeat (first | apply Take.here | apply Take.there | apply Take.app)))) | (apply at_mem; assumption) | (apply At.up; assumption) | assumption)) ?_; first | (refine lb_one (by first | with_reducible rfl | (simp only [get_l, List.getElem?_cons_zero, List.getElem?_cons_succ, Option.some.injEq]; exact rfl) | assumption) ?_) | (refine lb_agg (by first | (simp only [subL_succ, subL_zero, get_l, List.getElem?_cons_zero, List.getElem?_cons_succ, consO_some, Nat.reduceAdd]; exact rfl) | assumption) ?_) | fail) | fail)) | (with_reducible (apply gd_rload; first | (refine rl_by (by (first | (apply at_own; (· (repeat (first | apply Take.here | apply Take.there | apply Take.app)))) | (apply at_mem; assumption) | (apply At.up; assumption) | assumption)) ?_; first | (refine rb_one (by first | with_reducible rfl | (simp only [get_l, List.getElem?_cons_zero, List.getElem?_cons_succ, Option.some.injEq]; exact rfl) | assumption) ?_) | (refine rb_agg (by first | (simp only [subL_succ, subL_zero, get_l, List.getElem?_cons_zero, List.getElem?_cons_succ, consO_some, Nat.reduceAdd]; exact rfl) | assumption) ?_) | fail) | fail)) | (with_reducible (apply gd_store; first | (refine st_own (by (repeat (first | apply Put.here | apply Put.there | apply Put.app))) (by simp only [eng_sm, eng_core, Nat.reduceAdd, Nat.reduceLeDiff] <;> with_reducible assumption) (by simp only [eng_sm, eng_core, Nat.reduceAdd, Nat.reduceLeDiff] <;> first | with_reducible assumption | omega) ?_) | fail)) | (with_reducible (apply gd_call; first | ((refine pur_of (rc) ?_); rintro _ rfl) | fail)) | (with_reducible (apply gd_cond; first | (refine cond_if (fun h => ?_) (fun h => ?_)) | (refine cond_nif (fun h => ?_) (fun h => ?_)) | (refine cond_nsplit (fun h => ?_) (fun h => ?_)) | (refine cond_split (fun h => ?_) (fun h => ?_)))) | (with_reducible (apply gd_guard; first | (refine guard_t (fun h => ?_) (fun h => ?_)) | (refine guard_f (fun h => ?_) (fun h => ?_)) | (refine guard_split (fun h => ?_) (fun h => ?_)))) | fail)
    rw [setL_z (by rw [hlen]; rfl)]
    repeat' (first | simp (maxSteps := 1000000) (disch := omega) only [↓Fc.x22_0, ↓eng_pre, eng_post, ↓Fa.all_pc, Fa.all_fa, eng_core, Nat.reduceBEq, ne_eq, reduceIte, Nat.reduceEqDiff, Nat.reduceAdd, Nat.reduceMul, Nat.reduceLT, Nat.reduceSub, Int.reduceLT, Int.reduceLE, Int.reduceEq, Int.reduceAdd, Int.reduceSub, Int.reduceMul, Int.reduceNeg, Int.reduceToNat, hlen, h0, hk0, hk1, hk2, h6, hs, Int.toNat_natCast] | (with_reducible (apply gd_new; first | (refine newA_of (fun _ => ?_)) | fail)) | (with_reducible (apply gd_load; first | (refine ld_by (by (first | (apply at_own; (· (repeat (first | apply Take.here | apply Take.there | apply Take.app)))) | (apply at_mem; assumption) | (apply At.up; assumption) | assumption)) ?_; first | (refine lb_one (by first | with_reducible rfl | (simp only [get_l, List.getElem?_cons_zero, List.getElem?_cons_succ, Option.some.injEq]; exact rfl) | assumption) ?_) | (refine lb_agg (by first | (simp only [subL_succ, subL_zero, get_l, List.getElem?_cons_zero, List.getElem?_cons_succ, consO_some, Nat.reduceAdd]; exact rfl) | assumption) ?_) | fail) | fail)) | (with_reducible (apply gd_rload; first | (refine rl_by (by (first | (apply at_own; (· (repeat (first | apply Take.here | apply Take.there | apply Take.app)))) | (apply at_mem; assumption) | (apply At.up; assumption) | assumption)) ?_; first | (refine rb_one (by first | with_reducible rfl | (simp only [get_l, List.getElem?_cons_zero, List.getElem?_cons_succ, Option.some.injEq]; exact rfl) | assumption) ?_) | (refine rb_agg (by first | (simp only [subL_succ, subL_zero, get_l, List.getElem?_cons_zero, List.getElem?_cons_succ, consO_some, Nat.reduceAdd]; exact rfl) | assumption) ?_) | fail) | fail)) | (with_reducible (apply gd_store; first | (refine st_own (by (repeat (first | apply Put.here | apply Put.there | apply Put.app))) (by simp only [eng_sm, eng_core, Nat.reduceAdd, Nat.reduceLeDiff] <;> with_reducible assumption) (by simp only [eng_sm, eng_core, Nat.reduceAdd, Nat.reduceLeDiff] <;> first | with_reducible assumption | omega) ?_) | fail)) | (with_reducible (apply gd_cond; first | (refine cond_if (fun h => ?_) (fun h => ?_)) | (refine cond_nif (fun h => ?_) (fun h => ?_)) | (refine cond_nsplit (fun h => ?_) (fun h => ?_)) | (refine cond_split (fun h => ?_) (fun h => ?_)))) | (with_reducible (apply gd_guard; first | (refine guard_t (fun h => ?_) (fun h => ?_)) | (refine guard_f (fun h => ?_) (fun h => ?_)) | (refine guard_split (fun h => ?_) (fun h => ?_)))) | fail)
    exact end_drop (end_drop (end_here ⟨rfl, rfl⟩))
  | false =>
    rw [if_neg (by simp)]
    intro m; refine cta_of_T (c := Fc.k22_0) Try.func22 rfl rfl (by kernel_rfl) (by kernel_rfl) ?_
    repeat' (first | simp (maxSteps := 1000000) (disch := omega) only [↓Fc.x22_0, ↓eng_pre, eng_post, ↓Fa.all_pc, Fa.all_fa, eng_core, Nat.reduceBEq, ne_eq, reduceIte, Nat.reduceEqDiff, Nat.reduceAdd, Nat.reduceMul, Nat.reduceLT, Nat.reduceSub, Int.reduceLT, Int.reduceLE, Int.reduceEq, Int.reduceAdd, Int.reduceSub, Int.reduceMul, Int.reduceNeg, Int.reduceToNat, hlen, h0, hk0, hk1, hk2, Int.toNat_natCast] | (with_reducible (apply gd_new; first | (refine newA_of (fun _ => ?_)) | fail)) | (with_reducible (apply gd_load; first | (refine ld_by (by (first | (apply at_own; (· (repeat (first | apply Take.here | apply Take.there | apply Take.app)))) | (apply at_mem; assumption) | (apply At.up; assumption) | assumption)) ?_; first | (refine lb_one (by first | with_reducible rfl | (simp only [get_l, List.getElem?_cons_zero, List.getElem?_cons_succ, Option.some.injEq]; exact rfl) | assumption) ?_) | (refine lb_agg (by first | (simp only [subL_succ, subL_zero, get_l, List.getElem?_cons_zero, List.getElem?_cons_succ, consO_some, Nat.reduceAdd]; exact rfl) | assumption) ?_) | fail) | fail)) | (with_reducible (apply gd_rload; first | (refine rl_by (by (first | (apply at_own; (· (repeat (first | apply Take.here | apply Take.there | apply Take.app)))) | (apply at_mem; assumption) | (apply At.up; assumption) | assumption)) ?_; first | (refine rb_one (by first | with_reducible rfl | (simp only [get_l, List.getElem?_cons_zero, List.getElem?_cons_succ, Option.some.injEq]; exact rfl) | assumption) ?_) | (refine rb_agg (by first | (simp only [subL_succ, subL_zero, get_l, List.getElem?_cons_zero, List.getElem?_cons_succ, consO_some, Nat.reduceAdd]; exact rfl) | assumption) ?_) | fail) | fail)) | (with_reducible (apply gd_store; first | (refine st_own (by (repeat (first | apply Put.here | apply Put.there | apply Put.app))) (by simp only [eng_sm, eng_core, Nat.reduceAdd, Nat.reduceLeDiff] <;> with_reducible assumption) (by simp only [eng_sm, eng_core, Nat.reduceAdd, Nat.reduceLeDiff] <;> first | with_reducible assumption | omega) ?_) | fail)) | (with_reducible (apply gd_call; first | ((refine pur_of (rc) ?_); rintro _ rfl) | fail)) | (with_reducible (apply gd_cond; first | (refine cond_if (fun h => ?_) (fun h => ?_)) | (refine cond_nif (fun h => ?_) (fun h => ?_)) | (refine cond_nsplit (fun h => ?_) (fun h => ?_)) | (refine cond_split (fun h => ?_) (fun h => ?_)))) | (with_reducible (apply gd_guard; first | (refine guard_t (fun h => ?_) (fun h => ?_)) | (refine guard_f (fun h => ?_) (fun h => ?_)) | (refine guard_split (fun h => ?_) (fun h => ?_)))) | fail)
    rw [setL_z (by rw [hlen]; rfl)]
    repeat' (first | simp (maxSteps := 1000000) (disch := omega) only [↓Fc.x22_0, ↓eng_pre, eng_post, ↓Fa.all_pc, Fa.all_fa, eng_core, Nat.reduceBEq, ne_eq, reduceIte, Nat.reduceEqDiff, Nat.reduceAdd, Nat.reduceMul, Nat.reduceLT, Nat.reduceSub, Int.reduceLT, Int.reduceLE, Int.reduceEq, Int.reduceAdd, Int.reduceSub, Int.reduceMul, Int.reduceNeg, Int.reduceToNat, hlen, h0, hk0, hk1, hk2, h6, hs, Int.toNat_natCast] | (with_reducible (apply gd_new; first | (refine newA_of (fun _ => ?_)) | fail)) | (with_reducible (apply gd_load; first | (refine ld_by (by (first | (apply at_own; (· (repeat (first | apply Take.here | apply Take.there | apply Take.app)))) | (apply at_mem; assumption) | (apply At.up; assumption) | assumption)) ?_; first | (refine lb_one (by first | with_reducible rfl | (simp only [get_l, List.getElem?_cons_zero, List.getElem?_cons_succ, Option.some.injEq]; exact rfl) | assumption) ?_) | (refine lb_agg (by first | (simp only [subL_succ, subL_zero, get_l, List.getElem?_cons_zero, List.getElem?_cons_succ, consO_some, Nat.reduceAdd]; exact rfl) | assumption) ?_) | fail) | fail)) | (with_reducible (apply gd_rload; first | (refine rl_by (by (first | (apply at_own; (· (repeat (first | apply Take.here | apply Take.there | apply Take.app)))) | (apply at_mem; assumption) | (apply At.up; assumption) | assumption)) ?_; first | (refine rb_one (by first | with_reducible rfl | (simp only [get_l, List.getElem?_cons_zero, List.getElem?_cons_succ, Option.some.injEq]; exact rfl) | assumption) ?_) | (refine rb_agg (by first | (simp only [subL_succ, subL_zero, get_l, List.getElem?_cons_zero, List.getElem?_cons_succ, consO_some, Nat.reduceAdd]; exact rfl) | assumption) ?_) | fail) | fail)) | (with_reducible (apply gd_store; first | (refine st_own (by (repeat (first | apply Put.here | apply Put.there | apply Put.app))) (by simp only [eng_sm, eng_core, Nat.reduceAdd, Nat.reduceLeDiff] <;> with_reducible assumption) (by simp only [eng_sm, eng_core, Nat.reduceAdd, Nat.reduceLeDiff] <;> first | with_reducible assumption | omega) ?_) | fail)) | (with_reducible (apply gd_cond; first | (refine cond_if (fun h => ?_) (fun h => ?_)) | (refine cond_nif (fun h => ?_) (fun h => ?_)) | (refine cond_nsplit (fun h => ?_) (fun h => ?_)) | (refine cond_split (fun h => ?_) (fun h => ?_)))) | (with_reducible (apply gd_guard; first | (refine guard_t (fun h => ?_) (fun h => ?_)) | (refine guard_f (fun h => ?_) (fun h => ?_)) | (refine guard_split (fun h => ?_) (fun h => ?_)))) | fail)
    exact end_drop (end_drop (end_here ⟨rfl, rfl, rfl⟩))
theorem makes_ct (op : Int) : Pur Try.prog 8 [.int .i64 op] (· = .bool (ofF op).makes) := by
  have oc := of_ct op
  generalize ofF op = r at *
  intro m; refine cta_of_T (c := Fc.k8_0) Try.func8 rfl rfl (by kernel_rfl) (by kernel_rfl) ?_
  repeat' (first | simp (maxSteps := 1000000) (disch := omega) only [↓Fc.x8_0, ↓eng_pre, eng_post, ↓Fa.all_pc, Fa.all_fa, eng_core, Nat.reduceBEq, ne_eq, reduceIte, Nat.reduceEqDiff, Nat.reduceAdd, Nat.reduceMul, Nat.reduceLT, Nat.reduceSub, Int.reduceLT, Int.reduceLE, Int.reduceEq, Int.reduceAdd, Int.reduceSub, Int.reduceMul, Int.reduceNeg, Int.reduceToNat, *] | (with_reducible (apply gd_call; first | ((refine pur_of (oc) ?_); rintro _ rfl) | fail)) | fail)
  exact end_here ⟨rfl, rfl⟩
theorem may_ct (op : Int) : Pur Try.prog 10 [.int .i64 op] (· = .bool (ofF op).may) := by
  have oc := of_ct op
  generalize ofF op = r at *
  intro m; refine cta_of_T (c := Fc.k10_0) Try.func10 rfl rfl (by kernel_rfl) (by kernel_rfl) ?_
  repeat' (first | simp (maxSteps := 1000000) (disch := omega) only [↓Fc.x10_0, ↓eng_pre, eng_post, ↓Fa.all_pc, Fa.all_fa, eng_core, Nat.reduceBEq, ne_eq, reduceIte, Nat.reduceEqDiff, Nat.reduceAdd, Nat.reduceMul, Nat.reduceLT, Nat.reduceSub, Int.reduceLT, Int.reduceLE, Int.reduceEq, Int.reduceAdd, Int.reduceSub, Int.reduceMul, Int.reduceNeg, Int.reduceToNat, *] | (with_reducible (apply gd_call; first | ((refine pur_of (oc) ?_); rintro _ rfl) | fail)) | fail)
  exact end_here ⟨rfl, rfl⟩
theorem args_ct (op : Int) : Pur Try.prog 12 [.int .i64 op] (· = .int .i64 (ofF op).args) := by
  have oc := of_ct op
  generalize ofF op = r at *
  intro m; refine cta_of_T (c := Fc.k12_0) Try.func12 rfl rfl (by kernel_rfl) (by kernel_rfl) ?_
  repeat' (first | simp (maxSteps := 1000000) (disch := omega) only [↓Fc.x12_0, ↓eng_pre, eng_post, ↓Fa.all_pc, Fa.all_fa, eng_core, Nat.reduceBEq, ne_eq, reduceIte, Nat.reduceEqDiff, Nat.reduceAdd, Nat.reduceMul, Nat.reduceLT, Nat.reduceSub, Int.reduceLT, Int.reduceLE, Int.reduceEq, Int.reduceAdd, Int.reduceSub, Int.reduceMul, Int.reduceNeg, Int.reduceToNat, *] | (with_reducible (apply gd_call; first | ((refine pur_of (oc) ?_); rintro _ rfl) | fail)) | fail)
  exact end_here ⟨rfl, rfl⟩
end Go.Proofs.Ythfbfigdgjhhaaa
