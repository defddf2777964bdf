/- Layer 16: slices.Reverse, of whole numbers; a link's chain. -/
import Derived.Test.YthfbfigdgjhhaaaQMem
set_option linter.unusedSimpArgs false
set_option linter.unusedVariables false
set_option maxRecDepth 20000
set_option linter.all false
-- @FC
namespace Go.Tr
open Go Go.Eng
theorem intsV_length (l : List Int) : (intsV l).length = l.length := by unfold intsV; rw [List.length_map]
theorem intsV_get (l : List Int) (i : Nat) : (intsV l)[i]? = (l[i]?).map fun n => .int .i64 n := by unfold intsV; rw [List.getElem?_map]
theorem intsV_set (t : List Int) (i : Nat) (x : Int) : (intsV t).set i (.int .i64 x) = intsV (t.set i x) := by unfold intsV; rw [List.map_set]
theorem intsV_app (a b : List Int) : intsV (a ++ b) = intsV a ++ intsV b := by unfold intsV; rw [List.map_append]
theorem set_app {l s : List Value} {i : Nat} {v : Value} (h : i < l.length) : (l ++ s).set i v = l.set i v ++ s := List.set_append_left _ _ h
theorem get_app {l s : List Value} {i : Nat} {v : Value} (h : l[i]? = some v) : (l ++ s).toArray[i]? = some v := by
  rw [List.getElem?_toArray, List.getElem?_append_left (List.getElem?_eq_some_iff.1 h).1]; exact h
/-- So much is turned round. -/
def TurnR (l ys : List Int) (i : Nat) : Prop := ys.length = l.length ∧ ∀ j, j < l.length → ys[j]? = if j < i ∨ l.length - i ≤ j then l.reverse[j]? else l[j]?
theorem TurnR.zero (l : List Int) : TurnR l l 0 := ⟨rfl, fun j hj => by rw [if_neg (by omega)]⟩
theorem TurnR.step {l ys : List Int} {i : Nat} (h : TurnR l ys i) (hi : 2 * i + 1 < l.length) {x y : Int} (hx : ys[i]? = some x) (hy : ys[l.length - 1 - i]? = some y) : TurnR l ((ys.set i y).set (l.length - 1 - i) x) (i + 1) := by
  refine ⟨by rw [List.length_set, List.length_set]; exact h.1, fun j hj => ?_⟩
  have hx' := h.2 i (by omega)
  rw [if_neg (by omega), hx] at hx'
  have hy' := h.2 (l.length - 1 - i) (by omega)
  rw [if_neg (by omega), hy] at hy'
  have hr : ∀ j, j < l.length → l.reverse[j]? = l[l.length - 1 - j]? := fun j hj => List.getElem?_reverse hj
  rw [List.getElem?_set, List.getElem?_set, List.length_set]
  have hyl := h.1
  by_cases h1 : l.length - 1 - i = j
  · rw [if_pos h1, if_pos (by omega), if_pos (by omega), hr j hj, ← h1]
    rw [hx']; congr 1; omega
  · rw [if_neg h1]
    by_cases h2 : i = j
    · rw [if_pos h2, if_pos (by omega), if_pos (by omega), hr j hj, ← h2, hy']
    · rw [if_neg h2, h.2 j hj]
      by_cases h3 : j < i ∨ l.length - i ≤ j
      · rw [if_pos h3, if_pos (by omega)]
      · rw [if_neg h3, if_neg (by omega)]
theorem TurnR.done {l ys : List Int} {i : Nat} (h : TurnR l ys i) (hi : l.length ≤ 2 * i + 1) : ys = l.reverse := by
  apply List.ext_getElem?
  intro j
  by_cases hj : j < l.length
  · rw [h.2 j hj]
    split
    · rfl
    · rename_i hn
      rw [List.getElem?_reverse hj]
      congr 1; omega
  · rw [List.getElem?_eq_none (by rw [h.1]; omega), List.getElem?_eq_none (by rw [List.length_reverse]; omega)]
end Go.Tr
namespace Go.Proofs.Ythfbfigdgjhhaaa
open Go Go.Eng Go.Tr
structure TuG where
  i : Nat
  ys : List Int
set_option maxHeartbeats 0 in
theorem reverse_ct (l : List Int) (p : Option Addr) (c : Nat) (Lg : Lst) (m : Mem) (hg : GS 3 1 (.slice p l.length c) l.length (intsV l) Lg) (hl : l.length ≤ 1048576) :
    Cta Try.prog 58 [.slice p l.length c] m Lg (fun _ m' L' => m' = m ∧ GS 3 1 (.slice p l.length c) l.length (intsV l.reverse) L') := by
  obtain ⟨hxl, ⟨he, h0, rfl⟩ | ⟨b, c', sp, he, hc, hcm, hsp, rfl⟩⟩ := hg
  · have hl0 : l = [] := List.eq_nil_of_length_eq_zero h0
    subst hl0
    rw [he]
    refine cta_of_T (c := Fc.k58_0) Try.func58 rfl rfl (by kernel_rfl) (by kernel_rfl) ?_
    repeat' (first | (with_reducible exact (rfl : (_ : En) = _)) | simp (maxSteps := 1000000) (disch := omega) only [↓Fc.x58_0, ↓eng_pre, eng_post, ↓Fa.all_pc, Fa.all_fa, eng_core, Nat.reduceBEq, ne_eq, reduceIte, Nat.reduceEqDiff, Nat.reduceAdd, Nat.reduceMul, Nat.reduceLT, Nat.reduceSub, Int.reduceLT, Int.reduceLE, Int.reduceEq, Int.reduceAdd, Int.reduceSub, Int.reduceMul, Int.reduceNeg, Int.reduceToNat, Int.natCast_zero] | (with_reducible (apply gd_load; first | (refine ld_by (by (first | (apply at_own; (· (repeat (first | apply Take.here | apply Take.there | apply Take.app)))) | (apply at_mem; assumption) | (apply At.up; assumption) | assumption)) ?_; first | (refine lb_one (by first | with_reducible rfl | (simp only [get_l, List.getElem?_cons_zero, List.getElem?_cons_succ, Option.some.injEq]; exact rfl) | assumption) ?_) | (refine lb_agg (by first | (simp only [subL_succ, subL_zero, get_l, List.getElem?_cons_zero, List.getElem?_cons_succ, consO_some, Nat.reduceAdd]; exact rfl) | assumption) ?_) | fail) | fail)) | (with_reducible (apply gd_rload; first | (refine rl_by (by (first | (apply at_own; (· (repeat (first | apply Take.here | apply Take.there | apply Take.app)))) | (apply at_mem; assumption) | (apply At.up; assumption) | assumption)) ?_; first | (refine rb_one (by first | with_reducible rfl | (simp only [get_l, List.getElem?_cons_zero, List.getElem?_cons_succ, Option.some.injEq]; exact rfl) | assumption) ?_) | (refine rb_agg (by first | (simp only [subL_succ, subL_zero, get_l, List.getElem?_cons_zero, List.getElem?_cons_succ, consO_some, Nat.reduceAdd]; exact rfl) | assumption) ?_) | fail) | fail)) | (with_reducible (apply gd_store; first | (refine st_own (by (repeat (first | apply Put.here | apply Put.there | apply Put.app))) (by simp only [eng_sm, eng_core, Nat.reduceAdd, Nat.reduceLeDiff] <;> with_reducible assumption) (by simp only [eng_sm, eng_core, Nat.reduceAdd, Nat.reduceLeDiff] <;> first | with_reducible assumption | omega) ?_) | fail)) | (with_reducible (apply gd_bi; first | (refine bi_len (by kernel_rfl) ?_) | (refine bi_lens (by kernel_rfl) ?_) | fail)) | (with_reducible apply dr_free) | (with_reducible apply dr_stab) | (with_reducible (apply gd_gate; refine gate_of (by with_reducible assumption) ?_)) | (with_reducible apply gd_draw; first | (with_reducible refine drawA_id [some 14, some 15, some 16, some 17, some 18, some 19, some 20, some 21, some 22, some 23, some 24, some 25, some 26, none, some 27, none] [.free 13, .one, .free 1, .one] (by decide +kernel) Fa.mix (by decide +kernel) ?_)) | (with_reducible (apply gd_cond; first | (refine cond_if (fun h => ?_) (fun h => ?_)) | (refine cond_nif (fun h => ?_) (fun h => ?_)) | (refine cond_nsplit (fun h => ?_) (fun h => ?_)) | (refine cond_split (fun h => ?_) (fun h => ?_)))) | fail)
    refine loopA_of (γ := Nat) (fun i => [(2, .int .i64 0), (3, .int .i64 (-1))]) (fun _ m' L' => m' = m ∧ L' = []) (fun _ => 0) 0 (by (first | (simp (maxSteps := 1000000) (disch := omega) only [↓eng_pre, eng_post, ↓Fa.all_pc, Fa.all_fa, eng_core, Nat.reduceBEq, ne_eq, reduceIte, Nat.reduceEqDiff, Nat.reduceAdd, Nat.reduceMul, Nat.reduceLT, Nat.reduceSub, Int.reduceLT, Int.reduceLE, Int.reduceEq, Int.reduceAdd, Int.reduceSub, Int.reduceMul, Int.reduceNeg, Int.reduceToNat, *]; done) | (simp (maxSteps := 1000000) (disch := omega) only [↓eng_pre, eng_post, ↓Fa.all_pc, Fa.all_fa, eng_core, Nat.reduceBEq, ne_eq, reduceIte, Nat.reduceEqDiff, Nat.reduceAdd, Nat.reduceMul, Nat.reduceLT, Nat.reduceSub, Int.reduceLT, Int.reduceLE, Int.reduceEq, Int.reduceAdd, Int.reduceSub, Int.reduceMul, Int.reduceNeg, Int.reduceToNat, *, Value.int.injEq, true_and, and_true, Int.natCast_add, Int.natCast_one, Int.natCast_zero, Int.add_zero]; done) | (simp (maxSteps := 1000000) (disch := omega) only [↓eng_pre, eng_post, ↓Fa.all_pc, Fa.all_fa, eng_core, Nat.reduceBEq, ne_eq, reduceIte, Nat.reduceEqDiff, Nat.reduceAdd, Nat.reduceMul, Nat.reduceLT, Nat.reduceSub, Int.reduceLT, Int.reduceLE, Int.reduceEq, Int.reduceAdd, Int.reduceSub, Int.reduceMul, Int.reduceNeg, Int.reduceToNat, *, Value.int.injEq, true_and, and_true]; omega) | (simp (maxSteps := 1000000) (disch := omega) only [↓eng_pre, eng_post, ↓Fa.all_pc, Fa.all_fa, eng_core, Nat.reduceBEq, ne_eq, reduceIte, Nat.reduceEqDiff, Nat.reduceAdd, Nat.reduceMul, Nat.reduceLT, Nat.reduceSub, Int.reduceLT, Int.reduceLE, Int.reduceEq, Int.reduceAdd, Int.reduceSub, Int.reduceMul, Int.reduceNeg, Int.reduceToNat, *, Value.int.injEq, true_and, and_true]; exact rfl))) (end_here ⟨rfl, rfl⟩) ?_
    rintro i e m' L' hf ⟨rfl, rfl⟩
    simp only [fits_cons, fits_nil, and_true] at hf
    obtain ⟨e2, e3⟩ := hf
    repeat' (first | (with_reducible exact (rfl : (_ : En) = _)) | simp (maxSteps := 1000000) (disch := omega) only [↓Fc.x58_0, ↓eng_pre, eng_post, ↓Fa.all_pc, Fa.all_fa, eng_core, Nat.reduceBEq, ne_eq, reduceIte, Nat.reduceEqDiff, Nat.reduceAdd, Nat.reduceMul, Nat.reduceLT, Nat.reduceSub, Int.reduceLT, Int.reduceLE, Int.reduceEq, Int.reduceAdd, Int.reduceSub, Int.reduceMul, Int.reduceNeg, Int.reduceToNat, e2, e3] | (with_reducible (apply gd_load; first | (refine ld_by (by (first | (apply at_own; (· (repeat (first | apply Take.here | apply Take.there | apply Take.app)))) | (apply at_mem; assumption) | (apply At.up; assumption) | assumption)) ?_; first | (refine lb_one (by first | with_reducible rfl | (simp only [get_l, List.getElem?_cons_zero, List.getElem?_cons_succ, Option.some.injEq]; exact rfl) | assumption) ?_) | (refine lb_agg (by first | (simp only [subL_succ, subL_zero, get_l, List.getElem?_cons_zero, List.getElem?_cons_succ, consO_some, Nat.reduceAdd]; exact rfl) | assumption) ?_) | fail) | fail)) | (with_reducible (apply gd_rload; first | (refine rl_by (by (first | (apply at_own; (· (repeat (first | apply Take.here | apply Take.there | apply Take.app)))) | (apply at_mem; assumption) | (apply At.up; assumption) | assumption)) ?_; first | (refine rb_one (by first | with_reducible rfl | (simp only [get_l, List.getElem?_cons_zero, List.getElem?_cons_succ, Option.some.injEq]; exact rfl) | assumption) ?_) | (refine rb_agg (by first | (simp only [subL_succ, subL_zero, get_l, List.getElem?_cons_zero, List.getElem?_cons_succ, consO_some, Nat.reduceAdd]; exact rfl) | assumption) ?_) | fail) | fail)) | (with_reducible (apply gd_store; first | (refine st_own (by (repeat (first | apply Put.here | apply Put.there | apply Put.app))) (by simp only [eng_sm, eng_core, Nat.reduceAdd, Nat.reduceLeDiff] <;> with_reducible assumption) (by simp only [eng_sm, eng_core, Nat.reduceAdd, Nat.reduceLeDiff] <;> first | with_reducible assumption | omega) ?_) | fail)) | (with_reducible (apply gd_bi; first | (refine bi_len (by kernel_rfl) ?_) | (refine bi_lens (by kernel_rfl) ?_) | fail)) | (with_reducible apply dr_free) | (with_reducible apply dr_stab) | (with_reducible (apply gd_gate; refine gate_of (by with_reducible assumption) ?_)) | (with_reducible apply gd_draw; first | (with_reducible refine drawA_id [some 14, some 15, some 16, some 17, some 18, some 19, some 20, some 21, some 22, some 23, some 24, some 25, some 26, none, some 27, none] [.free 13, .one, .free 1, .one] (by decide +kernel) Fa.mix (by decide +kernel) ?_)) | (with_reducible (apply gd_cond; first | (refine cond_if (fun h => ?_) (fun h => ?_)) | (refine cond_nif (fun h => ?_) (fun h => ?_)) | (refine cond_nsplit (fun h => ?_) (fun h => ?_)) | (refine cond_split (fun h => ?_) (fun h => ?_)))) | fail)
    exact end_here ⟨rfl, GS.nil⟩
  · injection he with e1 e2 e3
    subst e1 e3
    have hfin : ∀ ys, ys = l.reverse → GS 3 1 (.slice (some ⟨b, 0, none⟩) l.length c) l.length (intsV l.reverse) [(b, .cells (intsV ys ++ sp).toArray 3 (0, 0))] := fun ys h => by
      subst h; exact ⟨by rw [intsV_length, List.length_reverse, Nat.mul_one], .inr ⟨b, c, sp, rfl, hc, hcm, hsp, rfl⟩⟩
    have hz := TurnR.zero l
    clear hxl
    generalize hn : l.length = n at *
    refine cta_of_T (c := Fc.k58_0) Try.func58 rfl rfl (by kernel_rfl) (by kernel_rfl) ?_
    repeat' (first | (with_reducible exact (rfl : (_ : En) = _)) | simp (maxSteps := 1000000) (disch := omega) only [↓Fc.x58_0, ↓eng_pre, eng_post, ↓Fa.all_pc, Fa.all_fa, eng_core, Nat.reduceBEq, ne_eq, reduceIte, Nat.reduceEqDiff, Nat.reduceAdd, Nat.reduceMul, Nat.reduceLT, Nat.reduceSub, Int.reduceLT, Int.reduceLE, Int.reduceEq, Int.reduceAdd, Int.reduceSub, Int.reduceMul, Int.reduceNeg, Int.reduceToNat, *] | (with_reducible (apply gd_load; first | (refine ld_by (by (first | (apply at_own; (· (repeat (first | apply Take.here | apply Take.there | apply Take.app)))) | (apply at_mem; assumption) | (apply At.up; assumption) | assumption)) ?_; first | (refine lb_one (by first | with_reducible rfl | (simp only [get_l, List.getElem?_cons_zero, List.getElem?_cons_succ, Option.some.injEq]; exact rfl) | assumption) ?_) | (refine lb_agg (by first | (simp only [subL_succ, subL_zero, get_l, List.getElem?_cons_zero, List.getElem?_cons_succ, consO_some, Nat.reduceAdd]; exact rfl) | assumption) ?_) | fail) | fail)) | (with_reducible (apply gd_rload; first | (refine rl_by (by (first | (apply at_own; (· (repeat (first | apply Take.here | apply Take.there | apply Take.app)))) | (apply at_mem; assumption) | (apply At.up; assumption) | assumption)) ?_; first | (refine rb_one (by first | with_reducible rfl | (simp only [get_l, List.getElem?_cons_zero, List.getElem?_cons_succ, Option.some.injEq]; exact rfl) | assumption) ?_) | (refine rb_agg (by first | (simp only [subL_succ, subL_zero, get_l, List.getElem?_cons_zero, List.getElem?_cons_succ, consO_some, Nat.reduceAdd]; exact rfl) | assumption) ?_) | fail) | fail)) | (with_reducible (apply gd_store; first | (refine st_own (by (repeat (first | apply Put.here | apply Put.there | apply Put.app))) (by simp only [eng_sm, eng_core, Nat.reduceAdd, Nat.reduceLeDiff] <;> with_reducible assumption) (by simp only [eng_sm, eng_core, Nat.reduceAdd, Nat.reduceLeDiff] <;> first | with_reducible assumption | omega) ?_) | fail)) | (with_reducible (apply gd_bi; first | (refine bi_len (by kernel_rfl) ?_) | (refine bi_lens (by kernel_rfl) ?_) | fail)) | (with_reducible apply dr_free) | (with_reducible apply dr_stab) | (with_reducible (apply gd_gate; refine gate_of (by with_reducible assumption) ?_)) | (with_reducible apply gd_draw; first | (with_reducible refine drawA_id [some 14, some 15, some 16, some 17, some 18, some 19, some 20, some 21, some 22, some 23, some 24, some 25, some 26, none, some 27, none] [.free 13, .one, .free 1, .one] (by decide +kernel) Fa.mix (by decide +kernel) ?_)) | (with_reducible (apply gd_cond; first | (refine cond_if (fun h => ?_) (fun h => ?_)) | (refine cond_nif (fun h => ?_) (fun h => ?_)) | (refine cond_nsplit (fun h => ?_) (fun h => ?_)) | (refine cond_split (fun h => ?_) (fun h => ?_)))) | fail)
    refine loopA_of (γ := TuG) (fun g => [(0, .slice (some ⟨b, 0, none⟩) n c), (2, .int .i64 (g.i : Int)), (3, .int .i64 ((n : Int) - 1 - g.i))])
      (fun g m' L' => m' = m ∧ L' = [(b, .cells (intsV g.ys ++ sp).toArray 3 (0, 0))] ∧ TurnR l g.ys g.i ∧ 2 * g.i ≤ n + 1) (fun g => n - 2 * g.i + 2) ⟨0, l⟩ (by dsimp only; rw [show (n : Int) - 1 - ((0 : Nat) : Int) = (n : Int) - 1 by omega]; (first | (simp (maxSteps := 1000000) (disch := omega) only [↓eng_pre, eng_post, ↓Fa.all_pc, Fa.all_fa, eng_core, Nat.reduceBEq, ne_eq, reduceIte, Nat.reduceEqDiff, Nat.reduceAdd, Nat.reduceMul, Nat.reduceLT, Nat.reduceSub, Int.reduceLT, Int.reduceLE, Int.reduceEq, Int.reduceAdd, Int.reduceSub, Int.reduceMul, Int.reduceNeg, Int.reduceToNat, *]; done) | (simp (maxSteps := 1000000) (disch := omega) only [↓eng_pre, eng_post, ↓Fa.all_pc, Fa.all_fa, eng_core, Nat.reduceBEq, ne_eq, reduceIte, Nat.reduceEqDiff, Nat.reduceAdd, Nat.reduceMul, Nat.reduceLT, Nat.reduceSub, Int.reduceLT, Int.reduceLE, Int.reduceEq, Int.reduceAdd, Int.reduceSub, Int.reduceMul, Int.reduceNeg, Int.reduceToNat, *, Value.int.injEq, true_and, and_true, Int.natCast_add, Int.natCast_one, Int.natCast_zero, Int.add_zero]; done) | (simp (maxSteps := 1000000) (disch := omega) only [↓eng_pre, eng_post, ↓Fa.all_pc, Fa.all_fa, eng_core, Nat.reduceBEq, ne_eq, reduceIte, Nat.reduceEqDiff, Nat.reduceAdd, Nat.reduceMul, Nat.reduceLT, Nat.reduceSub, Int.reduceLT, Int.reduceLE, Int.reduceEq, Int.reduceAdd, Int.reduceSub, Int.reduceMul, Int.reduceNeg, Int.reduceToNat, *, Value.int.injEq, true_and, and_true]; omega) | (simp (maxSteps := 1000000) (disch := omega) only [↓eng_pre, eng_post, ↓Fa.all_pc, Fa.all_fa, eng_core, Nat.reduceBEq, ne_eq, reduceIte, Nat.reduceEqDiff, Nat.reduceAdd, Nat.reduceMul, Nat.reduceLT, Nat.reduceSub, Int.reduceLT, Int.reduceLE, Int.reduceEq, Int.reduceAdd, Int.reduceSub, Int.reduceMul, Int.reduceNeg, Int.reduceToNat, *, Value.int.injEq, true_and, and_true]; exact rfl))) (end_here ⟨rfl, rfl, hz, by dsimp only; omega⟩) ?_
    clear hz
    rintro ⟨i, ys⟩ e m' L' hf ⟨rfl, rfl, ht, hi⟩
    dsimp only at ht hi ⊢
    simp only [fits_cons, fits_nil, and_true] at hf
    obtain ⟨e0, e2, e3⟩ := hf
    have hyl := ht.1
    rw [hn] at hyl
    by_cases hlt : 2 * i + 1 < n
    · obtain ⟨x, hx⟩ : ∃ x, ys[i]? = some x := ⟨_, List.getElem?_eq_getElem (by omega)⟩
      obtain ⟨k, hk⟩ : ∃ k : Nat, k = n - 1 - i := ⟨_, rfl⟩
      obtain ⟨y, hy⟩ : ∃ y, ys[k]? = some y := ⟨_, List.getElem?_eq_getElem (by omega)⟩
      have hkI : (n : Int) - 1 - i = k := by omega
      have hst := ht.step (by omega) hx (by rw [hn, ← hk]; exact hy)
      rw [hn, ← hk] at hst
      have g1 : (intsV ys ++ sp).toArray[i]? = some (.int .i64 x) := get_app (by rw [intsV_get, hx]; rfl)
      have g2 : (intsV ys ++ sp).toArray[k]? = some (.int .i64 y) := get_app (by rw [intsV_get, hy]; rfl)
      have w1 : (intsV ys ++ sp).set i (.int .i64 y) = intsV (ys.set i y) ++ sp := by rw [set_app (by rw [intsV_length]; omega), intsV_set]
      have w2 : (intsV (ys.set i y) ++ sp).set k (.int .i64 x) = intsV ((ys.set i y).set k x) ++ sp := by rw [set_app (by rw [intsV_length, List.length_set]; omega), intsV_set]
      have z1 : (intsV ys ++ sp).length = n + sp.length := by rw [List.length_append, intsV_length, hyl]
      have z2 : (intsV (ys.set i y) ++ sp).length = n + sp.length := by rw [List.length_append, intsV_length, List.length_set, hyl]
      have hlt' : (i : Int) < k := by omega
      have hi0 : (i : Int) < n := by omega
      have hk0 : (k : Int) < n := by omega
      have hk1 : (0 : Int) ≤ k := by omega
      have hk2 : k < n + sp.length := by omega
      have hk3 : i < n + sp.length := by omega
      rw [hkI] at e3
      clear hfin ht
      repeat' (first | (with_reducible exact (rfl : (_ : En) = _)) | simp (maxSteps := 1000000) (disch := omega) only [↓Fc.x58_0, ↓eng_pre, eng_post, ↓Fa.all_pc, Fa.all_fa, eng_core, Nat.reduceBEq, ne_eq, reduceIte, Nat.reduceEqDiff, Nat.reduceAdd, Nat.reduceMul, Nat.reduceLT, Nat.reduceSub, Int.reduceLT, Int.reduceLE, Int.reduceEq, Int.reduceAdd, Int.reduceSub, Int.reduceMul, Int.reduceNeg, Int.reduceToNat, e0, e2, e3, hlt', g1, g2, w1, w2, z1, z2, hi0, hk0, hk1, hk2, hk3, Int.toNat_natCast, Nat.mul_one] | (with_reducible (apply gd_load; first | (refine ld_by (by (first | (apply at_own; (· (repeat (first | apply Take.here | apply Take.there | apply Take.app)))) | (apply at_mem; assumption) | (apply At.up; assumption) | assumption)) ?_; first | (refine lb_one (by first | with_reducible rfl | (simp only [get_l, List.getElem?_cons_zero, List.getElem?_cons_succ, Option.some.injEq]; exact rfl) | assumption) ?_) | (refine lb_agg (by first | (simp only [subL_succ, subL_zero, get_l, List.getElem?_cons_zero, List.getElem?_cons_succ, consO_some, Nat.reduceAdd]; exact rfl) | assumption) ?_) | fail) | fail)) | (with_reducible (apply gd_rload; first | (refine rl_by (by (first | (apply at_own; (· (repeat (first | apply Take.here | apply Take.there | apply Take.app)))) | (apply at_mem; assumption) | (apply At.up; assumption) | assumption)) ?_; first | (refine rb_one (by first | with_reducible rfl | (simp only [get_l, List.getElem?_cons_zero, List.getElem?_cons_succ, Option.some.injEq]; exact rfl) | assumption) ?_) | (refine rb_agg (by first | (simp only [subL_succ, subL_zero, get_l, List.getElem?_cons_zero, List.getElem?_cons_succ, consO_some, Nat.reduceAdd]; exact rfl) | assumption) ?_) | fail) | fail)) | (with_reducible (apply gd_store; first | (refine st_own (by (repeat (first | apply Put.here | apply Put.there | apply Put.app))) (by simp only [eng_sm, eng_core, Nat.reduceAdd, Nat.reduceLeDiff] <;> with_reducible assumption) (by simp only [eng_sm, eng_core, Nat.reduceAdd, Nat.reduceLeDiff] <;> first | with_reducible assumption | omega) ?_) | fail)) | (with_reducible (apply gd_bi; first | (refine bi_len (by kernel_rfl) ?_) | (refine bi_lens (by kernel_rfl) ?_) | fail)) | (with_reducible apply dr_free) | (with_reducible apply dr_stab) | (with_reducible (apply gd_gate; refine gate_of (by with_reducible assumption) ?_)) | (with_reducible apply gd_draw; first | (with_reducible refine drawA_id [some 14, some 15, some 16, some 17, some 18, some 19, some 20, some 21, some 22, some 23, some 24, some 25, some 26, none, some 27, none] [.free 13, .one, .free 1, .one] (by decide +kernel) Fa.mix (by decide +kernel) ?_)) | (with_reducible (apply gd_cond; first | (refine cond_if (fun h => ?_) (fun h => ?_)) | (refine cond_nif (fun h => ?_) (fun h => ?_)) | (refine cond_nsplit (fun h => ?_) (fun h => ?_)) | (refine cond_split (fun h => ?_) (fun h => ?_)))) | fail)
      have e9 : (k : Int) - 1 = (n : Int) - 1 - ((i + 1 : Nat) : Int) := by omega
      exact next_of (γ := TuG) ⟨i + 1, (ys.set i y).set k x⟩ (by dsimp only; rw [← e9]; clear e9; (first | (simp (maxSteps := 1000000) (disch := omega) only [↓eng_pre, eng_post, ↓Fa.all_pc, Fa.all_fa, eng_core, Nat.reduceBEq, ne_eq, reduceIte, Nat.reduceEqDiff, Nat.reduceAdd, Nat.reduceMul, Nat.reduceLT, Nat.reduceSub, Int.reduceLT, Int.reduceLE, Int.reduceEq, Int.reduceAdd, Int.reduceSub, Int.reduceMul, Int.reduceNeg, Int.reduceToNat, *]; done) | (simp (maxSteps := 1000000) (disch := omega) only [↓eng_pre, eng_post, ↓Fa.all_pc, Fa.all_fa, eng_core, Nat.reduceBEq, ne_eq, reduceIte, Nat.reduceEqDiff, Nat.reduceAdd, Nat.reduceMul, Nat.reduceLT, Nat.reduceSub, Int.reduceLT, Int.reduceLE, Int.reduceEq, Int.reduceAdd, Int.reduceSub, Int.reduceMul, Int.reduceNeg, Int.reduceToNat, *, Value.int.injEq, true_and, and_true, Int.natCast_add, Int.natCast_one, Int.natCast_zero, Int.add_zero]; done) | (simp (maxSteps := 1000000) (disch := omega) only [↓eng_pre, eng_post, ↓Fa.all_pc, Fa.all_fa, eng_core, Nat.reduceBEq, ne_eq, reduceIte, Nat.reduceEqDiff, Nat.reduceAdd, Nat.reduceMul, Nat.reduceLT, Nat.reduceSub, Int.reduceLT, Int.reduceLE, Int.reduceEq, Int.reduceAdd, Int.reduceSub, Int.reduceMul, Int.reduceNeg, Int.reduceToNat, *, Value.int.injEq, true_and, and_true]; omega) | (simp (maxSteps := 1000000) (disch := omega) only [↓eng_pre, eng_post, ↓Fa.all_pc, Fa.all_fa, eng_core, Nat.reduceBEq, ne_eq, reduceIte, Nat.reduceEqDiff, Nat.reduceAdd, Nat.reduceMul, Nat.reduceLT, Nat.reduceSub, Int.reduceLT, Int.reduceLE, Int.reduceEq, Int.reduceAdd, Int.reduceSub, Int.reduceMul, Int.reduceNeg, Int.reduceToNat, *, Value.int.injEq, true_and, and_true]; exact rfl))) (end_here ⟨rfl, rfl, hst, by dsimp only; omega⟩) (by dsimp only; omega)
    · have hlt' : ¬ (i : Int) < (n : Int) - 1 - i := by omega
      have hd := hfin ys (ht.done (by omega))
      clear hfin
      repeat' (first | (with_reducible exact (rfl : (_ : En) = _)) | simp (maxSteps := 1000000) (disch := omega) only [↓Fc.x58_0, ↓eng_pre, eng_post, ↓Fa.all_pc, Fa.all_fa, eng_core, Nat.reduceBEq, ne_eq, reduceIte, Nat.reduceEqDiff, Nat.reduceAdd, Nat.reduceMul, Nat.reduceLT, Nat.reduceSub, Int.reduceLT, Int.reduceLE, Int.reduceEq, Int.reduceAdd, Int.reduceSub, Int.reduceMul, Int.reduceNeg, Int.reduceToNat, e0, e2, e3, hlt'] | (with_reducible (apply gd_load; first | (refine ld_by (by (first | (apply at_own; (· (repeat (first | apply Take.here | apply Take.there | apply Take.app)))) | (apply at_mem; assumption) | (apply At.up; assumption) | assumption)) ?_; first | (refine lb_one (by first | with_reducible rfl | (simp only [get_l, List.getElem?_cons_zero, List.getElem?_cons_succ, Option.some.injEq]; exact rfl) | assumption) ?_) | (refine lb_agg (by first | (simp only [subL_succ, subL_zero, get_l, List.getElem?_cons_zero, List.getElem?_cons_succ, consO_some, Nat.reduceAdd]; exact rfl) | assumption) ?_) | fail) | fail)) | (with_reducible (apply gd_rload; first | (refine rl_by (by (first | (apply at_own; (· (repeat (first | apply Take.here | apply Take.there | apply Take.app)))) | (apply at_mem; assumption) | (apply At.up; assumption) | assumption)) ?_; first | (refine rb_one (by first | with_reducible rfl | (simp only [get_l, List.getElem?_cons_zero, List.getElem?_cons_succ, Option.some.injEq]; exact rfl) | assumption) ?_) | (refine rb_agg (by first | (simp only [subL_succ, subL_zero, get_l, List.getElem?_cons_zero, List.getElem?_cons_succ, consO_some, Nat.reduceAdd]; exact rfl) | assumption) ?_) | fail) | fail)) | (with_reducible (apply gd_store; first | (refine st_own (by (repeat (first | apply Put.here | apply Put.there | apply Put.app))) (by simp only [eng_sm, eng_core, Nat.reduceAdd, Nat.reduceLeDiff] <;> with_reducible assumption) (by simp only [eng_sm, eng_core, Nat.reduceAdd, Nat.reduceLeDiff] <;> first | with_reducible assumption | omega) ?_) | fail)) | (with_reducible (apply gd_bi; first | (refine bi_len (by kernel_rfl) ?_) | (refine bi_lens (by kernel_rfl) ?_) | fail)) | (with_reducible apply dr_free) | (with_reducible apply dr_stab) | (with_reducible (apply gd_gate; refine gate_of (by with_reducible assumption) ?_)) | (with_reducible apply gd_draw; first | (with_reducible refine drawA_id [some 14, some 15, some 16, some 17, some 18, some 19, some 20, some 21, some 22, some 23, some 24, some 25, some 26, none, some 27, none] [.free 13, .one, .free 1, .one] (by decide +kernel) Fa.mix (by decide +kernel) ?_)) | (with_reducible (apply gd_cond; first | (refine cond_if (fun h => ?_) (fun h => ?_)) | (refine cond_nif (fun h => ?_) (fun h => ?_)) | (refine cond_nsplit (fun h => ?_) (fun h => ?_)) | (refine cond_split (fun h => ?_) (fun h => ?_)))) | fail)
      exact end_here ⟨rfl, hd⟩
end Go.Proofs.Ythfbfigdgjhhaaa
namespace Go.Tr
open Go Go.Eng
def LinksOk (l : List LinkR) : Prop := ∀ (i : Nat) (k : LinkR), l[i]? = some k → -1 ≤ k.up ∧ k.up < i
theorem ups_neg (l : List LinkR) (f : Nat) {n : Int} (h : n < 0) : upsF l f n = [] := by
  cases f with
  | zero => rfl
  | succ f => unfold upsF; rw [if_pos h]
theorem ups_fuel {l : List LinkR} (hl : LinksOk l) : ∀ (f g : Nat) (n : Int), n.toNat + 1 ≤ f → n.toNat + 1 ≤ g → upsF l f n = upsF l g n := by
  intro f
  induction f with
  | zero => intro g n hf; omega
  | succ f ih =>
    intro g n hf hg
    obtain ⟨g, rfl⟩ : ∃ g', g = g' + 1 := ⟨g - 1, by omega⟩
    unfold upsF
    by_cases h : n < 0
    · rw [if_pos h, if_pos h]
    · rw [if_neg h, if_neg h]
      cases hk : l[n.toNat]? with
      | none => rfl
      | some k =>
        dsimp only
        have := hl _ k hk
        by_cases h2 : k.up < 0
        · rw [ups_neg l f h2, ups_neg l g h2]
        · rw [ih g k.up (by omega) (by omega)]
theorem ups_step {l : List LinkR} (hl : LinksOk l) {i : Nat} {k : LinkR} (hk : l[i]? = some k) : upsF l (i + 1) i = i :: upsF l (k.up.toNat + 1) k.up := by
  conv => lhs; unfold upsF
  rw [if_neg (by omega), Int.toNat_natCast, hk]
  dsimp only
  have := hl i k hk
  by_cases h2 : k.up < 0
  · rw [ups_neg l _ h2, ups_neg l _ h2]
  · rw [ups_fuel hl i (k.up.toNat + 1) k.up (by omega) (by omega)]
abbrev natsV (l : List Nat) : List Value := intsV (l.map fun (n : Nat) => (n : Int))
theorem nats_rev (l : List Nat) : natsV l.reverse = intsV ((l.map fun (n : Nat) => (n : Int)).reverse) := by unfold natsV; rw [List.map_reverse]
end Go.Tr
namespace Go.Proofs.Ythfbfigdgjhhaaa
open Go Go.Eng Go.Tr
structure UpG where
  cur : Int
  acc : List Nat
  p : Option Addr
  c : Nat
  Lg : Lst
set_option maxHeartbeats 0 in
theorem chain_ct (k : KeyR) (fn pc : Int) (z : TLoc) (t : TrR) (n : Int) (m : Mem) (ht : TrAt m z t) (hl : LinksOk t.links) (hn : n < t.links.length) :
    Cta Try.prog 48 [trV k fn pc z t.ins.length t.ops.length t.links.length t.virts.length t.back.length, .int .i64 n] m [] (fun v m' L' => m' = m ∧ ∃ p c, v = .slice p (chainF t.links n).length c ∧ GS 3 1 (.slice p (chainF t.links n).length c) (chainF t.links n).length (natsV (chainF t.links n)) L') := by
  have hlen := ht.ll
  have hlk := ht.links
  have hrv := fun (l : List Nat) p c Lg m hg hl => reverse_ct (l.map fun (n : Nat) => (n : Int)) p c Lg m hg hl
  unfold chainF
  clear ht
  generalize t.ins.length = ni at *
  generalize t.ops.length = no at *
  generalize t.virts.length = nv at *
  generalize t.back.length = nb at *
  obtain ⟨W, hW⟩ : ∃ W, W = upsF t.links (n.toNat + 1) n := ⟨_, rfl⟩
  rw [← hW]
  refine cta_of_T (c := Fc.k48_0) Try.func48 rfl rfl (by kernel_rfl) (by kernel_rfl) ?_
  repeat' (first | simp (maxSteps := 1000000) (disch := omega) only [↓Fc.x48_0, ↓eng_pre, eng_post, ↓Fa.all_pc, Fa.all_fa, eng_core, Nat.reduceBEq, ne_eq, reduceIte, Nat.reduceEqDiff, Nat.reduceAdd, Nat.reduceMul, Nat.reduceLT, Nat.reduceSub, Int.reduceLT, Int.reduceLE, Int.reduceEq, Int.reduceAdd, Int.reduceSub, Int.reduceMul, Int.reduceNeg, Int.reduceToNat, *] | (with_reducible (apply gd_new; first | (refine newA_of (fun _ => ?_)) | fail)) | (with_reducible (apply gd_load; first | (refine ld_by (by (first | (apply at_own; (· (repeat (first | apply Take.here | apply Take.there | apply Take.app)))) | (apply at_mem; assumption) | (apply At.up; assumption) | assumption)) ?_; first | (refine lb_one (by first | with_reducible rfl | (simp only [get_l, List.getElem?_cons_zero, List.getElem?_cons_succ, Option.some.injEq]; exact rfl) | assumption) ?_) | (refine lb_agg (by first | (simp only [subL_succ, subL_zero, get_l, List.getElem?_cons_zero, List.getElem?_cons_succ, consO_some, Nat.reduceAdd]; exact rfl) | assumption) ?_) | fail) | fail)) | (with_reducible (apply gd_top; first | (refine p_bsl ?_) | fail)) | (with_reducible (apply gd_cond; first | (refine cond_if (fun h => ?_) (fun h => ?_)) | (refine cond_nif (fun h => ?_) (fun h => ?_)) | (refine cond_nsplit (fun h => ?_) (fun h => ?_)) | (refine cond_split (fun h => ?_) (fun h => ?_)))) | fail)
  rename_i bx
  refine loopA_of (γ := UpG) (fun g => [(1, .int .i64 g.cur), (2, ptr bx), (5, .slice g.p g.acc.length g.c)])
    (fun g m' L' => m' = m ∧ L' = g.Lg ++ [(bx, .cells #[.int .i64 k.mg, .int .i64 k.n, .int .i64 k.g0, .int .i64 k.g1, .int .i64 k.g2, .int .i64 k.g3, .int .i64 k.g4, .int .i64 k.g5, .int .i64 k.g6, .int .i64 k.g7, .int .i64 fn, .int .i64 pc, .slice z.pi ni z.ci, .slice z.po no z.co, .slice z.pl t.links.length z.cl, .slice z.pv nv z.cv, .slice z.pb nb z.cb] 36 (0, 0))] ∧ GS 3 1 (.slice g.p g.acc.length g.c) g.acc.length (natsV g.acc) g.Lg ∧ g.cur < t.links.length ∧ g.acc ++ upsF t.links (g.cur.toNat + 1) g.cur = W ∧ g.acc.length ≤ 1048576 ∧ (0 ≤ g.cur → (g.acc.length : Int) + g.cur + 1 ≤ 1048576))
    (fun g => (g.cur + 1).toNat) ⟨n, [], none, 0, []⟩ (by dsimp only; (first | (simp (maxSteps := 1000000) (disch := omega) only [↓eng_pre, eng_post, ↓Fa.all_pc, Fa.all_fa, eng_core, Nat.reduceBEq, ne_eq, reduceIte, Nat.reduceEqDiff, Nat.reduceAdd, Nat.reduceMul, Nat.reduceLT, Nat.reduceSub, Int.reduceLT, Int.reduceLE, Int.reduceEq, Int.reduceAdd, Int.reduceSub, Int.reduceMul, Int.reduceNeg, Int.reduceToNat, *]; done) | (simp (maxSteps := 1000000) (disch := omega) only [↓eng_pre, eng_post, ↓Fa.all_pc, Fa.all_fa, eng_core, Nat.reduceBEq, ne_eq, reduceIte, Nat.reduceEqDiff, Nat.reduceAdd, Nat.reduceMul, Nat.reduceLT, Nat.reduceSub, Int.reduceLT, Int.reduceLE, Int.reduceEq, Int.reduceAdd, Int.reduceSub, Int.reduceMul, Int.reduceNeg, Int.reduceToNat, *, Value.int.injEq, true_and, and_true, Int.natCast_add, Int.natCast_one, Int.natCast_zero, Int.add_zero]; done) | (simp (maxSteps := 1000000) (disch := omega) only [↓eng_pre, eng_post, ↓Fa.all_pc, Fa.all_fa, eng_core, Nat.reduceBEq, ne_eq, reduceIte, Nat.reduceEqDiff, Nat.reduceAdd, Nat.reduceMul, Nat.reduceLT, Nat.reduceSub, Int.reduceLT, Int.reduceLE, Int.reduceEq, Int.reduceAdd, Int.reduceSub, Int.reduceMul, Int.reduceNeg, Int.reduceToNat, *, Value.int.injEq, true_and, and_true]; omega) | (simp (maxSteps := 1000000) (disch := omega) only [↓eng_pre, eng_post, ↓Fa.all_pc, Fa.all_fa, eng_core, Nat.reduceBEq, ne_eq, reduceIte, Nat.reduceEqDiff, Nat.reduceAdd, Nat.reduceMul, Nat.reduceLT, Nat.reduceSub, Int.reduceLT, Int.reduceLE, Int.reduceEq, Int.reduceAdd, Int.reduceSub, Int.reduceMul, Int.reduceNeg, Int.reduceToNat, *, Value.int.injEq, true_and, and_true]; exact rfl))) (end_here ⟨rfl, rfl, GS.nil, hn, by rw [hW]; rfl, Nat.zero_le _, fun _ => by dsimp only [List.length_nil]; omega⟩) ?_
  rintro ⟨cur, acc, p, c, Lg⟩ e m' L' hf ⟨rfl, rfl, hg, hc, hw, hb0, hb⟩
  dsimp only at hg hc hw hb0 hb ⊢
  simp only [fits_cons, fits_nil, and_true] at hf
  obtain ⟨e1, e2, e5⟩ := hf
  by_cases h0 : 0 ≤ cur
  · obtain ⟨i, rfl⟩ : ∃ i : Nat, cur = i := ⟨cur.toNat, by omega⟩
    obtain ⟨lk, hlki⟩ : ∃ lk, t.links[i]? = some lk := ⟨_, List.getElem?_eq_getElem (by omega)⟩
    obtain ⟨bb, oo, cs, r, hp, hat, hrl, ⟨rp, rc, hE, hsr, hru, _⟩, _, hcell⟩ := hlk.get hlki
    have hup := hl i lk hlki
    have hb := hb (by omega)
    rw [Int.toNat_natCast, ups_step hl hlki] at hw
    have k0 := hcell 0 (.int .i64 lk.up) (by rw [hE]; rfl)
    rw [Nat.add_zero] at k0
    have hsn : natsV acc ++ [.int .i64 (i : Int)] = natsV (acc ++ [i]) := by unfold natsV; rw [List.map_append, intsV_app]; rfl
    have hal : (acc ++ [i]).length = acc.length + 1 := by simp
    have hc' : (i : Int) < t.links.length := hc
    clear hlk hrv hcell hE hW hsr
    rw [hp]
    generalize hnl : t.links.length = nl at *
    generalize hna : acc.length = na at *
    repeat' (first | simp (maxSteps := 1000000) (disch := omega) only [↓Fc.x48_0, ↓eng_pre, eng_post, ↓Fa.all_pc, Fa.all_fa, eng_core, Nat.reduceBEq, ne_eq, reduceIte, Nat.reduceEqDiff, Nat.reduceAdd, Nat.reduceMul, Nat.reduceLT, Nat.reduceSub, Int.reduceLT, Int.reduceLE, Int.reduceEq, Int.reduceAdd, Int.reduceSub, Int.reduceMul, Int.reduceNeg, Int.reduceToNat, e1, e2, e5, h0, hc', k0, Int.toNat_natCast] | (with_reducible (apply gd_new; first | (refine newA_of (fun _ => ?_)) | fail)) | (with_reducible (apply gd_load; first | (refine ld_by (by (first | (apply at_own; (· (repeat (first | apply Take.here | apply Take.there | apply Take.app)))) | (apply at_mem; assumption) | (apply At.up; assumption) | assumption | (apply At.sub; assumption; (· ((repeat ((fail_if_success (first | apply TakeL.here | apply TakeL.all | apply TakeL.hd)); (first | apply TakeL.cons | apply TakeL.app))); (first | apply TakeL.here | apply TakeL.all | apply TakeL.hd)))))) ?_; first | (refine lb_one (by first | with_reducible rfl | (simp only [get_l, List.getElem?_cons_zero, List.getElem?_cons_succ, Option.some.injEq]; exact rfl) | assumption) ?_) | (refine lb_agg (by first | (simp only [subL_succ, subL_zero, get_l, List.getElem?_cons_zero, List.getElem?_cons_succ, consO_some, Nat.reduceAdd]; exact rfl) | assumption) ?_) | fail) | fail)) | (with_reducible (apply gd_top; first | (refine p_bsl ?_) | fail)) | (with_reducible (apply gd_bi; first | ((refine bi_append hg (by ((repeat ((fail_if_success (first | apply TakeL.here | apply TakeL.all | apply TakeL.hd)); (first | apply TakeL.cons | apply TakeL.app))); (first | apply TakeL.here | apply TakeL.all | apply TakeL.hd))) (by first | with_reducible assumption | with_reducible exact SlAt.whole (by (first | (apply at_own; (· (repeat (first | apply Take.here | apply Take.there | apply Take.app)))) | (apply at_mem; assumption) | (apply At.up; assumption) | assumption | (apply At.sub; assumption; (· ((repeat ((fail_if_success (first | apply TakeL.here | apply TakeL.all | apply TakeL.hd)); (first | apply TakeL.cons | apply TakeL.app))); (first | apply TakeL.here | apply TakeL.all | apply TakeL.hd)))))) rfl) (by first | exact Fa.sl_30 | fail) (by decide) (by decide) (by first | with_reducible assumption | (simp only [eng_sm, eng_core, Nat.reduceAdd, Nat.reduceLeDiff]; done) | (simp only [oneAll_nil, oneAll_cons, one_iface, one_func, Bool.and_self]; done)) (by omega) (by simp only [maxLen]; omega) ?_); rintro _ _ hg2; obtain ⟨_, _, rfl⟩ := GS.slice hg2) | fail)) | (with_reducible (apply gd_cond; first | (refine cond_if (fun h => ?_) (fun h => ?_)) | (refine cond_nif (fun h => ?_) (fun h => ?_)) | (refine cond_nsplit (fun h => ?_) (fun h => ?_)) | (refine cond_split (fun h => ?_) (fun h => ?_)))) | fail)
    rename_i xs Lg2 p2 c2
    rw [hsn] at hg2
    rw [← hal] at hg2
    refine next_of (γ := UpG) ⟨lk.up, acc ++ [i], p2, c2, Lg2⟩ (by dsimp only; rw [hal]; (first | (simp (maxSteps := 1000000) (disch := omega) only [↓eng_pre, eng_post, ↓Fa.all_pc, Fa.all_fa, eng_core, Nat.reduceBEq, ne_eq, reduceIte, Nat.reduceEqDiff, Nat.reduceAdd, Nat.reduceMul, Nat.reduceLT, Nat.reduceSub, Int.reduceLT, Int.reduceLE, Int.reduceEq, Int.reduceAdd, Int.reduceSub, Int.reduceMul, Int.reduceNeg, Int.reduceToNat, *]; done) | (simp (maxSteps := 1000000) (disch := omega) only [↓eng_pre, eng_post, ↓Fa.all_pc, Fa.all_fa, eng_core, Nat.reduceBEq, ne_eq, reduceIte, Nat.reduceEqDiff, Nat.reduceAdd, Nat.reduceMul, Nat.reduceLT, Nat.reduceSub, Int.reduceLT, Int.reduceLE, Int.reduceEq, Int.reduceAdd, Int.reduceSub, Int.reduceMul, Int.reduceNeg, Int.reduceToNat, *, Value.int.injEq, true_and, and_true, Int.natCast_add, Int.natCast_one, Int.natCast_zero, Int.add_zero]; done) | (simp (maxSteps := 1000000) (disch := omega) only [↓eng_pre, eng_post, ↓Fa.all_pc, Fa.all_fa, eng_core, Nat.reduceBEq, ne_eq, reduceIte, Nat.reduceEqDiff, Nat.reduceAdd, Nat.reduceMul, Nat.reduceLT, Nat.reduceSub, Int.reduceLT, Int.reduceLE, Int.reduceEq, Int.reduceAdd, Int.reduceSub, Int.reduceMul, Int.reduceNeg, Int.reduceToNat, *, Value.int.injEq, true_and, and_true]; omega) | (simp (maxSteps := 1000000) (disch := omega) only [↓eng_pre, eng_post, ↓Fa.all_pc, Fa.all_fa, eng_core, Nat.reduceBEq, ne_eq, reduceIte, Nat.reduceEqDiff, Nat.reduceAdd, Nat.reduceMul, Nat.reduceLT, Nat.reduceSub, Int.reduceLT, Int.reduceLE, Int.reduceEq, Int.reduceAdd, Int.reduceSub, Int.reduceMul, Int.reduceNeg, Int.reduceToNat, *, Value.int.injEq, true_and, and_true]; exact rfl))) (end_takeR (Lp := Lg2 ++ [(bx, _)]) ⟨rfl, rfl, hg2, by dsimp only; omega, by rw [List.append_assoc]; exact hw, by dsimp only; omega, fun _ => by dsimp only; omega⟩ (by (repeat (first | apply Takes.nil | (apply Takes.cons; (· (repeat (first | apply Take.here | apply Take.there | apply Take.app)))) | (apply Takes.app; (· ((repeat ((fail_if_success (first | apply TakeL.here | apply TakeL.all | apply TakeL.hd)); (first | apply TakeL.cons | apply TakeL.app))); (first | apply TakeL.here | apply TakeL.all | apply TakeL.hd)))) | (apply Takes.lst; (· ((repeat ((fail_if_success (first | apply TakeL.here | apply TakeL.all | apply TakeL.hd)); (first | apply TakeL.cons | apply TakeL.app))); (first | apply TakeL.here | apply TakeL.all | apply TakeL.hd)))) | fail)))) (by dsimp only; omega)
  · rw [ups_neg _ _ (by omega), List.append_nil] at hw
    subst hw
    clear hlk
    have hg2 := hrv acc p c Lg m' (by rw [List.length_map]; exact hg) (by rw [List.length_map]; omega)
    rw [List.length_map, ← nats_rev] at hg2
    have hrl : acc.reverse.length = acc.length := List.length_reverse
    generalize t.links.length = nl at *
    rw [hrl]
    repeat' (first | simp (maxSteps := 1000000) (disch := omega) only [↓Fc.x48_0, ↓eng_pre, eng_post, ↓Fa.all_pc, Fa.all_fa, eng_core, Nat.reduceBEq, ne_eq, reduceIte, Nat.reduceEqDiff, Nat.reduceAdd, Nat.reduceMul, Nat.reduceLT, Nat.reduceSub, Int.reduceLT, Int.reduceLE, Int.reduceEq, Int.reduceAdd, Int.reduceSub, Int.reduceMul, Int.reduceNeg, Int.reduceToNat, e1, e2, e5, h0, Int.toNat_natCast] | (with_reducible (apply gd_new; first | (refine newA_of (fun _ => ?_)) | fail)) | (with_reducible (apply gd_load; first | (refine ld_by (by (first | (apply at_own; (· (repeat (first | apply Take.here | apply Take.there | apply Take.app)))) | (apply at_mem; assumption) | (apply At.up; assumption) | assumption)) ?_; first | (refine lb_one (by first | with_reducible rfl | (simp only [get_l, List.getElem?_cons_zero, List.getElem?_cons_succ, Option.some.injEq]; exact rfl) | assumption) ?_) | (refine lb_agg (by first | (simp only [subL_succ, subL_zero, get_l, List.getElem?_cons_zero, List.getElem?_cons_succ, consO_some, Nat.reduceAdd]; exact rfl) | assumption) ?_) | fail) | fail)) | (with_reducible (apply gd_top; first | (refine p_bsl ?_) | fail)) | (with_reducible (apply gd_call; first | ((refine ca_of (hg2) (by (repeat (first | apply Takes.nil | (apply Takes.cons; (· (repeat (first | apply Take.here | apply Take.there | apply Take.app)))) | (apply Takes.app; (· ((repeat ((fail_if_success (first | apply TakeL.here | apply TakeL.all | apply TakeL.hd)); (first | apply TakeL.cons | apply TakeL.app))); (first | apply TakeL.here | apply TakeL.all | apply TakeL.hd)))) | (apply Takes.lst; (· ((repeat ((fail_if_success (first | apply TakeL.here | apply TakeL.all | apply TakeL.hd)); (first | apply TakeL.cons | apply TakeL.app))); (first | apply TakeL.here | apply TakeL.all | apply TakeL.hd)))) | fail))) ?_); rintro _ _ _ ⟨rfl, hg3⟩) | fail)) | (with_reducible (apply gd_cond; first | (refine cond_if (fun h => ?_) (fun h => ?_)) | (refine cond_nif (fun h => ?_) (fun h => ?_)) | (refine cond_nsplit (fun h => ?_) (fun h => ?_)) | (refine cond_split (fun h => ?_) (fun h => ?_)))) | fail)
    exact end_takeR (Lp := _) ⟨rfl, p, c, rfl, hg3⟩ (by (repeat (first | apply Takes.nil | (apply Takes.cons; (· (repeat (first | apply Take.here | apply Take.there | apply Take.app)))) | (apply Takes.app; (· ((repeat ((fail_if_success (first | apply TakeL.here | apply TakeL.all | apply TakeL.hd)); (first | apply TakeL.cons | apply TakeL.app))); (first | apply TakeL.here | apply TakeL.all | apply TakeL.hd)))) | (apply Takes.lst; (· ((repeat ((fail_if_success (first | apply TakeL.here | apply TakeL.all | apply TakeL.hd)); (first | apply TakeL.cons | apply TakeL.app))); (first | apply TakeL.here | apply TakeL.all | apply TakeL.hd)))) | fail)))
end Go.Proofs.Ythfbfigdgjhhaaa
