/- Layer 3: what is reached: the program's. -/
import Derived.Test.YtkcacgjbofabfaaDoorJThings
import Derived.Test.YtkcacgjbofabfaaDoorRReach
import Derived.Test.YtkcacgjbofabfaaDoorFactsC
set_option linter.unusedSimpArgs false
set_option linter.unusedVariables false
set_option maxRecDepth 20000
set_option linter.all false
-- @FC
namespace Go.Heap
open Go Go.Eng Go.Proofs.YtkcacgjbofabfaaDoor
theorem dfsN_len (s : HS) : ∀ f sn t, t.length + wt s sn ≤ f → (dfsN s f sn t).length ≤ t.length + wt s sn := by
  intro f
  induction f with
  | zero => intro sn t h; simp [dfsN]
  | succ f ih =>
    intro sn t h
    cases t with
    | nil => simp [dfsN]
    | cons v t =>
      rw [List.length_cons] at h ⊢
      unfold dfsN
      cases ho : objO s v with
      | none => have := ih sn t (by omega); dsimp only; omega
      | some o =>
        dsimp only
        split
        · have := ih sn t (by omega); omega
        · rename_i hv
          have := wt_visit ho hv
          have := ih (sn ++ [v.2]) (o.2 ++ t) (by rw [List.length_append]; omega)
          rw [List.length_append] at this
          rw [List.length_cons]; omega
def reachF (s : HS) (l : List V) : List Int := (dfs s [] l).map (·.1)
theorem reachF_len (s : HS) (l : List V) : (reachF s l).length ≤ l.length + wt s [] := by
  unfold reachF dfs; rw [List.length_map]; exact dfsN_len s _ [] l (Nat.le_refl _)
end Go.Heap
namespace Go.Proofs.YtkcacgjbofabfaaDoor
open Go Go.Eng Go.Heap
set_option maxHeartbeats 0 in
theorem reach_ct (bh : Nat) (s : HS) (Lh Lx : Lst) (hp : HP bh s Lh) (p : Option Addr) (c : Nat) (l : List V) (m : Mem) (hx : SlAt m Lx (.slice p l.length c) l.length 2 (encs l)) (hB : l.length + wt s [] ≤ 1000000) (hcell : ∀ o ∈ s.objs, o.2.length ≤ 1000000) :
    Cta Tryd.prog 14 [ptr bh, .slice p l.length c] m (Lh ++ Lx) (fun v m' L' => m.Le m' ∧ ∃ p' c' Lo, v = .slice p' (reachF s l).length c' ∧ L' = Lo ++ (Lh ++ Lx) ∧ GS 2 1 (.slice p' (reachF s l).length c') (reachF s l).length (intsV (reachF s l)) Lo) := by
  have hit := fun b1 b2 => things_it bh b1 b2 s Lh Lx hp p c l m hx hB hcell
  have hps : ∀ k args m', ThA (dfs s [] l) k args m' → args.length = 2 := by rintro k args m' ⟨n, o, q, d, _, rfl, _⟩; rfl
  have hat : ∀ k args m', ThA (dfs s [] l) k args m' → ∃ n w, args = [.int .i64 n, w] ∧ (reachF s l).take (k + 1) = (reachF s l).take k ++ [n] ∧ k + 1 ≤ (reachF s l).length := by
    rintro k args m' ⟨n, o, q, d, h1, rfl, _⟩
    have h2 : (reachF s l)[k]? = some n := by unfold reachF; rw [List.getElem?_map, h1]; rfl
    exact ⟨n, _, rfl, by rw [List.take_succ, h2]; rfl, (List.getElem?_eq_some_iff.1 h2).1⟩
  have hlen : (dfs s [] l).length = (reachF s l).length := by unfold reachF; rw [List.length_map]
  have hrb := reachF_len s l
  rw [hlen] at hit
  have tc := fun m => things_ct bh p l.length c m
  generalize reachF s l = r at *
  generalize ThA (dfs s [] l) = A at *
  clear hlen hx
  obtain ⟨Lz, hLz⟩ : ∃ Lz, Lz = Lh ++ Lx := ⟨_, rfl⟩
  rw [← hLz] at hit ⊢
  clear hLz hp
  refine cta_of_TM (c := Fc.k14_0) Tryd.func14 rfl rfl (by kernel_rfl) (by kernel_rfl) ?_
  repeat' (first | simp (maxSteps := 1000000) (disch := omega) only [↓Fc.x14_0, ↓eng_pre, eng_post, ↓Fa.all_pc, Fa.all_fa, eng_core, Nat.reduceBEq, ne_eq, reduceIte, Nat.reduceEqDiff, Nat.reduceAdd, Nat.reduceMul, Nat.reduceLT, Nat.reduceSub, Int.reduceLT, Int.reduceLE, Int.reduceEq, Int.reduceAdd, Int.reduceSub, Int.reduceMul, Int.reduceNeg, Int.reduceToNat, ↓bodyM_ret, ↓bodyM_normal, ↓rndQ_normal, ↓rndQ_ret, ↓rndQ_exit, ↓asgQ_normal, ↓scopeA_normal, ↓scopeA_exit, ↓scopeA_ret, setE_nil, setE_cons] | (with_reducible (apply gd_new; first | (refine newA_of (fun _ => ?_)) | fail)) | (with_reducible (apply gd_load; first | (refine ld_by (by (first | (apply at_own; (· (repeat (first | apply Take.here | apply Take.there | apply Take.app)))) | (apply at_mem; assumption) | (apply At.up; assumption) | assumption)) ?_; first | (refine lb_one (by first | with_reducible rfl | (simp only [get_l, List.getElem?_cons_zero, List.getElem?_cons_succ, Option.some.injEq]; exact rfl) | assumption) ?_) | (refine lb_agg (by first | (simp only [subL_succ, subL_zero, get_l, List.getElem?_cons_zero, List.getElem?_cons_succ, consO_some, Nat.reduceAdd]; exact rfl) | assumption) ?_) | fail) | fail)) | (with_reducible (apply gd_store; first | (refine st_own (by (repeat (first | apply Put.here | apply Put.there | apply Put.app))) (by simp only [eng_sm, eng_core, Nat.reduceAdd, Nat.reduceLeDiff] <;> with_reducible assumption) (by simp only [eng_sm, eng_core, Nat.reduceAdd, Nat.reduceLeDiff] <;> first | with_reducible assumption | omega) ?_) | fail)) | (with_reducible (apply gd_top; first | (refine p_bsl ?_) | fail)) | (with_reducible (apply gd_raw; first | (refine scope_of (by kernel_rfl) ?_) | (refine label_of ?_) | fail)) | (with_reducible (apply gd_call; first | ((refine ca_of (tc _) (by (repeat (first | apply Takes.nil | (apply Takes.cons; (· (repeat (first | apply Take.here | apply Take.there | apply Take.app)))) | (apply Takes.app; (· ((repeat ((fail_if_success (first | apply TakeL.here | apply TakeL.all | apply TakeL.hd)); (first | apply TakeL.cons | apply TakeL.app))); (first | apply TakeL.here | apply TakeL.all | apply TakeL.hd)))) | (apply Takes.lst; (· ((repeat ((fail_if_success (first | apply TakeL.here | apply TakeL.all | apply TakeL.hd)); (first | apply TakeL.cons | apply TakeL.app))); (first | apply TakeL.here | apply TakeL.all | apply TakeL.hd)))) | fail))) ?_); rintro _ _ _ ⟨b1, b2, rfl, rfl, rfl⟩) | fail)) | (with_reducible refine bodyM_mark (by (repeat (first | apply Take.here | apply Take.there | apply Take.app))) ?_) | (with_reducible refine bodyM_mark_n (by (repeat (first | apply Take.here | apply Take.there | apply Take.app))) ?_) | fail)
  rename_i x5 m1
  refine range_rf (Lf := (b1, sliO p l.length c) :: (b2, hpO bh) :: Lz) (Lo := [(x5, .cells #[.slice none 0 0] 33 (0, 0))]) [(5, ptr x5)] (by kernel_rfl) (hit b1 b2) (by simp (maxSteps := 1000000) (disch := omega) only [↓eng_pre, eng_post, ↓Fa.all_pc, Fa.all_fa, eng_core, Nat.reduceBEq, ne_eq, reduceIte, Nat.reduceEqDiff, Nat.reduceAdd, Nat.reduceMul, Nat.reduceLT, Nat.reduceSub, Int.reduceLT, Int.reduceLE, Int.reduceEq, Int.reduceAdd, Int.reduceSub, Int.reduceMul, Int.reduceNeg, Int.reduceToNat]; try rfl) (by (repeat (first | apply Takes.nil | (apply Takes.cons; (· (repeat (first | apply Take.here | apply Take.there | apply Take.app)))) | (apply Takes.app; (· ((repeat ((fail_if_success (first | apply TakeL.here | apply TakeL.all | apply TakeL.hd)); (first | apply TakeL.cons | apply TakeL.app))); (first | apply TakeL.here | apply TakeL.all | apply TakeL.hd)))) | (apply Takes.lst; (· ((repeat ((fail_if_success (first | apply TakeL.here | apply TakeL.all | apply TakeL.hd)); (first | apply TakeL.cons | apply TakeL.app))); (first | apply TakeL.here | apply TakeL.all | apply TakeL.hd)))) | fail))) hps
    (fun k m' L' => m1.Le m' ∧ ∃ p' c' Lo, L' = (x5, .cells #[.slice p' k c'] 33 (0, 0)) :: Lo ∧ GS 2 1 (.slice p' k c') k (intsV (r.take k)) Lo ∧ k ≤ r.length) (fun x m' L' => False)
    (fun k m' m2 L' hm h => ⟨h.1.trans hm, h.2⟩) (by (first | (simp (maxSteps := 1000000) (disch := omega) only [↓eng_pre, eng_post, ↓Fa.all_pc, Fa.all_fa, eng_core, Nat.reduceBEq, ne_eq, reduceIte, Nat.reduceEqDiff, Nat.reduceAdd, Nat.reduceMul, Nat.reduceLT, Nat.reduceSub, Int.reduceLT, Int.reduceLE, Int.reduceEq, Int.reduceAdd, Int.reduceSub, Int.reduceMul, Int.reduceNeg, Int.reduceToNat, *]; done) | (simp (maxSteps := 1000000) (disch := omega) only [↓eng_pre, eng_post, ↓Fa.all_pc, Fa.all_fa, eng_core, Nat.reduceBEq, ne_eq, reduceIte, Nat.reduceEqDiff, Nat.reduceAdd, Nat.reduceMul, Nat.reduceLT, Nat.reduceSub, Int.reduceLT, Int.reduceLE, Int.reduceEq, Int.reduceAdd, Int.reduceSub, Int.reduceMul, Int.reduceNeg, Int.reduceToNat, *, Value.int.injEq, true_and, and_true, Int.natCast_add, Int.natCast_one, Int.natCast_zero, Int.add_zero]; done) | (simp (maxSteps := 1000000) (disch := omega) only [↓eng_pre, eng_post, ↓Fa.all_pc, Fa.all_fa, eng_core, Nat.reduceBEq, ne_eq, reduceIte, Nat.reduceEqDiff, Nat.reduceAdd, Nat.reduceMul, Nat.reduceLT, Nat.reduceSub, Int.reduceLT, Int.reduceLE, Int.reduceEq, Int.reduceAdd, Int.reduceSub, Int.reduceMul, Int.reduceNeg, Int.reduceToNat, *, Value.int.injEq, true_and, and_true]; omega) | (simp (maxSteps := 1000000) (disch := omega) only [↓eng_pre, eng_post, ↓Fa.all_pc, Fa.all_fa, eng_core, Nat.reduceBEq, ne_eq, reduceIte, Nat.reduceEqDiff, Nat.reduceAdd, Nat.reduceMul, Nat.reduceLT, Nat.reduceSub, Int.reduceLT, Int.reduceLE, Int.reduceEq, Int.reduceAdd, Int.reduceSub, Int.reduceMul, Int.reduceNeg, Int.reduceToNat, *, Value.int.injEq, true_and, and_true]; exact rfl))) (end_here ⟨.refl _, .refl _, none, 0, [], rfl, GS.nil, Nat.zero_le _⟩) ?_ ?_ ?_
  · rintro e yl k a m2 L2 hf hA _ ⟨hle, p2, c2, Lo, rfl, hg, hkn⟩
    obtain ⟨n, w, rfl, htk, hk1⟩ := hat k a m2 hA
    simp only [fits_cons, fits_nil, and_true] at hf
    have hkb : k ≤ 1000000 := by omega
    clear hat hit tc hA hps
    repeat' (first | simp (maxSteps := 1000000) (disch := omega) only [↓Fc.x14_0, ↓eng_pre, eng_post, ↓Fa.all_pc, Fa.all_fa, eng_core, Nat.reduceBEq, ne_eq, reduceIte, Nat.reduceEqDiff, Nat.reduceAdd, Nat.reduceMul, Nat.reduceLT, Nat.reduceSub, Int.reduceLT, Int.reduceLE, Int.reduceEq, Int.reduceAdd, Int.reduceSub, Int.reduceMul, Int.reduceNeg, Int.reduceToNat, hf, ↓bodyM_ret, ↓bodyM_normal, ↓rndQ_normal, ↓rndQ_ret, ↓rndQ_exit, ↓asgQ_normal, ↓scopeA_normal, ↓scopeA_exit, ↓scopeA_ret, setE_nil, setE_cons] | (with_reducible (apply gd_new; first | (refine newA_of (fun _ => ?_)) | fail)) | (with_reducible (apply gd_load; first | (refine ld_by (by (first | (apply at_own; (· (repeat (first | apply Take.here | apply Take.there | apply Take.app)))) | (apply at_mem; assumption) | (apply At.up; assumption) | assumption)) ?_; first | (refine lb_one (by first | with_reducible rfl | (simp only [get_l, List.getElem?_cons_zero, List.getElem?_cons_succ, Option.some.injEq]; exact rfl) | assumption) ?_) | (refine lb_agg (by first | (simp only [subL_succ, subL_zero, get_l, List.getElem?_cons_zero, List.getElem?_cons_succ, consO_some, Nat.reduceAdd]; exact rfl) | assumption) ?_) | fail) | fail)) | (with_reducible (apply gd_store; first | (refine st_own (by (repeat (first | apply Put.here | apply Put.there | apply Put.app))) (by simp only [eng_sm, eng_core, Nat.reduceAdd, Nat.reduceLeDiff] <;> with_reducible assumption) (by simp only [eng_sm, eng_core, Nat.reduceAdd, Nat.reduceLeDiff] <;> first | with_reducible assumption | omega) ?_) | fail)) | (with_reducible (apply gd_top; first | (refine p_bsl ?_) | fail)) | (with_reducible (apply gd_raw; first | (refine scope_of (by kernel_rfl) ?_) | (refine label_of ?_) | fail)) | (with_reducible (apply gd_bi; first | ((refine bi_append hg (by ((repeat ((fail_if_success (first | apply TakeL.here | apply TakeL.all | apply TakeL.hd)); (first | apply TakeL.cons | apply TakeL.app))); (first | apply TakeL.here | apply TakeL.all | apply TakeL.hd))) (by first | with_reducible assumption | with_reducible exact SlAt.whole (by (first | (apply at_own; (· (repeat (first | apply Take.here | apply Take.there | apply Take.app)))) | (apply at_mem; assumption) | (apply At.up; assumption) | assumption)) rfl) (by first | exact Fa.sl_33 | fail) (by decide) (by decide) (by first | with_reducible assumption | (simp only [eng_sm, eng_core, Nat.reduceAdd, Nat.reduceLeDiff]; done) | (simp only [oneAll_nil, oneAll_cons, one_iface, one_func, Bool.and_self]; done)) (by omega) (by simp only [maxLen]; omega) ?_); rintro _ _ hg2; obtain ⟨_, _, rfl⟩ := GS.slice hg2) | fail)) | (with_reducible refine bodyM_mark (by (repeat (first | apply Take.here | apply Take.there | apply Take.app))) ?_) | (with_reducible refine bodyM_mark_n (by (repeat (first | apply Take.here | apply Take.there | apply Take.app))) ?_) | fail)
    rename_i xx L5 p5 c5
    exact end_takeR (Lp := (x5, .cells #[.slice p5 (k + 1) c5] 33 (0, 0)) :: L5) ⟨.refl _, hle, p5, c5, L5, rfl, by rw [htk, intsV_snoc]; exact hg2, hk1⟩ (by (repeat (first | apply Takes.nil | (apply Takes.cons; (· (repeat (first | apply Take.here | apply Take.there | apply Take.app)))) | (apply Takes.app; (· ((repeat ((fail_if_success (first | apply TakeL.here | apply TakeL.all | apply TakeL.hd)); (first | apply TakeL.cons | apply TakeL.app))); (first | apply TakeL.here | apply TakeL.all | apply TakeL.hd)))) | (apply Takes.lst; (· ((repeat ((fail_if_success (first | apply TakeL.here | apply TakeL.all | apply TakeL.hd)); (first | apply TakeL.cons | apply TakeL.app))); (first | apply TakeL.here | apply TakeL.all | apply TakeL.hd)))) | fail)))
  · rintro e D m2 L2 hf _ ⟨hle, p2, c2, Lo, rfl, hg, hkn⟩
    simp only [fits_cons, fits_nil, and_true] at hf
    rw [List.take_of_length_le (Nat.le_refl _)] at hg
    clear hat hit tc hps
    repeat' (first | simp (maxSteps := 1000000) (disch := omega) only [↓Fc.x14_0, ↓eng_pre, eng_post, ↓Fa.all_pc, Fa.all_fa, eng_core, Nat.reduceBEq, ne_eq, reduceIte, Nat.reduceEqDiff, Nat.reduceAdd, Nat.reduceMul, Nat.reduceLT, Nat.reduceSub, Int.reduceLT, Int.reduceLE, Int.reduceEq, Int.reduceAdd, Int.reduceSub, Int.reduceMul, Int.reduceNeg, Int.reduceToNat, hf, ↓bodyM_ret, ↓bodyM_normal, ↓rndQ_normal, ↓rndQ_ret, ↓rndQ_exit, ↓asgQ_normal, ↓scopeA_normal, ↓scopeA_exit, ↓scopeA_ret, setE_nil, setE_cons] | (with_reducible (apply gd_new; first | (refine newA_of (fun _ => ?_)) | fail)) | (with_reducible (apply gd_load; first | (refine ld_by (by (first | (apply at_own; (· (repeat (first | apply Take.here | apply Take.there | apply Take.app)))) | (apply at_mem; assumption) | (apply At.up; assumption) | assumption)) ?_; first | (refine lb_one (by first | with_reducible rfl | (simp only [get_l, List.getElem?_cons_zero, List.getElem?_cons_succ, Option.some.injEq]; exact rfl) | assumption) ?_) | (refine lb_agg (by first | (simp only [subL_succ, subL_zero, get_l, List.getElem?_cons_zero, List.getElem?_cons_succ, consO_some, Nat.reduceAdd]; exact rfl) | assumption) ?_) | fail) | fail)) | (with_reducible (apply gd_store; first | (refine st_own (by (repeat (first | apply Put.here | apply Put.there | apply Put.app))) (by simp only [eng_sm, eng_core, Nat.reduceAdd, Nat.reduceLeDiff] <;> with_reducible assumption) (by simp only [eng_sm, eng_core, Nat.reduceAdd, Nat.reduceLeDiff] <;> first | with_reducible assumption | omega) ?_) | fail)) | (with_reducible (apply gd_top; first | (refine p_bsl ?_) | fail)) | (with_reducible (apply gd_raw; first | (refine scope_of (by kernel_rfl) ?_) | (refine label_of ?_) | fail)) | (with_reducible refine bodyM_mark (by (repeat (first | apply Take.here | apply Take.there | apply Take.app))) ?_) | (with_reducible refine bodyM_mark_n (by (repeat (first | apply Take.here | apply Take.there | apply Take.app))) ?_) | fail)
    exact end_takeR (Lp := Lo ++ Lz) ⟨hle, p2, c2, Lo, rfl, rfl, hg⟩ (by (repeat (first | apply Takes.nil | (apply Takes.cons; (· (repeat (first | apply Take.here | apply Take.there | apply Take.app)))) | (apply Takes.app; (· ((repeat ((fail_if_success (first | apply TakeL.here | apply TakeL.all | apply TakeL.hd)); (first | apply TakeL.cons | apply TakeL.app))); (first | apply TakeL.here | apply TakeL.all | apply TakeL.hd)))) | (apply Takes.lst; (· ((repeat ((fail_if_success (first | apply TakeL.here | apply TakeL.all | apply TakeL.hd)); (first | apply TakeL.cons | apply TakeL.app))); (first | apply TakeL.here | apply TakeL.all | apply TakeL.hd)))) | fail)))
  · rintro e D x m2 L2 hf _ h _
    exact h.elim
end Go.Proofs.YtkcacgjbofabfaaDoor
