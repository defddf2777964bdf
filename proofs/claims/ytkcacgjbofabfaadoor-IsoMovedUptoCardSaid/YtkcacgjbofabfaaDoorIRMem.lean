/- Layer 2: what a heap is in memory: the document's answer. -/
import Derived.Test.YtkcacgjbofabfaaDoorIObj
import Derived.Test.YtkcacgjbofabfaaDoorFactsC
set_option linter.unusedSimpArgs false
set_option linter.unusedVariables false
set_option maxRecDepth 20000
set_option linter.all false
-- @FC
namespace Go.Proofs.YtkcacgjbofabfaaDoor
open Go Go.Eng Go.Heap
abbrev robj (ov : Value) (s : HS) : Obj := .cells #[ov, .int .i64 s.limit, .int .i64 s.used, .int .i64 s.root.1, .int .i64 s.root.2] 65 (0, 0)
inductive RThings : List (Int × List V) → List Value → Lst → Prop
  | nil : RThings [] [] []
  | cons {o os sv xs Lo L} : GS 45 2 sv o.2.length (encs o.2) Lo → RThings os xs L → RThings (o :: os) (.int .i64 o.1 :: sv :: xs) (Lo ++ L)
theorem RThings.len {os xs L} (h : RThings os xs L) : xs.length = os.length * 2 := by
  induction h with
  | nil => rfl
  | cons _ _ ih => simp [ih]; omega
theorem RThings.snoc {os xs L o sv Lo} (h : RThings os xs L) (k : GS 45 2 sv o.2.length (encs o.2) Lo) : RThings (os ++ [o]) (xs ++ [.int .i64 o.1, sv]) (L ++ Lo) := by
  induction h with
  | nil => simpa using RThings.cons k .nil
  | cons h0 _ ih => simpa [List.append_assoc] using RThings.cons h0 ih
theorem RThings.at {os xs L o} (h : RThings os xs L) {i : Nat} (hi : os[i]? = some o) : ∃ sv Lo L1 L2, xs[i * 2]? = some (.int .i64 o.1) ∧ xs[i * 2 + 1]? = some sv ∧ GS 45 2 sv o.2.length (encs o.2) Lo ∧ L = L1 ++ (Lo ++ L2) ∧
    ∀ cells Lo', cells.length = o.2.length → GS 45 2 sv o.2.length (encs cells) Lo' → RThings (os.set i (o.1, cells)) xs (L1 ++ (Lo' ++ L2)) := by
  induction h generalizing i with
  | nil => simp at hi
  | @cons o0 os sv0 xs Lo0 L h0 hr ih =>
    cases i with
    | zero =>
      simp at hi; subst hi
      refine ⟨sv0, Lo0, [], L, rfl, rfl, h0, rfl, fun cells Lo' hc h' => ?_⟩
      exact RThings.cons (o := (o0.1, cells)) (Lo := Lo') (by rw [← hc] at h'; exact h') hr
    | succ i =>
      obtain ⟨sv, Lo, L1, L2, h1, h2, h3, h4, h5⟩ := ih (by simpa using hi)
      refine ⟨sv, Lo, Lo0 ++ L1, L2, ?_, ?_, h3, by rw [h4]; simp [List.append_assoc], fun cells Lo' hc h' => ?_⟩
      · rw [show (i + 1) * 2 = i * 2 + 2 by omega]; simpa using h1
      · rw [show (i + 1) * 2 + 1 = i * 2 + 1 + 2 by omega]; simpa using h2
      · have := RThings.cons h0 (h5 cells Lo' hc h')
        simpa [List.append_assoc] using this
/-- A heap of the document's, at block b. -/
def RP (b : Nat) (s : HS) (L : Lst) : Prop := HOk s ∧ ∃ ov xs Lg Lt, GS 41 2 ov s.objs.length xs Lg ∧ RThings s.objs xs Lt ∧ L = (b, robj ov s) :: (Lg ++ Lt)
theorem RP.len {b : Nat} {s : HS} {L : Lst} (h : RP b s L) : ∃ p c Lr, L = (b, robj (.slice p s.objs.length c) s) :: Lr := by
  obtain ⟨_, ov, xs, Lg, Lt, hg, _, rfl⟩ := h
  obtain ⟨p, c, rfl⟩ := hg.slice
  exact ⟨p, c, _, rfl⟩
theorem RP.at {b : Nat} {s : HS} {L : Lst} {k : Nat} {o : Int × List V} (h : RP b s L) (ho : s.objs[k]? = some o) : ∃ g c arr p cc Lo L1 L2,
    L = (b, robj (.slice (some ⟨g, 0, none⟩) s.objs.length c) s) :: (g, .cells arr 41 (0, 0)) :: (L1 ++ (Lo ++ L2)) ∧ k < s.objs.length ∧ arr[k * 2]? = some (.int .i64 o.1) ∧ arr[k * 2 + 1]? = some (.slice p o.2.length cc) ∧
    GS 45 2 (.slice p o.2.length cc) o.2.length (encs o.2) Lo ∧
    ∀ cells Lo', cells.length = o.2.length → GS 45 2 (.slice p o.2.length cc) o.2.length (encs cells) Lo' →
      RP b { s with objs := s.objs.set k (o.1, cells) } ((b, robj (.slice (some ⟨g, 0, none⟩) s.objs.length c) s) :: (g, .cells arr 41 (0, 0)) :: (L1 ++ (Lo' ++ L2))) := by
  obtain ⟨ok, ov, xs, Lg, Lt, hg, ht, rfl⟩ := h
  have hk : k < s.objs.length := (List.getElem?_eq_some_iff.1 ho).1
  have hxl := ht.len
  obtain ⟨sv, Lo, L1, L2, h1, h2, h3, rfl, h5⟩ := ht.at ho
  obtain ⟨p, cc, rfl⟩ := h3.slice
  obtain ⟨g, c, sp, rfl, q1, q2, q3, rfl⟩ := gs_block hg (by omega)
  refine ⟨g, c, (xs ++ sp).toArray, p, cc, Lo, L1, L2, rfl, hk, ?_, ?_, h3, fun cells Lo' hc h' => ?_⟩
  · simp only [List.getElem?_toArray]; rw [List.getElem?_append_left (by omega)]; exact h1
  · simp only [List.getElem?_toArray]; rw [List.getElem?_append_left (by omega)]; exact h2
  · exact ⟨⟨ok.lim, ok.use⟩, _, xs, _, _, by simpa using hg, h5 cells Lo' hc h', rfl⟩
theorem clampL_val (n : Int) : (n < 0 → clampL n = 0) ∧ (10000000 < n → clampL n = 10000000) ∧ (0 ≤ n → n ≤ 10000000 → clampL n = n) := by
  refine ⟨fun h => ?_, fun h => ?_, fun h h' => ?_⟩ <;> unfold clampL mnI mxI <;> (repeat' split) <;> omega
theorem rnew_at (c : Int) (hk : 0 ≤ c ∧ c ≤ 10000000) (b : Nat) : RP b ⟨[], c, 0, (0, 0)⟩ [(b, .cells #[.slice none 0 0, .int .i64 c, .int .i64 0, .int .i64 0, .int .i64 0] 65 (0, 0))] :=
  ⟨⟨hk, ⟨Int.le_refl 0, hk.1⟩⟩, .slice none 0 0, [], [], [], GS.nil, .nil, rfl⟩
theorem rnew_ct (n : Int) (m : Mem) : Cta Tryd.prog 22 [.int .i64 n] m [] (fun v m' L' => m' = m ∧ ∃ b, v = ptr b ∧ RP b (newF n) L') := by
  obtain ⟨k1, k2, k3⟩ := clampL_val n
  unfold newF
  by_cases h1 : n < 0
  · rw [k1 h1]
    clear k1 k2 k3
    refine cta_of_T (c := Fc.k22_0) Tryd.func22 rfl rfl (by kernel_rfl) (by kernel_rfl) ?_
    repeat' (first | simp (maxSteps := 1000000) (disch := omega) only [↓Fc.x22_0, ↓eng_pre, eng_post, ↓Fa.all_pc, Fa.all_fa, eng_core, Nat.reduceBEq, ne_eq, reduceIte, Nat.reduceEqDiff, Nat.reduceAdd, Nat.reduceMul, Nat.reduceLT, Nat.reduceSub, Int.reduceLT, Int.reduceLE, Int.reduceEq, Int.reduceAdd, Int.reduceSub, Int.reduceMul, Int.reduceNeg, Int.reduceToNat, *] | (with_reducible (apply gd_new; first | (refine newA_of (fun _ => ?_)) | fail)) | (with_reducible (apply gd_cond; first | (refine cond_if (fun h => ?_) (fun h => ?_)) | (refine cond_nif (fun h => ?_) (fun h => ?_)) | (refine cond_nsplit (fun h => ?_) (fun h => ?_)) | (refine cond_split (fun h => ?_) (fun h => ?_)))) | fail)
    exact end_here ⟨rfl, _, rfl, rnew_at 0 (by omega) _⟩
  · by_cases h2 : 10000000 < n
    · rw [k2 h2]
      clear k1 k2 k3
      refine cta_of_T (c := Fc.k22_0) Tryd.func22 rfl rfl (by kernel_rfl) (by kernel_rfl) ?_
      repeat' (first | simp (maxSteps := 1000000) (disch := omega) only [↓Fc.x22_0, ↓eng_pre, eng_post, ↓Fa.all_pc, Fa.all_fa, eng_core, Nat.reduceBEq, ne_eq, reduceIte, Nat.reduceEqDiff, Nat.reduceAdd, Nat.reduceMul, Nat.reduceLT, Nat.reduceSub, Int.reduceLT, Int.reduceLE, Int.reduceEq, Int.reduceAdd, Int.reduceSub, Int.reduceMul, Int.reduceNeg, Int.reduceToNat, *] | (with_reducible (apply gd_new; first | (refine newA_of (fun _ => ?_)) | fail)) | (with_reducible (apply gd_cond; first | (refine cond_if (fun h => ?_) (fun h => ?_)) | (refine cond_nif (fun h => ?_) (fun h => ?_)) | (refine cond_nsplit (fun h => ?_) (fun h => ?_)) | (refine cond_split (fun h => ?_) (fun h => ?_)))) | fail)
      exact end_here ⟨rfl, _, rfl, rnew_at 10000000 (by omega) _⟩
    · rw [k3 (by omega) (by omega)]
      clear k1 k2 k3
      refine cta_of_T (c := Fc.k22_0) Tryd.func22 rfl rfl (by kernel_rfl) (by kernel_rfl) ?_
      repeat' (first | simp (maxSteps := 1000000) (disch := omega) only [↓Fc.x22_0, ↓eng_pre, eng_post, ↓Fa.all_pc, Fa.all_fa, eng_core, Nat.reduceBEq, ne_eq, reduceIte, Nat.reduceEqDiff, Nat.reduceAdd, Nat.reduceMul, Nat.reduceLT, Nat.reduceSub, Int.reduceLT, Int.reduceLE, Int.reduceEq, Int.reduceAdd, Int.reduceSub, Int.reduceMul, Int.reduceNeg, Int.reduceToNat, *] | (with_reducible (apply gd_new; first | (refine newA_of (fun _ => ?_)) | fail)) | (with_reducible (apply gd_cond; first | (refine cond_if (fun h => ?_) (fun h => ?_)) | (refine cond_nif (fun h => ?_) (fun h => ?_)) | (refine cond_nsplit (fun h => ?_) (fun h => ?_)) | (refine cond_split (fun h => ?_) (fun h => ?_)))) | fail)
      exact end_here ⟨rfl, _, rfl, rnew_at n (by omega) _⟩
theorem rat_good (b : Nat) (s : HS) (p : Option Addr) (n c k : Nat) (hk : k < n) (m : Mem) : Obs Tryd.prog 35 [ptr b, .agg #[.int .i64 2, .int .i64 (k : Int)]] m [(b, robj (.slice p n c) s)] (· = .int .i64 (k : Int)) := by
  have h1 : ¬ (k : Int) < 0 := by omega
  have h2 : ¬ (n : Int) ≤ (k : Int) := by omega
  refine cta_of_T (c := Fc.k35_0) Tryd.func35 rfl rfl (by kernel_rfl) (by kernel_rfl) ?_
  repeat' (first | (with_reducible exact (rfl : (_ : En) = _)) | simp (maxSteps := 1000000) (disch := omega) only [↓Fc.x35_0, ↓eng_pre, eng_post, ↓Fa.all_pc, Fa.all_fa, eng_core, Nat.reduceBEq, ne_eq, reduceIte, Nat.reduceEqDiff, Nat.reduceAdd, Nat.reduceMul, Nat.reduceLT, Nat.reduceSub, Int.reduceLT, Int.reduceLE, Int.reduceEq, Int.reduceAdd, Int.reduceSub, Int.reduceMul, Int.reduceNeg, Int.reduceToNat, *] | (with_reducible (apply gd_new; first | (refine newA_of (fun _ => ?_)) | fail)) | (with_reducible (apply gd_load; first | (refine ld_by (by (first | (apply at_own; (· (repeat (first | apply Take.here | apply Take.there | apply Take.app)))) | (apply at_mem; assumption) | (apply At.up; assumption) | assumption)) ?_; first | (refine lb_one (by first | with_reducible rfl | (simp only [get_l, List.getElem?_cons_zero, List.getElem?_cons_succ, Option.some.injEq]; exact rfl) | assumption) ?_) | (refine lb_agg (by first | (simp only [subL_succ, subL_zero, get_l, List.getElem?_cons_zero, List.getElem?_cons_succ, consO_some, Nat.reduceAdd]; exact rfl) | assumption) ?_) | fail) | fail)) | (with_reducible (apply gd_rload; first | (refine rl_by (by (first | (apply at_own; (· (repeat (first | apply Take.here | apply Take.there | apply Take.app)))) | (apply at_mem; assumption) | (apply At.up; assumption) | assumption)) ?_; first | (refine rb_one (by first | with_reducible rfl | (simp only [get_l, List.getElem?_cons_zero, List.getElem?_cons_succ, Option.some.injEq]; exact rfl) | assumption) ?_) | (refine rb_agg (by first | (simp only [subL_succ, subL_zero, get_l, List.getElem?_cons_zero, List.getElem?_cons_succ, consO_some, Nat.reduceAdd]; exact rfl) | assumption) ?_) | fail) | fail)) | (with_reducible (apply gd_top; first | (refine p_nilck ?_) | fail)) | (with_reducible (apply gd_bi; first | (refine bi_len (by kernel_rfl) ?_) | (refine bi_lens (by kernel_rfl) ?_) | fail)) | (with_reducible apply dr_free) | (with_reducible apply dr_stab) | (with_reducible (apply gd_gate; refine gate_of (by with_reducible assumption) ?_)) | (with_reducible apply gd_draw; first | (with_reducible refine drawA_id [some 5, some 6, some 7, some 8, some 9, some 10, some 11, some 12, some 13, some 14, some 15, some 16, some 17, some 18, some 19, some 20, some 21, some 22] [.free 18] (by decide +kernel) Fa.mix (by decide +kernel) ?_)) | (with_reducible (apply gd_cond; first | (refine cond_if (fun h => ?_) (fun h => ?_)) | (refine cond_nif (fun h => ?_) (fun h => ?_)) | (refine cond_nsplit (fun h => ?_) (fun h => ?_)) | (refine cond_split (fun h => ?_) (fun h => ?_)))) | (with_reducible (apply gd_guard; first | (refine guard_t (fun h => ?_) (fun h => ?_)) | (refine guard_f (fun h => ?_) (fun h => ?_)) | (refine guard_split (fun h => ?_) (fun h => ?_)))) | fail)
  (repeat' (first | ((with_reducible refine end_here ?_); (exact ⟨rfl, rfl⟩); done) | with_reducible refine end_drop ?_))
theorem rat_bad (b : Nat) (s : HS) (p : Option Addr) (n c : Nat) (k i : Int) (hb : ¬ (k = 2 ∧ 0 ≤ i ∧ i < n)) (m : Mem) : Obs Tryd.prog 35 [ptr b, .agg #[.int .i64 k, .int .i64 i]] m [(b, robj (.slice p n c) s)] (· = .int .i64 (-1)) := by
  by_cases h0 : k = 2
  · subst h0
    by_cases h1 : i < 0
    · clear hb
      refine cta_of_T (c := Fc.k35_0) Tryd.func35 rfl rfl (by kernel_rfl) (by kernel_rfl) ?_
      repeat' (first | (with_reducible exact (rfl : (_ : En) = _)) | simp (maxSteps := 1000000) (disch := omega) only [↓Fc.x35_0, ↓eng_pre, eng_post, ↓Fa.all_pc, Fa.all_fa, eng_core, Nat.reduceBEq, ne_eq, reduceIte, Nat.reduceEqDiff, Nat.reduceAdd, Nat.reduceMul, Nat.reduceLT, Nat.reduceSub, Int.reduceLT, Int.reduceLE, Int.reduceEq, Int.reduceAdd, Int.reduceSub, Int.reduceMul, Int.reduceNeg, Int.reduceToNat, *] | (with_reducible (apply gd_new; first | (refine newA_of (fun _ => ?_)) | fail)) | (with_reducible (apply gd_load; first | (refine ld_by (by (first | (apply at_own; (· (repeat (first | apply Take.here | apply Take.there | apply Take.app)))) | (apply at_mem; assumption) | (apply At.up; assumption) | assumption)) ?_; first | (refine lb_one (by first | with_reducible rfl | (simp only [get_l, List.getElem?_cons_zero, List.getElem?_cons_succ, Option.some.injEq]; exact rfl) | assumption) ?_) | (refine lb_agg (by first | (simp only [subL_succ, subL_zero, get_l, List.getElem?_cons_zero, List.getElem?_cons_succ, consO_some, Nat.reduceAdd]; exact rfl) | assumption) ?_) | fail) | fail)) | (with_reducible (apply gd_rload; first | (refine rl_by (by (first | (apply at_own; (· (repeat (first | apply Take.here | apply Take.there | apply Take.app)))) | (apply at_mem; assumption) | (apply At.up; assumption) | assumption)) ?_; first | (refine rb_one (by first | with_reducible rfl | (simp only [get_l, List.getElem?_cons_zero, List.getElem?_cons_succ, Option.some.injEq]; exact rfl) | assumption) ?_) | (refine rb_agg (by first | (simp only [subL_succ, subL_zero, get_l, List.getElem?_cons_zero, List.getElem?_cons_succ, consO_some, Nat.reduceAdd]; exact rfl) | assumption) ?_) | fail) | fail)) | (with_reducible (apply gd_top; first | (refine p_nilck ?_) | fail)) | (with_reducible (apply gd_bi; first | (refine bi_len (by kernel_rfl) ?_) | (refine bi_lens (by kernel_rfl) ?_) | fail)) | (with_reducible apply dr_free) | (with_reducible apply dr_stab) | (with_reducible (apply gd_gate; refine gate_of (by with_reducible assumption) ?_)) | (with_reducible apply gd_draw; first | (with_reducible refine drawA_id [some 5, some 6, some 7, some 8, some 9, some 10, some 11, some 12, some 13, some 14, some 15, some 16, some 17, some 18, some 19, some 20, some 21, some 22] [.free 18] (by decide +kernel) Fa.mix (by decide +kernel) ?_)) | (with_reducible (apply gd_cond; first | (refine cond_if (fun h => ?_) (fun h => ?_)) | (refine cond_nif (fun h => ?_) (fun h => ?_)) | (refine cond_nsplit (fun h => ?_) (fun h => ?_)) | (refine cond_split (fun h => ?_) (fun h => ?_)))) | (with_reducible (apply gd_guard; first | (refine guard_t (fun h => ?_) (fun h => ?_)) | (refine guard_f (fun h => ?_) (fun h => ?_)) | (refine guard_split (fun h => ?_) (fun h => ?_)))) | fail)
      (repeat' (first | ((with_reducible refine end_here ?_); (exact ⟨rfl, rfl⟩); done) | with_reducible refine end_drop ?_))
    · have h2 : (n : Int) ≤ i := by omega
      clear hb
      refine cta_of_T (c := Fc.k35_0) Tryd.func35 rfl rfl (by kernel_rfl) (by kernel_rfl) ?_
      repeat' (first | (with_reducible exact (rfl : (_ : En) = _)) | simp (maxSteps := 1000000) (disch := omega) only [↓Fc.x35_0, ↓eng_pre, eng_post, ↓Fa.all_pc, Fa.all_fa, eng_core, Nat.reduceBEq, ne_eq, reduceIte, Nat.reduceEqDiff, Nat.reduceAdd, Nat.reduceMul, Nat.reduceLT, Nat.reduceSub, Int.reduceLT, Int.reduceLE, Int.reduceEq, Int.reduceAdd, Int.reduceSub, Int.reduceMul, Int.reduceNeg, Int.reduceToNat, *] | (with_reducible (apply gd_new; first | (refine newA_of (fun _ => ?_)) | fail)) | (with_reducible (apply gd_load; first | (refine ld_by (by (first | (apply at_own; (· (repeat (first | apply Take.here | apply Take.there | apply Take.app)))) | (apply at_mem; assumption) | (apply At.up; assumption) | assumption)) ?_; first | (refine lb_one (by first | with_reducible rfl | (simp only [get_l, List.getElem?_cons_zero, List.getElem?_cons_succ, Option.some.injEq]; exact rfl) | assumption) ?_) | (refine lb_agg (by first | (simp only [subL_succ, subL_zero, get_l, List.getElem?_cons_zero, List.getElem?_cons_succ, consO_some, Nat.reduceAdd]; exact rfl) | assumption) ?_) | fail) | fail)) | (with_reducible (apply gd_rload; first | (refine rl_by (by (first | (apply at_own; (· (repeat (first | apply Take.here | apply Take.there | apply Take.app)))) | (apply at_mem; assumption) | (apply At.up; assumption) | assumption)) ?_; first | (refine rb_one (by first | with_reducible rfl | (simp only [get_l, List.getElem?_cons_zero, List.getElem?_cons_succ, Option.some.injEq]; exact rfl) | assumption) ?_) | (refine rb_agg (by first | (simp only [subL_succ, subL_zero, get_l, List.getElem?_cons_zero, List.getElem?_cons_succ, consO_some, Nat.reduceAdd]; exact rfl) | assumption) ?_) | fail) | fail)) | (with_reducible (apply gd_top; first | (refine p_nilck ?_) | fail)) | (with_reducible (apply gd_bi; first | (refine bi_len (by kernel_rfl) ?_) | (refine bi_lens (by kernel_rfl) ?_) | fail)) | (with_reducible apply dr_free) | (with_reducible apply dr_stab) | (with_reducible (apply gd_gate; refine gate_of (by with_reducible assumption) ?_)) | (with_reducible apply gd_draw; first | (with_reducible refine drawA_id [some 5, some 6, some 7, some 8, some 9, some 10, some 11, some 12, some 13, some 14, some 15, some 16, some 17, some 18, some 19, some 20, some 21, some 22] [.free 18] (by decide +kernel) Fa.mix (by decide +kernel) ?_)) | (with_reducible (apply gd_cond; first | (refine cond_if (fun h => ?_) (fun h => ?_)) | (refine cond_nif (fun h => ?_) (fun h => ?_)) | (refine cond_nsplit (fun h => ?_) (fun h => ?_)) | (refine cond_split (fun h => ?_) (fun h => ?_)))) | (with_reducible (apply gd_guard; first | (refine guard_t (fun h => ?_) (fun h => ?_)) | (refine guard_f (fun h => ?_) (fun h => ?_)) | (refine guard_split (fun h => ?_) (fun h => ?_)))) | fail)
      (repeat' (first | ((with_reducible refine end_here ?_); (exact ⟨rfl, rfl⟩); done) | with_reducible refine end_drop ?_))
  · clear hb
    refine cta_of_T (c := Fc.k35_0) Tryd.func35 rfl rfl (by kernel_rfl) (by kernel_rfl) ?_
    repeat' (first | (with_reducible exact (rfl : (_ : En) = _)) | simp (maxSteps := 1000000) (disch := omega) only [↓Fc.x35_0, ↓eng_pre, eng_post, ↓Fa.all_pc, Fa.all_fa, eng_core, Nat.reduceBEq, ne_eq, reduceIte, Nat.reduceEqDiff, Nat.reduceAdd, Nat.reduceMul, Nat.reduceLT, Nat.reduceSub, Int.reduceLT, Int.reduceLE, Int.reduceEq, Int.reduceAdd, Int.reduceSub, Int.reduceMul, Int.reduceNeg, Int.reduceToNat, *] | (with_reducible (apply gd_new; first | (refine newA_of (fun _ => ?_)) | fail)) | (with_reducible (apply gd_load; first | (refine ld_by (by (first | (apply at_own; (· (repeat (first | apply Take.here | apply Take.there | apply Take.app)))) | (apply at_mem; assumption) | (apply At.up; assumption) | assumption)) ?_; first | (refine lb_one (by first | with_reducible rfl | (simp only [get_l, List.getElem?_cons_zero, List.getElem?_cons_succ, Option.some.injEq]; exact rfl) | assumption) ?_) | (refine lb_agg (by first | (simp only [subL_succ, subL_zero, get_l, List.getElem?_cons_zero, List.getElem?_cons_succ, consO_some, Nat.reduceAdd]; exact rfl) | assumption) ?_) | fail) | fail)) | (with_reducible (apply gd_rload; first | (refine rl_by (by (first | (apply at_own; (· (repeat (first | apply Take.here | apply Take.there | apply Take.app)))) | (apply at_mem; assumption) | (apply At.up; assumption) | assumption)) ?_; first | (refine rb_one (by first | with_reducible rfl | (simp only [get_l, List.getElem?_cons_zero, List.getElem?_cons_succ, Option.some.injEq]; exact rfl) | assumption) ?_) | (refine rb_agg (by first | (simp only [subL_succ, subL_zero, get_l, List.getElem?_cons_zero, List.getElem?_cons_succ, consO_some, Nat.reduceAdd]; exact rfl) | assumption) ?_) | fail) | fail)) | (with_reducible (apply gd_top; first | (refine p_nilck ?_) | fail)) | (with_reducible (apply gd_bi; first | (refine bi_len (by kernel_rfl) ?_) | (refine bi_lens (by kernel_rfl) ?_) | fail)) | (with_reducible apply dr_free) | (with_reducible apply dr_stab) | (with_reducible (apply gd_gate; refine gate_of (by with_reducible assumption) ?_)) | (with_reducible apply gd_draw; first | (with_reducible refine drawA_id [some 5, some 6, some 7, some 8, some 9, some 10, some 11, some 12, some 13, some 14, some 15, some 16, some 17, some 18, some 19, some 20, some 21, some 22] [.free 18] (by decide +kernel) Fa.mix (by decide +kernel) ?_)) | (with_reducible (apply gd_cond; first | (refine cond_if (fun h => ?_) (fun h => ?_)) | (refine cond_nif (fun h => ?_) (fun h => ?_)) | (refine cond_nsplit (fun h => ?_) (fun h => ?_)) | (refine cond_split (fun h => ?_) (fun h => ?_)))) | (with_reducible (apply gd_guard; first | (refine guard_t (fun h => ?_) (fun h => ?_)) | (refine guard_f (fun h => ?_) (fun h => ?_)) | (refine guard_split (fun h => ?_) (fun h => ?_)))) | fail)
    (repeat' (first | ((with_reducible refine end_here ?_); (exact ⟨rfl, rfl⟩); done) | with_reducible refine end_drop ?_))
end Go.Proofs.YtkcacgjbofabfaaDoor
