/- Layer 3: what is reached: the document's recursion. -/
import Derived.Test.YtkcacgjbofabfaaDoorRReach
import Derived.Test.YtkcacgjbofabfaaDoorRDfs
import Derived.Test.YtkcacgjbofabfaaDoorIRLay
import Derived.Test.YtkcacgjbofabfaaDoorFactsC
set_option linter.unusedSimpArgs false
set_option linter.unusedVariables false
set_option maxRecDepth 20000
set_option linter.all false
-- @FC
namespace Go.Eng
theorem Obs.ext {P : Program} {f : FuncId} {args : List Value} {m : Mem} {L Lp Lf : Lst} {φ : Value → Prop} (h : Obs P f args m Lp φ) (p : Takes L Lp Lf) : Obs P f args m L φ := by
  refine ⟨fun L0 w hI => ?_⟩
  have e : (L ++ L0).Perm (Lp ++ (Lf ++ L0)) := by rw [← List.append_assoc]; exact p.perm.append_right L0
  refine (h.run (Lf ++ L0) w (hI.perm e)).mono ?_
  rintro v w' ⟨m', L', h1, h2, rfl, rfl⟩
  exact ⟨m', L, h1.perm e.symm, h2, rfl, rfl⟩
end Go.Eng
namespace Go.Heap
open Go Go.Eng Go.Proofs.YtkcacgjbofabfaaDoor
theorem rch_len (s : HS) : ∀ f v out, (rchN s f v out).length + unseen s (rchN s f v out) ≤ out.length + unseen s out := by
  intro f
  induction f with
  | zero => intro v out; exact Nat.le_refl _
  | succ f ih =>
    intro v out
    unfold rchN
    cases ho : objO s v with
    | none => exact Nat.le_refl _
    | some o =>
      dsimp only
      split
      · exact Nat.le_refl _
      · rename_i hv
        have h1 := unseen_visit ho hv
        have : ∀ (l : List V) (out : List Int), (l.foldl (fun out c => rchN s f c out) out).length + unseen s (l.foldl (fun out c => rchN s f c out) out) ≤ out.length + unseen s out := by
          intro l
          induction l with
          | nil => intro out; exact Nat.le_refl _
          | cons c l ihl => intro out; exact Nat.le_trans (ihl _) (ih c out)
        have h2 := this o.2 (out ++ [v.2])
        rw [List.length_append, List.length_singleton] at h2
        omega
theorem foldl_sub (s : HS) (f : Nat) (l : List V) (out : List Int) : ∀ x ∈ out, x ∈ l.foldl (fun out c => rchN s f c out) out := by
  induction l generalizing out with
  | nil => intro x h; exact h
  | cons c l ihl => intro x h; exact ihl _ x (rchN_sub s f c out x h)
theorem foldl_len (s : HS) (f : Nat) (l : List V) (out : List Int) : (l.foldl (fun out c => rchN s f c out) out).length + unseen s (l.foldl (fun out c => rchN s f c out) out) ≤ out.length + unseen s out := by
  induction l generalizing out with
  | nil => exact Nat.le_refl _
  | cons c l ihl => exact Nat.le_trans (ihl _) (rch_len s f c out)
end Go.Heap
namespace Go.Proofs.YtkcacgjbofabfaaDoor
open Go Go.Eng Go.Heap
/-- What is known of a heap of the document's, with its blocks held as one. -/
theorem RP.know {b : Nat} {s : HS} {L : Lst} (h : RP b s L) (v : V) :
    (objO s v = none ∧ ∀ m, Obs Tryd.prog 35 [ptr b, vv v] m L (· = .int .i64 (-1))) ∨
    (∃ (o : Int × List V) (k g c : Nat) (arr : Array Value) (p : Option Addr) (cc : Nat) (ov : Value), objO s v = some o ∧ v = (2, (k : Int)) ∧ k < s.objs.length ∧ (∀ m, Obs Tryd.prog 35 [ptr b, vv v] m L (· = .int .i64 (k : Int))) ∧
      (∀ m, At m L b #[.slice (some ⟨g, 0, none⟩) s.objs.length c, .int .i64 s.limit, .int .i64 s.used, .int .i64 s.root.1, .int .i64 s.root.2]) ∧ (∀ m, At m L g arr) ∧ arr[k * 2]? = some (.int .i64 o.1) ∧ arr[k * 2 + 1]? = some (.slice p o.2.length cc) ∧
      ∀ m, SlAt m L (.slice p o.2.length cc) o.2.length 2 (encs o.2)) := by
  by_cases hv : v.1 = 2 ∧ 0 ≤ v.2 ∧ v.2 < s.objs.length
  · right
    obtain ⟨v1, v2⟩ := v
    dsimp only at hv
    obtain ⟨rfl, h1, h2⟩ := hv
    obtain ⟨k, rfl⟩ : ∃ k : Nat, v2 = k := ⟨v2.toNat, by omega⟩
    have hk : k < s.objs.length := by omega
    obtain ⟨o, ho⟩ : ∃ o, s.objs[k]? = some o := ⟨_, List.getElem?_eq_getElem hk⟩
    have hoo : objO s (2, (k : Int)) = some o := by
      unfold objO; rw [show atF s (2, (k : Int)) = some k by unfold atF; rw [if_pos ⟨rfl, by simp, by dsimp only; omega⟩]; simp]; exact ho
    obtain ⟨g, c, arr, p, cc, Lo, L1, L2, rfl, _, e1, e2, e3, _⟩ := h.at ho
    exact ⟨o, k, g, c, arr, p, cc, .slice (some ⟨g, 0, none⟩) s.objs.length c, hoo, rfl, hk, fun m => (rat_good b s (some ⟨g, 0, none⟩) s.objs.length c k hk m).ext (by (repeat (first | apply Takes.nil | (apply Takes.cons; (· (repeat (first | apply Take.here | apply Take.there | apply Take.app)))) | (apply Takes.app; (· ((repeat ((fail_if_success (first | apply TakeL.here | apply TakeL.all | apply TakeL.hd)); (first | apply TakeL.cons | apply TakeL.app))); (first | apply TakeL.here | apply TakeL.all | apply TakeL.hd)))) | (apply Takes.lst; (· ((repeat ((fail_if_success (first | apply TakeL.here | apply TakeL.all | apply TakeL.hd)); (first | apply TakeL.cons | apply TakeL.app))); (first | apply TakeL.here | apply TakeL.all | apply TakeL.hd)))) | fail))),
      fun m => at_own Take.here, fun m => at_own (.there .here), e1, e2, fun m => e3.at (.cons (.cons (.app .here)))⟩
  · left
    have hoo : objO s v = none := by unfold objO; rw [show atF s v = none from if_neg hv]; rfl
    obtain ⟨p, c, Lr, rfl⟩ := h.len
    exact ⟨hoo, fun m => (rat_bad b s p s.objs.length c v.1 v.2 hv m).ext (by (repeat (first | apply Takes.nil | (apply Takes.cons; (· (repeat (first | apply Take.here | apply Take.there | apply Take.app)))) | (apply Takes.app; (· ((repeat ((fail_if_success (first | apply TakeL.here | apply TakeL.all | apply TakeL.hd)); (first | apply TakeL.cons | apply TakeL.app))); (first | apply TakeL.here | apply TakeL.all | apply TakeL.hd)))) | (apply Takes.lst; (· ((repeat ((fail_if_success (first | apply TakeL.here | apply TakeL.all | apply TakeL.hd)); (first | apply TakeL.cons | apply TakeL.app))); (first | apply TakeL.here | apply TakeL.all | apply TakeL.hd)))) | fail)))⟩
structure RG where
  i : Nat
  out : List Int
  p : Option Addr
  c : Nat
  Lg : Lst
def RchR (b : Nat) (s : HS) (Lr : Lst) (f : Nat) : Prop := ∀ (v : V) (out : List Int) (p : Option Addr) (c : Nat) (Lg : Lst) (m : Mem), unseen s out ≤ f → out.length + unseen s out ≤ 1000000 → GS 2 1 (.slice p out.length c) out.length (intsV out) Lg →
    Cta Tryd.prog 29 [ptr b, vv v, .slice p out.length c] m (Lr ++ Lg) (fun y m' L' => m' = m ∧ ∃ p' c' Lg', y = .slice p' (rchN s f v out).length c' ∧ L' = Lr ++ Lg' ∧ GS 2 1 (.slice p' (rchN s f v out).length c') (rchN s f v out).length (intsV (rchN s f v out)) Lg')
set_option maxHeartbeats 0 in
theorem reach_skip (b : Nat) (s : HS) (Lr : Lst) (f : Nat) (v : V) (out : List Int) (p : Option Addr) (c : Nat) (Lg : Lst) (m : Mem) (hr : RP b s Lr) (hl : out.length ≤ 1000000) (hg : GS 2 1 (.slice p out.length c) out.length (intsV out) Lg)
    (h : ∀ o, objO s v = some o → v.2 ∈ out) : Cta Tryd.prog 29 [ptr b, vv v, .slice p out.length c] m (Lr ++ Lg) (fun y m' L' => m' = m ∧ ∃ p' c' Lg', y = .slice p' (rchN s f v out).length c' ∧ L' = Lr ++ Lg' ∧ GS 2 1 (.slice p' (rchN s f v out).length c') (rchN s f v out).length (intsV (rchN s f v out)) Lg') := by
  have he : rchN s f v out = out := by
    cases f with
    | zero => rfl
    | succ f =>
      unfold rchN
      cases ho : objO s v with
      | none => rfl
      | some o => dsimp only; rw [if_pos (h o ho)]
  rw [he]
  have fd := fun n => find_ct2 p c out n m Lg (hg.at TakeL.all) (by omega)
  obtain ⟨v1, v2⟩ := v
  rcases hr.know (v1, v2) with ⟨_, hat⟩ | ⟨o, k, g, cc, arr, pp, c2, ov, ho, hv, hk, hat, _⟩
  · clear h he fd
    refine cta_of_T (c := Fc.k29_0) Tryd.func29 rfl rfl (by kernel_rfl) (by kernel_rfl) ?_
    repeat' (first | simp (maxSteps := 1000000) (disch := omega) only [↓Fc.x29_0, ↓Fc.x29_1, ↓eng_pre, eng_post, ↓Fa.all_pc, Fa.all_fa, eng_core, Nat.reduceBEq, ne_eq, reduceIte, Nat.reduceEqDiff, Nat.reduceAdd, Nat.reduceMul, Nat.reduceLT, Nat.reduceSub, Int.reduceLT, Int.reduceLE, Int.reduceEq, Int.reduceAdd, Int.reduceSub, Int.reduceMul, Int.reduceNeg, Int.reduceToNat, *] | (with_reducible (apply gd_new; first | (refine newA_of (fun _ => ?_)) | fail)) | (with_reducible (apply gd_load; first | (refine ld_by (by (first | (apply at_own; (· (repeat (first | apply Take.here | apply Take.there | apply Take.app)))) | (apply at_mem; assumption) | (apply At.up; assumption) | assumption)) ?_; first | (refine lb_one (by first | with_reducible rfl | (simp only [get_l, List.getElem?_cons_zero, List.getElem?_cons_succ, Option.some.injEq]; exact rfl) | assumption) ?_) | (refine lb_agg (by first | (simp only [subL_succ, subL_zero, get_l, List.getElem?_cons_zero, List.getElem?_cons_succ, consO_some, Nat.reduceAdd]; exact rfl) | assumption) ?_) | fail) | fail)) | (with_reducible (apply gd_store; first | (refine st_own (by (repeat (first | apply Put.here | apply Put.there | apply Put.app))) (by simp only [eng_sm, eng_core, Nat.reduceAdd, Nat.reduceLeDiff] <;> with_reducible assumption) (by simp only [eng_sm, eng_core, Nat.reduceAdd, Nat.reduceLeDiff] <;> first | with_reducible assumption | omega) ?_) | fail)) | (with_reducible (apply gd_top; first | (refine p_nilck ?_) | (refine p_bsl ?_) | fail)) | (with_reducible (apply gd_bi; first | (refine bi_len (by kernel_rfl) ?_) | (refine bi_lens (by kernel_rfl) ?_) | fail)) | (with_reducible (apply gd_call; first | ((refine obs_of (hat _) (by (repeat (first | apply Takes.nil | (apply Takes.cons; (· (repeat (first | apply Take.here | apply Take.there | apply Take.app)))) | (apply Takes.app; (· ((repeat ((fail_if_success (first | apply TakeL.here | apply TakeL.all | apply TakeL.hd)); (first | apply TakeL.cons | apply TakeL.app))); (first | apply TakeL.here | apply TakeL.all | apply TakeL.hd)))) | (apply Takes.lst; (· ((repeat ((fail_if_success (first | apply TakeL.here | apply TakeL.all | apply TakeL.hd)); (first | apply TakeL.cons | apply TakeL.app))); (first | apply TakeL.here | apply TakeL.all | apply TakeL.hd)))) | fail))) ?_); rintro _ rfl) | fail)) | (with_reducible (apply gd_cond; first | (refine cond_if (fun h => ?_) (fun h => ?_)) | (refine cond_nif (fun h => ?_) (fun h => ?_)) | (refine cond_nsplit (fun h => ?_) (fun h => ?_)) | (refine cond_split (fun h => ?_) (fun h => ?_)))) | (with_reducible (apply gd_guard; first | (refine guard_t (fun h => ?_) (fun h => ?_)) | (refine guard_f (fun h => ?_) (fun h => ?_)) | (refine guard_split (fun h => ?_) (fun h => ?_)))) | fail)
    exact end_drop (end_here ⟨rfl, p, c, Lg, rfl, rfl, hg⟩)
  · have hin : v2 ∈ out := h o ho
    rw [(Prod.mk.inj hv).2] at hin
    have hf : ¬ findF out (k : Int) < 0 := by rw [findF_neg]; exact fun hc => hc hin
    have fd := fd (k : Int)
    have hf2 : 0 ≤ findF out (k : Int) := by omega
    clear h he ho hv hin
    generalize findF out (k : Int) = ff at *
    refine cta_of_T (c := Fc.k29_0) Tryd.func29 rfl rfl (by kernel_rfl) (by kernel_rfl) ?_
    repeat' (first | simp (maxSteps := 1000000) (disch := omega) only [↓Fc.x29_0, ↓Fc.x29_1, ↓eng_pre, eng_post, ↓Fa.all_pc, Fa.all_fa, eng_core, Nat.reduceBEq, ne_eq, reduceIte, Nat.reduceEqDiff, Nat.reduceAdd, Nat.reduceMul, Nat.reduceLT, Nat.reduceSub, Int.reduceLT, Int.reduceLE, Int.reduceEq, Int.reduceAdd, Int.reduceSub, Int.reduceMul, Int.reduceNeg, Int.reduceToNat, *] | (with_reducible (apply gd_new; first | (refine newA_of (fun _ => ?_)) | fail)) | (with_reducible (apply gd_load; first | (refine ld_by (by (first | (apply at_own; (· (repeat (first | apply Take.here | apply Take.there | apply Take.app)))) | (apply at_mem; assumption) | (apply At.up; assumption) | assumption)) ?_; first | (refine lb_one (by first | with_reducible rfl | (simp only [get_l, List.getElem?_cons_zero, List.getElem?_cons_succ, Option.some.injEq]; exact rfl) | assumption) ?_) | (refine lb_agg (by first | (simp only [subL_succ, subL_zero, get_l, List.getElem?_cons_zero, List.getElem?_cons_succ, consO_some, Nat.reduceAdd]; exact rfl) | assumption) ?_) | fail) | fail)) | (with_reducible (apply gd_store; first | (refine st_own (by (repeat (first | apply Put.here | apply Put.there | apply Put.app))) (by simp only [eng_sm, eng_core, Nat.reduceAdd, Nat.reduceLeDiff] <;> with_reducible assumption) (by simp only [eng_sm, eng_core, Nat.reduceAdd, Nat.reduceLeDiff] <;> first | with_reducible assumption | omega) ?_) | fail)) | (with_reducible (apply gd_top; first | (refine p_nilck ?_) | (refine p_bsl ?_) | fail)) | (with_reducible (apply gd_bi; first | (refine bi_len (by kernel_rfl) ?_) | (refine bi_lens (by kernel_rfl) ?_) | fail)) | (with_reducible (apply gd_call; first | ((refine obs_of (hat _) (by (repeat (first | apply Takes.nil | (apply Takes.cons; (· (repeat (first | apply Take.here | apply Take.there | apply Take.app)))) | (apply Takes.app; (· ((repeat ((fail_if_success (first | apply TakeL.here | apply TakeL.all | apply TakeL.hd)); (first | apply TakeL.cons | apply TakeL.app))); (first | apply TakeL.here | apply TakeL.all | apply TakeL.hd)))) | (apply Takes.lst; (· ((repeat ((fail_if_success (first | apply TakeL.here | apply TakeL.all | apply TakeL.hd)); (first | apply TakeL.cons | apply TakeL.app))); (first | apply TakeL.here | apply TakeL.all | apply TakeL.hd)))) | fail))) ?_); rintro _ rfl) | ((refine obs_of (fd) (by (repeat (first | apply Takes.nil | (apply Takes.cons; (· (repeat (first | apply Take.here | apply Take.there | apply Take.app)))) | (apply Takes.app; (· ((repeat ((fail_if_success (first | apply TakeL.here | apply TakeL.all | apply TakeL.hd)); (first | apply TakeL.cons | apply TakeL.app))); (first | apply TakeL.here | apply TakeL.all | apply TakeL.hd)))) | (apply Takes.lst; (· ((repeat ((fail_if_success (first | apply TakeL.here | apply TakeL.all | apply TakeL.hd)); (first | apply TakeL.cons | apply TakeL.app))); (first | apply TakeL.here | apply TakeL.all | apply TakeL.hd)))) | fail))) ?_); rintro _ rfl) | fail)) | (with_reducible (apply gd_cond; first | (refine cond_if (fun h => ?_) (fun h => ?_)) | (refine cond_nif (fun h => ?_) (fun h => ?_)) | (refine cond_nsplit (fun h => ?_) (fun h => ?_)) | (refine cond_split (fun h => ?_) (fun h => ?_)))) | (with_reducible (apply gd_guard; first | (refine guard_t (fun h => ?_) (fun h => ?_)) | (refine guard_f (fun h => ?_) (fun h => ?_)) | (refine guard_split (fun h => ?_) (fun h => ?_)))) | fail)
    all_goals exact end_drop (end_here ⟨rfl, p, c, Lg, rfl, rfl, hg⟩)
end Go.Proofs.YtkcacgjbofabfaaDoor
namespace Go.Proofs.YtkcacgjbofabfaaDoor
open Go Go.Eng Go.Heap
set_option maxHeartbeats 0 in
theorem reach_visit (b : Nat) (s : HS) (Lr : Lst) (f : Nat) (ih : RchR b s Lr f) (v : V) (out : List Int) (p : Option Addr) (c : Nat) (Lg : Lst) (m : Mem) (hr : RP b s Lr) (hcell : ∀ o ∈ s.objs, o.2.length ≤ 1000000) (hu : unseen s out ≤ f + 1) (hl : out.length + unseen s out ≤ 1000000) (hg : GS 2 1 (.slice p out.length c) out.length (intsV out) Lg)
    (o : Int × List V) (ho : objO s v = some o) (hv : v.2 ∉ out) : Cta Tryd.prog 29 [ptr b, vv v, .slice p out.length c] m (Lr ++ Lg) (fun y m' L' => m' = m ∧ ∃ p' c' Lg', y = .slice p' (rchN s (f + 1) v out).length c' ∧ L' = Lr ++ Lg' ∧ GS 2 1 (.slice p' (rchN s (f + 1) v out).length c') (rchN s (f + 1) v out).length (intsV (rchN s (f + 1) v out)) Lg') := by
  have he : rchN s (f + 1) v out = o.2.foldl (fun out c => rchN s f c out) (out ++ [v.2]) := by
    conv => lhs; unfold rchN; rw [ho]; dsimp only; rw [if_neg hv]
  rw [he]
  have hvis := unseen_visit ho hv
  have fd := fun n => find_ct2 p c out n m Lg (hg.at TakeL.all) (by omega)
  rcases hr.know v with ⟨hno, _⟩ | ⟨o', k, g, cc, arr, pp, c2, ov, ho', rfl, hk, hat, at1, at2, e1, e2, hsl⟩
  · rw [ho] at hno; cases hno
  rw [ho] at ho'
  obtain rfl := Option.some.inj ho'
  have hol := hcell o (by obtain ⟨kk, _, h2⟩ := objO_spec ho; exact List.mem_of_getElem? h2)
  have hf : findF out (k : Int) < 0 := by rw [findF_neg]; exact hv
  have fd := fd (k : Int)
  have hf2 : ¬ 0 ≤ findF out (k : Int) := by omega
  dsimp only at hvis ⊢
  have hlo : out.length ≤ 1000000 := by omega
  clear he ho ho' hv
  generalize findF out (k : Int) = ff at *
  have at1 := at1 m
  have at2 := at2 m
  have hs0 := intsV_snoc out (k : Int)
  have hlen0 : (out ++ [(k : Int)]).length = out.length + 1 := by simp
  have e3 : (k : Int) < s.objs.length := by omega
  have e4 : ¬ (k : Int) < 0 := by omega
  have e5 : (0 : Int) ≤ k := by omega
  refine cta_of_T (c := Fc.k29_0) Tryd.func29 rfl rfl (by kernel_rfl) (by kernel_rfl) ?_
  repeat' (first | simp (maxSteps := 1000000) (disch := omega) only [↓Fc.x29_0, ↓Fc.x29_1, ↓eng_pre, eng_post, ↓Fa.all_pc, Fa.all_fa, eng_core, Nat.reduceBEq, ne_eq, reduceIte, Nat.reduceEqDiff, Nat.reduceAdd, Nat.reduceMul, Nat.reduceLT, Nat.reduceSub, Int.reduceLT, Int.reduceLE, Int.reduceEq, Int.reduceAdd, Int.reduceSub, Int.reduceMul, Int.reduceNeg, Int.reduceToNat, *, Int.toNat_natCast, Nat.mul_one] | (with_reducible (apply gd_new; first | (refine newA_of (fun _ => ?_)) | fail)) | (with_reducible (apply gd_load; first | (refine ld_by (by (first | (apply at_own; (· (repeat (first | apply Take.here | apply Take.there | apply Take.app)))) | (apply at_mem; assumption) | (apply At.up; assumption) | assumption | (apply At.sub; assumption; (· ((repeat ((fail_if_success (first | apply TakeL.here | apply TakeL.all | apply TakeL.hd)); (first | apply TakeL.cons | apply TakeL.app))); (first | apply TakeL.here | apply TakeL.all | apply TakeL.hd)))))) ?_; first | (refine lb_one (by first | with_reducible rfl | (simp only [get_l, List.getElem?_cons_zero, List.getElem?_cons_succ, Option.some.injEq]; exact rfl) | assumption) ?_) | (refine lb_agg (by first | (simp only [subL_succ, subL_zero, get_l, List.getElem?_cons_zero, List.getElem?_cons_succ, consO_some, Nat.reduceAdd]; exact rfl) | assumption) ?_) | fail) | fail)) | (with_reducible (apply gd_store; first | (refine st_own (by (repeat (first | apply Put.here | apply Put.there | apply Put.app))) (by simp only [eng_sm, eng_core, Nat.reduceAdd, Nat.reduceLeDiff] <;> with_reducible assumption) (by simp only [eng_sm, eng_core, Nat.reduceAdd, Nat.reduceLeDiff] <;> first | with_reducible assumption | omega) ?_) | fail)) | (with_reducible (apply gd_top; first | (refine p_nilck ?_) | (refine p_bsl ?_) | fail)) | (with_reducible (apply gd_bi; first | (refine bi_len (by kernel_rfl) ?_) | (refine bi_lens (by kernel_rfl) ?_) | ((refine bi_append hg (by ((repeat ((fail_if_success (first | apply TakeL.here | apply TakeL.all | apply TakeL.hd)); (first | apply TakeL.cons | apply TakeL.app))); (first | apply TakeL.here | apply TakeL.all | apply TakeL.hd))) (by first | with_reducible assumption | with_reducible exact SlAt.whole (by (first | (apply at_own; (· (repeat (first | apply Take.here | apply Take.there | apply Take.app)))) | (apply at_mem; assumption) | (apply At.up; assumption) | assumption | (apply At.sub; assumption; (· ((repeat ((fail_if_success (first | apply TakeL.here | apply TakeL.all | apply TakeL.hd)); (first | apply TakeL.cons | apply TakeL.app))); (first | apply TakeL.here | apply TakeL.all | apply TakeL.hd)))))) rfl) (by first | exact Fa.sl_33 | fail) (by decide) (by decide) (by first | with_reducible assumption | (simp only [eng_sm, eng_core, Nat.reduceAdd, Nat.reduceLeDiff]; done) | (simp only [oneAll_nil, oneAll_cons, one_iface, one_func, Bool.and_self]; done)) (by omega) (by simp only [maxLen]; omega) ?_); rintro _ _ hg2; obtain ⟨_, _, rfl⟩ := GS.slice hg2) | fail)) | (with_reducible (apply gd_call; first | ((refine obs_of (hat _) (by (repeat (first | apply Takes.nil | (apply Takes.cons; (· (repeat (first | apply Take.here | apply Take.there | apply Take.app)))) | (apply Takes.app; (· ((repeat ((fail_if_success (first | apply TakeL.here | apply TakeL.all | apply TakeL.hd)); (first | apply TakeL.cons | apply TakeL.app))); (first | apply TakeL.here | apply TakeL.all | apply TakeL.hd)))) | (apply Takes.lst; (· ((repeat ((fail_if_success (first | apply TakeL.here | apply TakeL.all | apply TakeL.hd)); (first | apply TakeL.cons | apply TakeL.app))); (first | apply TakeL.here | apply TakeL.all | apply TakeL.hd)))) | fail))) ?_); rintro _ rfl) | ((refine obs_of (fd) (by (repeat (first | apply Takes.nil | (apply Takes.cons; (· (repeat (first | apply Take.here | apply Take.there | apply Take.app)))) | (apply Takes.app; (· ((repeat ((fail_if_success (first | apply TakeL.here | apply TakeL.all | apply TakeL.hd)); (first | apply TakeL.cons | apply TakeL.app))); (first | apply TakeL.here | apply TakeL.all | apply TakeL.hd)))) | (apply Takes.lst; (· ((repeat ((fail_if_success (first | apply TakeL.here | apply TakeL.all | apply TakeL.hd)); (first | apply TakeL.cons | apply TakeL.app))); (first | apply TakeL.here | apply TakeL.all | apply TakeL.hd)))) | fail))) ?_); rintro _ rfl) | fail)) | (with_reducible (apply gd_cond; first | (refine cond_if (fun h => ?_) (fun h => ?_)) | (refine cond_nif (fun h => ?_) (fun h => ?_)) | (refine cond_nsplit (fun h => ?_) (fun h => ?_)) | (refine cond_split (fun h => ?_) (fun h => ?_)))) | (with_reducible (apply gd_guard; first | (refine guard_t (fun h => ?_) (fun h => ?_)) | (refine guard_f (fun h => ?_) (fun h => ?_)) | (refine guard_split (fun h => ?_) (fun h => ?_)))) | fail)
  rename_i x4 x24 L2 p2 c3
  rw [← hs0, ← hlen0] at hg2
  obtain ⟨out0, ho0⟩ : ∃ out0, out0 = out ++ [(k : Int)] := ⟨_, rfl⟩
  rw [← ho0] at hg2 hvis hlen0 ⊢
  refine loopA_of (γ := RG) (fun g => [(0, ptr b), (2, .slice g.p g.out.length g.c), (33, .slice pp o.2.length c2), (34, .int .i64 o.2.length), (35, .int .i64 (g.i : Int))])
    (fun g m' L' => m' = m ∧ L' = Lr ++ g.Lg ∧ g.i ≤ o.2.length ∧ GS 2 1 (.slice g.p g.out.length g.c) g.out.length (intsV g.out) g.Lg ∧ (o.2.take g.i).foldl (fun out c => rchN s f c out) out0 = g.out) (fun g => o.2.length - g.i) ⟨0, out0, p2, c3, L2⟩ (by dsimp only; rw [hlen0]; (first | (simp (maxSteps := 1000000) (disch := omega) only [↓eng_pre, eng_post, ↓Fa.all_pc, Fa.all_fa, eng_core, Nat.reduceBEq, ne_eq, reduceIte, Nat.reduceEqDiff, Nat.reduceAdd, Nat.reduceMul, Nat.reduceLT, Nat.reduceSub, Int.reduceLT, Int.reduceLE, Int.reduceEq, Int.reduceAdd, Int.reduceSub, Int.reduceMul, Int.reduceNeg, Int.reduceToNat, *]; done) | (simp (maxSteps := 1000000) (disch := omega) only [↓eng_pre, eng_post, ↓Fa.all_pc, Fa.all_fa, eng_core, Nat.reduceBEq, ne_eq, reduceIte, Nat.reduceEqDiff, Nat.reduceAdd, Nat.reduceMul, Nat.reduceLT, Nat.reduceSub, Int.reduceLT, Int.reduceLE, Int.reduceEq, Int.reduceAdd, Int.reduceSub, Int.reduceMul, Int.reduceNeg, Int.reduceToNat, *, Value.int.injEq, true_and, and_true, Int.natCast_add, Int.natCast_one, Int.natCast_zero, Int.add_zero]; done) | (simp (maxSteps := 1000000) (disch := omega) only [↓eng_pre, eng_post, ↓Fa.all_pc, Fa.all_fa, eng_core, Nat.reduceBEq, ne_eq, reduceIte, Nat.reduceEqDiff, Nat.reduceAdd, Nat.reduceMul, Nat.reduceLT, Nat.reduceSub, Int.reduceLT, Int.reduceLE, Int.reduceEq, Int.reduceAdd, Int.reduceSub, Int.reduceMul, Int.reduceNeg, Int.reduceToNat, *, Value.int.injEq, true_and, and_true]; omega) | (simp (maxSteps := 1000000) (disch := omega) only [↓eng_pre, eng_post, ↓Fa.all_pc, Fa.all_fa, eng_core, Nat.reduceBEq, ne_eq, reduceIte, Nat.reduceEqDiff, Nat.reduceAdd, Nat.reduceMul, Nat.reduceLT, Nat.reduceSub, Int.reduceLT, Int.reduceLE, Int.reduceEq, Int.reduceAdd, Int.reduceSub, Int.reduceMul, Int.reduceNeg, Int.reduceToNat, *, Value.int.injEq, true_and, and_true]; exact rfl))) (end_takeR (Lp := Lr ++ L2) ⟨rfl, rfl, Nat.zero_le _, hg2, rfl⟩ (by (repeat (first | apply Takes.nil | (apply Takes.cons; (· (repeat (first | apply Take.here | apply Take.there | apply Take.app)))) | (apply Takes.app; (· ((repeat ((fail_if_success (first | apply TakeL.here | apply TakeL.all | apply TakeL.hd)); (first | apply TakeL.cons | apply TakeL.app))); (first | apply TakeL.here | apply TakeL.all | apply TakeL.hd)))) | (apply Takes.lst; (· ((repeat ((fail_if_success (first | apply TakeL.here | apply TakeL.all | apply TakeL.hd)); (first | apply TakeL.cons | apply TakeL.app))); (first | apply TakeL.here | apply TakeL.all | apply TakeL.hd)))) | fail)))) ?_
  clear hg2 at1 at2 e1 e2 hs0 hg fd hat
  rintro ⟨i, out1, p1, c1, Lg1⟩ e m' L' hf ⟨rfl, rfl, hi, hg1, hfo⟩
  dsimp only at hi hg1 hfo ⊢
  simp only [fits_cons, fits_nil, and_true] at hf
  obtain ⟨e0, e2, e33, e34, e35⟩ := hf
  by_cases hlt : i < o.2.length
  · obtain ⟨b1, o1, cs1, rfl, _, at1, g1⟩ := (hsl m').block (by omega)
    obtain ⟨w, hw⟩ : ∃ w, o.2[i]? = some w := ⟨_, List.getElem?_eq_getElem hlt⟩
    obtain ⟨k1, k2⟩ := encs_at o.2 i w hw []
    rw [List.append_nil] at k1 k2
    have s1 : subL cs1 (o1 + i * 2) 2 = some [.int .i64 w.1, .int .i64 w.2] := by
      simp only [subL_succ, subL_zero, g1 _ _ k1, Nat.add_assoc, g1 _ _ k2, consO_some]
    have hlt' : (i : Int) < o.2.length := by omega
    have hnx : (o.2.take (i + 1)).foldl (fun out c => rchN s f c out) out0 = rchN s f w out1 := by
      rw [List.take_succ, hw, List.foldl_append, hfo]; rfl
    have hsub : ∀ x ∈ out0, x ∈ out1 := by rw [← hfo]; exact foldl_sub s f _ out0
    have hu1 := unseen_mono (s := s) hsub
    have hl1 := foldl_len s f (o.2.take i) out0
    rw [hfo] at hl1
    have ihc := ih w out1 p1 c1 Lg1 m' (by omega) (by omega) hg1
    clear hsl g1 k1 k2 hw ih hg1 hsub
    obtain ⟨w1, w2⟩ := w
    dsimp only at s1
    generalize o.2.length = ln at *
    repeat' (first | simp (maxSteps := 1000000) (disch := omega) only [↓Fc.x29_0, ↓Fc.x29_1, ↓eng_pre, eng_post, ↓Fa.all_pc, Fa.all_fa, eng_core, Nat.reduceBEq, ne_eq, reduceIte, Nat.reduceEqDiff, Nat.reduceAdd, Nat.reduceMul, Nat.reduceLT, Nat.reduceSub, Int.reduceLT, Int.reduceLE, Int.reduceEq, Int.reduceAdd, Int.reduceSub, Int.reduceMul, Int.reduceNeg, Int.reduceToNat, e0, e2, e33, e34, e35, hlt', Int.toNat_natCast] | (with_reducible (apply gd_new; first | (refine newA_of (fun _ => ?_)) | fail)) | (with_reducible (apply gd_load; first | (refine ld_by (by (first | (apply at_own; (· (repeat (first | apply Take.here | apply Take.there | apply Take.app)))) | (apply at_mem; assumption) | (apply At.up; assumption) | assumption | (apply At.sub; assumption; (· ((repeat ((fail_if_success (first | apply TakeL.here | apply TakeL.all | apply TakeL.hd)); (first | apply TakeL.cons | apply TakeL.app))); (first | apply TakeL.here | apply TakeL.all | apply TakeL.hd)))))) ?_; first | (refine lb_one (by first | with_reducible rfl | (simp only [get_l, List.getElem?_cons_zero, List.getElem?_cons_succ, Option.some.injEq]; exact rfl) | assumption) ?_) | (refine lb_agg (by first | (simp only [subL_succ, subL_zero, get_l, List.getElem?_cons_zero, List.getElem?_cons_succ, consO_some, Nat.reduceAdd]; exact rfl) | assumption) ?_) | fail) | fail)) | (with_reducible (apply gd_store; first | (refine st_own (by (repeat (first | apply Put.here | apply Put.there | apply Put.app))) (by simp only [eng_sm, eng_core, Nat.reduceAdd, Nat.reduceLeDiff] <;> with_reducible assumption) (by simp only [eng_sm, eng_core, Nat.reduceAdd, Nat.reduceLeDiff] <;> first | with_reducible assumption | omega) ?_) | fail)) | (with_reducible (apply gd_top; first | (refine p_nilck ?_) | (refine p_bsl ?_) | fail)) | (with_reducible (apply gd_bi; first | (refine bi_len (by kernel_rfl) ?_) | (refine bi_lens (by kernel_rfl) ?_) | fail)) | (with_reducible (apply gd_call; first | ((refine ca_of (ihc) (by (repeat (first | apply Takes.nil | (apply Takes.cons; (· (repeat (first | apply Take.here | apply Take.there | apply Take.app)))) | (apply Takes.app; (· ((repeat ((fail_if_success (first | apply TakeL.here | apply TakeL.all | apply TakeL.hd)); (first | apply TakeL.cons | apply TakeL.app))); (first | apply TakeL.here | apply TakeL.all | apply TakeL.hd)))) | (apply Takes.lst; (· ((repeat ((fail_if_success (first | apply TakeL.here | apply TakeL.all | apply TakeL.hd)); (first | apply TakeL.cons | apply TakeL.app))); (first | apply TakeL.here | apply TakeL.all | apply TakeL.hd)))) | fail))) ?_); rintro _ _ _ ⟨rfl, p5, c5, L5, rfl, rfl, hg5⟩) | fail)) | (with_reducible (apply gd_cond; first | (refine cond_if (fun h => ?_) (fun h => ?_)) | (refine cond_nif (fun h => ?_) (fun h => ?_)) | (refine cond_nsplit (fun h => ?_) (fun h => ?_)) | (refine cond_split (fun h => ?_) (fun h => ?_)))) | (with_reducible (apply gd_guard; first | (refine guard_t (fun h => ?_) (fun h => ?_)) | (refine guard_f (fun h => ?_) (fun h => ?_)) | (refine guard_split (fun h => ?_) (fun h => ?_)))) | fail)
    exact next_of (γ := RG) ⟨i + 1, rchN s f (w1, w2) out1, p5, c5, L5⟩ (by (first | (simp (maxSteps := 1000000) (disch := omega) only [↓eng_pre, eng_post, ↓Fa.all_pc, Fa.all_fa, eng_core, Nat.reduceBEq, ne_eq, reduceIte, Nat.reduceEqDiff, Nat.reduceAdd, Nat.reduceMul, Nat.reduceLT, Nat.reduceSub, Int.reduceLT, Int.reduceLE, Int.reduceEq, Int.reduceAdd, Int.reduceSub, Int.reduceMul, Int.reduceNeg, Int.reduceToNat, *]; done) | (simp (maxSteps := 1000000) (disch := omega) only [↓eng_pre, eng_post, ↓Fa.all_pc, Fa.all_fa, eng_core, Nat.reduceBEq, ne_eq, reduceIte, Nat.reduceEqDiff, Nat.reduceAdd, Nat.reduceMul, Nat.reduceLT, Nat.reduceSub, Int.reduceLT, Int.reduceLE, Int.reduceEq, Int.reduceAdd, Int.reduceSub, Int.reduceMul, Int.reduceNeg, Int.reduceToNat, *, Value.int.injEq, true_and, and_true, Int.natCast_add, Int.natCast_one, Int.natCast_zero, Int.add_zero]; done) | (simp (maxSteps := 1000000) (disch := omega) only [↓eng_pre, eng_post, ↓Fa.all_pc, Fa.all_fa, eng_core, Nat.reduceBEq, ne_eq, reduceIte, Nat.reduceEqDiff, Nat.reduceAdd, Nat.reduceMul, Nat.reduceLT, Nat.reduceSub, Int.reduceLT, Int.reduceLE, Int.reduceEq, Int.reduceAdd, Int.reduceSub, Int.reduceMul, Int.reduceNeg, Int.reduceToNat, *, Value.int.injEq, true_and, and_true]; omega) | (simp (maxSteps := 1000000) (disch := omega) only [↓eng_pre, eng_post, ↓Fa.all_pc, Fa.all_fa, eng_core, Nat.reduceBEq, ne_eq, reduceIte, Nat.reduceEqDiff, Nat.reduceAdd, Nat.reduceMul, Nat.reduceLT, Nat.reduceSub, Int.reduceLT, Int.reduceLE, Int.reduceEq, Int.reduceAdd, Int.reduceSub, Int.reduceMul, Int.reduceNeg, Int.reduceToNat, *, Value.int.injEq, true_and, and_true]; exact rfl))) (end_takeR (Lp := Lr ++ L5) ⟨rfl, rfl, by dsimp only; omega, hg5, hnx⟩ (by (repeat (first | apply Takes.nil | (apply Takes.cons; (· (repeat (first | apply Take.here | apply Take.there | apply Take.app)))) | (apply Takes.app; (· ((repeat ((fail_if_success (first | apply TakeL.here | apply TakeL.all | apply TakeL.hd)); (first | apply TakeL.cons | apply TakeL.app))); (first | apply TakeL.here | apply TakeL.all | apply TakeL.hd)))) | (apply Takes.lst; (· ((repeat ((fail_if_success (first | apply TakeL.here | apply TakeL.all | apply TakeL.hd)); (first | apply TakeL.cons | apply TakeL.app))); (first | apply TakeL.here | apply TakeL.all | apply TakeL.hd)))) | fail)))) (by dsimp only; omega)
  · have hlt' : ¬ (i : Int) < o.2.length := by omega
    rw [List.take_of_length_le (by omega)] at hfo
    rw [hfo]
    clear hsl ih
    repeat' (first | simp (maxSteps := 1000000) (disch := omega) only [↓Fc.x29_0, ↓Fc.x29_1, ↓eng_pre, eng_post, ↓Fa.all_pc, Fa.all_fa, eng_core, Nat.reduceBEq, ne_eq, reduceIte, Nat.reduceEqDiff, Nat.reduceAdd, Nat.reduceMul, Nat.reduceLT, Nat.reduceSub, Int.reduceLT, Int.reduceLE, Int.reduceEq, Int.reduceAdd, Int.reduceSub, Int.reduceMul, Int.reduceNeg, Int.reduceToNat, e0, e2, e33, e34, e35, hlt', Int.toNat_natCast] | (with_reducible (apply gd_new; first | (refine newA_of (fun _ => ?_)) | fail)) | (with_reducible (apply gd_load; first | (refine ld_by (by (first | (apply at_own; (· (repeat (first | apply Take.here | apply Take.there | apply Take.app)))) | (apply at_mem; assumption) | (apply At.up; assumption) | assumption)) ?_; first | (refine lb_one (by first | with_reducible rfl | (simp only [get_l, List.getElem?_cons_zero, List.getElem?_cons_succ, Option.some.injEq]; exact rfl) | assumption) ?_) | (refine lb_agg (by first | (simp only [subL_succ, subL_zero, get_l, List.getElem?_cons_zero, List.getElem?_cons_succ, consO_some, Nat.reduceAdd]; exact rfl) | assumption) ?_) | fail) | fail)) | (with_reducible (apply gd_store; first | (refine st_own (by (repeat (first | apply Put.here | apply Put.there | apply Put.app))) (by simp only [eng_sm, eng_core, Nat.reduceAdd, Nat.reduceLeDiff] <;> with_reducible assumption) (by simp only [eng_sm, eng_core, Nat.reduceAdd, Nat.reduceLeDiff] <;> first | with_reducible assumption | omega) ?_) | fail)) | (with_reducible (apply gd_top; first | (refine p_nilck ?_) | (refine p_bsl ?_) | fail)) | (with_reducible (apply gd_bi; first | (refine bi_len (by kernel_rfl) ?_) | (refine bi_lens (by kernel_rfl) ?_) | fail)) | (with_reducible (apply gd_cond; first | (refine cond_if (fun h => ?_) (fun h => ?_)) | (refine cond_nif (fun h => ?_) (fun h => ?_)) | (refine cond_nsplit (fun h => ?_) (fun h => ?_)) | (refine cond_split (fun h => ?_) (fun h => ?_)))) | (with_reducible (apply gd_guard; first | (refine guard_t (fun h => ?_) (fun h => ?_)) | (refine guard_f (fun h => ?_) (fun h => ?_)) | (refine guard_split (fun h => ?_) (fun h => ?_)))) | fail)
    exact end_here ⟨rfl, p1, c1, Lg1, rfl, rfl, hg1⟩
theorem rreach_ct (b : Nat) (s : HS) (Lr : Lst) (hr : RP b s Lr) (hcell : ∀ o ∈ s.objs, o.2.length ≤ 1000000) : ∀ f, RchR b s Lr f := by
  intro f
  induction f with
  | zero =>
    intro v out p c Lg m hu hl hg
    refine reach_skip b s Lr 0 v out p c Lg m hr (by omega) hg fun o ho => Classical.byContradiction fun hv => ?_
    have := unseen_visit ho hv; omega
  | succ f ih =>
    intro v out p c Lg m hu hl hg
    by_cases h : ∀ o, objO s v = some o → v.2 ∈ out
    · exact reach_skip b s Lr (f + 1) v out p c Lg m hr (by omega) hg h
    · obtain ⟨o, h⟩ := Classical.not_forall.1 h
      obtain ⟨ho, hv⟩ := Classical.not_imp.1 h
      exact reach_visit b s Lr f ih v out p c Lg m hr hcell hu hl hg o ho hv
end Go.Proofs.YtkcacgjbofabfaaDoor
namespace Go.Heap
open Go Go.Eng Go.Proofs.YtkcacgjbofabfaaDoor
theorem foldl_fuel (s : HS) (l : List V) : l.foldl (fun out c => rchN s s.objs.length c out) [] = (dfs s [] l).map (·.1) := reach_same s l _ (Nat.le_refl _)
end Go.Heap
namespace Go.Proofs.YtkcacgjbofabfaaDoor
open Go Go.Eng Go.Heap
set_option maxHeartbeats 0 in
theorem rReach_ct (b : Nat) (s : HS) (Lr Lx : Lst) (hr : RP b s Lr) (p : Option Addr) (c : Nat) (l : List V) (m : Mem) (hx : SlAt m Lx (.slice p l.length c) l.length 2 (encs l)) (hcell : ∀ o ∈ s.objs, o.2.length ≤ 1000000) (hol : s.objs.length ≤ 1000000) (hll : l.length ≤ 1000000) :
    Cta Tryd.prog 15 [ptr b, .slice p l.length c] m (Lr ++ Lx) (fun v m' L' => m' = m ∧ ∃ p' c' Lo, v = .slice p' ((dfs s [] l).map (·.1)).length c' ∧ L' = Lo ++ (Lr ++ Lx) ∧ GS 2 1 (.slice p' ((dfs s [] l).map (·.1)).length c') ((dfs s [] l).map (·.1)).length (intsV ((dfs s [] l).map (·.1))) Lo) := by
  rw [← foldl_fuel]
  have ih := rreach_ct b s Lr hr hcell s.objs.length
  have hu0 := unseen_le s []
  clear hr hcell
  refine cta_of_T (c := Fc.k15_0) Tryd.func15 rfl rfl (by kernel_rfl) (by kernel_rfl) ?_
  repeat' (first | simp (maxSteps := 1000000) (disch := omega) only [↓Fc.x15_0, ↓eng_pre, eng_post, ↓Fa.all_pc, Fa.all_fa, eng_core, Nat.reduceBEq, ne_eq, reduceIte, Nat.reduceEqDiff, Nat.reduceAdd, Nat.reduceMul, Nat.reduceLT, Nat.reduceSub, Int.reduceLT, Int.reduceLE, Int.reduceEq, Int.reduceAdd, Int.reduceSub, Int.reduceMul, Int.reduceNeg, Int.reduceToNat, *] | (with_reducible (apply gd_new; first | (refine newA_of (fun _ => ?_)) | fail)) | (with_reducible (apply gd_load; first | (refine ld_by (by (first | (apply at_own; (· (repeat (first | apply Take.here | apply Take.there | apply Take.app)))) | (apply at_mem; assumption) | (apply At.up; assumption) | assumption)) ?_; first | (refine lb_one (by first | with_reducible rfl | (simp only [get_l, List.getElem?_cons_zero, List.getElem?_cons_succ, Option.some.injEq]; exact rfl) | assumption) ?_) | (refine lb_agg (by first | (simp only [subL_succ, subL_zero, get_l, List.getElem?_cons_zero, List.getElem?_cons_succ, consO_some, Nat.reduceAdd]; exact rfl) | assumption) ?_) | fail) | fail)) | (with_reducible (apply gd_store; first | (refine st_own (by (repeat (first | apply Put.here | apply Put.there | apply Put.app))) (by simp only [eng_sm, eng_core, Nat.reduceAdd, Nat.reduceLeDiff] <;> with_reducible assumption) (by simp only [eng_sm, eng_core, Nat.reduceAdd, Nat.reduceLeDiff] <;> first | with_reducible assumption | omega) ?_) | fail)) | (with_reducible (apply gd_bi; first | (refine bi_len (by kernel_rfl) ?_) | (refine bi_lens (by kernel_rfl) ?_) | fail)) | (with_reducible (apply gd_cond; first | (refine cond_if (fun h => ?_) (fun h => ?_)) | (refine cond_nif (fun h => ?_) (fun h => ?_)) | (refine cond_nsplit (fun h => ?_) (fun h => ?_)) | (refine cond_split (fun h => ?_) (fun h => ?_)))) | fail)
  refine loopA_of (γ := RG) (fun g => [(0, ptr b), (5, .slice g.p g.out.length g.c), (8, .slice p l.length c), (9, .int .i64 l.length), (10, .int .i64 (g.i : Int))])
    (fun g m' L' => m' = m ∧ L' = g.Lg ++ (Lr ++ Lx) ∧ g.i ≤ l.length ∧ GS 2 1 (.slice g.p g.out.length g.c) g.out.length (intsV g.out) g.Lg ∧ (l.take g.i).foldl (fun out c => rchN s s.objs.length c out) [] = g.out) (fun g => l.length - g.i) ⟨0, [], none, 0, []⟩ (by dsimp only; (first | (simp (maxSteps := 1000000) (disch := omega) only [↓eng_pre, eng_post, ↓Fa.all_pc, Fa.all_fa, eng_core, Nat.reduceBEq, ne_eq, reduceIte, Nat.reduceEqDiff, Nat.reduceAdd, Nat.reduceMul, Nat.reduceLT, Nat.reduceSub, Int.reduceLT, Int.reduceLE, Int.reduceEq, Int.reduceAdd, Int.reduceSub, Int.reduceMul, Int.reduceNeg, Int.reduceToNat, *]; done) | (simp (maxSteps := 1000000) (disch := omega) only [↓eng_pre, eng_post, ↓Fa.all_pc, Fa.all_fa, eng_core, Nat.reduceBEq, ne_eq, reduceIte, Nat.reduceEqDiff, Nat.reduceAdd, Nat.reduceMul, Nat.reduceLT, Nat.reduceSub, Int.reduceLT, Int.reduceLE, Int.reduceEq, Int.reduceAdd, Int.reduceSub, Int.reduceMul, Int.reduceNeg, Int.reduceToNat, *, Value.int.injEq, true_and, and_true, Int.natCast_add, Int.natCast_one, Int.natCast_zero, Int.add_zero]; done) | (simp (maxSteps := 1000000) (disch := omega) only [↓eng_pre, eng_post, ↓Fa.all_pc, Fa.all_fa, eng_core, Nat.reduceBEq, ne_eq, reduceIte, Nat.reduceEqDiff, Nat.reduceAdd, Nat.reduceMul, Nat.reduceLT, Nat.reduceSub, Int.reduceLT, Int.reduceLE, Int.reduceEq, Int.reduceAdd, Int.reduceSub, Int.reduceMul, Int.reduceNeg, Int.reduceToNat, *, Value.int.injEq, true_and, and_true]; omega) | (simp (maxSteps := 1000000) (disch := omega) only [↓eng_pre, eng_post, ↓Fa.all_pc, Fa.all_fa, eng_core, Nat.reduceBEq, ne_eq, reduceIte, Nat.reduceEqDiff, Nat.reduceAdd, Nat.reduceMul, Nat.reduceLT, Nat.reduceSub, Int.reduceLT, Int.reduceLE, Int.reduceEq, Int.reduceAdd, Int.reduceSub, Int.reduceMul, Int.reduceNeg, Int.reduceToNat, *, Value.int.injEq, true_and, and_true]; exact rfl))) (end_here ⟨rfl, rfl, Nat.zero_le _, GS.nil, rfl⟩) ?_
  rintro ⟨i, out1, p1, c1, Lg1⟩ e m' L' hf ⟨rfl, rfl, hi, hg1, hfo⟩
  dsimp only at hi hg1 hfo ⊢
  simp only [fits_cons, fits_nil, and_true] at hf
  obtain ⟨e0, e5, e8, e9, e10⟩ := hf
  by_cases hlt : i < l.length
  · obtain ⟨b1, o1, cs1, rfl, _, at1, g1⟩ := hx.block (by omega)
    obtain ⟨w, hw⟩ : ∃ w, l[i]? = some w := ⟨_, List.getElem?_eq_getElem hlt⟩
    obtain ⟨k1, k2⟩ := encs_at l i w hw []
    rw [List.append_nil] at k1 k2
    have s1 : subL cs1 (o1 + i * 2) 2 = some [.int .i64 w.1, .int .i64 w.2] := by
      simp only [subL_succ, subL_zero, g1 _ _ k1, Nat.add_assoc, g1 _ _ k2, consO_some]
    have hlt' : (i : Int) < l.length := by omega
    have hnx : (l.take (i + 1)).foldl (fun out c => rchN s s.objs.length c out) [] = rchN s s.objs.length w out1 := by
      rw [List.take_succ, hw, List.foldl_append, hfo]; rfl
    have hu1 := unseen_mono (s := s) (a := []) (b := out1) (fun x hx => by cases hx)
    have hl1 := foldl_len s s.objs.length (l.take i) []
    rw [hfo] at hl1
    have ihc := ih w out1 p1 c1 Lg1 m' (by omega) (by simp only [List.length_nil] at hl1; omega) hg1
    clear hx g1 k1 k2 hw ih hg1
    obtain ⟨w1, w2⟩ := w
    dsimp only at s1
    generalize l.length = ln at *
    repeat' (first | simp (maxSteps := 1000000) (disch := omega) only [↓Fc.x15_0, ↓eng_pre, eng_post, ↓Fa.all_pc, Fa.all_fa, eng_core, Nat.reduceBEq, ne_eq, reduceIte, Nat.reduceEqDiff, Nat.reduceAdd, Nat.reduceMul, Nat.reduceLT, Nat.reduceSub, Int.reduceLT, Int.reduceLE, Int.reduceEq, Int.reduceAdd, Int.reduceSub, Int.reduceMul, Int.reduceNeg, Int.reduceToNat, e0, e5, e8, e9, e10, hlt', Int.toNat_natCast] | (with_reducible (apply gd_new; first | (refine newA_of (fun _ => ?_)) | fail)) | (with_reducible (apply gd_load; first | (refine ld_by (by (first | (apply at_own; (· (repeat (first | apply Take.here | apply Take.there | apply Take.app)))) | (apply at_mem; assumption) | (apply At.up; assumption) | assumption | (apply At.sub; assumption; (· ((repeat ((fail_if_success (first | apply TakeL.here | apply TakeL.all | apply TakeL.hd)); (first | apply TakeL.cons | apply TakeL.app))); (first | apply TakeL.here | apply TakeL.all | apply TakeL.hd)))))) ?_; first | (refine lb_one (by first | with_reducible rfl | (simp only [get_l, List.getElem?_cons_zero, List.getElem?_cons_succ, Option.some.injEq]; exact rfl) | assumption) ?_) | (refine lb_agg (by first | (simp only [subL_succ, subL_zero, get_l, List.getElem?_cons_zero, List.getElem?_cons_succ, consO_some, Nat.reduceAdd]; exact rfl) | assumption) ?_) | fail) | fail)) | (with_reducible (apply gd_store; first | (refine st_own (by (repeat (first | apply Put.here | apply Put.there | apply Put.app))) (by simp only [eng_sm, eng_core, Nat.reduceAdd, Nat.reduceLeDiff] <;> with_reducible assumption) (by simp only [eng_sm, eng_core, Nat.reduceAdd, Nat.reduceLeDiff] <;> first | with_reducible assumption | omega) ?_) | fail)) | (with_reducible (apply gd_bi; first | (refine bi_len (by kernel_rfl) ?_) | (refine bi_lens (by kernel_rfl) ?_) | fail)) | (with_reducible (apply gd_call; first | ((refine ca_of (ihc) (by (repeat (first | apply Takes.nil | (apply Takes.cons; (· (repeat (first | apply Take.here | apply Take.there | apply Take.app)))) | (apply Takes.app; (· ((repeat ((fail_if_success (first | apply TakeL.here | apply TakeL.all | apply TakeL.hd)); (first | apply TakeL.cons | apply TakeL.app))); (first | apply TakeL.here | apply TakeL.all | apply TakeL.hd)))) | (apply Takes.lst; (· ((repeat ((fail_if_success (first | apply TakeL.here | apply TakeL.all | apply TakeL.hd)); (first | apply TakeL.cons | apply TakeL.app))); (first | apply TakeL.here | apply TakeL.all | apply TakeL.hd)))) | fail))) ?_); rintro _ _ _ ⟨rfl, p5, c5, L5, rfl, rfl, hg5⟩) | fail)) | (with_reducible (apply gd_cond; first | (refine cond_if (fun h => ?_) (fun h => ?_)) | (refine cond_nif (fun h => ?_) (fun h => ?_)) | (refine cond_nsplit (fun h => ?_) (fun h => ?_)) | (refine cond_split (fun h => ?_) (fun h => ?_)))) | fail)
    exact next_of (γ := RG) ⟨i + 1, rchN s s.objs.length (w1, w2) out1, p5, c5, L5⟩ (by (first | (simp (maxSteps := 1000000) (disch := omega) only [↓eng_pre, eng_post, ↓Fa.all_pc, Fa.all_fa, eng_core, Nat.reduceBEq, ne_eq, reduceIte, Nat.reduceEqDiff, Nat.reduceAdd, Nat.reduceMul, Nat.reduceLT, Nat.reduceSub, Int.reduceLT, Int.reduceLE, Int.reduceEq, Int.reduceAdd, Int.reduceSub, Int.reduceMul, Int.reduceNeg, Int.reduceToNat, *]; done) | (simp (maxSteps := 1000000) (disch := omega) only [↓eng_pre, eng_post, ↓Fa.all_pc, Fa.all_fa, eng_core, Nat.reduceBEq, ne_eq, reduceIte, Nat.reduceEqDiff, Nat.reduceAdd, Nat.reduceMul, Nat.reduceLT, Nat.reduceSub, Int.reduceLT, Int.reduceLE, Int.reduceEq, Int.reduceAdd, Int.reduceSub, Int.reduceMul, Int.reduceNeg, Int.reduceToNat, *, Value.int.injEq, true_and, and_true, Int.natCast_add, Int.natCast_one, Int.natCast_zero, Int.add_zero]; done) | (simp (maxSteps := 1000000) (disch := omega) only [↓eng_pre, eng_post, ↓Fa.all_pc, Fa.all_fa, eng_core, Nat.reduceBEq, ne_eq, reduceIte, Nat.reduceEqDiff, Nat.reduceAdd, Nat.reduceMul, Nat.reduceLT, Nat.reduceSub, Int.reduceLT, Int.reduceLE, Int.reduceEq, Int.reduceAdd, Int.reduceSub, Int.reduceMul, Int.reduceNeg, Int.reduceToNat, *, Value.int.injEq, true_and, and_true]; omega) | (simp (maxSteps := 1000000) (disch := omega) only [↓eng_pre, eng_post, ↓Fa.all_pc, Fa.all_fa, eng_core, Nat.reduceBEq, ne_eq, reduceIte, Nat.reduceEqDiff, Nat.reduceAdd, Nat.reduceMul, Nat.reduceLT, Nat.reduceSub, Int.reduceLT, Int.reduceLE, Int.reduceEq, Int.reduceAdd, Int.reduceSub, Int.reduceMul, Int.reduceNeg, Int.reduceToNat, *, Value.int.injEq, true_and, and_true]; exact rfl))) (end_takeR (Lp := L5 ++ (Lr ++ Lx)) ⟨rfl, rfl, by dsimp only; omega, hg5, hnx⟩ (by (repeat (first | apply Takes.nil | (apply Takes.cons; (· (repeat (first | apply Take.here | apply Take.there | apply Take.app)))) | (apply Takes.app; (· ((repeat ((fail_if_success (first | apply TakeL.here | apply TakeL.all | apply TakeL.hd)); (first | apply TakeL.cons | apply TakeL.app))); (first | apply TakeL.here | apply TakeL.all | apply TakeL.hd)))) | (apply Takes.lst; (· ((repeat ((fail_if_success (first | apply TakeL.here | apply TakeL.all | apply TakeL.hd)); (first | apply TakeL.cons | apply TakeL.app))); (first | apply TakeL.here | apply TakeL.all | apply TakeL.hd)))) | fail)))) (by dsimp only; omega)
  · have hlt' : ¬ (i : Int) < l.length := by omega
    rw [List.take_of_length_le (by omega)] at hfo
    rw [hfo]
    clear hx ih
    repeat' (first | simp (maxSteps := 1000000) (disch := omega) only [↓Fc.x15_0, ↓eng_pre, eng_post, ↓Fa.all_pc, Fa.all_fa, eng_core, Nat.reduceBEq, ne_eq, reduceIte, Nat.reduceEqDiff, Nat.reduceAdd, Nat.reduceMul, Nat.reduceLT, Nat.reduceSub, Int.reduceLT, Int.reduceLE, Int.reduceEq, Int.reduceAdd, Int.reduceSub, Int.reduceMul, Int.reduceNeg, Int.reduceToNat, e0, e5, e8, e9, e10, hlt', Int.toNat_natCast] | (with_reducible (apply gd_new; first | (refine newA_of (fun _ => ?_)) | fail)) | (with_reducible (apply gd_load; first | (refine ld_by (by (first | (apply at_own; (· (repeat (first | apply Take.here | apply Take.there | apply Take.app)))) | (apply at_mem; assumption) | (apply At.up; assumption) | assumption)) ?_; first | (refine lb_one (by first | with_reducible rfl | (simp only [get_l, List.getElem?_cons_zero, List.getElem?_cons_succ, Option.some.injEq]; exact rfl) | assumption) ?_) | (refine lb_agg (by first | (simp only [subL_succ, subL_zero, get_l, List.getElem?_cons_zero, List.getElem?_cons_succ, consO_some, Nat.reduceAdd]; exact rfl) | assumption) ?_) | fail) | fail)) | (with_reducible (apply gd_store; first | (refine st_own (by (repeat (first | apply Put.here | apply Put.there | apply Put.app))) (by simp only [eng_sm, eng_core, Nat.reduceAdd, Nat.reduceLeDiff] <;> with_reducible assumption) (by simp only [eng_sm, eng_core, Nat.reduceAdd, Nat.reduceLeDiff] <;> first | with_reducible assumption | omega) ?_) | fail)) | (with_reducible (apply gd_bi; first | (refine bi_len (by kernel_rfl) ?_) | (refine bi_lens (by kernel_rfl) ?_) | fail)) | (with_reducible (apply gd_cond; first | (refine cond_if (fun h => ?_) (fun h => ?_)) | (refine cond_nif (fun h => ?_) (fun h => ?_)) | (refine cond_nsplit (fun h => ?_) (fun h => ?_)) | (refine cond_split (fun h => ?_) (fun h => ?_)))) | fail)
    exact end_here ⟨rfl, p1, c1, Lg1, rfl, rfl, hg1⟩
end Go.Proofs.YtkcacgjbofabfaaDoor
