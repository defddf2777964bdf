/- Layer 3: chapter 3's example. -/
import Derived.Test.YtkcacgjbofabfaaDoorSShow
import Derived.Test.YtkcacgjbofabfaaDoorILay
import Derived.Test.YtkcacgjbofabfaaDoorKJoin
set_option linter.unusedSimpArgs false
set_option linter.unusedVariables false
set_option maxRecDepth 20000
set_option linter.all false
-- @FC
namespace Go.Proofs.YtkcacgjbofabfaaDoor
open Go Go.Eng Go.Heap
abbrev S1 : HS := layF (newF 10) 0 [(0, 5), (2, 0)]
theorem slv_one (m : Mem) (x : Nat) (a b : Int) : SlAt m [(x, .cells #[.int .i64 a, .int .i64 b] 45 (0, 0))] (.slice (some ⟨x, 0, none⟩) 1 1) 1 2 (encs [(a, b)]) :=
  SlAt.whole (l := encs [(a, b)]) (at_own Take.here) rfl
theorem slv_two (m : Mem) (x : Nat) (a b c d : Int) : SlAt m [(x, .cells #[.int .i64 a, .int .i64 b, .int .i64 c, .int .i64 d] 45 (0, 0))] (.slice (some ⟨x, 0, none⟩) 2 2) 2 2 (encs [(a, b), (c, d)]) :=
  SlAt.whole (l := encs [(a, b), (c, d)]) (at_own Take.here) rfl
set_option maxHeartbeats 0 in
set_option maxRecDepth 20000 in
theorem awake_ct (m : Mem) : Cta Tryd.prog 9 [] m [] (fun v m' L' => m.Le m' ∧ v = .bool true) := by
  have nc := new_ct 10
  have lc : ∀ b L x m, HP b (newF 10) L → Cta Tryd.prog 21 [ptr b, .int .i64 0, .slice (some ⟨x, 0, none⟩) 2 2] m (L ++ [(x, .cells #[.int .i64 0, .int .i64 5, .int .i64 2, .int .i64 0] 45 (0, 0))]) (fun v m' L' => v = .agg #[.int .i64 2, .int .i64 0] ∧ m' = m ∧ ∃ Lh, L' = Lh ++ [(x, .cells #[.int .i64 0, .int .i64 5, .int .i64 2, .int .i64 0] 45 (0, 0))] ∧ HP b S1 Lh) :=
    fun b L x m h => lay_ct b (newF 10) L _ 0 _ [(0, 5), (2, 0)] h m (slv_two m x 0 5 2 0) (by decide) (by decide)
  have hd : dfs S1 [] [(2, 0)] = [(0, (0, [(0, 5), (2, 0)]))] := by decide +kernel
  have hr : reachF S1 [(2, 0)] = [0] := by unfold reachF; rw [hd]; rfl
  have hcell : ∀ o ∈ S1.objs, o.2.length ≤ 100000 := by decide +kernel
  have hw : wt S1 [] ≤ 999999 := by decide +kernel
  have rc : ∀ b L x m, HP b S1 L → Cta Tryd.prog 14 [ptr b, .slice (some ⟨x, 0, none⟩) 1 1] m (L ++ [(x, .cells #[.int .i64 2, .int .i64 0] 45 (0, 0))]) (fun v m' L' => m.Le m' ∧ ∃ x' c' sp, v = .slice (some ⟨x', 0, none⟩) 1 c' ∧ L' = (x', .cells (.int .i64 0 :: sp).toArray 2 (0, 0)) :: (L ++ [(x, .cells #[.int .i64 2, .int .i64 0] 45 (0, 0))])) := by
    intro b L x m h
    have := reach_ct b S1 L _ h _ 1 [(2, 0)] m (slv_one m x 2 0) (by show 1 + wt S1 [] ≤ 1000000; omega) (fun o ho => by have := hcell o ho; omega)
    rw [hr] at this
    refine this.mono ?_
    rintro v m' L' ⟨h1, p', c', Lo, rfl, rfl, _, ⟨h2, h3, _⟩ | ⟨b', c2, sp, h2, _, _, _, rfl⟩⟩
    · cases h3
    · injection h2 with e1 e2 e3
      subst e1 e3
      exact ⟨h1, b', c', sp, rfl, rfl⟩
  have hsh : showF (dfs S1 [] [(2, 0)]) [(2, 0)] = ⟨#[64, 48, 123, 48, 32, 53, 32, 64, 48, 125]⟩ := by rw [hd]; decide +kernel
  have sc : ∀ b L x m, HP b S1 L → Cta Tryd.prog 16 [ptr b, .slice (some ⟨x, 0, none⟩) 1 1] m (L ++ [(x, .cells #[.int .i64 2, .int .i64 0] 45 (0, 0))]) (fun v m' L' => m.Le m' ∧ v = .string ⟨#[64, 48, 123, 48, 32, 53, 32, 64, 48, 125]⟩ ∧ L' = L ++ [(x, .cells #[.int .i64 2, .int .i64 0] 45 (0, 0))]) := by
    intro b L x m h
    have := show_ct b S1 L _ h _ 1 [(2, 0)] m (slv_one m x 2 0) (by show 1 + wt S1 [] ≤ 1000000; omega) (fun o ho => by have := hcell o ho; omega) (by rw [hd]; decide) (Nat.le_refl _) (by rw [hd]; decide)
      (fun m2 _ v hv h0 => by rw [List.mem_singleton] at hv; subst hv; cases h0)
      (fun m2 _ y hy => by
        rw [hd, List.mem_singleton] at hy; subst hy
        refine ⟨fun _ => numOk_small 0 (by decide) (by decide) m2, fun v hv h0 => ?_⟩
        rcases List.mem_cons.1 hv with rfl | hv
        · exact numOk_small 5 (by decide) (by decide) m2
        · rw [List.mem_singleton] at hv; subst hv; cases h0)
      (fun m2 _ i hi => by rw [hd] at hi; have : i = 0 := by simpa using hi
                           subst this; exact numOk_small 0 (by decide) (by decide) m2)
    rw [hsh] at this
    exact this
  have hs1 : sameF S1 [(2, 0)] S1 [(2, 0)] = true := by decide +kernel
  have ok : ∀ b L, HP b S1 L → ObjK b S1 L := fun b L h => h.objK fun o ho => by have := hcell o ho; omega
  have s1 : ∀ b L x y m, HP b S1 L → Cta Tryd.prog 12 [ptr b, .slice (some ⟨x, 0, none⟩) 1 1, ptr b, .slice (some ⟨y, 0, none⟩) 1 1] m (L ++ [(x, .cells #[.int .i64 2, .int .i64 0] 45 (0, 0)), (y, .cells #[.int .i64 2, .int .i64 0] 45 (0, 0))]) (fun v m' L' => m.Le m' ∧ v = .bool true ∧ L' = L ++ [(x, .cells #[.int .i64 2, .int .i64 0] 45 (0, 0)), (y, .cells #[.int .i64 2, .int .i64 0] 45 (0, 0))]) := by
    intro b L x y m h
    have o2 := (ok b L h).ext (L := L ++ [(x, .cells #[.int .i64 2, .int .i64 0] 45 (0, 0)), (y, .cells #[.int .i64 2, .int .i64 0] 45 (0, 0))]) (Takes.lst TakeL.here)
    have := same_ct b b S1 S1 _ o2 o2 [(2, 0)] [(2, 0)] _ _ 1 1 m ((slv_one m x 2 0).sub (L' := L ++ [(y, .cells #[.int .i64 2, .int .i64 0] 45 (0, 0))]) (TakeL.app TakeL.hd)) ((slv_one m y 2 0).sub (L' := L ++ [(x, .cells #[.int .i64 2, .int .i64 0] 45 (0, 0))]) (TakeL.app (TakeL.cons TakeL.all))) (by decide) (by decide +kernel) hcell
    rw [hs1] at this
    exact this
  have s2 : ∀ b L x m, HP b S1 L → Cta Tryd.prog 12 [ptr b, .slice (some ⟨x, 0, none⟩) 1 1, ptr b, .slice none 0 0] m (L ++ [(x, .cells #[.int .i64 2, .int .i64 0] 45 (0, 0))]) (fun v m' L' => m.Le m' ∧ v = .bool false ∧ L' = L ++ [(x, .cells #[.int .i64 2, .int .i64 0] 45 (0, 0))]) := by
    intro b L x m h
    have o2 := (ok b L h).ext (L := L ++ [(x, .cells #[.int .i64 2, .int .i64 0] 45 (0, 0))]) (Takes.lst TakeL.here)
    exact same_ct b b S1 S1 _ o2 o2 [(2, 0)] [] _ none 1 0 m ((slv_one m x 2 0).sub (L' := L ++ []) (TakeL.app TakeL.all)) SlAt.nil (by decide) (by decide +kernel) hcell
  clear ok hs1 hsh hr hd hcell hw
  generalize S1 = T1 at *
  generalize newF 10 = T0 at *
  refine cta_of_T (c := Fc.k9_0) Tryd.func9 rfl rfl (by kernel_rfl) (by kernel_rfl) ?_
  repeat' (first | simp (maxSteps := 1000000) (disch := omega) only [↓Fc.x9_0, ↓eng_pre, eng_post, ↓Fa.all_pc, Fa.all_fa, eng_core, Nat.reduceBEq, ne_eq, reduceIte, Nat.reduceEqDiff, Nat.reduceAdd, Nat.reduceMul, Nat.reduceLT, Nat.reduceSub, Int.reduceLT, Int.reduceLE, Int.reduceEq, Int.reduceAdd, Int.reduceSub, Int.reduceMul, Int.reduceNeg, Int.reduceToNat, *, Int.natCast_one, Int.natCast_zero] | (with_reducible (apply gd_new; first | (refine newA_of (fun _ => ?_)) | fail)) | (with_reducible (apply gd_load; first | (refine ld_by (by (first | (apply at_own; (· (repeat (first | apply Take.here | apply Take.there | apply Take.app)))) | (apply at_mem; assumption) | (apply At.up; assumption) | assumption | (apply At.sub; assumption; (· ((repeat ((fail_if_success (first | apply TakeL.here | apply TakeL.all | apply TakeL.hd)); (first | apply TakeL.cons | apply TakeL.app))); (first | apply TakeL.here | apply TakeL.all | apply TakeL.hd)))))) ?_; first | (refine lb_one (by first | with_reducible rfl | (simp only [get_l, List.getElem?_cons_zero, List.getElem?_cons_succ, Option.some.injEq]; exact rfl) | assumption) ?_) | (refine lb_agg (by first | (simp only [subL_succ, subL_zero, get_l, List.getElem?_cons_zero, List.getElem?_cons_succ, consO_some, Nat.reduceAdd]; exact rfl) | assumption) ?_) | fail) | fail)) | (with_reducible (apply gd_store; first | (refine st_own (by (repeat (first | apply Put.here | apply Put.there | apply Put.app))) (by simp only [eng_sm, eng_core, Nat.reduceAdd, Nat.reduceLeDiff] <;> with_reducible assumption) (by simp only [eng_sm, eng_core, Nat.reduceAdd, Nat.reduceLeDiff] <;> first | with_reducible assumption | omega) ?_) | fail)) | (with_reducible (apply gd_top; first | (refine p_bsl ?_) | fail)) | (with_reducible (apply gd_bi; first | (refine bi_len (by kernel_rfl) ?_) | (refine bi_lens (by kernel_rfl) ?_) | fail)) | (with_reducible (apply gd_eq; first | (refine eq_ptr_nil (by kernel_rfl) ?_) | (refine neq_ptr_nil (by kernel_rfl) ?_) | (refine eq_iface_nil (by kernel_rfl) rfl ?_) | (refine neq_iface_nil (by kernel_rfl) rfl ?_) | fail)) | (with_reducible (apply gd_call; first | ((refine ca_of (nc _) (by (repeat (first | apply Takes.nil | (apply Takes.cons; (· (repeat (first | apply Take.here | apply Take.there | apply Take.app)))) | (apply Takes.app; (· ((repeat ((fail_if_success (first | apply TakeL.here | apply TakeL.all | apply TakeL.hd)); (first | apply TakeL.cons | apply TakeL.app))); (first | apply TakeL.here | apply TakeL.all | apply TakeL.hd)))) | (apply Takes.lst; (· ((repeat ((fail_if_success (first | apply TakeL.here | apply TakeL.all | apply TakeL.hd)); (first | apply TakeL.cons | apply TakeL.app))); (first | apply TakeL.here | apply TakeL.all | apply TakeL.hd)))) | fail))) ?_); rintro _ _ _ ⟨rfl, b, rfl, h0⟩) | ((refine ca_of (lc _ _ _ _ h0) (by (repeat (first | apply Takes.nil | (apply Takes.cons; (· (repeat (first | apply Take.here | apply Take.there | apply Take.app)))) | (apply Takes.app; (· ((repeat ((fail_if_success (first | apply TakeL.here | apply TakeL.all | apply TakeL.hd)); (first | apply TakeL.cons | apply TakeL.app))); (first | apply TakeL.here | apply TakeL.all | apply TakeL.hd)))) | (apply Takes.lst; (· ((repeat ((fail_if_success (first | apply TakeL.here | apply TakeL.all | apply TakeL.hd)); (first | apply TakeL.cons | apply TakeL.app))); (first | apply TakeL.here | apply TakeL.all | apply TakeL.hd)))) | fail))) ?_); rintro _ _ _ ⟨rfl, rfl, Lh, rfl, hp⟩) | ((refine ca_of (rc _ _ _ _ hp) (by (repeat (first | apply Takes.nil | (apply Takes.cons; (· (repeat (first | apply Take.here | apply Take.there | apply Take.app)))) | (apply Takes.app; (· ((repeat ((fail_if_success (first | apply TakeL.here | apply TakeL.all | apply TakeL.hd)); (first | apply TakeL.cons | apply TakeL.app))); (first | apply TakeL.here | apply TakeL.all | apply TakeL.hd)))) | (apply Takes.lst; (· ((repeat ((fail_if_success (first | apply TakeL.here | apply TakeL.all | apply TakeL.hd)); (first | apply TakeL.cons | apply TakeL.app))); (first | apply TakeL.here | apply TakeL.all | apply TakeL.hd)))) | fail))) ?_); rintro _ _ _ ⟨hle1, x', c', sp, rfl, rfl⟩) | ((refine ca_of (sc _ _ _ _ hp) (by (repeat (first | apply Takes.nil | (apply Takes.cons; (· (repeat (first | apply Take.here | apply Take.there | apply Take.app)))) | (apply Takes.app; (· ((repeat ((fail_if_success (first | apply TakeL.here | apply TakeL.all | apply TakeL.hd)); (first | apply TakeL.cons | apply TakeL.app))); (first | apply TakeL.here | apply TakeL.all | apply TakeL.hd)))) | (apply Takes.lst; (· ((repeat ((fail_if_success (first | apply TakeL.here | apply TakeL.all | apply TakeL.hd)); (first | apply TakeL.cons | apply TakeL.app))); (first | apply TakeL.here | apply TakeL.all | apply TakeL.hd)))) | fail))) ?_); rintro _ _ _ ⟨hle2, rfl, rfl⟩) | ((refine ca_of (s1 _ _ _ _ _ hp) (by (repeat (first | apply Takes.nil | (apply Takes.cons; (· (repeat (first | apply Take.here | apply Take.there | apply Take.app)))) | (apply Takes.app; (· ((repeat ((fail_if_success (first | apply TakeL.here | apply TakeL.all | apply TakeL.hd)); (first | apply TakeL.cons | apply TakeL.app))); (first | apply TakeL.here | apply TakeL.all | apply TakeL.hd)))) | (apply Takes.lst; (· ((repeat ((fail_if_success (first | apply TakeL.here | apply TakeL.all | apply TakeL.hd)); (first | apply TakeL.cons | apply TakeL.app))); (first | apply TakeL.here | apply TakeL.all | apply TakeL.hd)))) | fail))) ?_); rintro _ _ _ ⟨hle3, rfl, rfl⟩) | ((refine ca_of (s2 _ _ _ _ hp) (by (repeat (first | apply Takes.nil | (apply Takes.cons; (· (repeat (first | apply Take.here | apply Take.there | apply Take.app)))) | (apply Takes.app; (· ((repeat ((fail_if_success (first | apply TakeL.here | apply TakeL.all | apply TakeL.hd)); (first | apply TakeL.cons | apply TakeL.app))); (first | apply TakeL.here | apply TakeL.all | apply TakeL.hd)))) | (apply Takes.lst; (· ((repeat ((fail_if_success (first | apply TakeL.here | apply TakeL.all | apply TakeL.hd)); (first | apply TakeL.cons | apply TakeL.app))); (first | apply TakeL.here | apply TakeL.all | apply TakeL.hd)))) | fail))) ?_); rintro _ _ _ ⟨hle4, rfl, rfl⟩) | fail)) | (with_reducible (apply gd_cond; first | (refine cond_if (fun h => ?_) (fun h => ?_)) | (refine cond_nif (fun h => ?_) (fun h => ?_)) | (refine cond_nsplit (fun h => ?_) (fun h => ?_)) | (refine cond_split (fun h => ?_) (fun h => ?_)))) | (with_reducible (apply gd_guard; first | (refine guard_t (fun h => ?_) (fun h => ?_)) | (refine guard_f (fun h => ?_) (fun h => ?_)) | (refine guard_split (fun h => ?_) (fun h => ?_)))) | fail)
  exact end_clear ((hle1.trans hle2).trans (hle3.trans hle4))
end Go.Proofs.YtkcacgjbofabfaaDoor
