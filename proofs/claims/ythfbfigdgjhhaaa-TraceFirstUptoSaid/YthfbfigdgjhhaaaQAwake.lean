/- Layer 16: the laws are awake. -/
import Derived.Test.YthfbfigdgjhhaaaQUses
set_option linter.unusedSimpArgs false
set_option linter.unusedVariables false
set_option maxRecDepth 20000
set_option linter.all false
-- @FC
namespace Go.Eng
open Go Go.RowKit
theorem Cta.pre {P : Program} {f : FuncId} {args : List Value} {m : Mem} {L : Lst} {R : Value → Mem → Lst → Prop} (hg : isGo P f = true) (h : ∀ L0 w, Inv m (L ++ L0) w → ∃ m' L', Inv m' (L' ++ L0) w ∧ Cta P f args m' L' R) : Cta P f args m L R := by
  refine ⟨fun L0 w hI => ?_⟩
  obtain ⟨m', L', h1, h2⟩ := h L0 w hI
  exact h2.run L0 w h1
theorem Cta.post {P : Program} {f : FuncId} {args : List Value} {m : Mem} {L : Lst} {R R' : Value → Mem → Lst → Prop} (h : Cta P f args m L R) (hr : ∀ v m' L' L0 w, R v m' L' → Inv m' (L' ++ L0) w → ∃ m2 L2, Inv m2 (L2 ++ L0) w ∧ R' v m2 L2) : Cta P f args m L R' := by
  refine ⟨fun L0 w hI => (h.run L0 w hI).mono ?_⟩
  rintro v w' ⟨m', L', h1, h2⟩
  obtain ⟨m2, L2, h3, h4⟩ := hr v m' L' L0 w' h2 h1
  exact ⟨m2, L2, h3, h4⟩
theorem sl_lit {m : Mem} {b n s : Nat} {xs : List Value} {E : TypeId} (h : m.blk b = some (.cells xs.toArray E (0, 0))) (hl : xs.length = n * s) : SlAt m [] (.slice (some ⟨b, 0, none⟩) n n) n s xs :=
  .inr ⟨b, 0, n, _, rfl, hl, at_mem h, fun j x hj => by simp only [Nat.zero_add, List.getElem?_toArray]; exact hj⟩
theorem sl_nil {m : Mem} {s : Nat} : SlAt m [] (.slice none 0 0) 0 s [] := .inl ⟨rfl, rfl, none, 0, rfl⟩
end Go.Eng
namespace Go.Tr
open Go Go.Eng
def vS (n : Int) : Src := ⟨1, 0, 0, n⟩
def loopT (n : Int) : TrR := ⟨⟨0, 0, 0, 0, 0, 0, 0, 0, 0, 0⟩, 0, 0, [0], [⟨26, [], 0, 0, 0⟩, ⟨4, [vS 0, ⟨0, 0, 1, 0⟩], 1, 0, 0⟩], [⟨-1, 0, 0, 0, []⟩], [], [vS n]⟩
theorem loop_chk : chkF (loopT 2) = none := by decide +kernel
theorem loop_chk3 : chkF (loopT 3) = some 2 := by decide +kernel
theorem loop_uses : usesF (loopT 2) 1 = [0] := by
  unfold usesF
  rw [if_pos ⟨loop_chk, by decide, by decide⟩]
  have h : varsF (srcsU (loopT 2) 1) = [0] := by decide +kernel
  rw [h]
  unfold sortF
  rw [List.mergeSort_singleton]
  decide +kernel
def loopL (bi ba bo bl bb : Nat) (n : Int) : Lst := [(bb, .cells #[.int .i64 1, .int .i64 0, .int .i64 0, .int .i64 n] 50 (0, 0)), (bl, .cells #[.int .i64 (-1), .int .i64 0, .int .i64 0, .int .i64 0, .slice none 0 0] 80 (0, 0)),
  (bo, .cells #[.int .i64 26, .slice none 0 0, .int .i64 0, .int .i64 0, .int .i64 0, .int .i64 4, .slice (some ⟨ba, 0, none⟩) 2 2, .int .i64 1, .int .i64 0, .int .i64 0] 46 (0, 0)),
  (ba, .cells #[.int .i64 1, .int .i64 0, .int .i64 0, .int .i64 0, .int .i64 0, .int .i64 0, .int .i64 1, .int .i64 0] 50 (0, 0)), (bi, .cells #[.int .i64 0] 3 (0, 0))]
def loopZ (bi bo bl bb : Nat) : TLoc := ⟨some ⟨bi, 0, none⟩, 1, some ⟨bo, 0, none⟩, 2, some ⟨bl, 0, none⟩, 1, none, 0, some ⟨bb, 0, none⟩, 1⟩
theorem pub_loop {bi ba bo bl bb : Nat} {n : Int} (hn : R64 n) {m : Mem} {L0 : Lst} {w : World} (hI : Inv m (loopL bi ba bo bl bb n ++ L0) w) : ∃ m', m.Le m' ∧ Inv m' L0 w ∧ TrAt m' (loopZ bi bo bl bb) (loopT n) := by
  unfold loopL at hI
  obtain ⟨l1, g1, i1⟩ := Inv.pub hI
  obtain ⟨l2, g2, i2⟩ := Inv.pub i1
  obtain ⟨l3, g3, i3⟩ := Inv.pub i2
  obtain ⟨l4, g4, i4⟩ := Inv.pub i3
  obtain ⟨l5, g5, i5⟩ := Inv.pub i4
  have g1 := l5.blk _ _ (l4.blk _ _ (l3.blk _ _ (l2.blk _ _ g1)))
  have g2 := l5.blk _ _ (l4.blk _ _ (l3.blk _ _ g2))
  have g3 := l5.blk _ _ (l4.blk _ _ g3)
  have g4 := l5.blk _ _ g4
  refine ⟨_, (((l1.trans l2).trans l3).trans l4).trans l5, i5, ?_⟩
  have z64 : R64 0 := by decide
  have hs0 : SrcR (vS 0) := ⟨by decide, by decide, by decide, by decide⟩
  refine ⟨Nat.le_refl _, sl_lit g5 rfl, ?_, ?_, ?_, ⟨Nat.le_refl _, sl_lit g1 rfl, (show (1 : Nat) ≤ 1048576 by decide), ?_⟩, (show (1 : Nat) ≤ 1048576 by decide), (show (2 : Nat) ≤ 1048576 by decide), (show (1 : Nat) ≤ 1048576 by decide), (show (0 : Nat) ≤ 1048576 by decide), ?_, ⟨z64, z64⟩⟩
  · refine ⟨Nat.le_refl _, [[.int .i64 26, .slice none 0 0, .int .i64 0, .int .i64 0, .int .i64 0], [.int .i64 4, .slice (some ⟨ba, 0, none⟩) 2 2, .int .i64 1, .int .i64 0, .int .i64 0]], rfl, sl_lit g3 rfl, ?_, ?_⟩
    · intro r hr
      simp at hr
      rcases hr with rfl | rfl <;> rfl
    · intro i a r h1 h2
      match i, h1, h2 with
      | 0, h1, h2 => cases h1; cases h2; exact ⟨none, 0, rfl, ⟨Nat.le_refl _, sl_nil, by decide, fun s hs => by cases hs⟩, by decide, z64, z64, z64⟩
      | 1, h1, h2 =>
        cases h1; cases h2
        refine ⟨some ⟨ba, 0, none⟩, 2, rfl, ⟨Nat.le_refl _, sl_lit g4 rfl, by decide, fun s hs => ?_⟩, by decide, by decide, z64, z64⟩
        simp at hs
        rcases hs with rfl | rfl
        · exact hs0
        · exact ⟨by decide, by decide, by decide, by decide⟩
  · refine ⟨Nat.le_refl _, [[.int .i64 (-1), .int .i64 0, .int .i64 0, .int .i64 0, .slice none 0 0]], rfl, sl_lit g2 rfl, ?_, ?_⟩
    · intro r hr
      simp at hr
      subst hr; rfl
    · intro i a r h1 h2
      match i, h1, h2 with
      | 0, h1, h2 => cases h1; cases h2; exact ⟨none, 0, rfl, ⟨Nat.le_refl _, sl_nil, by decide, fun s hs => by cases hs⟩, by decide, z64, z64, z64⟩
  · exact ⟨Nat.le_refl _, [], rfl, sl_nil, (fun r hr => by cases hr), (fun i a r h1 h2 => by cases h2)⟩
  · intro s hs
    simp [loopT] at hs
    subst hs
    exact ⟨(show R64 1 by decide), z64, z64, hn⟩
  · intro n hn
    simp [loopT] at hn
    subst hn; exact z64
end Go.Tr
namespace Go.Proofs.Ythfbfigdgjhhaaa
open Go Go.Eng Go.Tr
abbrev loopV (z : TLoc) : Value := trV ⟨0, 0, 0, 0, 0, 0, 0, 0, 0, 0⟩ 0 0 z 1 2 1 0 1
theorem v_ct (n : Int) : Pur Try.prog 45 [.int .i64 n] (· = srcV (vS n)) := by
  intro m; refine cta_of_T (c := Fc.k45_0) Try.func45 rfl rfl (by kernel_rfl) (by kernel_rfl) ?_
  repeat' (first | simp (maxSteps := 1000000) (disch := omega) only [↓Fc.x45_0, ↓eng_pre, eng_post, ↓Fa.all_pc, Fa.all_fa, eng_core, Nat.reduceBEq, ne_eq, reduceIte, Nat.reduceEqDiff, Nat.reduceAdd, Nat.reduceMul, Nat.reduceLT, Nat.reduceSub, Int.reduceLT, Int.reduceLE, Int.reduceEq, Int.reduceAdd, Int.reduceSub, Int.reduceMul, Int.reduceNeg, Int.reduceToNat, *] | (with_reducible (apply gd_new; first | (refine newA_of (fun _ => ?_)) | fail)) | (with_reducible (apply gd_rload; first | (refine rl_by (by (first | (apply at_own; (· (repeat (first | apply Take.here | apply Take.there | apply Take.app)))) | (apply at_mem; assumption) | (apply At.up; assumption) | assumption)) ?_; first | (refine rb_one (by first | with_reducible rfl | (simp only [get_l, List.getElem?_cons_zero, List.getElem?_cons_succ, Option.some.injEq]; exact rfl) | assumption) ?_) | (refine rb_agg (by first | (simp only [subL_succ, subL_zero, get_l, List.getElem?_cons_zero, List.getElem?_cons_succ, consO_some, Nat.reduceAdd]; exact rfl) | assumption) ?_) | fail) | fail)) | (with_reducible (apply gd_store; first | (refine st_own (by (repeat (first | apply Put.here | apply Put.there | apply Put.app))) (by simp only [eng_sm, eng_core, Nat.reduceAdd, Nat.reduceLeDiff] <;> with_reducible assumption) (by simp only [eng_sm, eng_core, Nat.reduceAdd, Nat.reduceLeDiff] <;> first | with_reducible assumption | omega) ?_) | fail)) | fail)
  exact end_drop (end_here ⟨rfl, rfl, rfl⟩)
set_option maxHeartbeats 0 in
theorem loop_ct (m : Mem) : Cta Try.prog 21 [] m [] (fun v m' L' => m' = m ∧ ∃ bi ba bo bl bb, L' = loopL bi ba bo bl bb 2 ∧ v = loopV (loopZ bi bo bl bb)) := by
  have v0 := v_ct 0
  have v2 := v_ct 2
  unfold srcV vS at v0 v2
  refine cta_of_T (c := Fc.k21_0) Try.func21 rfl rfl (by kernel_rfl) (by kernel_rfl) ?_
  repeat' (first | simp (maxSteps := 1000000) (disch := omega) only [↓Fc.x21_0, ↓eng_pre, eng_post, ↓Fa.all_pc, Fa.all_fa, eng_core, Nat.reduceBEq, ne_eq, reduceIte, Nat.reduceEqDiff, Nat.reduceAdd, Nat.reduceMul, Nat.reduceLT, Nat.reduceSub, Int.reduceLT, Int.reduceLE, Int.reduceEq, Int.reduceAdd, Int.reduceSub, Int.reduceMul, Int.reduceNeg, Int.reduceToNat, *] | (with_reducible (apply gd_new; first | (refine newA_of (fun _ => ?_)) | fail)) | (with_reducible (apply gd_rload; first | (refine rl_by (by (first | (apply at_own; (· (repeat (first | apply Take.here | apply Take.there | apply Take.app)))) | (apply at_mem; assumption) | (apply At.up; assumption) | assumption)) ?_; first | (refine rb_one (by first | with_reducible rfl | (simp only [get_l, List.getElem?_cons_zero, List.getElem?_cons_succ, Option.some.injEq]; exact rfl) | assumption) ?_) | (refine rb_agg (by first | (simp only [subL_succ, subL_zero, get_l, List.getElem?_cons_zero, List.getElem?_cons_succ, consO_some, Nat.reduceAdd]; exact rfl) | assumption) ?_) | fail) | fail)) | (with_reducible (apply gd_store; first | (refine st_own (by (repeat (first | apply Put.here | apply Put.there | apply Put.app))) (by simp only [eng_sm, eng_core, Nat.reduceAdd, Nat.reduceLeDiff] <;> with_reducible assumption) (by simp only [eng_sm, eng_core, Nat.reduceAdd, Nat.reduceLeDiff] <;> first | with_reducible assumption | omega) ?_) | fail)) | (with_reducible (apply gd_top; first | (refine p_bsl ?_) | fail)) | (with_reducible (apply gd_call; first | ((refine pur_of (v0) ?_); rintro _ rfl) | ((refine pur_of (v2) ?_); rintro _ rfl) | fail)) | fail)
  rename_i b5 bi ba bo bl bb
  exact end_takeR (Lp := [(bb, _), (bl, _), (bo, _), (ba, _), (bi, _)]) ⟨rfl, bi, ba, bo, bl, bb, rfl, rfl⟩ (by (repeat (first | apply Takes.nil | (apply Takes.cons; (· (repeat (first | apply Take.here | apply Take.there | apply Take.app)))) | (apply Takes.app; (· ((repeat ((fail_if_success (first | apply TakeL.here | apply TakeL.all | apply TakeL.hd)); (first | apply TakeL.cons | apply TakeL.app))); (first | apply TakeL.here | apply TakeL.all | apply TakeL.hd)))) | (apply Takes.lst; (· ((repeat ((fail_if_success (first | apply TakeL.here | apply TakeL.all | apply TakeL.hd)); (first | apply TakeL.cons | apply TakeL.app))); (first | apply TakeL.here | apply TakeL.all | apply TakeL.hd)))) | fail)))
theorem check2_ct (bi ba bo bl bb : Nat) (m : Mem) : Cta Try.prog 18 [loopV (loopZ bi bo bl bb)] m (loopL bi ba bo bl bb 2) (fun v m' L' => m.Le m' ∧ v = .tuple #[.int .i64 0, .int .i64 0]) := by
  refine Cta.pre (by kernel_rfl) fun L0 w hI => ?_
  obtain ⟨m2, h1, h2, h3⟩ := pub_loop (by decide) hI
  refine ⟨m2, [], h2, (check_ct _ _ m2 h3).post ?_⟩
  rintro v m' L' L0 w ⟨hle, rfl⟩ hI
  exact ⟨m', L', hI, h1.trans hle, by unfold chkV; rw [loop_chk]⟩
theorem check3_ct (bi ba bo bl bb : Nat) (m : Mem) : Cta Try.prog 18 [loopV (loopZ bi bo bl bb)] m (loopL bi ba bo bl bb 3) (fun v m' L' => m.Le m' ∧ v = .tuple #[.int .i64 2, .int .i64 160]) := by
  refine Cta.pre (by kernel_rfl) fun L0 w hI => ?_
  obtain ⟨m2, h1, h2, h3⟩ := pub_loop (by decide) hI
  refine ⟨m2, [], h2, (check_ct _ _ m2 h3).post ?_⟩
  rintro v m' L' L0 w ⟨hle, rfl⟩ hI
  exact ⟨m', L', hI, h1.trans hle, by unfold chkV; rw [loop_chk3]; rfl⟩
theorem uses2_ct (bi ba bo bl bb : Nat) (m : Mem) : Cta Try.prog 15 [loopV (loopZ bi bo bl bb), .int .i64 1] m (loopL bi ba bo bl bb 2) (fun v m' L' => m.Le m' ∧ ∃ b c sp, v = .slice (some ⟨b, 0, none⟩) 1 c ∧ L' = [(b, .cells (.int .i64 0 :: sp).toArray 3 (0, 0))]) := by
  refine Cta.pre (by kernel_rfl) fun L0 w hI => ?_
  obtain ⟨m2, h1, h2, h3⟩ := pub_loop (by decide) hI
  refine ⟨m2, [], h2, (uses_ct _ _ 1 m2 h3).post ?_⟩
  rintro v m' L' L0 w ⟨hle, p, c, rfl, hg⟩ hI
  rw [loop_uses] at hg ⊢
  obtain ⟨_, ⟨_, h, _⟩ | ⟨b, c', sp, he, _, _, _, rfl⟩⟩ := hg
  · cases h
  · exact ⟨m', _, hI, h1.trans hle, b, c', sp, he, rfl⟩
set_option maxHeartbeats 0 in
theorem awake_ct (m : Mem) : Cta Try.prog 7 [] m [] (fun v m' L' => m.Le m' ∧ v = .bool true) := by
  have lc := loop_ct
  have c2 := check2_ct
  have c3 := check3_ct
  have uc := uses2_ct
  unfold loopV trV loopL loopZ at *
  dsimp only at *
  have mk := makes_ct 4
  have my := may_ct 26
  have ag := args_ct 32
  rw [show (ofF 4).makes = true from rfl] at mk
  rw [show (ofF 26).may = true from rfl] at my
  rw [show (ofF 32).args = 2 from rfl] at ag
  refine cta_of_T (c := Fc.k7_0) Try.func7 rfl rfl (by kernel_rfl) (by kernel_rfl) ?_
  repeat' (first | simp (maxSteps := 1000000) (disch := omega) only [↓Fc.x7_0, ↓eng_pre, eng_post, ↓Fa.all_pc, Fa.all_fa, eng_core, Nat.reduceBEq, ne_eq, reduceIte, Nat.reduceEqDiff, Nat.reduceAdd, Nat.reduceMul, Nat.reduceLT, Nat.reduceSub, Int.reduceLT, Int.reduceLE, Int.reduceEq, Int.reduceAdd, Int.reduceSub, Int.reduceMul, Int.reduceNeg, Int.reduceToNat, Int.natCast_one] | (with_reducible (apply gd_new; first | (refine newA_of (fun _ => ?_)) | fail)) | (with_reducible (apply gd_load; first | (refine ld_by (by (first | (apply at_own; (· (repeat (first | apply Take.here | apply Take.there | apply Take.app)))) | (apply at_mem; assumption) | (apply At.up; assumption) | assumption)) ?_; first | (refine lb_one (by first | with_reducible rfl | (simp only [get_l, List.getElem?_cons_zero, List.getElem?_cons_succ, Option.some.injEq]; exact rfl) | assumption) ?_) | (refine lb_agg (by first | (simp only [subL_succ, subL_zero, get_l, List.getElem?_cons_zero, List.getElem?_cons_succ, consO_some, Nat.reduceAdd]; exact rfl) | assumption) ?_) | fail) | fail)) | (with_reducible (apply gd_store; first | (refine st_own (by (repeat (first | apply Put.here | apply Put.there | apply Put.app))) (by simp only [eng_sm, eng_core, Nat.reduceAdd, Nat.reduceLeDiff] <;> with_reducible assumption) (by simp only [eng_sm, eng_core, Nat.reduceAdd, Nat.reduceLeDiff] <;> first | with_reducible assumption | omega) ?_) | fail)) | (with_reducible (apply gd_bi; first | (refine bi_len (by kernel_rfl) ?_) | (refine bi_lens (by kernel_rfl) ?_) | fail)) | (with_reducible (apply gd_call; first | ((refine ca_of (lc _) (by (repeat (first | apply Takes.nil | (apply Takes.cons; (· (repeat (first | apply Take.here | apply Take.there | apply Take.app)))) | (apply Takes.app; (· ((repeat ((fail_if_success (first | apply TakeL.here | apply TakeL.all | apply TakeL.hd)); (first | apply TakeL.cons | apply TakeL.app))); (first | apply TakeL.here | apply TakeL.all | apply TakeL.hd)))) | (apply Takes.lst; (· ((repeat ((fail_if_success (first | apply TakeL.here | apply TakeL.all | apply TakeL.hd)); (first | apply TakeL.cons | apply TakeL.app))); (first | apply TakeL.here | apply TakeL.all | apply TakeL.hd)))) | fail))) ?_); rintro _ _ _ ⟨rfl, bi, ba, bo, bl, bb, rfl, rfl⟩) | ((refine ca_of (c2 _ _ _ _ _ _) (by (repeat (first | apply Takes.nil | (apply Takes.cons; (· (repeat (first | apply Take.here | apply Take.there | apply Take.app)))) | (apply Takes.app; (· ((repeat ((fail_if_success (first | apply TakeL.here | apply TakeL.all | apply TakeL.hd)); (first | apply TakeL.cons | apply TakeL.app))); (first | apply TakeL.here | apply TakeL.all | apply TakeL.hd)))) | (apply Takes.lst; (· ((repeat ((fail_if_success (first | apply TakeL.here | apply TakeL.all | apply TakeL.hd)); (first | apply TakeL.cons | apply TakeL.app))); (first | apply TakeL.here | apply TakeL.all | apply TakeL.hd)))) | fail))) ?_); rintro _ _ _ ⟨hle1, rfl⟩) | ((refine ca_of (c3 _ _ _ _ _ _) (by (repeat (first | apply Takes.nil | (apply Takes.cons; (· (repeat (first | apply Take.here | apply Take.there | apply Take.app)))) | (apply Takes.app; (· ((repeat ((fail_if_success (first | apply TakeL.here | apply TakeL.all | apply TakeL.hd)); (first | apply TakeL.cons | apply TakeL.app))); (first | apply TakeL.here | apply TakeL.all | apply TakeL.hd)))) | (apply Takes.lst; (· ((repeat ((fail_if_success (first | apply TakeL.here | apply TakeL.all | apply TakeL.hd)); (first | apply TakeL.cons | apply TakeL.app))); (first | apply TakeL.here | apply TakeL.all | apply TakeL.hd)))) | fail))) ?_); rintro _ _ _ ⟨hle2, rfl⟩) | ((refine ca_of (uc _ _ _ _ _ _) (by (repeat (first | apply Takes.nil | (apply Takes.cons; (· (repeat (first | apply Take.here | apply Take.there | apply Take.app)))) | (apply Takes.app; (· ((repeat ((fail_if_success (first | apply TakeL.here | apply TakeL.all | apply TakeL.hd)); (first | apply TakeL.cons | apply TakeL.app))); (first | apply TakeL.here | apply TakeL.all | apply TakeL.hd)))) | (apply Takes.lst; (· ((repeat ((fail_if_success (first | apply TakeL.here | apply TakeL.all | apply TakeL.hd)); (first | apply TakeL.cons | apply TakeL.app))); (first | apply TakeL.here | apply TakeL.all | apply TakeL.hd)))) | fail))) ?_); rintro _ _ _ ⟨hle3, bu, cu, sp, rfl, rfl⟩) | ((refine pur_of (mk) ?_); rintro _ rfl) | ((refine pur_of (my) ?_); rintro _ rfl) | ((refine pur_of (ag) ?_); rintro _ rfl) | fail)) | (with_reducible (apply gd_guard; first | (refine guard_t (fun h => ?_) (fun h => ?_)) | (refine guard_f (fun h => ?_) (fun h => ?_)) | (refine guard_split (fun h => ?_) (fun h => ?_)))) | fail)
  exact end_clear ((hle1.trans hle2).trans hle3)
end Go.Proofs.Ythfbfigdgjhhaaa
