/- Layer 3: IsoSelf. -/
import Derived.Test.YtkcacgjbofabfaaDoorWFew
set_option linter.unusedSimpArgs false
set_option linter.unusedVariables false
set_option maxRecDepth 20000
set_option linter.all false
-- @FC
namespace Go.Heap
open Go Go.Eng Go.Proofs.YtkcacgjbofabfaaDoor
/-- Pairs of the same. -/
def IdP (P : List (Int × Int)) : Prop := ∀ p ∈ P, p.1 = p.2
theorem alk_self (s : HS) (P : List (Int × Int)) (hP : IdP P) (v : V) : ∃ P', alk s s P v v = (true, P') ∧ IdP P' := by
  unfold alk
  rw [if_neg (by simp)]
  split
  · exact ⟨P, by simp, hP⟩
  split
  · exact ⟨P, rfl, hP⟩
  · rename_i h1 h2
    have h3 : ¬ (v.2 ∈ P.map (·.1) ∨ v.2 ∈ P.map (·.2)) := by
      rintro (h | h)
      · obtain ⟨p, hp, he⟩ := List.mem_map.1 h
        have := hP p hp
        exact h2 (by have e : (v.2, v.2) = p := by rw [← he]; exact Prod.ext rfl this
                     rw [e]; exact hp)
      · obtain ⟨p, hp, he⟩ := List.mem_map.1 h
        have := hP p hp
        exact h2 (by have e : (v.2, v.2) = p := by rw [← he]; exact Prod.ext this.symm rfl
                     rw [e]; exact hp)
    rw [if_neg h3]
    refine ⟨_, rfl, fun p hp => ?_⟩
    rcases List.mem_append.1 hp with h | h
    · exact hP p h
    · rw [List.mem_singleton] at h; rw [h]
theorem lst_self (s : HS) : ∀ (l : List V) (P : List (Int × Int)), IdP P → ∃ P', lst s s P l l = (true, P') ∧ IdP P' := by
  intro l
  induction l with
  | nil => intro P hP; exact ⟨P, by unfold lst; rfl, hP⟩
  | cons v l ih =>
    intro P hP
    obtain ⟨P1, h1, h2⟩ := alk_self s P hP v
    unfold lst
    rw [h1]
    exact ih P1 h2
theorem goS_self (s : HS) : ∀ (f i : Nat) (P : List (Int × Int)), IdP P → goS s s f i P = true := by
  intro f
  induction f with
  | zero => intro i P _; rfl
  | succ f ih =>
    intro i P hP
    unfold goS
    cases hp : P[i]? with
    | none => rfl
    | some p =>
      have he := hP p (List.mem_of_getElem? hp)
      dsimp only
      rw [← he]
      cases ho : objO s (2, p.1) with
      | none => rfl
      | some o =>
        dsimp only
        rw [if_neg (by simp)]
        obtain ⟨P', h1, h2⟩ := lst_self s o.2 P hP
        rw [h1]
        exact ih _ _ h2
theorem sameF_self (s : HS) (x : List V) : sameF s x s x = true := by
  unfold sameF
  rw [if_neg (by simp)]
  obtain ⟨P', h1, h2⟩ := lst_self s x [] (fun p hp => by cases hp)
  rw [h1]
  exact goS_self s _ _ _ h2
theorem sameF_more (s t : HS) (x : List V) (v : V) : sameF s x t (x ++ [v]) = false := by
  unfold sameF
  rw [if_pos (by simp)]
end Go.Heap
namespace Go.Proofs.YtkcacgjbofabfaaDoor
open Go Go.Eng Go.Heap
set_option maxHeartbeats 0 in
theorem self_law (p p2 : Option Addr) (c c2 : Nat) (xs : List ObjT) (l : List V) (v1 v2 : Int) (m : Mem) (ho : ObjsOk m p c xs) (hx : SlAt m [] (.slice p2 l.length c2) l.length 2 (encs l)) (hl : l.length ≤ 1048576) :
    Cta Tryd.prog 8 [.slice p xs.length c, .slice p2 l.length c2, .agg #[.int .i64 v1, .int .i64 v2]] m [] (fun v m' L' => v = .bool true ∧ m.Le m') := by
  have fc := fun m1 (hm : m.Le m1) => few_ct p c xs m1 ho.hl ho.hlen (ho.le hm).hok (ho.le hm).hsl p2 l.length c2 ho.hs hl
  have lc := fun m1 (hm : m.Le m1) => laid_ct p c xs m1 ho.hl ho.hlen (ho.le hm).hok (ho.le hm).hsl
  have hol : l.length + sumO xs ≤ 300 → (laidF xs).objs.length ≤ 300 := by
    rw [laidF_objs, List.length_map]
    have : ∀ l : List ObjT, l.length ≤ sumO l := by
      intro l
      unfold sumO
      induction l with
      | nil => exact Nat.zero_le _
      | cons b l ih => rw [List.map_cons, List.sum_cons, List.length_cons]; omega
    have := this xs
    omega
  have hce : l.length + sumO xs ≤ 300 → ∀ o ∈ (laidF xs).objs, o.2.length ≤ 1000 := by
    intro h3 o h
    rw [laidF_objs, List.mem_map] at h
    obtain ⟨a, ha, rfl⟩ := h
    have := sum_mem (f := fun o : ObjT => o.2.xs.length + 1) ha
    unfold sumO at h3
    dsimp only at this ⊢; omega
  have ok : l.length + sumO xs ≤ 300 → ∀ b L, HP b (laidF xs) L → ObjK b (laidF xs) L := fun h3 b L h => h.objK fun o ho => by have := hce h3 o ho; omega
  have s1 : l.length + sumO xs ≤ 300 → ∀ b L m1, m.Le m1 → HP b (laidF xs) L → Cta Tryd.prog 12 [ptr b, .slice p2 l.length c2, ptr b, .slice p2 l.length c2] m1 L (fun v m' L' => m1.Le m' ∧ v = .bool true ∧ L' = L) := by
    intro h3 b L m1 hm h
    have := same_ct b b _ _ L (ok h3 b L h) (ok h3 b L h) l l p2 p2 c2 c2 m1 (hx.le hm).up (hx.le hm).up (by omega) (by have := hol h3; omega) (fun o ho => by have := hce h3 o ho; omega)
    rw [sameF_self] at this
    exact this
  have s2 : l.length + sumO xs ≤ 300 → ∀ b L b2 L2 m1, m.Le m1 → HP b (laidF xs) L → HP b2 (laidF xs) L2 → Cta Tryd.prog 12 [ptr b, .slice p2 l.length c2, ptr b2, .slice p2 l.length c2] m1 (L ++ L2) (fun v m' L' => m1.Le m' ∧ v = .bool true ∧ L' = L ++ L2) := by
    intro h3 b L b2 L2 m1 hm h h2
    have := same_ct b b2 _ _ (L ++ L2) ((ok h3 b L h).ext (Takes.lst TakeL.here)) ((ok h3 b2 L2 h2).ext (Takes.lst (TakeL.app TakeL.all))) l l p2 p2 c2 c2 m1 (hx.le hm).up (hx.le hm).up (by omega) (by have := hol h3; omega) (fun o ho => by have := hce h3 o ho; omega)
    rw [sameF_self] at this
    exact this
  have s3 : l.length + sumO xs ≤ 300 → ∀ b L b2 L2 p3 c3 Lg m1, m.Le m1 → HP b (laidF xs) L → HP b2 (laidF xs) L2 → GS 45 2 (.slice p3 (l.length + 1) c3) (l.length + 1) (encs l ++ [.int .i64 v1, .int .i64 v2]) Lg → Cta Tryd.prog 12 [ptr b, .slice p2 l.length c2, ptr b2, .slice p3 (l.length + 1) c3] m1 (L ++ (L2 ++ Lg)) (fun v m' L' => m1.Le m' ∧ v = .bool false ∧ L' = L ++ (L2 ++ Lg)) := by
    intro h3 b L b2 L2 p3 c3 Lg m1 hm h h2 hg
    have he : encs l ++ [.int .i64 v1, .int .i64 v2] = encs (l ++ [(v1, v2)]) := by rw [encs_snoc]
    have hn : (l ++ [(v1, v2)]).length = l.length + 1 := by simp
    have h4 := hg.at (m := m1) (L := L ++ (L2 ++ Lg)) (TakeL.app (TakeL.app TakeL.all))
    rw [he, ← hn] at h4
    have := same_ct b b2 _ _ (L ++ (L2 ++ Lg)) ((ok h3 b L h).ext (Takes.lst TakeL.here)) ((ok h3 b2 L2 h2).ext (Takes.lst (TakeL.app TakeL.here))) l (l ++ [(v1, v2)]) p2 p3 c2 c3 m1 (hx.le hm).up h4 (by omega) (by have := hol h3; omega) (fun o ho => by have := hce h3 o ho; omega)
    rw [sameF_more, hn] at this
    exact this
  have hone : oneAll (encs l) = true := oneAll_encs _
  have hxu := fun m1 L (hm : m.Le m1) => (hx.le hm).up (L := L)
  clear ho hce hol ok hx
  generalize laidF xs = s at *
  generalize encs l = el at *
  generalize hsx : sumO xs = sx at *
  generalize hnl : l.length = nl at *
  generalize xs.length = nx at *
-- @CLS iso.Same=w
  refine cta_of_T (c := Fc.k8_0) Tryd.func8 rfl rfl (by kernel_rfl) (by kernel_rfl) ?_
  repeat' (first | simp (maxSteps := 1000000) (disch := omega) only [↓Fc.x8_0, ↓Fc.x8_1, ↓eng_pre, eng_post, ↓Fa.all_pc, Fa.all_fa, eng_core, Nat.reduceBEq, ne_eq, reduceIte, Nat.reduceEqDiff, Nat.reduceAdd, Nat.reduceMul, Nat.reduceLT, Nat.reduceSub, Int.reduceLT, Int.reduceLE, Int.reduceEq, Int.reduceAdd, Int.reduceSub, Int.reduceMul, Int.reduceNeg, Int.reduceToNat, Int.toNat_natCast] | (with_reducible (apply gd_new; first | (refine newA_of (fun _ => ?_)))) | (with_reducible (apply gd_load; first | (refine ld_by (by (first | (apply at_own; (· (repeat (first | apply Take.here | apply Take.there | apply Take.app)))) | (apply at_mem; assumption) | (apply At.up; assumption) | assumption)) ?_; first | (refine lb_one (by first | with_reducible rfl | (simp only [get_l, List.getElem?_cons_zero, List.getElem?_cons_succ, Option.some.injEq]; exact rfl) | assumption) ?_) | (refine lb_agg (by first | (simp only [subL_succ, subL_zero, get_l, List.getElem?_cons_zero, List.getElem?_cons_succ, consO_some, Nat.reduceAdd]; exact rfl) | assumption) ?_)))) | (with_reducible (apply gd_rload; first | (refine rl_by (by (first | (apply at_own; (· (repeat (first | apply Take.here | apply Take.there | apply Take.app)))) | (apply at_mem; assumption) | (apply At.up; assumption) | assumption)) ?_; first | (refine rb_one (by first | with_reducible rfl | (simp only [get_l, List.getElem?_cons_zero, List.getElem?_cons_succ, Option.some.injEq]; exact rfl) | assumption) ?_) | (refine rb_agg (by first | (simp only [subL_succ, subL_zero, get_l, List.getElem?_cons_zero, List.getElem?_cons_succ, consO_some, Nat.reduceAdd]; exact rfl) | assumption) ?_)))) | (with_reducible (apply gd_top; first | (refine p_bsl ?_))) | (with_reducible (apply gd_eq; first | (refine eq_ptr_nil (by kernel_rfl) ?_) | (refine neq_ptr_nil (by kernel_rfl) ?_) | (refine eq_iface_nil (by kernel_rfl) rfl ?_) | (refine neq_iface_nil (by kernel_rfl) rfl ?_))) | (with_reducible (apply gd_call; first | ((refine ca_of (awake_ct _) (by (repeat (first | apply Takes.nil | (apply Takes.cons; (· (repeat (first | apply Take.here | apply Take.there | apply Take.app)))) | (apply Takes.app; (· ((repeat ((fail_if_success (first | apply TakeL.here | apply TakeL.all | apply TakeL.hd)); (first | apply TakeL.cons | apply TakeL.app))); (first | apply TakeL.here | apply TakeL.all | apply TakeL.hd)))) | (apply Takes.lst; (· ((repeat ((fail_if_success (first | apply TakeL.here | apply TakeL.all | apply TakeL.hd)); (first | apply TakeL.cons | apply TakeL.app))); (first | apply TakeL.here | apply TakeL.all | apply TakeL.hd)))) | fail))) ?_); rintro _ _ _ ⟨hle0, rfl⟩) | ((refine ca_of (fc _ (by assumption)) (by (repeat (first | apply Takes.nil | (apply Takes.cons; (· (repeat (first | apply Take.here | apply Take.there | apply Take.app)))) | (apply Takes.app; (· ((repeat ((fail_if_success (first | apply TakeL.here | apply TakeL.all | apply TakeL.hd)); (first | apply TakeL.cons | apply TakeL.app))); (first | apply TakeL.here | apply TakeL.all | apply TakeL.hd)))) | (apply Takes.lst; (· ((repeat ((fail_if_success (first | apply TakeL.here | apply TakeL.all | apply TakeL.hd)); (first | apply TakeL.cons | apply TakeL.app))); (first | apply TakeL.here | apply TakeL.all | apply TakeL.hd)))) | fail))) ?_); rintro _ _ _ ⟨⟨β, rfl, hβ⟩, rfl, rfl⟩) | ((refine ca_of (lc _ (by assumption)) (by (repeat (first | apply Takes.nil | (apply Takes.cons; (· (repeat (first | apply Take.here | apply Take.there | apply Take.app)))) | (apply Takes.app; (· ((repeat ((fail_if_success (first | apply TakeL.here | apply TakeL.all | apply TakeL.hd)); (first | apply TakeL.cons | apply TakeL.app))); (first | apply TakeL.here | apply TakeL.all | apply TakeL.hd)))) | (apply Takes.lst; (· ((repeat ((fail_if_success (first | apply TakeL.here | apply TakeL.all | apply TakeL.hd)); (first | apply TakeL.cons | apply TakeL.app))); (first | apply TakeL.here | apply TakeL.all | apply TakeL.hd)))) | fail))) ?_); rintro _ _ _ ⟨rfl, b1, b2, Lh, Lr, rfl, rfl, hp, hr⟩))) | (with_reducible (apply gd_cond; first | (refine cond_if (fun h => ?_) (fun h => ?_)) | (refine cond_nif (fun h => ?_) (fun h => ?_)) | (refine cond_nsplit (fun h => ?_) (fun h => ?_)) | (refine cond_split (fun h => ?_) (fun h => ?_)))) | (with_reducible (apply gd_guard; first | (refine guard_t (fun h => ?_) (fun h => ?_)) | (refine guard_f (fun h => ?_) (fun h => ?_)) | (refine guard_split (fun h => ?_) (fun h => ?_)))) | fail)
  · exact end_clear hle0
  rename_i x5 La c1 c2' L1 R1 hp1 hr1 m1
  have h3 := hβ (by assumption)
  have q1 := s1 h3 c1 L1
  have q2 := s2 h3 c1 L1 b1 Lh
  have q3 := fun p3 c3 Lg m1 hm => s3 h3 c1 L1 b1 Lh p3 c3 Lg m1 hm hp1 hp
  clear s1 s2 s3 lc fc hβ
  repeat' (first | (with_reducible exact (rfl : (_ : En) = _)) | simp (maxSteps := 1000000) (disch := omega) only [↓Fc.x8_0, ↓Fc.x8_1, ↓eng_pre, eng_post, ↓Fa.all_pc, Fa.all_fa, eng_core, Nat.reduceBEq, ne_eq, reduceIte, Nat.reduceEqDiff, Nat.reduceAdd, Nat.reduceMul, Nat.reduceLT, Nat.reduceSub, Int.reduceLT, Int.reduceLE, Int.reduceEq, Int.reduceAdd, Int.reduceSub, Int.reduceMul, Int.reduceNeg, Int.reduceToNat, Int.toNat_natCast] | (with_reducible (apply gd_new; first | (refine newA_of (fun _ => ?_)))) | (with_reducible (apply gd_load; first | (refine ld_by (by (first | (apply at_own; (· (repeat (first | apply Take.here | apply Take.there | apply Take.app)))) | (apply at_mem; assumption) | (apply At.up; assumption) | assumption)) ?_; first | (refine lb_one (by first | with_reducible rfl | (simp only [get_l, List.getElem?_cons_zero, List.getElem?_cons_succ, Option.some.injEq]; exact rfl) | assumption) ?_) | (refine lb_agg (by first | (simp only [subL_succ, subL_zero, get_l, List.getElem?_cons_zero, List.getElem?_cons_succ, consO_some, Nat.reduceAdd]; exact rfl) | assumption) ?_)))) | (with_reducible (apply gd_rload; first | (refine rl_by (by (first | (apply at_own; (· (repeat (first | apply Take.here | apply Take.there | apply Take.app)))) | (apply at_mem; assumption) | (apply At.up; assumption) | assumption)) ?_; first | (refine rb_one (by first | with_reducible rfl | (simp only [get_l, List.getElem?_cons_zero, List.getElem?_cons_succ, Option.some.injEq]; exact rfl) | assumption) ?_) | (refine rb_agg (by first | (simp only [subL_succ, subL_zero, get_l, List.getElem?_cons_zero, List.getElem?_cons_succ, consO_some, Nat.reduceAdd]; exact rfl) | assumption) ?_)))) | (with_reducible (apply gd_top; first | (refine p_bsl ?_))) | (with_reducible (apply gd_eq; first | (refine eq_ptr_nil (by kernel_rfl) ?_) | (refine neq_ptr_nil (by kernel_rfl) ?_) | (refine eq_iface_nil (by kernel_rfl) rfl ?_) | (refine neq_iface_nil (by kernel_rfl) rfl ?_))) | (with_reducible (apply gd_call; first | ((refine ca_of (q1 _ (by assumption) hp1) (by (repeat (first | apply Takes.nil | (apply Takes.cons; (· (repeat (first | apply Take.here | apply Take.there | apply Take.app)))) | (apply Takes.app; (· ((repeat ((fail_if_success (first | apply TakeL.here | apply TakeL.all | apply TakeL.hd)); (first | apply TakeL.cons | apply TakeL.app))); (first | apply TakeL.here | apply TakeL.all | apply TakeL.hd)))) | (apply Takes.lst; (· ((repeat ((fail_if_success (first | apply TakeL.here | apply TakeL.all | apply TakeL.hd)); (first | apply TakeL.cons | apply TakeL.app))); (first | apply TakeL.here | apply TakeL.all | apply TakeL.hd)))) | fail))) ?_); rintro _ _ _ ⟨hle1, rfl, rfl⟩) | ((refine ca_of (q2 _ (hle0.trans hle1) hp1 hp) (by (repeat (first | apply Takes.nil | (apply Takes.cons; (· (repeat (first | apply Take.here | apply Take.there | apply Take.app)))) | (apply Takes.app; (· ((repeat ((fail_if_success (first | apply TakeL.here | apply TakeL.all | apply TakeL.hd)); (first | apply TakeL.cons | apply TakeL.app))); (first | apply TakeL.here | apply TakeL.all | apply TakeL.hd)))) | (apply Takes.lst; (· ((repeat ((fail_if_success (first | apply TakeL.here | apply TakeL.all | apply TakeL.hd)); (first | apply TakeL.cons | apply TakeL.app))); (first | apply TakeL.here | apply TakeL.all | apply TakeL.hd)))) | fail))) ?_); rintro _ _ _ ⟨hle2, rfl, rfl⟩) | ((refine ca_of (q3 _ _ _ _ (hle0.trans (hle1.trans hle2)) (by assumption)) (by (repeat (first | apply Takes.nil | (apply Takes.cons; (· (repeat (first | apply Take.here | apply Take.there | apply Take.app)))) | (apply Takes.app; (· ((repeat ((fail_if_success (first | apply TakeL.here | apply TakeL.all | apply TakeL.hd)); (first | apply TakeL.cons | apply TakeL.app))); (first | apply TakeL.here | apply TakeL.all | apply TakeL.hd)))) | (apply Takes.lst; (· ((repeat ((fail_if_success (first | apply TakeL.here | apply TakeL.all | apply TakeL.hd)); (first | apply TakeL.cons | apply TakeL.app))); (first | apply TakeL.here | apply TakeL.all | apply TakeL.hd)))) | fail))) ?_); rintro _ _ _ ⟨hle3, rfl, rfl⟩))) | (with_reducible (apply gd_bi; first | ((refine bi_append_nil (hxu _ _ (hle0.trans (hle1.trans hle2))) (by first | exact Fa.sl_23 | fail) (by decide) (by decide) (by first | with_reducible assumption | (simp only [eng_sm, eng_core, Nat.reduceAdd, Nat.reduceLeDiff]; done) | (simp only [oneAll_nil, oneAll_cons, one_iface, one_func, Bool.and_self]; done)) (by omega) (by simp only [maxLen]; omega) ?_); rintro _ _ hgA; obtain ⟨_, _, rfl⟩ := GS.slice hgA) | ((refine bi_append hgA (by ((repeat ((fail_if_success (first | apply TakeL.here | apply TakeL.all | apply TakeL.hd)); (first | apply TakeL.cons | apply TakeL.app))); (first | apply TakeL.here | apply TakeL.all | apply TakeL.hd))) (by first | with_reducible assumption | with_reducible exact SlAt.whole (by (first | (apply at_own; (· (repeat (first | apply Take.here | apply Take.there | apply Take.app)))) | (apply at_mem; assumption) | (apply At.up; assumption) | assumption)) rfl) (by first | exact Fa.sl_23 | fail) (by decide) (by decide) (by first | with_reducible assumption | (simp only [eng_sm, eng_core, Nat.reduceAdd, Nat.reduceLeDiff]; done) | (simp only [oneAll_nil, oneAll_cons, one_iface, one_func, Bool.and_self]; done)) (by omega) (by simp only [maxLen]; omega) ?_); rintro _ _ hgB; obtain ⟨_, _, rfl⟩ := GS.slice hgB))) | (with_reducible apply dr_free) | (with_reducible apply dr_stab) | (with_reducible (apply gd_gate; refine gate_of (by with_reducible assumption) ?_)) | (with_reducible apply gd_draw; first | ((with_reducible refine drawA_tw [some 33, some 34, some 35, some 36, some 37, some 38, some 39, some 40, some 41, some 42, some 43, some 44, some 45, some 46, some 47, some 48, some 49, some 50, some 51, some 52, some 53, some 54, some 55, some 56, some 6] 17 19 [.free 4, .one, .free 5, .one, .free 7, .grow, .grow, .one, .one, .free 3] [0, 1, 2, 3, 4, 5, 6, 7, 8, 9, 10, 11, 12, 13, 14, 15, 16, 18, 17, 19, 20, 21, 22, 23, 24] [.free 4, .one, .free 5, .one, .free 7, .grow, .grow, .one, .one, .free 3] [0, 1, 2, 3, 4, 5, 6, 7, 8, 9, 10, 11, 12, 13, 14, 15, 16, 18, 19, 17, 20, 21, 22, 23, 24] (by decide +kernel) (by decide +kernel) (by decide +kernel) (by decide +kernel) Fa.mix (by decide +kernel) (by decide +kernel) ?_ ?_) <;> simp only [permL, List.map_cons, List.map_nil, List.getD_cons_zero, List.getD_cons_succ])) | (with_reducible (apply gd_cond; first | (refine cond_if (fun h => ?_) (fun h => ?_)) | (refine cond_nif (fun h => ?_) (fun h => ?_)) | (refine cond_nsplit (fun h => ?_) (fun h => ?_)) | (refine cond_split (fun h => ?_) (fun h => ?_)))) | (with_reducible (apply gd_guard; first | (refine guard_t (fun h => ?_) (fun h => ?_)) | (refine guard_f (fun h => ?_) (fun h => ?_)) | (refine guard_split (fun h => ?_) (fun h => ?_)))) | fail)
  all_goals exact end_clear ((hle0.trans hle1).trans (hle2.trans hle3))
/-- IsoSelf answers true, of any input of bulk not too great. -/
theorem self_row (a : Sl ObjT) (x : Sl V) (v1 v2 : Int) (W : World) (ok : SlOk 2 opObj (memOf W) a) (okx : SlOk 2 opV (memOf W) x) (hw : (opSl 2 opObj).wt a ≤ 1048576) (hwx : (opSl 2 opV).wt x ≤ 1048576) : Ct Tryd.prog 8 [a.v, x.v, .agg #[.int .i64 v1, .int .i64 v2]] W (fun v w' => v = .bool true ∧ Ext W w') := by
  refine Cta.ctM ?_
  obtain ⟨p, c, hv, ho⟩ := objs_open ok hw
  obtain ⟨p2, c2, hv2, _, hx, hl⟩ := vals_open okx hwx
  rw [hv, hv2]
  exact self_law p p2 c c2 a.xs x.xs v1 v2 _ ho hx hl
end Go.Proofs.YtkcacgjbofabfaaDoor
