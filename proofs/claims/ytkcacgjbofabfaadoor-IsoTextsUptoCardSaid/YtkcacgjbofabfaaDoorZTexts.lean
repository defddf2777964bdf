/- Layer 3: IsoTexts. -/
import Derived.Test.YtkcacgjbofabfaaDoorWLaid
import Derived.Test.YtkcacgjbofabfaaDoorZOdd
set_option linter.unusedSimpArgs false
set_option linter.unusedVariables false
set_option maxRecDepth 20000
set_option linter.all false
-- @FC
namespace Go.Heap
open Go Go.Eng Go.Proofs.YtkcacgjbofabfaaDoor
theorem laid_recs (xs : List ObjT) : ∀ o ∈ (laidF xs).objs, -1 ≤ o.1 := by
  intro o ho
  rw [laidF_objs, List.mem_map] at ho
  obtain ⟨a, _, rfl⟩ := ho
  show -1 ≤ recO a.1
  unfold recO; split <;> omega
theorem dfs_small {xs : List ObjT} (l : List V) (h : l.length + sumO xs ≤ 300) : (dfs (laidF xs) [] l).length ≤ 300 := by
  have hw := wt_laid xs
  have hrl := reachF_len (laidF xs) l
  have hrd : (reachF (laidF xs) l).length = (dfs (laidF xs) [] l).length := by unfold reachF; rw [List.length_map]
  omega
theorem odd_small {xs : List ObjT} {l : List V} (h : l.length + sumO xs ≤ 300) : (oddL (laidF xs) l).length ≤ 1000000 := by
  have h1 := dfs_small l h
  have hce := fun o ho => laid_cell (xs := xs) o ho
  unfold oddL
  rw [List.length_append]
  have h2 : ((dfs (laidF xs) [] l).flatMap (·.2.2)).length ≤ (dfs (laidF xs) [] l).length * 300 := by
    rw [List.length_flatMap]
    exact sum_const (f := fun y : Int × (Int × List V) => y.2.2.length) (k := 300) _ (fun y hy => by have := hce _ (dfs_obj hy); omega)
  omega
end Go.Heap
namespace Go.Proofs.YtkcacgjbofabfaaDoor
open Go Go.Eng Go.Heap
set_option maxHeartbeats 0 in
theorem texts_law (p p2 q q2 : Option Addr) (c c2 d d2 : Nat) (xs ys : List ObjT) (l k : List V) (m : Mem) (ht : TabM m) (ho : ObjsOk m p c xs) (hrx : Rng xs) (hx : SlAt m [] (.slice p2 l.length c2) l.length 2 (encs l)) (hl : l.length ≤ 1048576) (hc2 : l.length ≤ c2) (hvl : ∀ v ∈ l, R64 v.2)
    (hq : ObjsOk m q d ys) (hry : Rng ys) (hy : SlAt m [] (.slice q2 k.length d2) k.length 2 (encs k)) (hk : k.length ≤ 1048576) (hd2 : k.length ≤ d2) (hvk : ∀ v ∈ k, R64 v.2) :
    Cta Tryd.prog 6 [.slice p xs.length c, .slice p2 l.length c2, .slice q ys.length d, .slice q2 k.length d2] m [] (fun v m' L' => v = .bool true ∧ m.Le m') := by
  have fc := fun m1 (hm : m.Le m1) => few_ct p c xs m1 ho.hl ho.hlen (ho.le hm).hok (ho.le hm).hsl p2 l.length c2 ho.hs hl
  have lc := fun m1 (hm : m.Le m1) => laid_ct p c xs m1 ho.hl ho.hlen (ho.le hm).hok (ho.le hm).hsl
  have fd := fun m1 (hm : m.Le m1) => few_ct q d ys m1 hq.hl hq.hlen (hq.le hm).hok (hq.le hm).hsl q2 k.length d2 hq.hs hk
  have ld := fun m1 (hm : m.Le m1) => laid_ct q d ys m1 hq.hl hq.hlen (hq.le hm).hok (hq.le hm).hsl
  have s1 : l.length + sumO xs ≤ 300 → k.length + sumO ys ≤ 300 → ∀ b L b2 L2 m1, m.Le m1 → HP b (laidF xs) L → HP b2 (laidF ys) L2 → Cta Tryd.prog 12 [ptr b, .slice p2 l.length c2, ptr b2, .slice q2 k.length d2] m1 (L ++ L2) (fun v m' L' => m.Le m' ∧ v = .bool (sameF (laidF xs) l (laidF ys) k) ∧ L' = L ++ L2) := by
    intro h1 h2 b L b2 L2 m1 hm h h'
    have f1 := laid_few h1; have f2 := laid_few h2
    exact (same_ct b b2 _ _ (L ++ L2) ((h.objK fun o ho => by have := f1.2 o ho; omega).ext (Takes.lst TakeL.here)) ((h'.objK fun o ho => by have := f2.2 o ho; omega).ext (Takes.lst (TakeL.app TakeL.all))) l k p2 q2 c2 d2 m1 (hx.le hm).up (hy.le hm).up (by omega) (by omega) (fun o ho => by have := f1.2 o ho; omega)).mono fun v m' L' h => ⟨hm.trans h.1, h.2⟩
  have oc : ∀ b L m1, m.Le m1 → l.length + sumO xs ≤ 300 → RP b (laidF xs) L → Cta Tryd.prog 18 [ptr b, .slice p2 l.length c2] m1 L (fun v m' L' => m' = m1 ∧ (∃ β, v = .bool β ∧ oddF (laidF xs) l = β) ∧ L' = L) := by
    intro b L m1 hm h3 h
    have f1 := laid_few h3
    refine Cta.mono ?_ (fun v m' L' (h : m' = m1 ∧ v = .bool (oddF (laidF xs) l) ∧ L' = L) => ⟨h.1, ⟨_, h.2.1, rfl⟩, h.2.2⟩)
    exact odd_ct b _ L h p2 c2 l m1 (hx.le hm) (fun o ho => by have := f1.2 o ho; omega) (by omega) (by omega) (odd_small h3) (by have := dfs_small l h3; omega)
  have od : ∀ b L m1, m.Le m1 → k.length + sumO ys ≤ 300 → RP b (laidF ys) L → Cta Tryd.prog 18 [ptr b, .slice q2 k.length d2] m1 L (fun v m' L' => m' = m1 ∧ (∃ β, v = .bool β ∧ oddF (laidF ys) k = β) ∧ L' = L) := by
    intro b L m1 hm h3 h
    have f1 := laid_few h3
    refine Cta.mono ?_ (fun v m' L' (h : m' = m1 ∧ v = .bool (oddF (laidF ys) k) ∧ L' = L) => ⟨h.1, ⟨_, h.2.1, rfl⟩, h.2.2⟩)
    exact odd_ct b _ L h q2 d2 k m1 (hy.le hm) (fun o ho => by have := f1.2 o ho; omega) (by omega) (by omega) (odd_small h3) (by have := dfs_small k h3; omega)
  have sc : ∀ b L m1, m.Le m1 → l.length + sumO xs ≤ 300 → HP b (laidF xs) L → Cta Tryd.prog 16 [ptr b, .slice p2 l.length c2] m1 L (fun v m' L' => m.Le m' ∧ v = .string (showF (dfs (laidF xs) [] l) l) ∧ L' = L) := by
    intro b L m1 hm h3 h
    have := laid_show ht hrx l hvl h3 b L [] p2 c2 m1 hm (hx.le hm) hc2 h
    simp only [List.append_nil] at this
    exact this.mono fun v m' L' h => ⟨hm.trans h.1, h.2⟩
  have sd : ∀ b L m1, m.Le m1 → k.length + sumO ys ≤ 300 → HP b (laidF ys) L → Cta Tryd.prog 16 [ptr b, .slice q2 k.length d2] m1 L (fun v m' L' => m.Le m' ∧ v = .string (showF (dfs (laidF ys) [] k) k) ∧ L' = L) := by
    intro b L m1 hm h3 h
    have := laid_show ht hry k hvk h3 b L [] q2 d2 m1 hm (hy.le hm) hd2 h
    simp only [List.append_nil] at this
    exact this.mono fun v m' L' h => ⟨hm.trans h.1, h.2⟩
  have hS := texts_same (x := l) (y := k) (laid_recs xs) (laid_recs ys)
  clear ho hx hq hy ht hrx hry hvl hvk
  generalize showF (dfs (laidF xs) [] l) l = tx at *
  generalize showF (dfs (laidF ys) [] k) k = ty at *
  generalize sameF (laidF xs) l (laidF ys) k = S at *
  generalize oddF (laidF xs) l = o1 at *
  generalize oddF (laidF ys) k = o2 at *
  generalize laidF xs = s at *
  generalize laidF ys = t at *
  generalize hsx : sumO xs = sx at *
  generalize hsy : sumO ys = sy at *
  generalize hnl : l.length = nl at *
  generalize hnk : k.length = nk at *
  generalize xs.length = nx at *
  generalize ys.length = ny at *
  refine cta_of_T (c := Fc.k6_0) Tryd.func6 rfl rfl (by kernel_rfl) (by kernel_rfl) ?_
  repeat' (first | simp (maxSteps := 1000000) (disch := omega) only [↓Fc.x6_0, ↓Fc.x6_1, ↓eng_pre, eng_post, ↓Fa.all_pc, Fa.all_fa, eng_core, Nat.reduceBEq, ne_eq, reduceIte, Nat.reduceEqDiff, Nat.reduceAdd, Nat.reduceMul, Nat.reduceLT, Nat.reduceSub, Int.reduceLT, Int.reduceLE, Int.reduceEq, Int.reduceAdd, Int.reduceSub, Int.reduceMul, Int.reduceNeg, Int.reduceToNat, Int.toNat_natCast] | (with_reducible (apply gd_eq; first | (refine eq_ptr_nil (by kernel_rfl) ?_) | (refine neq_ptr_nil (by kernel_rfl) ?_) | (refine eq_iface_nil (by kernel_rfl) rfl ?_) | (refine neq_iface_nil (by kernel_rfl) rfl ?_) | fail)) | (with_reducible (apply gd_call; first | ((refine ca_of (awake_ct _) (by (repeat (first | apply Takes.nil | (apply Takes.cons; (· (repeat (first | apply Take.here | apply Take.there | apply Take.app)))) | (apply Takes.app; (· ((repeat ((fail_if_success (first | apply TakeL.here | apply TakeL.all | apply TakeL.hd)); (first | apply TakeL.cons | apply TakeL.app))); (first | apply TakeL.here | apply TakeL.all | apply TakeL.hd)))) | (apply Takes.lst; (· ((repeat ((fail_if_success (first | apply TakeL.here | apply TakeL.all | apply TakeL.hd)); (first | apply TakeL.cons | apply TakeL.app))); (first | apply TakeL.here | apply TakeL.all | apply TakeL.hd)))) | fail))) ?_); rintro _ _ _ ⟨hle0, rfl⟩) | ((refine ca_of (fc _ (by assumption)) (by (repeat (first | apply Takes.nil | (apply Takes.cons; (· (repeat (first | apply Take.here | apply Take.there | apply Take.app)))) | (apply Takes.app; (· ((repeat ((fail_if_success (first | apply TakeL.here | apply TakeL.all | apply TakeL.hd)); (first | apply TakeL.cons | apply TakeL.app))); (first | apply TakeL.here | apply TakeL.all | apply TakeL.hd)))) | (apply Takes.lst; (· ((repeat ((fail_if_success (first | apply TakeL.here | apply TakeL.all | apply TakeL.hd)); (first | apply TakeL.cons | apply TakeL.app))); (first | apply TakeL.here | apply TakeL.all | apply TakeL.hd)))) | fail))) ?_); rintro _ _ _ ⟨⟨_ | _, rfl, hβ⟩, rfl, rfl⟩) | ((refine ca_of (fd _ (by assumption)) (by (repeat (first | apply Takes.nil | (apply Takes.cons; (· (repeat (first | apply Take.here | apply Take.there | apply Take.app)))) | (apply Takes.app; (· ((repeat ((fail_if_success (first | apply TakeL.here | apply TakeL.all | apply TakeL.hd)); (first | apply TakeL.cons | apply TakeL.app))); (first | apply TakeL.here | apply TakeL.all | apply TakeL.hd)))) | (apply Takes.lst; (· ((repeat ((fail_if_success (first | apply TakeL.here | apply TakeL.all | apply TakeL.hd)); (first | apply TakeL.cons | apply TakeL.app))); (first | apply TakeL.here | apply TakeL.all | apply TakeL.hd)))) | fail))) ?_); rintro _ _ _ ⟨⟨_ | _, rfl, hβ2⟩, rfl, rfl⟩) | ((refine ca_of (lc _ (by assumption)) (by (repeat (first | apply Takes.nil | (apply Takes.cons; (· (repeat (first | apply Take.here | apply Take.there | apply Take.app)))) | (apply Takes.app; (· ((repeat ((fail_if_success (first | apply TakeL.here | apply TakeL.all | apply TakeL.hd)); (first | apply TakeL.cons | apply TakeL.app))); (first | apply TakeL.here | apply TakeL.all | apply TakeL.hd)))) | (apply Takes.lst; (· ((repeat ((fail_if_success (first | apply TakeL.here | apply TakeL.all | apply TakeL.hd)); (first | apply TakeL.cons | apply TakeL.app))); (first | apply TakeL.here | apply TakeL.all | apply TakeL.hd)))) | fail))) ?_); rintro _ _ _ ⟨rfl, b1, b2, Lh, Lr, rfl, rfl, hp, hr⟩) | ((refine ca_of (ld _ (by assumption)) (by (repeat (first | apply Takes.nil | (apply Takes.cons; (· (repeat (first | apply Take.here | apply Take.there | apply Take.app)))) | (apply Takes.app; (· ((repeat ((fail_if_success (first | apply TakeL.here | apply TakeL.all | apply TakeL.hd)); (first | apply TakeL.cons | apply TakeL.app))); (first | apply TakeL.here | apply TakeL.all | apply TakeL.hd)))) | (apply Takes.lst; (· ((repeat ((fail_if_success (first | apply TakeL.here | apply TakeL.all | apply TakeL.hd)); (first | apply TakeL.cons | apply TakeL.app))); (first | apply TakeL.here | apply TakeL.all | apply TakeL.hd)))) | fail))) ?_); rintro _ _ _ ⟨rfl, b3, b4, Lh2, Lr2, rfl, rfl, hp2, hr2⟩) | ((refine ca_of (oc _ _ _ (by assumption) (hβ rfl) hr) (by (repeat (first | apply Takes.nil | (apply Takes.cons; (· (repeat (first | apply Take.here | apply Take.there | apply Take.app)))) | (apply Takes.app; (· ((repeat ((fail_if_success (first | apply TakeL.here | apply TakeL.all | apply TakeL.hd)); (first | apply TakeL.cons | apply TakeL.app))); (first | apply TakeL.here | apply TakeL.all | apply TakeL.hd)))) | (apply Takes.lst; (· ((repeat ((fail_if_success (first | apply TakeL.here | apply TakeL.all | apply TakeL.hd)); (first | apply TakeL.cons | apply TakeL.app))); (first | apply TakeL.here | apply TakeL.all | apply TakeL.hd)))) | fail))) ?_); rintro _ _ _ ⟨rfl, ⟨_ | _, rfl, ho1⟩, rfl⟩) | ((refine ca_of (od _ _ _ (by assumption) (hβ2 rfl) hr2) (by (repeat (first | apply Takes.nil | (apply Takes.cons; (· (repeat (first | apply Take.here | apply Take.there | apply Take.app)))) | (apply Takes.app; (· ((repeat ((fail_if_success (first | apply TakeL.here | apply TakeL.all | apply TakeL.hd)); (first | apply TakeL.cons | apply TakeL.app))); (first | apply TakeL.here | apply TakeL.all | apply TakeL.hd)))) | (apply Takes.lst; (· ((repeat ((fail_if_success (first | apply TakeL.here | apply TakeL.all | apply TakeL.hd)); (first | apply TakeL.cons | apply TakeL.app))); (first | apply TakeL.here | apply TakeL.all | apply TakeL.hd)))) | fail))) ?_); rintro _ _ _ ⟨rfl, ⟨_ | _, rfl, ho2⟩, rfl⟩) | ((refine ca_of (s1 (hβ rfl) (hβ2 rfl) _ _ _ _ _ (by assumption) hp hp2) (by (repeat (first | apply Takes.nil | (apply Takes.cons; (· (repeat (first | apply Take.here | apply Take.there | apply Take.app)))) | (apply Takes.app; (· ((repeat ((fail_if_success (first | apply TakeL.here | apply TakeL.all | apply TakeL.hd)); (first | apply TakeL.cons | apply TakeL.app))); (first | apply TakeL.here | apply TakeL.all | apply TakeL.hd)))) | (apply Takes.lst; (· ((repeat ((fail_if_success (first | apply TakeL.here | apply TakeL.all | apply TakeL.hd)); (first | apply TakeL.cons | apply TakeL.app))); (first | apply TakeL.here | apply TakeL.all | apply TakeL.hd)))) | fail))) ?_); rintro _ _ _ ⟨hle1, rfl, rfl⟩) | ((refine ca_of (sc _ _ _ (by assumption) (hβ rfl) hp) (by (repeat (first | apply Takes.nil | (apply Takes.cons; (· (repeat (first | apply Take.here | apply Take.there | apply Take.app)))) | (apply Takes.app; (· ((repeat ((fail_if_success (first | apply TakeL.here | apply TakeL.all | apply TakeL.hd)); (first | apply TakeL.cons | apply TakeL.app))); (first | apply TakeL.here | apply TakeL.all | apply TakeL.hd)))) | (apply Takes.lst; (· ((repeat ((fail_if_success (first | apply TakeL.here | apply TakeL.all | apply TakeL.hd)); (first | apply TakeL.cons | apply TakeL.app))); (first | apply TakeL.here | apply TakeL.all | apply TakeL.hd)))) | fail))) ?_); rintro _ _ _ ⟨hle2, rfl, rfl⟩) | ((refine ca_of (sd _ _ _ (by assumption) (hβ2 rfl) hp2) (by (repeat (first | apply Takes.nil | (apply Takes.cons; (· (repeat (first | apply Take.here | apply Take.there | apply Take.app)))) | (apply Takes.app; (· ((repeat ((fail_if_success (first | apply TakeL.here | apply TakeL.all | apply TakeL.hd)); (first | apply TakeL.cons | apply TakeL.app))); (first | apply TakeL.here | apply TakeL.all | apply TakeL.hd)))) | (apply Takes.lst; (· ((repeat ((fail_if_success (first | apply TakeL.here | apply TakeL.all | apply TakeL.hd)); (first | apply TakeL.cons | apply TakeL.app))); (first | apply TakeL.here | apply TakeL.all | apply TakeL.hd)))) | fail))) ?_); rintro _ _ _ ⟨hle3, rfl, rfl⟩) | fail)) | (with_reducible (apply gd_cond; first | (refine cond_if (fun h => ?_) (fun h => ?_)) | (refine cond_nif (fun h => ?_) (fun h => ?_)) | (refine cond_nsplit (fun h => ?_) (fun h => ?_)) | (refine cond_split (fun h => ?_) (fun h => ?_)))) | (with_reducible (apply gd_guard; first | (refine guard_t (fun h => ?_) (fun h => ?_)) | (refine guard_f (fun h => ?_) (fun h => ?_)) | (refine guard_split (fun h => ?_) (fun h => ?_)))) | fail)
  all_goals first | exact end_clear (by assumption) | (rw [hS ho1 ho2]; exact end_clear ⟨by simp, by assumption⟩) | skip
/-- IsoTexts answers true, of any input of bulk not too great. -/
theorem texts_row (a : Sl ObjT) (x : Sl V) (b : Sl ObjT) (y : Sl V) (W : World) (ok : SlOk 2 opObj (memOf W) a) (okx : SlOk 2 opV (memOf W) x) (okb : SlOk 2 opObj (memOf W) b) (oky : SlOk 2 opV (memOf W) y)
    (hw : (opSl 2 opObj).wt a ≤ 1048576) (hwx : (opSl 2 opV).wt x ≤ 1048576) (hwb : (opSl 2 opObj).wt b ≤ 1048576) (hwy : (opSl 2 opV).wt y ≤ 1048576) (hL : laidMetH Tryd.prog Rows.isoTextsUptoRow.laid W) : Ct Tryd.prog 6 [a.v, x.v, b.v, y.v] W (fun v w' => v = .bool true ∧ Ext W w') := by
  refine Cta.ctM ?_
  obtain ⟨p, c, hv, ho⟩ := objs_open ok hw
  obtain ⟨p2, c2, hv2, hc2, hx, hl⟩ := vals_open okx hwx
  obtain ⟨q, d, hv3, hq⟩ := objs_open okb hwb
  obtain ⟨q2, d2, hv4, hd2, hy, hk⟩ := vals_open oky hwy
  have hr := rng_open ok
  have hvl := vals_rng okx
  have hr2 := rng_open okb
  have hvk := vals_rng oky
  rw [hv, hv2, hv3, hv4]
  exact texts_law p p2 q q2 c c2 d d2 a.xs b.xs x.xs y.xs _ (tab_laid hL) ho hr hx hl hc2 hvl hq hr2 hy hk hd2 hvk
end Go.Proofs.YtkcacgjbofabfaaDoor
