/- Layer 3: IsoSame. -/
import Derived.Test.YtkcacgjbofabfaaDoorWFew
import Derived.Test.YtkcacgjbofabfaaDoorVSame
set_option linter.unusedSimpArgs false
set_option linter.unusedVariables false
set_option maxRecDepth 20000
set_option linter.all false
-- @FC
namespace Go.Heap
open Go Go.Eng Go.Proofs.YtkcacgjbofabfaaDoor
abbrev swp (P : List (Int × Int)) : List (Int × Int) := P.map fun p => (p.2, p.1)
theorem swp_mem {P : List (Int × Int)} {x y : Int} : (x, y) ∈ swp P ↔ (y, x) ∈ P := by
  rw [List.mem_map]
  constructor
  · rintro ⟨⟨a, b⟩, h, he⟩; cases he; exact h
  · intro h; exact ⟨(y, x), h, rfl⟩
theorem swp_fst (P : List (Int × Int)) : (swp P).map (·.1) = P.map (·.2) := by rw [List.map_map]; rfl
theorem swp_snd (P : List (Int × Int)) : (swp P).map (·.2) = P.map (·.1) := by rw [List.map_map]; rfl
theorem alk_swp (a b : HS) (P : List (Int × Int)) (v w : V) : alk b a (swp P) w v = ((alk a b P v w).1, swp (alk a b P v w).2) := by
  unfold alk
  rw [swp_fst, swp_snd]
  by_cases h1 : v.1 ≠ w.1 ∨ (objO a v).isSome ≠ (objO b w).isSome
  · rw [if_pos h1, if_pos (h1.imp (fun h e => h e.symm) (fun h e => h e.symm))]
  · have h1' : ¬ (w.1 ≠ v.1 ∨ (objO b w).isSome ≠ (objO a v).isSome) := fun h => h1 (h.imp (fun h e => h e.symm) (fun h e => h e.symm))
    rw [if_neg h1, if_neg h1']
    have he : (objO a v).isSome = (objO b w).isSome := Classical.byContradiction fun h => h1 (.inr h)
    rw [← he]
    by_cases h2 : (objO a v).isSome = false
    · rw [if_pos h2, if_pos h2]
      simp [eq_comm]
    · rw [if_neg h2, if_neg h2]
      by_cases h3 : (v.2, w.2) ∈ P
      · rw [if_pos h3, if_pos (swp_mem.2 h3)]
      · rw [if_neg h3, if_neg (fun h => h3 (swp_mem.1 h))]
        by_cases h4 : v.2 ∈ P.map (·.1) ∨ w.2 ∈ P.map (·.2)
        · rw [if_pos h4, if_pos h4.symm]
        · rw [if_neg h4, if_neg (fun h => h4 h.symm)]
          simp [swp]
theorem lst_swp (a b : HS) : ∀ (l k : List V) (P : List (Int × Int)), lst b a (swp P) k l = ((lst a b P l k).1, swp (lst a b P l k).2) := by
  intro l
  induction l with
  | nil => intro k P; cases k <;> rfl
  | cons v l ih =>
    intro k P
    cases k with
    | nil => rfl
    | cons w k =>
      rw [lst_cons, lst_cons, alk_swp]
      dsimp only
      split
      · exact ih k _
      · rfl
theorem goS_swp (a b : HS) : ∀ (f i : Nat) (P : List (Int × Int)), goS b a f i (swp P) = goS a b f i P := by
  intro f
  induction f with
  | zero => intro i P; rfl
  | succ f ih =>
    intro i P
    unfold goS
    rw [List.getElem?_map]
    cases P[i]? with
    | none => rfl
    | some p =>
      dsimp only [Option.map_some]
      cases objO a (2, p.1) <;> cases objO b (2, p.2) <;> try rfl
      rename_i o q
      dsimp only
      by_cases h : o.1 ≠ q.1 ∨ o.2.length ≠ q.2.length
      · rw [if_pos h, if_pos (h.imp (fun h e => h e.symm) (fun h e => h e.symm))]
      · rw [if_neg h, if_neg (fun h' => h (h'.imp (fun h e => h e.symm) (fun h e => h e.symm)))]
        rw [lst_swp]
        dsimp only
        rw [ih]
theorem goS_fuel {a b : HS} {I : List (Int × Int) → Prop} {N : Nat} (hN : ∀ P, I P → P.length ≤ N) (hI : ∀ P l k, I P → I (lst a b P l k).2) :
    ∀ (f f' i : Nat) (P : List (Int × Int)), I P → N ≤ f + i → N ≤ f' + i → goS a b f i P = goS a b f' i P := by
  intro f
  induction f with
  | zero => intro f' i P hP h1 _; rw [goS_end (by have := hN P hP; omega), goS_end (by have := hN P hP; omega)]
  | succ f ih =>
    intro f' i P hP h1 h2
    by_cases hi : P.length ≤ i
    · rw [goS_end hi, goS_end hi]
    · cases f' with
      | zero => exact absurd (hN P hP) (by omega)
      | succ f' =>
        unfold goS
        cases P[i]? with
        | none => rfl
        | some p =>
          dsimp only
          cases objO a (2, p.1) <;> cases objO b (2, p.2) <;> try rfl
          rename_i o q
          dsimp only
          rw [ih f' (i + 1) _ (hI P o.2 q.2 hP) (by omega) (by omega)]
theorem sameF_swp (a b : HS) (x y : List V) : sameF b y a x = sameF a x b y := by
  unfold sameF
  by_cases h : x.length = y.length
  · rw [if_neg (by omega), if_neg (by omega)]
    have e := lst_swp a b x y []
    rw [show swp [] = [] from rfl] at e
    rw [e]
    dsimp only
    rw [goS_swp]
    congr 1
    have hp := Pok.lst x y (Pok.nil a b)
    have hq := Pok.lst y x (Pok.nil b a)
    rw [e] at hq
    exact goS_fuel (I := fun P => Pok a b P ∧ Pok b a (swp P)) (N := min a.objs.length b.objs.length)
      (fun P h => by have h1 := h.1.len; have h2 := h.2.len; rw [List.length_map] at h2; omega)
      (fun P l k h => ⟨h.1.lst l k, by have := h.2.lst k l; rw [lst_swp] at this; exact this⟩) _ _ _ _ ⟨hp, hq⟩ (by omega) (by omega)
  · rw [if_pos h, if_pos (fun e => h e.symm)]
theorem laid_few {xs : List ObjT} {n : Nat} (h : n + sumO xs ≤ 300) : (laidF xs).objs.length ≤ 300 ∧ ∀ o ∈ (laidF xs).objs, o.2.length ≤ 300 := by
  constructor
  · rw [laidF_objs, List.length_map]
    have : ∀ l : List ObjT, l.length ≤ sumO l := by
      intro l
      unfold sumO
      induction l with
      | nil => exact Nat.zero_le _
      | cons b l ih => rw [List.map_cons, List.sum_cons, List.length_cons]; omega
    have := this xs
    omega
  · intro o ho
    rw [laidF_objs, List.mem_map] at ho
    obtain ⟨a, ha, rfl⟩ := ho
    have := sum_mem (f := fun o : ObjT => o.2.xs.length + 1) ha
    unfold sumO at h
    dsimp only at this ⊢; omega
end Go.Heap
namespace Go.Proofs.YtkcacgjbofabfaaDoor
open Go Go.Eng Go.Heap
set_option maxHeartbeats 0 in
theorem same_law (p p2 q q2 : Option Addr) (c c2 d d2 : Nat) (xs ys : List ObjT) (l k : List V) (m : Mem) (ho : ObjsOk m p c xs) (hx : SlAt m [] (.slice p2 l.length c2) l.length 2 (encs l)) (hl : l.length ≤ 1048576)
    (hq : ObjsOk m q d ys) (hy : SlAt m [] (.slice q2 k.length d2) k.length 2 (encs k)) (hk : k.length ≤ 1048576) :
    Cta Tryd.prog 3 [.slice p xs.length c, .slice p2 l.length c2, .slice q ys.length d, .slice q2 k.length d2] m [] (fun v m' L' => v = .bool true ∧ m.Le m') := by
  have fc := fun m1 (hm : m.Le m1) => few_ct p c xs m1 ho.hl ho.hlen (ho.le hm).hok (ho.le hm).hsl p2 l.length c2 ho.hs hl
  have lc := fun m1 (hm : m.Le m1) => laid_ct p c xs m1 ho.hl ho.hlen (ho.le hm).hok (ho.le hm).hsl
  have fd := fun m1 (hm : m.Le m1) => few_ct q d ys m1 hq.hl hq.hlen (hq.le hm).hok (hq.le hm).hsl q2 k.length d2 hq.hs hk
  have ld := fun m1 (hm : m.Le m1) => laid_ct q d ys m1 hq.hl hq.hlen (hq.le hm).hok (hq.le hm).hsl
  have s1 : l.length + sumO xs ≤ 300 → k.length + sumO ys ≤ 300 → ∀ b L b2 L2 m1, m.Le m1 → HP b (laidF xs) L → HP b2 (laidF ys) L2 → Cta Tryd.prog 12 [ptr b, .slice p2 l.length c2, ptr b2, .slice q2 k.length d2] m1 (L ++ L2) (fun v m' L' => m.Le m' ∧ v = .bool (sameF (laidF xs) l (laidF ys) k) ∧ L' = L ++ L2) := by
    intro h1 h2 b L b2 L2 m1 hm h h'
    have f1 := laid_few h1; have f2 := laid_few h2
    exact (same_ct b b2 _ _ (L ++ L2) ((h.objK fun o ho => by have := f1.2 o ho; omega).ext (Takes.lst TakeL.here)) ((h'.objK fun o ho => by have := f2.2 o ho; omega).ext (Takes.lst (TakeL.app TakeL.all))) l k p2 q2 c2 d2 m1 (hx.le hm).up (hy.le hm).up (by omega) (by omega) (fun o ho => by have := f1.2 o ho; omega)).mono fun v m' L' h => ⟨hm.trans h.1, h.2⟩
  have s2 : l.length + sumO xs ≤ 300 → k.length + sumO ys ≤ 300 → ∀ b L b2 L2 m1, m.Le m1 → HP b (laidF xs) L → HP b2 (laidF ys) L2 → Cta Tryd.prog 12 [ptr b2, .slice q2 k.length d2, ptr b, .slice p2 l.length c2] m1 (L ++ L2) (fun v m' L' => m.Le m' ∧ v = .bool (sameF (laidF xs) l (laidF ys) k) ∧ L' = L ++ L2) := by
    intro h1 h2 b L b2 L2 m1 hm h h'
    have f1 := laid_few h1; have f2 := laid_few h2
    have := (same_ct b2 b _ _ (L ++ L2) ((h'.objK fun o ho => by have := f2.2 o ho; omega).ext (Takes.lst (TakeL.app TakeL.all))) ((h.objK fun o ho => by have := f1.2 o ho; omega).ext (Takes.lst TakeL.here)) k l q2 p2 d2 c2 m1 (hy.le hm).up (hx.le hm).up (by omega) (by omega) (fun o ho => by have := f2.2 o ho; omega)).mono (R' := fun v m' L' => m.Le m' ∧ v = .bool (sameF (laidF ys) k (laidF xs) l) ∧ L' = L ++ L2) fun v m' L' h => ⟨hm.trans h.1, h.2⟩
    rw [sameF_swp] at this
    exact this
  have s3 : l.length + sumO xs ≤ 300 → k.length + sumO ys ≤ 300 → ∀ b L b2 L2 m1, m.Le m1 → RP b (laidF xs) L → RP b2 (laidF ys) L2 → Cta Tryd.prog 13 [ptr b, .slice p2 l.length c2, ptr b2, .slice q2 k.length d2] m1 (L ++ L2) (fun v m' L' => m' = m1 ∧ v = .bool (sameF (laidF xs) l (laidF ys) k) ∧ L' = L ++ L2) := by
    intro h1 h2 b L b2 L2 m1 hm h h'
    have f1 := laid_few h1; have f2 := laid_few h2
    exact rsame_ct b b2 _ _ L L2 h h' (by omega) (fun o ho => by have := f1.2 o ho; omega) l k p2 q2 c2 d2 m1 (hx.le hm) (hy.le hm) (by omega)
  clear ho hx hq hy
  generalize sameF (laidF xs) l (laidF ys) k = S at *
  generalize laidF xs = s at *
  generalize laidF ys = t at *
  generalize encs l = el at *
  generalize encs k = ek at *
  generalize hsx : sumO xs = sx at *
  generalize hsy : sumO ys = sy at *
  generalize hnl : l.length = nl at *
  generalize hnk : k.length = nk at *
  generalize xs.length = nx at *
  generalize ys.length = ny at *
  refine cta_of_T (c := Fc.k3_0) Tryd.func3 rfl rfl (by kernel_rfl) (by kernel_rfl) ?_
  repeat' (first | simp (maxSteps := 1000000) (disch := omega) only [↓Fc.x3_0, ↓Fc.x3_1, ↓eng_pre, eng_post, ↓Fa.all_pc, Fa.all_fa, eng_core, Nat.reduceBEq, ne_eq, reduceIte, Nat.reduceEqDiff, Nat.reduceAdd, Nat.reduceMul, Nat.reduceLT, Nat.reduceSub, Int.reduceLT, Int.reduceLE, Int.reduceEq, Int.reduceAdd, Int.reduceSub, Int.reduceMul, Int.reduceNeg, Int.reduceToNat, Int.toNat_natCast] | (with_reducible (apply gd_eq; first | (refine eq_ptr_nil (by kernel_rfl) ?_) | (refine neq_ptr_nil (by kernel_rfl) ?_) | (refine eq_iface_nil (by kernel_rfl) rfl ?_) | (refine neq_iface_nil (by kernel_rfl) rfl ?_) | fail)) | (with_reducible (apply gd_call; first | ((refine ca_of (awake_ct _) (by (repeat (first | apply Takes.nil | (apply Takes.cons; (· (repeat (first | apply Take.here | apply Take.there | apply Take.app)))) | (apply Takes.app; (· ((repeat ((fail_if_success (first | apply TakeL.here | apply TakeL.all | apply TakeL.hd)); (first | apply TakeL.cons | apply TakeL.app))); (first | apply TakeL.here | apply TakeL.all | apply TakeL.hd)))) | (apply Takes.lst; (· ((repeat ((fail_if_success (first | apply TakeL.here | apply TakeL.all | apply TakeL.hd)); (first | apply TakeL.cons | apply TakeL.app))); (first | apply TakeL.here | apply TakeL.all | apply TakeL.hd)))) | fail))) ?_); rintro _ _ _ ⟨hle0, rfl⟩) | ((refine ca_of (fc _ (by assumption)) (by (repeat (first | apply Takes.nil | (apply Takes.cons; (· (repeat (first | apply Take.here | apply Take.there | apply Take.app)))) | (apply Takes.app; (· ((repeat ((fail_if_success (first | apply TakeL.here | apply TakeL.all | apply TakeL.hd)); (first | apply TakeL.cons | apply TakeL.app))); (first | apply TakeL.here | apply TakeL.all | apply TakeL.hd)))) | (apply Takes.lst; (· ((repeat ((fail_if_success (first | apply TakeL.here | apply TakeL.all | apply TakeL.hd)); (first | apply TakeL.cons | apply TakeL.app))); (first | apply TakeL.here | apply TakeL.all | apply TakeL.hd)))) | fail))) ?_); rintro _ _ _ ⟨⟨_ | _, rfl, hβ⟩, rfl, rfl⟩) | ((refine ca_of (fd _ (by assumption)) (by (repeat (first | apply Takes.nil | (apply Takes.cons; (· (repeat (first | apply Take.here | apply Take.there | apply Take.app)))) | (apply Takes.app; (· ((repeat ((fail_if_success (first | apply TakeL.here | apply TakeL.all | apply TakeL.hd)); (first | apply TakeL.cons | apply TakeL.app))); (first | apply TakeL.here | apply TakeL.all | apply TakeL.hd)))) | (apply Takes.lst; (· ((repeat ((fail_if_success (first | apply TakeL.here | apply TakeL.all | apply TakeL.hd)); (first | apply TakeL.cons | apply TakeL.app))); (first | apply TakeL.here | apply TakeL.all | apply TakeL.hd)))) | fail))) ?_); rintro _ _ _ ⟨⟨_ | _, rfl, hβ2⟩, rfl, rfl⟩) | ((refine ca_of (lc _ (by assumption)) (by (repeat (first | apply Takes.nil | (apply Takes.cons; (· (repeat (first | apply Take.here | apply Take.there | apply Take.app)))) | (apply Takes.app; (· ((repeat ((fail_if_success (first | apply TakeL.here | apply TakeL.all | apply TakeL.hd)); (first | apply TakeL.cons | apply TakeL.app))); (first | apply TakeL.here | apply TakeL.all | apply TakeL.hd)))) | (apply Takes.lst; (· ((repeat ((fail_if_success (first | apply TakeL.here | apply TakeL.all | apply TakeL.hd)); (first | apply TakeL.cons | apply TakeL.app))); (first | apply TakeL.here | apply TakeL.all | apply TakeL.hd)))) | fail))) ?_); rintro _ _ _ ⟨rfl, b1, b2, Lh, Lr, rfl, rfl, hp, hr⟩) | ((refine ca_of (ld _ (by assumption)) (by (repeat (first | apply Takes.nil | (apply Takes.cons; (· (repeat (first | apply Take.here | apply Take.there | apply Take.app)))) | (apply Takes.app; (· ((repeat ((fail_if_success (first | apply TakeL.here | apply TakeL.all | apply TakeL.hd)); (first | apply TakeL.cons | apply TakeL.app))); (first | apply TakeL.here | apply TakeL.all | apply TakeL.hd)))) | (apply Takes.lst; (· ((repeat ((fail_if_success (first | apply TakeL.here | apply TakeL.all | apply TakeL.hd)); (first | apply TakeL.cons | apply TakeL.app))); (first | apply TakeL.here | apply TakeL.all | apply TakeL.hd)))) | fail))) ?_); rintro _ _ _ ⟨rfl, b3, b4, Lh2, Lr2, rfl, rfl, hp2, hr2⟩) | ((refine ca_of (s1 (hβ rfl) (hβ2 rfl) _ _ _ _ _ (by assumption) hp hp2) (by (repeat (first | apply Takes.nil | (apply Takes.cons; (· (repeat (first | apply Take.here | apply Take.there | apply Take.app)))) | (apply Takes.app; (· ((repeat ((fail_if_success (first | apply TakeL.here | apply TakeL.all | apply TakeL.hd)); (first | apply TakeL.cons | apply TakeL.app))); (first | apply TakeL.here | apply TakeL.all | apply TakeL.hd)))) | (apply Takes.lst; (· ((repeat ((fail_if_success (first | apply TakeL.here | apply TakeL.all | apply TakeL.hd)); (first | apply TakeL.cons | apply TakeL.app))); (first | apply TakeL.here | apply TakeL.all | apply TakeL.hd)))) | fail))) ?_); rintro _ _ _ ⟨hle1, rfl, rfl⟩) | ((refine ca_of (s2 (hβ rfl) (hβ2 rfl) _ _ _ _ _ (by assumption) hp hp2) (by (repeat (first | apply Takes.nil | (apply Takes.cons; (· (repeat (first | apply Take.here | apply Take.there | apply Take.app)))) | (apply Takes.app; (· ((repeat ((fail_if_success (first | apply TakeL.here | apply TakeL.all | apply TakeL.hd)); (first | apply TakeL.cons | apply TakeL.app))); (first | apply TakeL.here | apply TakeL.all | apply TakeL.hd)))) | (apply Takes.lst; (· ((repeat ((fail_if_success (first | apply TakeL.here | apply TakeL.all | apply TakeL.hd)); (first | apply TakeL.cons | apply TakeL.app))); (first | apply TakeL.here | apply TakeL.all | apply TakeL.hd)))) | fail))) ?_); rintro _ _ _ ⟨hle2, rfl, rfl⟩) | ((refine ca_of (s3 (hβ rfl) (hβ2 rfl) _ _ _ _ _ (by assumption) hr hr2) (by (repeat (first | apply Takes.nil | (apply Takes.cons; (· (repeat (first | apply Take.here | apply Take.there | apply Take.app)))) | (apply Takes.app; (· ((repeat ((fail_if_success (first | apply TakeL.here | apply TakeL.all | apply TakeL.hd)); (first | apply TakeL.cons | apply TakeL.app))); (first | apply TakeL.here | apply TakeL.all | apply TakeL.hd)))) | (apply Takes.lst; (· ((repeat ((fail_if_success (first | apply TakeL.here | apply TakeL.all | apply TakeL.hd)); (first | apply TakeL.cons | apply TakeL.app))); (first | apply TakeL.here | apply TakeL.all | apply TakeL.hd)))) | fail))) ?_); rintro _ _ _ ⟨rfl, rfl, rfl⟩) | fail)) | (with_reducible (apply gd_cond; first | (refine cond_if (fun h => ?_) (fun h => ?_)) | (refine cond_nif (fun h => ?_) (fun h => ?_)) | (refine cond_nsplit (fun h => ?_) (fun h => ?_)) | (refine cond_split (fun h => ?_) (fun h => ?_)))) | (with_reducible (apply gd_guard; first | (refine guard_t (fun h => ?_) (fun h => ?_)) | (refine guard_f (fun h => ?_) (fun h => ?_)) | (refine guard_split (fun h => ?_) (fun h => ?_)))) | fail)
  all_goals exact end_clear (by assumption)
/-- IsoSame answers true, of any input of bulk not too great. -/
theorem same_row (a : Sl ObjT) (x : Sl V) (b : Sl ObjT) (y : Sl V) (W : World) (ok : SlOk 2 opObj (memOf W) a) (okx : SlOk 2 opV (memOf W) x) (okb : SlOk 2 opObj (memOf W) b) (oky : SlOk 2 opV (memOf W) y)
    (hw : (opSl 2 opObj).wt a ≤ 1048576) (hwx : (opSl 2 opV).wt x ≤ 1048576) (hwb : (opSl 2 opObj).wt b ≤ 1048576) (hwy : (opSl 2 opV).wt y ≤ 1048576) : Ct Tryd.prog 3 [a.v, x.v, b.v, y.v] W (fun v w' => v = .bool true ∧ Ext W w') := by
  refine Cta.ctM ?_
  obtain ⟨p, c, hv, ho⟩ := objs_open ok hw
  obtain ⟨p2, c2, hv2, _, hx, hl⟩ := vals_open okx hwx
  obtain ⟨q, d, hv3, hq⟩ := objs_open okb hwb
  obtain ⟨q2, d2, hv4, _, hy, hk⟩ := vals_open oky hwy
  rw [hv, hv2, hv3, hv4]
  exact same_law p p2 q q2 c c2 d d2 a.xs b.xs x.xs y.xs _ ho hx hl hq hy hk
end Go.Proofs.YtkcacgjbofabfaaDoor
