/- Layer 3: IsoShows. -/
import Derived.Test.YtkcacgjbofabfaaDoorWFew
import Derived.Test.YtkcacgjbofabfaaDoorUText
import Derived.Test.YtkcacgjbofabfaaDoorUPlain
set_option linter.unusedSimpArgs false
set_option linter.unusedVariables false
set_option maxRecDepth 20000
set_option linter.all false
-- @FC
namespace Go.Heap
open Go Go.Eng Go.Proofs.YtkcacgjbofabfaaDoor
/-- All numbers are of their kinds. -/
def Rng (xs : List ObjT) : Prop := ∀ a ∈ xs, R64 a.1 ∧ ∀ v ∈ a.2.xs, R64 v.2
theorem rng_open {m : Mem} {a : Sl ObjT} (ok : SlOk 2 opObj m a) : Rng a.xs := by
  intro o ho
  obtain ⟨h1, h2⟩ := ok.each o ho
  exact ⟨r64 h1, fun v hv => r64 (h2.each v hv).2⟩
theorem vals_rng {m : Mem} {a : Sl V} (ok : SlOk 2 opV m a) : ∀ v ∈ a.xs, R64 v.2 := fun v hv => r64 (ok.each v hv).2
theorem recO_rng {r : Int} (h : R64 r) : R64 (recO r) := by unfold recO; split <;> constructor <;> (have := h.1; have := h.2; omega)
theorem laid_rng {xs : List ObjT} (h : Rng xs) : ∀ o ∈ (laidF xs).objs, R64 o.1 ∧ ∀ c ∈ o.2, R64 c.2 := by
  intro o ho
  rw [laidF_objs, List.mem_map] at ho
  obtain ⟨a, ha, rfl⟩ := ho
  exact ⟨recO_rng (h a ha).1, (h a ha).2⟩
theorem laid_len (xs : List ObjT) : (laidF xs).objs.length ≤ sumO xs := by
  rw [laidF_objs, List.length_map]; unfold sumO
  have : ∀ l : List ObjT, l.length ≤ (l.map fun o => o.2.xs.length + 1).sum := by
    intro l
    induction l with
    | nil => exact Nat.zero_le _
    | cons b l ih => rw [List.map_cons, List.sum_cons, List.length_cons]; omega
  exact this xs
theorem laid_cell {xs : List ObjT} : ∀ o ∈ (laidF xs).objs, o.2.length ≤ sumO xs := by
  intro o h
  rw [laidF_objs, List.mem_map] at h
  obtain ⟨a, ha, rfl⟩ := h
  have := sum_mem (f := fun o : ObjT => o.2.xs.length + 1) ha
  unfold sumO
  dsimp only at this ⊢; omega
theorem sum_const {α : Type} {f : α → Nat} {k : Nat} (l : List α) (h : ∀ a ∈ l, f a ≤ k) : (l.map f).sum ≤ l.length * k := by
  induction l with
  | nil => simp
  | cons a l ih =>
    have := ih fun b hb => h b (by simp [hb])
    have := h a (by simp)
    rw [List.map_cons, List.sum_cons, List.length_cons, Nat.add_mul]; omega
theorem dfs_obj {s : HS} {l : List V} {y : Int × (Int × List V)} (h : y ∈ dfs s [] l) : y.2 ∈ s.objs := by
  obtain ⟨k, _, hk⟩ := objO_spec (dfsN_mem s _ [] l y h)
  exact List.mem_of_getElem? hk
theorem pW_small {s : HS} {l : List V} (hl : (reachF s l).length ≤ 300) (hc : ∀ o ∈ s.objs, o.2.length ≤ 300) : pW s (reachF s l) (reachF s l).length ≤ 3000000 := by
  unfold pW
  rw [Int.toNat_natCast, List.take_length]
  have := sum_const (f := wOf s) (k := 602) (reachF s l) (fun n _ => by
    unfold wOf
    split
    · rename_i o ho
      obtain ⟨k, _, hk⟩ := objO_spec ho
      have := hc o (List.mem_of_getElem? hk); omega
    · omega)
  omega
theorem muY_small {s : HS} {l : List V} (hl : (reachF s l).length ≤ 300) (hc : ∀ o ∈ s.objs, o.2.length ≤ 300) : muY (dfs s [] l) [] ≤ 1000000 := by
  unfold muY
  have := sum_const (f := fun y : Int × (Int × List V) => if y.1 ∈ ([] : List Int) then 0 else y.2.2.length + 2) (k := 302) (dfs s [] l) (fun y hy => by
    have := hc _ (dfs_obj hy)
    simp; omega)
  have hr : (reachF s l).length = (dfs s [] l).length := by unfold reachF; rw [List.length_map]
  omega
end Go.Heap
namespace Go.Proofs.YtkcacgjbofabfaaDoor
open Go Go.Eng Go.Heap
/-- The program's text, of what has been laid. -/
theorem laid_show {xs : List ObjT} {m : Mem} (ht : TabM m) (hr : Rng xs) (l : List V) (hvl : ∀ c ∈ l, R64 c.2) (h3 : l.length + sumO xs ≤ 300) (b : Nat) (L Lx : Lst) (p2 : Option Addr) (c2 : Nat) (m1 : Mem) (hm : m.Le m1) (hx : SlAt m1 Lx (.slice p2 l.length c2) l.length 2 (encs l)) (hc2 : l.length ≤ c2) (h : HP b (laidF xs) L) :
    Cta Tryd.prog 16 [ptr b, .slice p2 l.length c2] m1 (L ++ Lx) (fun v m' L' => m1.Le m' ∧ v = .string (showF (dfs (laidF xs) [] l) l) ∧ L' = L ++ Lx) := by
  have hw := wt_laid xs
  have hrl := reachF_len (laidF xs) l
  have hrd : (reachF (laidF xs) l).length = (dfs (laidF xs) [] l).length := by unfold reachF; rw [List.length_map]
  have hce := fun o ho => laid_cell (xs := xs) o ho
  have hmu := muY_small (s := laidF xs) (l := l) (by omega) (fun o ho => by have := hce o ho; omega)
  have hv := laid_rng hr
  exact show_ct b (laidF xs) L Lx h p2 c2 l m1 hx (by omega) (fun o ho => by have := hce o ho; omega) (by omega) hc2 (by omega)
    (fun m2 hm2 v hvv _ => numOk_all (ht.le (hm.trans hm2)) _ (hvl v hvv).1 (hvl v hvv).2)
    (fun m2 hm2 y hy => ⟨fun _ => numOk_all (ht.le (hm.trans hm2)) _ (hv _ (dfs_obj hy)).1.1 (hv _ (dfs_obj hy)).1.2, fun v hvv _ => numOk_all (ht.le (hm.trans hm2)) _ ((hv _ (dfs_obj hy)).2 v hvv).1 ((hv _ (dfs_obj hy)).2 v hvv).2⟩)
    (fun m2 hm2 i hi => numOk_all (ht.le (hm.trans hm2)) _ (by omega) (by omega))
set_option maxHeartbeats 0 in
theorem shows_law (p p2 : Option Addr) (c c2 : Nat) (xs : List ObjT) (l : List V) (m : Mem) (ht : TabM m) (ho : ObjsOk m p c xs) (hr : Rng xs) (hx : SlAt m [] (.slice p2 l.length c2) l.length 2 (encs l)) (hl : l.length ≤ 1048576) (hc2 : l.length ≤ c2) (hvl : ∀ v ∈ l, R64 v.2) :
    Cta Tryd.prog 5 [.slice p xs.length c, .slice p2 l.length c2] m [] (fun v m' L' => v = .bool true ∧ m.Le m') := by
  have fc := fun m1 (hm : m.Le m1) => few_ct p c xs m1 ho.hl ho.hlen (ho.le hm).hok (ho.le hm).hsl p2 l.length c2 ho.hs hl
  have lc := fun m1 (hm : m.Le m1) => laid_ct p c xs m1 ho.hl ho.hlen (ho.le hm).hok (ho.le hm).hsl
  have sc : ∀ b L m1, m.Le m1 → l.length + sumO xs ≤ 300 → HP b (laidF xs) L → Cta Tryd.prog 16 [ptr b, .slice p2 l.length c2] m1 L (fun v m' L' => m1.Le m' ∧ v = .string (showF (dfs (laidF xs) [] l) l) ∧ L' = L) := by
    intro b L m1 hm h3 h
    have := laid_show ht hr l hvl h3 b L [] p2 c2 m1 hm (hx.le hm) hc2 h
    simpa only [List.append_nil] using this
  have rs : ∀ b L m1, m.Le m1 → l.length + sumO xs ≤ 300 → RP b (laidF xs) L → Cta Tryd.prog 17 [ptr b, .slice p2 l.length c2] m1 L (fun v m' L' => m' = m1 ∧ v = .string (showF (dfs (laidF xs) [] l) l) ∧ L' = L) := by
    intro b L m1 hm h3 h
    have hw := wt_laid xs
    have hrl := reachF_len (laidF xs) l
    have hce := fun o ho => laid_cell (xs := xs) o ho
    have hpw := pW_small (s := laidF xs) (l := l) (by omega) (fun o ho => by have := hce o ho; omega)
    have hln := laid_len xs
    rw [show_same]
    exact rshow_ct b (laidF xs) L m1 h (ht.le hm) (laid_rng hr) (fun o ho => by have := hce o ho; omega) (by omega) p2 c2 l (by omega) hvl (hx.le hm) (by omega) hpw
  clear hx ho ht hr hvl
  generalize showF (dfs (laidF xs) [] l) l = tx at *
  generalize laidF xs = s at *
  generalize hsx : sumO xs = sx at *
  generalize hnl : l.length = nl at *
  generalize xs.length = nx at *
  refine cta_of_T (c := Fc.k5_0) Tryd.func5 rfl rfl (by kernel_rfl) (by kernel_rfl) ?_
  repeat' (first | simp (maxSteps := 1000000) (disch := omega) only [↓Fc.x5_0, ↓Fc.x5_1, ↓eng_pre, eng_post, ↓Fa.all_pc, Fa.all_fa, eng_core, Nat.reduceBEq, ne_eq, reduceIte, Nat.reduceEqDiff, Nat.reduceAdd, Nat.reduceMul, Nat.reduceLT, Nat.reduceSub, Int.reduceLT, Int.reduceLE, Int.reduceEq, Int.reduceAdd, Int.reduceSub, Int.reduceMul, Int.reduceNeg, Int.reduceToNat, Int.toNat_natCast, eq_self] | (with_reducible (apply gd_eq; first | (refine eq_ptr_nil (by kernel_rfl) ?_) | (refine neq_ptr_nil (by kernel_rfl) ?_) | (refine eq_iface_nil (by kernel_rfl) rfl ?_) | (refine neq_iface_nil (by kernel_rfl) rfl ?_))) | (with_reducible (apply gd_call; first | ((refine ca_of (awake_ct _) (by (repeat (first | apply Takes.nil | (apply Takes.cons; (· (repeat (first | apply Take.here | apply Take.there | apply Take.app)))) | (apply Takes.app; (· ((repeat ((fail_if_success (first | apply TakeL.here | apply TakeL.all | apply TakeL.hd)); (first | apply TakeL.cons | apply TakeL.app))); (first | apply TakeL.here | apply TakeL.all | apply TakeL.hd)))) | (apply Takes.lst; (· ((repeat ((fail_if_success (first | apply TakeL.here | apply TakeL.all | apply TakeL.hd)); (first | apply TakeL.cons | apply TakeL.app))); (first | apply TakeL.here | apply TakeL.all | apply TakeL.hd)))) | fail))) ?_); rintro _ _ _ ⟨hle0, rfl⟩) | ((refine ca_of (fc _ (by assumption)) (by (repeat (first | apply Takes.nil | (apply Takes.cons; (· (repeat (first | apply Take.here | apply Take.there | apply Take.app)))) | (apply Takes.app; (· ((repeat ((fail_if_success (first | apply TakeL.here | apply TakeL.all | apply TakeL.hd)); (first | apply TakeL.cons | apply TakeL.app))); (first | apply TakeL.here | apply TakeL.all | apply TakeL.hd)))) | (apply Takes.lst; (· ((repeat ((fail_if_success (first | apply TakeL.here | apply TakeL.all | apply TakeL.hd)); (first | apply TakeL.cons | apply TakeL.app))); (first | apply TakeL.here | apply TakeL.all | apply TakeL.hd)))) | fail))) ?_); rintro _ _ _ ⟨⟨β, rfl, hβ⟩, rfl, rfl⟩) | ((refine ca_of (lc _ (by assumption)) (by (repeat (first | apply Takes.nil | (apply Takes.cons; (· (repeat (first | apply Take.here | apply Take.there | apply Take.app)))) | (apply Takes.app; (· ((repeat ((fail_if_success (first | apply TakeL.here | apply TakeL.all | apply TakeL.hd)); (first | apply TakeL.cons | apply TakeL.app))); (first | apply TakeL.here | apply TakeL.all | apply TakeL.hd)))) | (apply Takes.lst; (· ((repeat ((fail_if_success (first | apply TakeL.here | apply TakeL.all | apply TakeL.hd)); (first | apply TakeL.cons | apply TakeL.app))); (first | apply TakeL.here | apply TakeL.all | apply TakeL.hd)))) | fail))) ?_); rintro _ _ _ ⟨rfl, b1, b2, Lh, Lr, rfl, rfl, hp, hr⟩) | ((refine ca_of (sc _ _ _ (by assumption) (hβ (by assumption)) hp) (by (repeat (first | apply Takes.nil | (apply Takes.cons; (· (repeat (first | apply Take.here | apply Take.there | apply Take.app)))) | (apply Takes.app; (· ((repeat ((fail_if_success (first | apply TakeL.here | apply TakeL.all | apply TakeL.hd)); (first | apply TakeL.cons | apply TakeL.app))); (first | apply TakeL.here | apply TakeL.all | apply TakeL.hd)))) | (apply Takes.lst; (· ((repeat ((fail_if_success (first | apply TakeL.here | apply TakeL.all | apply TakeL.hd)); (first | apply TakeL.cons | apply TakeL.app))); (first | apply TakeL.here | apply TakeL.all | apply TakeL.hd)))) | fail))) ?_); rintro _ _ _ ⟨hle1, rfl, rfl⟩) | ((refine ca_of (rs _ _ _ (hle0.trans hle1) (hβ (by assumption)) hr) (by (repeat (first | apply Takes.nil | (apply Takes.cons; (· (repeat (first | apply Take.here | apply Take.there | apply Take.app)))) | (apply Takes.app; (· ((repeat ((fail_if_success (first | apply TakeL.here | apply TakeL.all | apply TakeL.hd)); (first | apply TakeL.cons | apply TakeL.app))); (first | apply TakeL.here | apply TakeL.all | apply TakeL.hd)))) | (apply Takes.lst; (· ((repeat ((fail_if_success (first | apply TakeL.here | apply TakeL.all | apply TakeL.hd)); (first | apply TakeL.cons | apply TakeL.app))); (first | apply TakeL.here | apply TakeL.all | apply TakeL.hd)))) | fail))) ?_); rintro _ _ _ ⟨rfl, rfl, rfl⟩))) | (with_reducible (apply gd_cond; first | (refine cond_if (fun h => ?_) (fun h => ?_)) | (refine cond_nif (fun h => ?_) (fun h => ?_)) | (refine cond_nsplit (fun h => ?_) (fun h => ?_)) | (refine cond_split (fun h => ?_) (fun h => ?_)))) | fail)
  · exact end_clear hle0
  · exact end_clear (hle0.trans hle1)
/-- IsoShows answers true, of any input of bulk not too great. -/
theorem shows_row (a : Sl ObjT) (x : Sl V) (W : World) (ok : SlOk 2 opObj (memOf W) a) (okx : SlOk 2 opV (memOf W) x) (hw : (opSl 2 opObj).wt a ≤ 1048576) (hwx : (opSl 2 opV).wt x ≤ 1048576) (hL : laidMetH Tryd.prog Rows.isoShowsUptoRow.laid W) : Ct Tryd.prog 5 [a.v, x.v] W (fun v w' => v = .bool true ∧ Ext W w') := by
  refine Cta.ctM ?_
  obtain ⟨p, c, hv, ho⟩ := objs_open ok hw
  obtain ⟨p2, c2, hv2, hc2, hx, hl⟩ := vals_open okx hwx
  have hr := rng_open ok
  have hvl := vals_rng okx
  rw [hv, hv2]
  exact shows_law p p2 c c2 a.xs x.xs _ (tab_laid hL) ho hr hx hl hc2 hvl
end Go.Proofs.YtkcacgjbofabfaaDoor
