/- Layer 3: what has been laid, and the program's text of it. -/
import Derived.Test.YtkcacgjbofabfaaDoorWFew
import Derived.Test.YtkcacgjbofabfaaDoorWNum
import Derived.Test.YtkcacgjbofabfaaDoorUPlain
set_option linter.unusedSimpArgs false
set_option linter.unusedVariables false
set_option maxRecDepth 20000
set_option linter.all false
-- @FC
namespace Go.Heap
open Go Go.Eng Go.Proofs.YtkcacgjbofabfaaDoor
/-- All numbers are of their kinds. -/
def Rng (xs : List ObjT) : Prop := ∀ a ∈ xs, R64 a.1 ∧ ∀ v ∈ a.2.xs, R64 v.2
theorem rng_open {m : Mem} {a : Sl ObjT} (ok : SlOk 2 opObj m a) : Rng a.xs := by
  intro o ho
  obtain ⟨h1, h2⟩ := ok.each o ho
  exact ⟨r64 h1, fun v hv => r64 (h2.each v hv).2⟩
theorem vals_rng {m : Mem} {a : Sl V} (ok : SlOk 2 opV m a) : ∀ v ∈ a.xs, R64 v.2 := fun v hv => r64 (ok.each v hv).2
theorem recO_rng {r : Int} (h : R64 r) : R64 (recO r) := by unfold recO; split <;> constructor <;> (have := h.1; have := h.2; omega)
theorem laid_rng {xs : List ObjT} (h : Rng xs) : ∀ o ∈ (laidF xs).objs, R64 o.1 ∧ ∀ c ∈ o.2, R64 c.2 := by
  intro o ho
  rw [laidF_objs, List.mem_map] at ho
  obtain ⟨a, ha, rfl⟩ := ho
  exact ⟨recO_rng (h a ha).1, (h a ha).2⟩
theorem laid_len (xs : List ObjT) : (laidF xs).objs.length ≤ sumO xs := by
  rw [laidF_objs, List.length_map]; unfold sumO
  have : ∀ l : List ObjT, l.length ≤ (l.map fun o => o.2.xs.length + 1).sum := by
    intro l
    induction l with
    | nil => exact Nat.zero_le _
    | cons b l ih => rw [List.map_cons, List.sum_cons, List.length_cons]; omega
  exact this xs
theorem laid_cell {xs : List ObjT} : ∀ o ∈ (laidF xs).objs, o.2.length ≤ sumO xs := by
  intro o h
  rw [laidF_objs, List.mem_map] at h
  obtain ⟨a, ha, rfl⟩ := h
  have := sum_mem (f := fun o : ObjT => o.2.xs.length + 1) ha
  unfold sumO
  dsimp only at this ⊢; omega
theorem sum_const {α : Type} {f : α → Nat} {k : Nat} (l : List α) (h : ∀ a ∈ l, f a ≤ k) : (l.map f).sum ≤ l.length * k := by
  induction l with
  | nil => simp
  | cons a l ih =>
    have := ih fun b hb => h b (by simp [hb])
    have := h a (by simp)
    rw [List.map_cons, List.sum_cons, List.length_cons, Nat.add_mul]; omega
theorem dfs_obj {s : HS} {l : List V} {y : Int × (Int × List V)} (h : y ∈ dfs s [] l) : y.2 ∈ s.objs := by
  obtain ⟨k, _, hk⟩ := objO_spec (dfsN_mem s _ [] l y h)
  exact List.mem_of_getElem? hk
theorem pW_small {s : HS} {l : List V} (hl : (reachF s l).length ≤ 300) (hc : ∀ o ∈ s.objs, o.2.length ≤ 300) : pW s (reachF s l) (reachF s l).length ≤ 3000000 := by
  unfold pW
  rw [Int.toNat_natCast, List.take_length]
  have := sum_const (f := wOf s) (k := 602) (reachF s l) (fun n _ => by
    unfold wOf
    split
    · rename_i o ho
      obtain ⟨k, _, hk⟩ := objO_spec ho
      have := hc o (List.mem_of_getElem? hk); omega
    · omega)
  omega
theorem muY_small {s : HS} {l : List V} (hl : (reachF s l).length ≤ 300) (hc : ∀ o ∈ s.objs, o.2.length ≤ 300) : muY (dfs s [] l) [] ≤ 1000000 := by
  unfold muY
  have := sum_const (f := fun y : Int × (Int × List V) => if y.1 ∈ ([] : List Int) then 0 else y.2.2.length + 2) (k := 302) (dfs s [] l) (fun y hy => by
    have := hc _ (dfs_obj hy)
    simp; omega)
  have hr : (reachF s l).length = (dfs s [] l).length := by unfold reachF; rw [List.length_map]
  omega
theorem laid_few {xs : List ObjT} {n : Nat} (h : n + sumO xs ≤ 300) : (laidF xs).objs.length ≤ 300 ∧ ∀ o ∈ (laidF xs).objs, o.2.length ≤ 300 := by
  constructor
  · rw [laidF_objs, List.length_map]
    have : ∀ l : List ObjT, l.length ≤ sumO l := by
      intro l
      unfold sumO
      induction l with
      | nil => exact Nat.zero_le _
      | cons b l ih => rw [List.map_cons, List.sum_cons, List.length_cons]; omega
    have := this xs
    omega
  · intro o ho
    rw [laidF_objs, List.mem_map] at ho
    obtain ⟨a, ha, rfl⟩ := ho
    have := sum_mem (f := fun o : ObjT => o.2.xs.length + 1) ha
    unfold sumO at h
    dsimp only at this ⊢; omega
end Go.Heap
namespace Go.Proofs.YtkcacgjbofabfaaDoor
open Go Go.Eng Go.Heap
/-- The program's text, of what has been laid. -/
theorem laid_show {xs : List ObjT} {m : Mem} (ht : TabM m) (hr : Rng xs) (l : List V) (hvl : ∀ c ∈ l, R64 c.2) (h3 : l.length + sumO xs ≤ 300) (b : Nat) (L Lx : Lst) (p2 : Option Addr) (c2 : Nat) (m1 : Mem) (hm : m.Le m1) (hx : SlAt m1 Lx (.slice p2 l.length c2) l.length 2 (encs l)) (hc2 : l.length ≤ c2) (h : HP b (laidF xs) L) :
    Cta Tryd.prog 16 [ptr b, .slice p2 l.length c2] m1 (L ++ Lx) (fun v m' L' => m1.Le m' ∧ v = .string (showF (dfs (laidF xs) [] l) l) ∧ L' = L ++ Lx) := by
  have hw := wt_laid xs
  have hrl := reachF_len (laidF xs) l
  have hrd : (reachF (laidF xs) l).length = (dfs (laidF xs) [] l).length := by unfold reachF; rw [List.length_map]
  have hce := fun o ho => laid_cell (xs := xs) o ho
  have hmu := muY_small (s := laidF xs) (l := l) (by omega) (fun o ho => by have := hce o ho; omega)
  have hv := laid_rng hr
  exact show_ct b (laidF xs) L Lx h p2 c2 l m1 hx (by omega) (fun o ho => by have := hce o ho; omega) (by omega) hc2 (by omega)
    (fun m2 hm2 v hvv _ => numOk_all (ht.le (hm.trans hm2)) _ (hvl v hvv).1 (hvl v hvv).2)
    (fun m2 hm2 y hy => ⟨fun _ => numOk_all (ht.le (hm.trans hm2)) _ (hv _ (dfs_obj hy)).1.1 (hv _ (dfs_obj hy)).1.2, fun v hvv _ => numOk_all (ht.le (hm.trans hm2)) _ ((hv _ (dfs_obj hy)).2 v hvv).1 ((hv _ (dfs_obj hy)).2 v hvv).2⟩)
    (fun m2 hm2 i hi => numOk_all (ht.le (hm.trans hm2)) _ (by omega) (by omega))
end Go.Proofs.YtkcacgjbofabfaaDoor
