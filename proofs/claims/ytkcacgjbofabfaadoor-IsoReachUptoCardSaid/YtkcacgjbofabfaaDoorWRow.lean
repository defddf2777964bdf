/- Layer 3: what rows hand over. -/
import Derived.Test.YtkcacgjbofabfaaDoorWFew
set_option linter.unusedSimpArgs false
set_option linter.unusedVariables false
set_option maxRecDepth 20000
set_option linter.all false
-- @FC
namespace Go.Heap
open Go Go.Eng Go.Proofs.YtkcacgjbofabfaaDoor
theorem sum_mem {α : Type} {f : α → Nat} {xs : List α} {y : α} (h : y ∈ xs) : f y ≤ (xs.map f).sum := by
  induction xs with
  | nil => cases h
  | cons a l ih =>
    rcases List.mem_cons.1 h with rfl | h
    · simp
    · have := ih h; simp only [List.map_cons, List.sum_cons]; omega
theorem wt_laid (xs : List ObjT) : wt (laidF xs) [] = sumO xs := by
  unfold wt sumO
  rw [laidF_objs]
  have : ∀ (l : List ObjT) (i : Nat), (((l.map fun o => (recO o.1, o.2.xs)).zipIdx i).map fun p => if (p.2 : Int) ∈ ([] : List Int) then 0 else 1 + p.1.2.length).sum = (l.map fun o => o.2.xs.length + 1).sum := by
    intro l
    induction l with
    | nil => intro i; rfl
    | cons a l ih =>
      intro i
      rw [List.map_cons, List.zipIdx_cons, List.map_cons, List.map_cons, List.sum_cons, List.sum_cons, ih]
      simp; omega
  exact this xs 0
theorem r64 {a : Int} (h : (Lit.int .i64 a).wf = true) : -9223372036854775808 ≤ a ∧ a ≤ 9223372036854775807 := by
  simp [Lit.wf, IntKind.min, IntKind.max, IntKind.bits, IntKind.signed] at h
  omega
/-- What a row says of things. -/
structure ObjsOk (m : Mem) (p : Option Addr) (c : Nat) (xs : List ObjT) : Prop where
  hl : xs.length ≤ 1048576
  hlen : ∀ y ∈ xs, (opObj.enc y).length = 2
  hok : ∀ a ∈ xs, ObjOk m a
  hsl : SlAt m [] (.slice p xs.length c) xs.length 2 (xs.flatMap opObj.enc)
  hs : sumO xs ≤ 1048576
theorem ObjsOk.le {m m' : Mem} {p : Option Addr} {c : Nat} {xs : List ObjT} (h : ObjsOk m p c xs) (hm : m.Le m') : ObjsOk m' p c xs :=
  ⟨h.hl, h.hlen, fun a ha => (h.hok a ha).le hm, h.hsl.le hm, h.hs⟩
theorem objs_open {m : Mem} {a : Sl ObjT} (ok : SlOk 2 opObj m a) (hw : (opSl 2 opObj).wt a ≤ 1048576) : ∃ p c, a.v = .slice p a.xs.length c ∧ ObjsOk m p c a.xs := by
  obtain ⟨p, c, hv, _⟩ := ok.cap
  have hw1 : (a.xs.map opObj.wt).sum + 1 ≤ 1048576 := hw
  have hwo : ∀ o : ObjT, opObj.wt o = 1 + ((o.2.xs.map opV.wt).sum + 1) := fun o => rfl
  have hwv : ∀ l : List V, (l.map opV.wt).sum = l.length * 2 := by
    intro l
    induction l with
    | nil => rfl
    | cons b l ih => rw [List.map_cons, List.sum_cons, ih, List.length_cons]; show 2 + _ = _; omega
  have hso : sumO a.xs ≤ (a.xs.map opObj.wt).sum := by
    unfold sumO
    exact sum_le_of fun o _ => by rw [hwo, hwv]; omega
  have hll : ∀ l : List ObjT, l.length ≤ sumO l := by
    intro l
    induction l with
    | nil => exact Nat.zero_le _
    | cons b l ih => unfold sumO at ih ⊢; rw [List.map_cons, List.sum_cons, List.length_cons]; omega
  refine ⟨p, c, hv, by have := hll a.xs; omega, ok.len, fun o ho => ?_, hv ▸ ok.at_, by omega⟩
  obtain ⟨p2, c2, hv2, hc2, _⟩ := (ok.each o ho).2.cap
  have h1 := sum_mem (f := opObj.wt) ho
  rw [hwo, hwv] at h1
  refine ⟨p2, c2, by show [.int .i64 o.1] ++ [o.2.v] = _; rw [hv2]; rfl, hc2, hv2 ▸ (ok.each o ho).2.at_, by omega⟩
theorem vals_open {m : Mem} {a : Sl V} (ok : SlOk 2 opV m a) (hw : (opSl 2 opV).wt a ≤ 1048576) : ∃ p c, a.v = .slice p a.xs.length c ∧ a.xs.length ≤ c ∧ SlAt m [] (.slice p a.xs.length c) a.xs.length 2 (encs a.xs) ∧ a.xs.length ≤ 1048576 := by
  obtain ⟨p, c, hv, hc, _⟩ := ok.cap
  have hw1 : (a.xs.map opV.wt).sum + 1 ≤ 1048576 := hw
  have hwv : ∀ l : List V, (l.map opV.wt).sum = l.length * 2 := by
    intro l
    induction l with
    | nil => rfl
    | cons b l ih => rw [List.map_cons, List.sum_cons, ih, List.length_cons]; show 2 + _ = _; omega
  rw [hwv] at hw1
  exact ⟨p, c, hv, hc, hv ▸ ok.at_, by omega⟩
end Go.Heap
