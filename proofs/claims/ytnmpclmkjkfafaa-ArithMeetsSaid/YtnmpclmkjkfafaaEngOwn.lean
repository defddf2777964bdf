/- The engine: blocks of one's own. What a function has made for itself, kept as one fact over calls. -/
import Derived.Test.YtnmpclmkjkfafaaEngLoop
set_option linter.all false
set_option linter.unusedSimpArgs false
set_option linter.unusedVariables false
namespace Go.Eng
open Go Go.RowKit
def Apart (b : Nat) : List (Nat × Array Value) → Prop
  | [] => True
  | p :: L => (b = p.1) = False ∧ (p.1 = b) = False ∧ Apart b L
/-- From block B on: the blocks that stand so, apart from each other, and that may be written. -/
def Own (B : Nat) : List (Nat × Array Value) → World → Prop
  | [], w => B ≤ w.heap.size
  | p :: L, w => (∀ o, w.cell? ⟨p.1, o, none⟩ = p.2[o]?) ∧ (∀ o, w.frozen? ⟨p.1, o, none⟩ = false) ∧ p.1 < w.heap.size ∧ B ≤ p.1 ∧ Apart p.1 L ∧ Own B L w
inductive Upd (b o : Nat) (v : Value) : List (Nat × Array Value) → List (Nat × Array Value) → Prop
  | here {cs : Array Value} {L} : Upd b o v ((b, cs) :: L) ((b, cs.setIfInBounds o v) :: L)
  | there {p : Nat × Array Value} {L L'} : Upd b o v L L' → Upd b o v (p :: L) (p :: L')
variable {B : Nat} {L L' : List (Nat × Array Value)} {w w' : World} {b o : Nat} {v : Value}
theorem apart_nil : Apart b [] = True := Eq.trans rfl rfl
theorem apart_cons {c : Nat} {cs : Array Value} : Apart b ((c, cs) :: L) = ((b = c) = False ∧ (c = b) = False ∧ Apart b L) := Eq.trans rfl rfl
theorem own_nil' : Own B [] w = (B ≤ w.heap.size) := Eq.trans rfl rfl
theorem own_cons {cs : Array Value} : Own B ((b, cs) :: L) w = ((∀ o, w.cell? ⟨b, o, none⟩ = cs[o]?) ∧ (∀ o, w.frozen? ⟨b, o, none⟩ = false) ∧ b < w.heap.size ∧ B ≤ b ∧ Apart b L ∧ Own B L w) := Eq.trans rfl rfl
theorem own_size : ∀ {L}, Own B L w → B ≤ w.heap.size
  | [], h => h
  | _ :: _, ⟨_, _, _, _, _, h⟩ => own_size h
theorem apart_of_lt : ∀ {L}, Own B L w → w.heap.size ≤ b → Apart b L
  | [], _, _ => trivial
  | p :: L, ⟨_, _, h3, _, _, h⟩, hb => ⟨by simp; omega, by simp; omega, apart_of_lt h hb⟩
theorem own_alloc {c : Array Value} {t : TypeId} (h : Own B L w) : Own B ((w.heap.size, c) :: L) (w.alloc (.cells c t)) := by
  have hB := own_size h
  refine ⟨fun o => by simp [cell_alloc], fun o => by simp [frozen_alloc], by simp [size_alloc], hB, apart_of_lt h (Nat.le_refl _), ?_⟩
  have key : ∀ {L}, Own B L w → Own B L (w.alloc (.cells c t)) := by
    intro L
    induction L with
    | nil => intro _; simp only [Own, size_alloc]; omega
    | cons p L ih =>
      rintro ⟨h1, h2, h3, h4, h5, h6⟩
      have hne : p.1 ≠ w.heap.size := by omega
      refine ⟨fun o => ?_, fun o => ?_, by rw [size_alloc]; omega, h4, h5, ih h6⟩
      · rw [cell_alloc, if_neg hne]; exact h1 o
      · rw [frozen_alloc, if_neg hne]; exact h2 o
  exact key h
theorem own_off : ∀ {L}, Own B L w → Apart b L → Own B L (w.setCell ⟨b, o, none⟩ v)
  | [], h, _ => by simp only [Own, size_set]; exact h
  | p :: L, ⟨h1, h2, h3, h4, h5, h6⟩, ⟨ha, _, hl⟩ => by
    refine ⟨fun o' => ?_, fun o' => ?_, by rw [size_set]; exact h3, h4, h5, own_off h6 hl⟩
    · rw [cell_set, if_neg (by rintro ⟨rfl, _⟩; simp at ha)]; exact h1 o'
    · rw [frozen_set]; exact h2 o'
theorem upd_apart {c : Nat} : ∀ {L L'}, Upd b o v L L' → Apart c L → Apart c L' := by
  intro L L' u
  induction u with
  | here => exact id
  | there _ ih => rintro ⟨h1, h2, h3⟩; exact ⟨h1, h2, ih h3⟩
theorem own_set (h : Own B L w) (u : Upd b o v L L') : Own B L' (w.setCell ⟨b, o, none⟩ v) := by
  induction u with
  | @here cs L =>
    obtain ⟨h1, h2, h3, h4, h5, h6⟩ := h
    refine ⟨fun o' => ?_, fun o' => ?_, by rw [size_set]; exact h3, h4, h5, own_off h6 h5⟩
    · have h1 : ∀ o, w.cell? ⟨b, o, none⟩ = cs[o]? := h1
      rw [cell_set]
      by_cases ho : o' = o
      · subst ho; rw [if_pos ⟨rfl, rfl⟩, h1, Array.getElem?_setIfInBounds]; simp
        rcases Nat.lt_or_ge o' cs.size with hl | hl <;> simp [hl]
      · rw [if_neg (by rintro ⟨_, h⟩; exact ho h), h1, Array.getElem?_setIfInBounds, if_neg (Ne.symm ho)]
    · rw [frozen_set]; exact h2 o'
  | @there p L L' u ih =>
    obtain ⟨h1, h2, h3, h4, h5, h6⟩ := h
    have hne : b ≠ p.1 := by
      clear ih h6
      induction u with
      | here => rintro rfl; obtain ⟨ha, _⟩ := h5; simp at ha
      | there _ ih => exact ih h5.2.2
    refine ⟨fun o' => ?_, fun o' => ?_, by rw [size_set]; exact h3, h4, upd_apart u h5, ih h6⟩
    · rw [cell_set, if_neg (by rintro ⟨rfl, _⟩; exact hne rfl)]; exact h1 o'
    · rw [frozen_set]; exact h2 o'
theorem own_ext (h : Own B L w) (e : Below w.heap.size w w') : Own B L w' := by
  induction L with
  | nil => exact Nat.le_trans h e.size
  | cons p L ih =>
    obtain ⟨h1, h2, h3, h4, h5, h6⟩ := h
    exact ⟨fun o => by rw [bel_cell e _ _ h3]; exact h1 o, fun o => by rw [bel_frozen e _ _ h3]; exact h2 o, Nat.lt_of_lt_of_le h3 e.size, h4, h5, ih h6⟩
theorem own_dr {d : Nat} (h : Own B L w) : Own B L (dr w d) := by
  induction L with
  | nil => exact h
  | cons p L ih =>
    obtain ⟨h1, h2, h3, h4, h5, h6⟩ := h
    exact ⟨h1, h2, h3, h4, h5, ih h6⟩
theorem own_start : Own w.heap.size [] w := Nat.le_refl _
theorem own_next {G : Prop} (hk : Own B L w) (he : Ext w w') (k : Own B L w' → G) : G := k (own_ext hk he)
theorem own_same {G : Prop} {d : Nat} (hk : Own B L w) (k : Own B L (dr w d) → G) : G := k (own_dr hk)
theorem ext_next {G : Prop} {w0 w w' : World} (hk : Ext w0 w) (he : Ext w w') (k : Ext w0 w' → G) : G := k (hk.trans he)
end Go.Eng
