/- Layer 4: the tokens of a text, plainly. -/
import Derived.Test.YtgeifpoaemkadaaXNext
set_option linter.unusedSimpArgs false
set_option linter.unusedVariables false
set_option linter.all false
namespace Go.Lex
open Go Go.Eng
theorem sgn_two (s : ByteArray) (j : Nat) : sgn s j = 0 ∨ sgn s j = 1 ∨ (sgn s j = 2 ∧ j + 1 < s.size) := by
  unfold sgn
  split
  · by_cases hz : (j : Int) + 1 < s.size
    · unfold sgnF; (repeat' split) <;> simp <;> omega
    · have : atF s ((j : Int) + 1) = 0 := by unfold atF; rw [if_neg hz]
      rw [this]
      unfold sgnF; (repeat' split) <;> simp <;> omega
  · simp
/-- Where a token is found it ends behind its beginning; a token's own places. -/
theorem tokF_facts (s : ByteArray) (j : Nat) (hj : j ≤ s.size) :
    (tokF s j).1.frm = j ∧ j ≤ (tokF s j).2.2 ∧ (tokF s j).2.2 ≤ s.size ∧ (s.size ≤ j → (tokF s j).2.1 = 0 ∧ (tokF s j).1.kind = 0 ∧ (tokF s j).1.text = ⟨#[]⟩ ∧ (tokF s j).2.2 = j ∧ (tokF s j).1.n = 0) ∧ ((tokF s j).2.1 = 0 → (tokF s j).1.to = ((tokF s j).2.2 : Nat)) ∧
    (j < s.size → (tokF s j).2.1 = 0 → (tokF s j).1.kind ≠ 0 ∧ j < (tokF s j).2.2 ∧ (tokF s j).1.text = s.extract j (tokF s j).2.2) := by
  obtain ⟨r1, r2⟩ := run_le s j
  have r2 := r2 hj
  unfold tokF
  by_cases h : s.size ≤ j
  · rw [if_pos h]; exact ⟨rfl, Nat.le_refl _, hj, fun _ => ⟨rfl, rfl, rfl, rfl, rfl⟩, fun _ => rfl, fun h' => by omega⟩
  rw [if_neg h]
  by_cases h2 : cls (byteAt s j) = 2
  · rw [if_pos h2]
    have := run_gt s j (by omega) (Or.inl h2)
    exact ⟨rfl, r1, r2, fun h' => by omega, fun _ => rfl, fun _ _ => ⟨by simp only; split <;> decide, this, rfl⟩⟩
  rw [if_neg h2]
  by_cases h3 : cls (byteAt s j) = 3
  · rw [if_pos h3]
    have := run_gt s j (by omega) (Or.inr h3)
    split
    · exact ⟨rfl, r1, r2, fun h' => by omega, fun _ => rfl, fun _ _ => ⟨by simp, this, rfl⟩⟩
    · exact ⟨rfl, Nat.le_refl _, hj, fun h' => by omega, fun h => absurd h (by simp), fun _ h => absurd h (by simp)⟩
  rw [if_neg h3]
  by_cases h5 : cls (byteAt s j) = 5
  · rw [if_pos h5]
    split
    · exact ⟨rfl, by simp only; omega, by simp only; omega, fun h' => by omega, fun _ => rfl, fun _ _ => ⟨by simp, by simp only; omega, rfl⟩⟩
    · exact ⟨rfl, Nat.le_refl _, hj, fun h' => by omega, fun h => absurd h (by simp), fun _ h => absurd h (by simp)⟩
  rw [if_neg h5]
  by_cases h4 : cls (byteAt s j) = 4
  · rw [if_pos h4]
    rcases sgn_two s j with hg | hg | ⟨hg, hz⟩
    · rw [if_pos hg]; exact ⟨rfl, Nat.le_refl _, hj, fun h' => by omega, fun h => absurd h (by simp), fun _ h => absurd h (by simp)⟩
    · rw [if_neg (by omega), hg]; exact ⟨rfl, by simp only; omega, by simp only; omega, fun h' => by omega, fun _ => rfl, fun _ _ => ⟨by simp, by simp only; omega, rfl⟩⟩
    · rw [if_neg (by omega), hg]; exact ⟨rfl, by simp only; omega, by simp only; omega, fun h' => by omega, fun _ => rfl, fun _ _ => ⟨by simp, by simp only; omega, rfl⟩⟩
  rw [if_neg h4]
  exact ⟨rfl, Nat.le_refl _, hj, fun h' => by omega, fun h => absurd h (by simp), fun _ h => absurd h (by simp)⟩
theorem next_gt (s : ByteArray) (i : Nat) (hi : i ≤ s.size) : (nextF s i).2.2 ≤ s.size ∧ i ≤ (nextF s i).2.2 ∧ ((nextF s i).2.1 = 0 → (nextF s i).1.kind ≠ 0 → i < (nextF s i).2.2) := by
  obtain ⟨h1, h2⟩ := skip_le s i
  obtain ⟨_, h3, h4, h5, _, h6⟩ := tokF_facts s (skip s i) (h2 hi)
  unfold nextF
  refine ⟨h4, by omega, fun a b => ?_⟩
  by_cases h : s.size ≤ skip s i
  · exact absurd (h5 h).2.1 b
  · have := (h6 (by omega) a).2.1; omega
/-- The tokens from a place on, the end's among them; else the error and its place. -/
def goodN (s : ByteArray) : Nat → Nat → List Tok × Int × Int
  | 0, _ => ([], 0, 0)
  | f + 1, i => if (nextF s i).2.1 ≠ 0 then ([], (nextF s i).2.1, (nextF s i).1.frm) else if (nextF s i).1.kind = 0 then ([(nextF s i).1], 0, 0) else ((nextF s i).1 :: (goodN s f (nextF s i).2.2).1, (goodN s f (nextF s i).2.2).2)
def good (s : ByteArray) (i : Nat) : List Tok × Int × Int := goodN s (s.size - i + 1) i
theorem goodN_fuel (s : ByteArray) : ∀ f g i, s.size - i < f → s.size - i < g → i ≤ s.size → goodN s f i = goodN s g i := by
  intro f
  induction f with
  | zero => intro g i h; omega
  | succ f ih =>
    intro g i hf hg hi
    cases g with
    | zero => omega
    | succ g =>
      unfold goodN
      split
      · rfl
      · rename_i h1
        split
        · rfl
        · rename_i h2
          obtain ⟨h3, _, h4⟩ := next_gt s i hi
          have h4 := h4 (by omega) h2
          rw [ih g _ (by omega) (by omega) h3]
theorem good_eq (s : ByteArray) (i : Nat) (hi : i ≤ s.size) : good s i = if (nextF s i).2.1 ≠ 0 then ([], (nextF s i).2.1, (nextF s i).1.frm) else if (nextF s i).1.kind = 0 then ([(nextF s i).1], 0, 0) else ((nextF s i).1 :: (good s (nextF s i).2.2).1, (good s (nextF s i).2.2).2) := by
  conv => lhs; unfold good goodN
  split
  · rfl
  · rename_i h1
    split
    · rfl
    · rename_i h2
      obtain ⟨h3, _, h4⟩ := next_gt s i hi
      have h4 := h4 (by omega) h2
      rw [show goodN s (s.size - i) (nextF s i).2.2 = good s (nextF s i).2.2 from goodN_fuel s _ _ _ (by omega) (by omega) h3]
def scanF (s : ByteArray) : List Tok × Int × Int := if 200000 < s.size then ([], 0, 2) else if (good s 0).2.1 ≠ 0 then ([], (good s 0).2.2, (good s 0).2.1) else ((good s 0).1, 0, 0)
def encT (l : List Tok) : List Value := l.flatMap tokV
theorem encT_nil : encT [] = [] := rfl
theorem encT_snoc (l : List Tok) (t : Tok) : encT (l ++ [t]) = encT l ++ tokV t := by unfold encT; simp
theorem encT_len (l : List Tok) : (encT l).length = l.length * 5 := by
  unfold encT
  induction l with
  | nil => rfl
  | cons a l ih => rw [List.flatMap_cons, List.length_append, ih]; simp only [tokV, List.length_cons, List.length_nil]; omega
theorem oneAll_tok (t : Tok) : oneAll (tokV t) = true := rfl
end Go.Lex
