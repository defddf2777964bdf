/- Layer 4: the tokens of a part of a text, plainly. -/
import Derived.Test.YtgeifpoaemkadaaXWin
set_option linter.unusedSimpArgs false
set_option linter.unusedVariables false
set_option linter.all false
namespace Go.Lex
open Go Go.Eng
theorem win_next {s t : ByteArray} {o : Nat} (w : Win s t o) (he : o + t.size = s.size) (i : Nat) (hi : i ≤ t.size) : nextF s (o + i) = shR o (nextF t i) := by
  have h1 := (skip_le s (o + i)).2 (by omega)
  have h2 := win_skip w _ i rfl hi (by omega)
  have h3 := (skip_le t i).2 hi
  unfold nextF
  rw [h2]
  exact win_tok w _ (by omega) (.inl he)
def shG (o : Nat) (g : List Tok × Int × Int) : List Tok × Int × Int := (g.1.map (shT o), g.2.1, if g.2.1 ≠ 0 then g.2.2 + o else g.2.2)
theorem win_good {s t : ByteArray} {o : Nat} (w : Win s t o) (he : o + t.size = s.size) : ∀ n i, t.size - i = n → i ≤ t.size → good s (o + i) = shG o (good t i) := by
  intro n
  induction n using Nat.strongRecOn with
  | ind n ih =>
    intro i hn hi
    have hg := next_gt t i hi
    have e1 := good_eq t i hi
    have e2 := good_eq s (o + i) (by omega)
    rw [win_next w he i hi] at e2
    obtain ⟨g1, g2, g3⟩ := hg
    generalize nextF t i = r at *
    obtain ⟨x, er, k⟩ := r
    have g3 : er = 0 → x.kind ≠ 0 → i < k := g3
    have g1 : k ≤ t.size := g1
    have e1 : good t i = if er ≠ 0 then ([], er, x.frm) else if x.kind = 0 then ([x], 0, 0) else (x :: (good t k).1, (good t k).2) := e1
    have e2 : good s (o + i) = if er ≠ 0 then ([], er, x.frm + o) else if x.kind = 0 then ([shT o x], 0, 0) else (shT o x :: (good s (o + k)).1, (good s (o + k)).2) := e2
    rw [e1, e2]
    by_cases he' : er = 0
    · subst he'
      rw [if_neg (show ¬ (0 : Int) ≠ 0 by simp), if_neg (show ¬ (0 : Int) ≠ 0 by simp)]
      by_cases hk : x.kind = 0
      · rw [if_pos hk, if_pos hk]; rfl
      · have g3 := g3 rfl hk
        rw [if_neg hk, if_neg hk, ih (t.size - k) (by omega) k rfl g1]; rfl
    · rw [if_pos he', if_pos he']; simp [shG, he']
theorem skip_blank (s : ByteArray) (h : 0 < s.size) (hc : cls (byteAt s 0) = 1) : skip s 0 = skip s 1 := by
  have := skip_eq s 0
  rwa [if_pos h, if_pos (show cls (byteAt s ((0 : Nat) : Int)) = 1 from hc)] at this
theorem good_blank (s : ByteArray) (h : 0 < s.size) (hc : cls (byteAt s 0) = 1) : good s 0 = good s 1 := by
  rw [good_eq s 0 (by omega), good_eq s 1 (by omega)]
  unfold nextF
  rw [skip_blank s h hc]
theorem byteAt_cons (b : UInt8) (s : ByteArray) (i : Nat) (h : i < s.size) : byteAt s (i : Int) = byteAt (⟨#[b]⟩ ++ s) ((1 + i : Nat) : Int) := by
  have hs : (⟨#[b]⟩ ++ s : ByteArray).size = 1 + s.size := by rw [ByteArray.size_append]; rfl
  rw [byteAt_some s i h, byteAt_some _ (1 + i) (by omega)]
  rw [ByteArray.getElem_append_right (by show 1 ≤ 1 + i; omega)]
  simp only [show (ByteArray.size ⟨#[b]⟩) = 1 from rfl, Nat.add_sub_cancel_left]
theorem win_cons (b : UInt8) (s : ByteArray) : Win (⟨#[b]⟩ ++ s) s 1 :=
  ⟨by rw [ByteArray.size_append]; exact Nat.le_refl _, fun i hi => byteAt_cons b s i hi⟩
theorem size_cons (b : UInt8) (s : ByteArray) : (⟨#[b]⟩ ++ s : ByteArray).size = s.size + 1 := by rw [ByteArray.size_append]; exact Nat.add_comm _ _
theorem byte0_cons (b : UInt8) (s : ByteArray) : byteAt (⟨#[b]⟩ ++ s) 0 = b.toNat := by
  have := byteAt_some (⟨#[b]⟩ ++ s) 0 (by rw [size_cons]; omega)
  rw [Int.natCast_zero] at this
  rw [this, ByteArray.getElem_append_left (by show 0 < 1; omega)]
  rfl
/-- A blank ahead moves all tokens by one place. -/
theorem scan_blank (b : UInt8) (s : ByteArray) (hs : s.size ≤ 100000) (hb : cls b.toNat = 1) : scanF (⟨#[b]⟩ ++ s) = ((scanF s).1.map (shT 1), if (scanF s).2.2 = 0 then 0 else (scanF s).2.1 + 1, (scanF s).2.2) := by
  have h1 : good (⟨#[b]⟩ ++ s) 0 = shG 1 (good s 0) := by
    rw [good_blank _ (by rw [size_cons]; omega) (by rw [byte0_cons]; exact hb)]
    exact win_good (win_cons b s) (by rw [size_cons]; omega) _ 0 rfl (by omega)
  have e1 : (good (⟨#[b]⟩ ++ s) 0).2.1 = (good s 0).2.1 := by rw [h1]; rfl
  have hf : ∀ t : ByteArray, t.size ≤ 200000 → scanF t = if (good t 0).2.1 ≠ 0 then ([], (good t 0).2.2, (good t 0).2.1) else ((good t 0).1, 0, 0) := fun t ht => by unfold scanF; rw [if_neg (by omega)]
  rw [hf _ (by rw [size_cons]; omega), hf s (by omega), e1]
  by_cases he : (good s 0).2.1 = 0
  · rw [if_neg (by omega), if_neg (by omega), if_pos rfl, h1]; rfl
  · rw [if_pos he, if_pos he, if_neg he, h1]
    simp [shG, he]
theorem good_place (s : ByteArray) : ∀ n i, s.size - i = n → i ≤ s.size → (good s i).2.1 ≠ 0 → ∃ b : Nat, (good s i).2.2 = b ∧ i ≤ b ∧ b ≤ s.size := by
  intro n
  induction n using Nat.strongRecOn with
  | ind n ih =>
    intro i hn hi h
    obtain ⟨g1, g2, g3⟩ := next_gt s i hi
    have hf := (tokF_facts s (skip s i) ((skip_le s i).2 hi)).1
    rw [good_eq s i hi] at h ⊢
    by_cases he : (nextF s i).2.1 = 0
    · rw [if_neg (by omega)] at h ⊢
      by_cases hk : (nextF s i).1.kind = 0
      · rw [if_pos hk] at h; exact absurd rfl h
      · rw [if_neg hk] at h ⊢
        have g3 := g3 he hk
        obtain ⟨b, h1, h2, h3⟩ := ih _ (by omega) _ rfl g1 h
        exact ⟨b, h1, by omega, h3⟩
    · rw [if_pos he]
      exact ⟨skip s i, hf, (skip_le s i).1, (skip_le s i).2 hi⟩
def endT (b : Nat) : Tok := ⟨0, ⟨#[]⟩, b, b, 0⟩
theorem next_end_of (t : ByteArray) (i : Nat) (h : skip t i = t.size) : nextF t i = (endT t.size, 0, t.size) := by
  unfold nextF tokF
  rw [h, if_pos (Nat.le_refl _)]; rfl
theorem good_end_of (t : ByteArray) (i : Nat) (hi : i ≤ t.size) (h : skip t i = t.size) : good t i = ([endT t.size], 0, 0) := by
  rw [good_eq t i hi, next_end_of t i h]; rfl
/-- The tokens ahead of the first that is wrong are those of the bytes ahead of it. -/
theorem good_pre {s t : ByteArray} (w : Win s t 0) : ∀ n i, t.size - i = n → i ≤ t.size → (good s i).2.1 ≠ 0 → (good s i).2.2 = t.size → good t i = ((good s i).1 ++ [endT t.size], 0, 0) := by
  intro n
  induction n using Nat.strongRecOn with
  | ind n ih =>
    intro i hn hi h hp
    have hle := w.le
    obtain ⟨g1, g2, g3⟩ := next_gt s i (by omega)
    obtain ⟨f1, f2, f3, f4, f5, f6⟩ := tokF_facts s (skip s i) ((skip_le s i).2 (by omega))
    rw [good_eq s i (by omega)] at h hp ⊢
    have hsk := win_skip w _ i rfl hi
    rw [Nat.zero_add] at hsk
    by_cases he : (nextF s i).2.1 = 0
    · rw [if_neg (by omega)] at h hp ⊢
      by_cases hk : (nextF s i).1.kind = 0
      · rw [if_pos hk] at h; exact absurd rfl h
      · rw [if_neg hk] at h hp ⊢
        have g3 := g3 he hk
        obtain ⟨b, h1, h2, h3⟩ := good_place s _ _ rfl g1 h
        dsimp only at hp
        have hb : b = t.size := by omega
        have hk2 : (nextF s i).2.2 ≤ t.size := by omega
        have hlt : skip s i < s.size := by
          refine Classical.byContradiction fun hc => hk ?_
          exact (f4 (by omega)).2.1
        have hlt2 := (f6 hlt he).2.1
        change skip s i < (nextF s i).2.2 at hlt2
        have hst := hsk (by omega)
        rw [Nat.zero_add] at hst
        have ht := win_tok w (skip t i) (.inl (by omega)) (by
          rw [Nat.zero_add, Nat.zero_add, ← hst]
          exact .inr ⟨he, by change (nextF s i).2.2 ≤ _; omega⟩)
        rw [Nat.zero_add, ← hst] at ht
        have ht2 : nextF t i = nextF s i := by
          unfold nextF
          rw [ht, ← hst]
          simp [shR, shT]
        rw [good_eq t i hi, ht2, if_neg (by omega), if_neg hk, ih _ (by omega) _ rfl hk2 h hp]
        rfl
    · rw [if_pos he] at hp ⊢
      dsimp only at hp
      change (nextF s i).1.frm = _ at f1
      have hst := hsk (by omega)
      rw [Nat.zero_add] at hst
      rw [good_end_of t i hi (by omega)]
      rfl
/-- Between tokens is nothing but blanks and notes. -/
theorem good_gap (s : ByteArray) (a : Nat) (ha : a ≤ s.size) : (good (s.extract a (skip s a)) 0).1.length = 1 ∧ (good (s.extract a (skip s a)) 0).2.1 = 0 := by
  obtain ⟨h1, h2⟩ := skip_le s a
  have h2 := h2 ha
  have w := win_extract s a (skip s a) ⟨h1, h2⟩
  have hsz := extract_size s a (skip s a) ⟨h1, h2⟩
  have hsk := win_skip w _ 0 rfl (by omega) (by rw [Nat.add_zero]; omega)
  rw [Nat.add_zero] at hsk
  rw [good_end_of _ 0 (by omega) (by omega)]
  exact ⟨rfl, rfl⟩
theorem good_ne (s : ByteArray) (i : Nat) (hi : i ≤ s.size) (h : (good s i).2.1 = 0) : (good s i).1 ≠ [] := by
  rw [good_eq s i hi] at h ⊢
  by_cases he : (nextF s i).2.1 = 0
  · rw [if_neg (by omega)]
    split <;> simp
  · rw [if_pos he] at h; exact absurd h he
theorem good_len (s : ByteArray) : ∀ n i, s.size - i = n → i ≤ s.size → (good s i).1.length ≤ s.size - i + 1 := by
  intro n
  induction n using Nat.strongRecOn with
  | ind n ih =>
    intro i hn hi
    obtain ⟨g1, g2, g3⟩ := next_gt s i hi
    rw [good_eq s i hi]
    split
    · simp
    · rename_i he
      split
      · simp
      · rename_i hk
        have g3 := g3 (by omega) hk
        have := ih _ (by omega) _ rfl g1
        rw [List.length_cons]; omega
/-- The tokens that are told one by one. -/
def told (s : ByteArray) : List Tok := if (good s 0).2.1 ≠ 0 then (good s 0).1 else (good s 0).1.dropLast
theorem told_pre (s : ByteArray) (b : Nat) (h : (good s 0).2.1 ≠ 0) (hb : (good s 0).2.2 = b) : b ≤ s.size ∧ (good (s.extract 0 b) 0).2.1 = 0 ∧ (good (s.extract 0 b) 0).1 = told s ++ [endT b] := by
  obtain ⟨b', h1, h2, h3⟩ := good_place s _ 0 rfl (by omega) h
  obtain rfl : b' = b := by omega
  have w := win_extract s 0 b' ⟨h2, h3⟩
  have hsz := extract_size s 0 b' ⟨h2, h3⟩
  have := good_pre w _ 0 rfl (by omega) h (by omega)
  refine ⟨h3, by rw [this], ?_⟩
  rw [this, hsz]
  unfold told
  rw [if_pos h]; rfl
end Go.Lex
