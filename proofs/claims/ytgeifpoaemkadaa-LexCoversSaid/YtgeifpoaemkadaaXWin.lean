/- Layer 4: a part of a text, and the tokens in it. -/
import Derived.Test.YtgeifpoaemkadaaXGood
set_option linter.unusedSimpArgs false
set_option linter.unusedVariables false
set_option linter.all false
namespace Go.Lex
open Go Go.Eng
/-- t is the part of s that begins at o. -/
structure Win (s t : ByteArray) (o : Nat) : Prop where
  le : o + t.size ≤ s.size
  at_ : ∀ i : Nat, i < t.size → byteAt t (i : Int) = byteAt s ((o + i : Nat) : Int)
theorem win_extract (s : ByteArray) (a b : Nat) (h : a ≤ b ∧ b ≤ s.size) : Win s (s.extract a b) a :=
  ⟨by rw [extract_size s a b h]; omega, fun i hi => by rw [extract_size s a b h] at hi; exact byteAt_extract s a b i (by omega)⟩
theorem win_run {s t : ByteArray} {o : Nat} (w : Win s t o) : ∀ n i, t.size - i = n → i ≤ t.size → run s (o + i) ≤ o + t.size → run s (o + i) = o + run t i := by
  intro n
  induction n with
  | zero =>
    intro i hn hi h
    have := (run_le s (o + i)).1
    rw [run_eq t i, if_neg (by omega)]; omega
  | succ n ih =>
    intro i hn hi h
    have hlt : i < t.size := by omega
    have hb := w.at_ i hlt
    have hle := w.le
    rw [run_eq t i]
    rw [run_eq s (o + i)] at h ⊢
    by_cases hw : wordy (byteAt t i) = true
    · rw [if_pos ⟨by omega, by rw [← hb]; exact hw⟩] at h ⊢
      rw [if_pos ⟨hlt, hw⟩]
      exact ih (i + 1) (by omega) (by omega) h
    · rw [if_neg (by rw [← hb]; exact fun h => hw h.2), if_neg (fun h => hw h.2)]
theorem win_note {s t : ByteArray} {o : Nat} (w : Win s t o) : ∀ n i, t.size - i = n → i ≤ t.size → note s (o + i) ≤ o + t.size → note s (o + i) = o + note t i := by
  intro n
  induction n with
  | zero =>
    intro i hn hi h
    have := (note_le s (o + i)).1
    rw [note_eq t i, if_neg (by omega)]; omega
  | succ n ih =>
    intro i hn hi h
    have hlt : i < t.size := by omega
    have hb := w.at_ i hlt
    have hle := w.le
    rw [note_eq t i]
    rw [note_eq s (o + i)] at h ⊢
    by_cases hw : byteAt t i ≠ 10
    · rw [if_pos ⟨by omega, by rw [← hb]; exact hw⟩] at h ⊢
      rw [if_pos ⟨hlt, hw⟩]
      exact ih (i + 1) (by omega) (by omega) h
    · rw [if_neg (by rw [← hb]; exact fun h => hw h.2), if_neg (fun h => hw h.2)]
theorem note_two (s : ByteArray) (i : Nat) (h : isNote s i) : i + 2 ≤ note s i := by
  obtain ⟨h1, h2, h3⟩ := h
  rw [note_eq, if_pos ⟨by omega, by omega⟩, note_eq, if_pos ⟨by omega, by push_cast; omega⟩]
  have := (note_le s (i + 1 + 1)).1
  omega
theorem win_skip {s t : ByteArray} {o : Nat} (w : Win s t o) : ∀ n i, t.size - i = n → i ≤ t.size → skip s (o + i) ≤ o + t.size → skip s (o + i) = o + skip t i := by
  intro n
  induction n using Nat.strongRecOn with
  | ind n ih =>
    intro i hn hi h
    have hle := w.le
    have hge := (skip_le s (o + i)).1
    by_cases hlt : i < t.size
    · have hb := w.at_ i hlt
      rw [skip_eq t i, if_pos hlt]
      rw [skip_eq s (o + i), if_pos (by omega)] at h ⊢
      rw [← hb] at h ⊢
      by_cases hc : cls (byteAt t i) = 1
      · rw [if_pos hc] at h ⊢
        rw [if_pos hc]
        exact ih (t.size - (i + 1)) (by omega) (i + 1) rfl (by omega) h
      · rw [if_neg hc] at h ⊢
        rw [if_neg hc]
        by_cases hs : isNote s (o + i)
        · rw [if_pos hs] at h ⊢
          have h2 := note_two s (o + i) hs
          have h3 := (skip_le s (note s (o + i))).1
          have hnw := win_note w _ i rfl hi (by omega)
          have ht : isNote t i := by
            obtain ⟨n1, n2, n3⟩ := hs
            refine ⟨by rw [hb]; exact n1, by omega, ?_⟩
            have := w.at_ (i + 1) (by omega)
            rw [show ((i : Int) + 1) = ((i + 1 : Nat) : Int) by omega, this, show ((o + (i + 1) : Nat) : Int) = ((o + i : Nat) : Int) + 1 by omega]
            exact n3
          rw [if_pos ht]
          rw [hnw] at h ⊢
          have := note_lt t i ht
          have := (note_le t i).2 hi
          exact ih (t.size - note t i) (by omega) (note t i) rfl (by omega) h
        · rw [if_neg hs] at h ⊢
          have ht : ¬ isNote t i := by
            rintro ⟨n1, n2, n3⟩
            refine hs ⟨by rw [← hb]; exact n1, by omega, ?_⟩
            have := w.at_ (i + 1) n2
            rw [show ((o + i : Nat) : Int) + 1 = ((o + (i + 1) : Nat) : Int) by omega, ← this]
            exact n3
          rw [if_neg ht]
    · rw [skip_eq t i, if_neg hlt]; omega
theorem win_ext {s t : ByteArray} {o : Nat} (w : Win s t o) (a b : Nat) (h : a ≤ b ∧ b ≤ t.size) : s.extract (o + a) (o + b) = t.extract a b := by
  have hle := w.le
  refine ext_byteAt _ _ (by rw [extract_size _ _ _ (by omega), extract_size _ _ _ h]; omega) fun i hi => ?_
  rw [extract_size _ _ _ (by omega)] at hi
  rw [byteAt_extract _ _ _ _ (by omega), byteAt_extract _ _ _ _ (by omega), w.at_ (a + i) (by omega)]
  congr 1; omega
theorem win_atF {s t : ByteArray} {o : Nat} (w : Win s t o) (i : Nat) (h : i < t.size ∨ o + t.size = s.size) : atF s ((o + i : Nat) : Int) = atF t (i : Int) := by
  have hle := w.le
  unfold atF
  by_cases hi : i < t.size
  · rw [if_pos (by omega), if_pos (by omega), w.at_ i hi]
  · rw [if_neg (by omega), if_neg (by omega)]
theorem win_sgn {s t : ByteArray} {o : Nat} (w : Win s t o) (j : Nat) (hj : j < t.size) (h : o + t.size = s.size ∨ (sgn s (o + j) ≠ 0 ∧ j + (sgn s (o + j)).toNat ≤ t.size)) : sgn s (o + j) = sgn t j := by
  have hb := w.at_ j hj
  by_cases hw : j + 1 < t.size ∨ o + t.size = s.size
  · have := win_atF w (j + 1) hw
    unfold sgn
    rw [← hb, show ((o + j : Nat) : Int) + 1 = ((o + (j + 1) : Nat) : Int) by omega, this, show ((j + 1 : Nat) : Int) = (j : Int) + 1 by omega]
  · have h1 : sgn s (o + j) = 1 := by
      rcases sgn_two s (o + j) with h2 | h2 | ⟨h2, _⟩
      · exact absurd h2 (by omega)
      · exact h2
      · rw [h2] at h; omega
    rw [h1]
    have h0 : atF t ((j : Int) + 1) = 0 := by unfold atF; rw [if_neg (by omega)]
    unfold sgn at h1 ⊢
    rw [h0, hb]
    split at h1
    · rename_i h4
      rw [if_pos h4]
      unfold sgnF at h1 ⊢
      (repeat' split at h1) <;> (repeat' split) <;> omega
    · omega
def shT (o : Nat) (t : Tok) : Tok := ⟨t.kind, t.text, t.frm + o, t.to + o, t.n⟩
def shR (o : Nat) (r : Tok × Int × Nat) : Tok × Int × Nat := (shT o r.1, r.2.1, o + r.2.2)
theorem win_tok {s t : ByteArray} {o : Nat} (w : Win s t o) (j : Nat) (hj : j < t.size ∨ (j = t.size ∧ o + t.size = s.size)) (h : o + t.size = s.size ∨ ((tokF s (o + j)).2.1 = 0 ∧ (tokF s (o + j)).2.2 ≤ o + t.size)) : tokF s (o + j) = shR o (tokF t j) := by
  have hle := w.le
  rcases hj with hj | ⟨hj, hs⟩
  · have hb := w.at_ j hj
    unfold tokF at h ⊢
    rw [if_neg (show ¬ s.size ≤ o + j by omega)] at h ⊢
    rw [if_neg (show ¬ t.size ≤ j by omega)]
    rw [← hb] at h ⊢
    by_cases h2 : cls (byteAt t j) = 2
    · rw [if_pos h2] at h ⊢
      rw [if_pos h2]
      have hr := win_run w _ j rfl (by omega) (by rcases h with h | h; have := (run_le s (o + j)).2 (by omega); omega; exact h.2)
      have := (run_le t j).2 (by omega)
      rw [hr, win_ext w j (run t j) ⟨(run_le t j).1, this⟩]
      simp only [shR, shT, Prod.mk.injEq, Tok.mk.injEq, true_and, and_true]
      omega
    rw [if_neg h2] at h ⊢
    rw [if_neg h2]
    by_cases h3 : cls (byteAt t j) = 3
    · rw [if_pos h3] at h ⊢
      rw [if_pos h3]
      have hr := win_run w _ j rfl (by omega) (by
        rcases h with h | h
        · have := (run_le s (o + j)).2 (by omega); omega
        · split at h
          · exact h.2
          · exact absurd h.1 (by simp))
      have := (run_le t j).2 (by omega)
      rw [hr, win_ext w j (run t j) ⟨(run_le t j).1, this⟩]
      split <;> (simp only [shR, shT, Prod.mk.injEq, Tok.mk.injEq, true_and, and_true]; omega)
    rw [if_neg h3] at h ⊢
    rw [if_neg h3]
    by_cases h5 : cls (byteAt t j) = 5
    · rw [if_pos h5] at h ⊢
      rw [if_pos h5]
      have hr : min (o + j + 3) s.size = o + min (j + 3) t.size := by
        rcases h with h | h
        · omega
        · split at h
          · have := h.2; dsimp only at this; omega
          · exact absurd h.1 (by simp)
      rw [hr, win_ext w j (min (j + 3) t.size) (by omega)]
      split <;> (simp only [shR, shT, Prod.mk.injEq, Tok.mk.injEq, true_and, and_true]; omega)
    rw [if_neg h5] at h ⊢
    rw [if_neg h5]
    by_cases h4 : cls (byteAt t j) = 4
    · rw [if_pos h4] at h ⊢
      rw [if_pos h4]
      have hr := win_sgn w j hj (by
        rcases h with h | h
        · exact .inl h
        · split at h
          · exact absurd h.1 (by simp)
          · rename_i hz
            exact .inr ⟨hz, by have := h.2; simp only at this; omega⟩)
      rw [hr]
      by_cases hz : sgn t j = 0
      · rw [if_pos hz, if_pos hz, win_ext w j j (by omega)]
        simp only [shR, shT, Prod.mk.injEq, Tok.mk.injEq, true_and, and_true]; omega
      · rw [if_neg hz, if_neg hz]
        have hk : j + (sgn t j).toNat ≤ t.size := by
          rcases sgn_two t j with h | h | ⟨h, h'⟩ <;> omega
        rw [show o + j + (sgn t j).toNat = o + (j + (sgn t j).toNat) by omega, win_ext w j (j + (sgn t j).toNat) (by omega)]
        simp only [shR, shT, Prod.mk.injEq, Tok.mk.injEq, true_and, and_true]; omega
    rw [if_neg h4, if_neg h4, win_ext w j j (by omega)]
    simp only [shR, shT, Prod.mk.injEq, Tok.mk.injEq, true_and, and_true]; omega
  · unfold tokF
    rw [if_pos (by omega), if_pos (by omega)]
    simp only [shR, shT, Prod.mk.injEq, Tok.mk.injEq, true_and, and_true]; omega
end Go.Lex
