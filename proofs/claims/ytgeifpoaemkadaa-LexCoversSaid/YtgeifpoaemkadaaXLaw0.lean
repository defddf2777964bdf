/- Layer 4: bounds; what Scan answers. -/
import Derived.Test.YtgeifpoaemkadaaXSame
import Derived.Test.YtgeifpoaemkadaaXWin2
set_option linter.unusedSimpArgs false
set_option linter.unusedVariables false
set_option linter.all false
namespace Go.Lex
open Go Go.Eng
theorem good_bounds (s : ByteArray) : ∀ n i, s.size - i = n → i ≤ s.size → ∀ t ∈ (good s i).1, 0 ≤ t.frm ∧ t.frm ≤ s.size ∧ 0 ≤ t.to ∧ t.to ≤ s.size := by
  intro n
  induction n using Nat.strongRecOn with
  | ind n ih =>
    intro i hn hi t ht
    obtain ⟨g1, g2, g3⟩ := next_gt s i hi
    have hsk := (skip_le s i).2 hi
    obtain ⟨f1, f2, f3, f4, f5, f6⟩ := tokF_facts s (skip s i) hsk
    change (nextF s i).1.frm = _ at f1
    change (nextF s i).2.1 = 0 → (nextF s i).1.to = ((nextF s i).2.2 : Nat) at f5
    rw [good_eq s i hi] at ht
    by_cases he : (nextF s i).2.1 = 0
    · rw [if_neg (by omega)] at ht
      have f5 := f5 he
      by_cases hk : (nextF s i).1.kind = 0
      · rw [if_pos hk] at ht
        obtain rfl := List.mem_singleton.1 ht
        omega
      · rw [if_neg hk] at ht
        rcases List.mem_cons.1 ht with rfl | ht
        · omega
        · exact ih _ (by have := g3 he hk; omega) _ rfl g1 t ht
    · rw [if_pos he] at ht; cases ht
theorem scan_bounds (s : ByteArray) (hs : s.size ≤ 200000) : (∀ t ∈ (scanF s).1, 0 ≤ t.frm ∧ t.frm ≤ s.size ∧ 0 ≤ t.to ∧ t.to ≤ s.size) ∧ 0 ≤ (scanF s).2.1 ∧ (scanF s).2.1 ≤ s.size ∧ (scanF s).1.length ≤ s.size + 1 ∧ ((scanF s).2.2 ≠ 0 → (scanF s).1 = []) ∧ ((scanF s).2.2 = 0 → (scanF s).2.1 = 0 ∧ (scanF s).1 = (good s 0).1 ∧ (good s 0).2.1 = 0) := by
  have hb := good_bounds s _ 0 rfl (by omega)
  have hl := good_len s _ 0 rfl (by omega)
  unfold scanF
  rw [if_neg (by omega)]
  by_cases he : (good s 0).2.1 = 0
  · rw [if_neg (by omega)]
    exact ⟨hb, by simp, by simp, by simpa using hl, fun h => absurd rfl h, fun _ => ⟨rfl, rfl, he⟩⟩
  · rw [if_pos he]
    obtain ⟨b, h1, h2, h3⟩ := good_place s _ 0 rfl (by omega) he
    exact ⟨by simp, by simp; omega, by simp; omega, by simp, fun _ => rfl, fun h => absurd h he⟩
end Go.Lex
namespace Go.Proofs.Ytgeifpoaemkadaa
open Go Go.Eng Go.Lex
theorem onceG {Q : Prop} {γ : Type} (ρ : γ → List (Nat × Value)) (Pre : γ → Mem → Lst → Prop) (G : En → Mem → Lst → Prop) (h1 : Kf (∀ g e m L, Fits e (ρ g) → Pre g m L → G e m L) → Q) (h2 : ∀ g e m L, Fits e (ρ g) → Pre g m L → G e m L) : Q := h1 ⟨h2⟩
theorem loop_lst {C : LPA} {e : En} {ds : DS} {m : Mem} {L : Lst} (h : ∀ L0, L = L0 → @loopCA C e ds m L0) : @loopCA C e ds m L := h L rfl
/-- What Scan answers, with names for its parts. -/
theorem scan_parts (s : ByteArray) (l : List Tok) (at' er : Int) (h : scanF s = (l, at', er)) (m : Mem) : Cta Try.prog 10 [.string s] m [] (fun v m' L' => m' = m ∧ ∃ p c, v = .tuple #[.slice p l.length c, .int .i64 at', .int .i64 er] ∧ TokS p c l L') := by
  have := scan_ct s m
  unfold ScanR at this
  rw [h] at this
  exact this
end Go.Proofs.Ytgeifpoaemkadaa
