/- Layer 4: the next token, plainly. -/
import Derived.Test.YtgeifpoaemkadaaXNum4
import Derived.Test.YtgeifpoaemkadaaXSkip
import Derived.Test.YtgeifpoaemkadaaXWord
import Derived.Test.YtgeifpoaemkadaaXSign
set_option linter.unusedSimpArgs false
set_option linter.unusedVariables false
set_option linter.all false
namespace Go.Lex
open Go Go.Eng
structure Tok where
  kind : Int
  text : ByteArray
  frm : Int
  to : Int
  n : Int
def tokV (t : Tok) : List Value := [.int .i64 t.kind, .string t.text, .int .i64 t.frm, .int .i64 t.to, .int .i64 t.n]
theorem skipN_le (s : ByteArray) : ∀ f i, i ≤ skipN s f i ∧ (i ≤ s.size → skipN s f i ≤ s.size) := by
  intro f
  induction f with
  | zero => intro i; exact ⟨Nat.le_refl _, id⟩
  | succ f ih =>
    intro i
    unfold skipN
    split
    · split
      · obtain ⟨h1, h2⟩ := ih (i + 1); exact ⟨by omega, fun _ => h2 (by omega)⟩
      · split
        · obtain ⟨h1, h2⟩ := ih (note s i)
          obtain ⟨h3, h4⟩ := note_le s i
          exact ⟨by omega, fun h => h2 (h4 h)⟩
        · exact ⟨Nat.le_refl _, id⟩
    · exact ⟨Nat.le_refl _, id⟩
theorem skip_le (s : ByteArray) (i : Nat) : i ≤ skip s i ∧ (i ≤ s.size → skip s i ≤ s.size) := skipN_le s _ i
/-- The token at a place, or an error; and the place behind. -/
def tokF (s : ByteArray) (j : Nat) : Tok × Int × Nat :=
  if s.size ≤ j then (⟨0, ⟨#[]⟩, j, j, 0⟩, 0, j)
  else if cls (byteAt s j) = 2 then (⟨if isWord (s.extract j (run s j)) then 2 else 1, s.extract j (run s j), j, run s j, 0⟩, 0, run s j)
  else if cls (byteAt s j) = 3 then (if (number (s.extract j (run s j))).2 then (⟨4, s.extract j (run s j), j, run s j, (number (s.extract j (run s j))).1⟩, 0, run s j) else (⟨4, s.extract j (run s j), j, j, 0⟩, 41, j))
  else if cls (byteAt s j) = 5 then (if (number (s.extract j (min (j + 3) s.size))).2 then (⟨4, s.extract j (min (j + 3) s.size), j, (min (j + 3) s.size : Nat), (number (s.extract j (min (j + 3) s.size))).1⟩, 0, min (j + 3) s.size) else (⟨4, s.extract j (min (j + 3) s.size), j, j, 0⟩, 41, j))
  else if cls (byteAt s j) = 4 then (if sgn s j = 0 then (⟨3, s.extract j j, j, j, 0⟩, 40, j) else (⟨3, s.extract j (j + (sgn s j).toNat), j, (j + (sgn s j).toNat : Nat), 0⟩, 0, j + (sgn s j).toNat))
  else (⟨0, s.extract j j, j, j, 0⟩, 40, j)
def nextF (s : ByteArray) (i : Nat) : Tok × Int × Nat := tokF s (skip s i)
theorem run_gt (s : ByteArray) (j : Nat) (h : j < s.size) (hc : cls (byteAt s j) = 2 ∨ cls (byteAt s j) = 3) : j < run s j := by
  rw [run_eq, if_pos ⟨h, by unfold wordy; simp [hc]⟩]
  have := (run_le s (j + 1)).1
  omega
end Go.Lex
namespace Go.Proofs.Ytgeifpoaemkadaa
open Go Go.Eng Go.Lex
def NextC (s : ByteArray) (a : Nat) : Prop := ∀ (x : Nat) (m : Mem), Cta Try.prog 22 [ptr x] m [(x, sco s a)] (fun v m' L' => m' = m ∧ L' = [(x, sco s (nextF s a).2.2)] ∧ v = .tuple #[.agg (tokV (nextF s a).1).toArray, .int .i64 (nextF s a).2.1])
theorem skipC (x : Nat) (s : ByteArray) (a j : Nat) (hs : s.size ≤ 1000000) (ha : a ≤ s.size) (hj : skip s a = j) (m : Mem) : Cta Try.prog 37 [ptr x] m [(x, sco s a)] (fun v m' L' => m' = m ∧ L' = [(x, sco s j)]) := by
  rw [← hj]; exact skip_ct x s a (by omega) ha m
theorem peekC (x : Nat) (s : ByteArray) (j : Nat) (c : Int) (hs : s.size ≤ 1000000) (hj : j < s.size) (hc : cls (byteAt s j) = c) (m : Mem) : Obs Try.prog 31 [ptr x, .int .i64 0] m [(x, sco s j)] (· = .int .i64 c) := by
  have := peek_ct x s j 0 (by omega) (by omega) (by omega) m
  unfold pkc at this
  rw [Int.add_zero, if_neg (by omega), hc] at this
  exact this
theorem peekE (x : Nat) (s : ByteArray) (j : Nat) (hs : s.size ≤ 1000000) (hj : j = s.size) (m : Mem) : Obs Try.prog 31 [ptr x, .int .i64 0] m [(x, sco s j)] (· = .int .i64 0) := by
  have := peek_ct x s j 0 (by omega) (by omega) (by omega) m
  unfold pkc at this
  rw [Int.add_zero, if_pos (by omega)] at this
  exact this
theorem goesC (x : Nat) (s : ByteArray) (j k : Nat) (hs : s.size ≤ 1000000) (hj : j ≤ s.size) (hk : run s j = k) (m : Mem) : Obs Try.prog 32 [ptr x] m [(x, sco s j)] (· = .int .i64 ((k : Int) - j)) := by
  rw [← hk]; exact goes_ct x s j (by omega) hj m
end Go.Proofs.Ytgeifpoaemkadaa
