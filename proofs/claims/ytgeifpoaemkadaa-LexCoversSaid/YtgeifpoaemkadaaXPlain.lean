/- Layer 4: what bytes, signs, words and tokens are, plainly. -/
import Derived.Test.YtgeifpoaemkadaaXClass
set_option linter.unusedSimpArgs false
set_option linter.unusedVariables false
set_option linter.all false
namespace Go.Lex
open Go Go.Eng
def clsV (c : Nat) : Int :=
  if (97 ≤ c ∧ c ≤ 122) ∨ (65 ≤ c ∧ c ≤ 90) ∨ c = 95 then 2 else if 48 ≤ c ∧ c ≤ 57 then 3 else if c = 32 ∨ c = 9 ∨ c = 10 ∨ c = 13 then 1 else if c = 39 then 5
  else if c ∈ [40, 41, 123, 125, 91, 93, 44, 59, 46, 61, 43, 45, 42, 47, 37, 38, 124, 94, 60, 62, 33, 126] then 4 else 0
set_option maxRecDepth 100000 in
theorem cls_all : (List.range 256).all (fun c => clsF[c]? == some (clsV c)) = true := by decide +kernel
def cls (c : Int) : Int := clsV c.toNat
def KL : List Value := clsF.map (Value.int .i64)
theorem KL_len : KL.length = 256 := by unfold KL; rw [List.length_map, clsF_len]
theorem KL_at (c : Int) (h : 0 ≤ c ∧ c < 256) : KL[c.toNat]? = some (.int .i64 (cls c)) := by
  have h1 := List.all_eq_true.1 cls_all c.toNat (List.mem_range.2 (by omega))
  have h2 : clsF[c.toNat]? = some (clsV c.toNat) := by simpa using h1
  unfold KL cls
  rw [List.getElem?_map, h2]; rfl
theorem cls_range (c : Int) : cls c = 0 ∨ cls c = 1 ∨ cls c = 2 ∨ cls c = 3 ∨ cls c = 4 ∨ cls c = 5 := by
  unfold cls clsV; (repeat' split) <;> simp
def wordy (c : Int) : Bool := decide (cls c = 2) || decide (cls c = 3)
/-- The class of the byte at a place; 0 at the end. -/
def pkc (s : ByteArray) (i : Int) : Int := if (s.size : Int) ≤ i then 0 else cls (byteAt s i)
/-- The place behind letters and digits. -/
def runN (s : ByteArray) : Nat → Nat → Nat
  | 0, i => i
  | f + 1, i => if i < s.size ∧ wordy (byteAt s i) = true then runN s f (i + 1) else i
def run (s : ByteArray) (i : Nat) : Nat := runN s (s.size - i) i
theorem run_eq (s : ByteArray) (i : Nat) : run s i = if i < s.size ∧ wordy (byteAt s i) = true then run s (i + 1) else i := by
  unfold run
  by_cases h : i < s.size
  · rw [show s.size - i = (s.size - (i + 1)) + 1 by omega]; rfl
  · rw [show s.size - i = 0 by omega, if_neg (fun hc => h hc.1)]; rfl
theorem runN_le (s : ByteArray) : ∀ f i, i ≤ runN s f i ∧ (i ≤ s.size → runN s f i ≤ s.size) := by
  intro f
  induction f with
  | zero => intro i; exact ⟨Nat.le_refl _, id⟩
  | succ f ih =>
    intro i
    unfold runN
    split
    · rename_i h; obtain ⟨h1, h2⟩ := ih (i + 1); exact ⟨by omega, fun _ => h2 (by omega)⟩
    · exact ⟨Nat.le_refl _, id⟩
theorem run_le (s : ByteArray) (i : Nat) : i ≤ run s i ∧ (i ≤ s.size → run s i ≤ s.size) := runN_le s _ i
/-- The place of the line's end. -/
def noteN (s : ByteArray) : Nat → Nat → Nat
  | 0, i => i
  | f + 1, i => if i < s.size ∧ byteAt s i ≠ 10 then noteN s f (i + 1) else i
def note (s : ByteArray) (i : Nat) : Nat := noteN s (s.size - i) i
theorem note_eq (s : ByteArray) (i : Nat) : note s i = if i < s.size ∧ byteAt s i ≠ 10 then note s (i + 1) else i := by
  unfold note
  by_cases h : i < s.size
  · rw [show s.size - i = (s.size - (i + 1)) + 1 by omega]; rfl
  · rw [show s.size - i = 0 by omega, if_neg (fun hc => h hc.1)]; rfl
theorem noteN_le (s : ByteArray) : ∀ f i, i ≤ noteN s f i ∧ (i ≤ s.size → noteN s f i ≤ s.size) := by
  intro f
  induction f with
  | zero => intro i; exact ⟨Nat.le_refl _, id⟩
  | succ f ih =>
    intro i
    unfold noteN
    split
    · rename_i h; obtain ⟨h1, h2⟩ := ih (i + 1); exact ⟨by omega, fun _ => h2 (by omega)⟩
    · exact ⟨Nat.le_refl _, id⟩
theorem note_le (s : ByteArray) (i : Nat) : i ≤ note s i ∧ (i ≤ s.size → note s i ≤ s.size) := noteN_le s _ i
def isNote (s : ByteArray) (i : Nat) : Prop := byteAt s i = 47 ∧ i + 1 < s.size ∧ byteAt s ((i : Int) + 1) = 47
instance (s : ByteArray) (i : Nat) : Decidable (isNote s i) := by unfold isNote; exact inferInstance
/-- The place behind blanks and notes. -/
def skipN (s : ByteArray) : Nat → Nat → Nat
  | 0, i => i
  | f + 1, i => if i < s.size then (if cls (byteAt s i) = 1 then skipN s f (i + 1) else if isNote s i then skipN s f (note s i) else i) else i
theorem note_lt (s : ByteArray) (i : Nat) (h : isNote s i) : i < note s i := by
  obtain ⟨h1, h2, h3⟩ := h
  rw [note_eq, if_pos ⟨by omega, by omega⟩]
  have := (note_le s (i + 1)).1
  omega
theorem skipN_fuel (s : ByteArray) : ∀ f f' i, s.size - i ≤ f → s.size - i ≤ f' → skipN s f i = skipN s f' i := by
  intro f
  induction f with
  | zero =>
    intro f' i h h'
    cases f' with
    | zero => rfl
    | succ f' => unfold skipN; rw [if_neg (by omega)]
  | succ f ih =>
    intro f' i h h'
    cases f' with
    | zero => unfold skipN; rw [if_neg (by omega)]
    | succ f' =>
      unfold skipN
      split
      · split
        · exact ih f' (i + 1) (by omega) (by omega)
        · split
          · rename_i hn
            have := note_lt s i hn
            exact ih f' _ (by omega) (by omega)
          · rfl
      · rfl
def skip (s : ByteArray) (i : Nat) : Nat := skipN s (s.size - i) i
theorem skip_eq (s : ByteArray) (i : Nat) : skip s i = if i < s.size then (if cls (byteAt s i) = 1 then skip s (i + 1) else if isNote s i then skip s (note s i) else i) else i := by
  have e : skip s i = skipN s (s.size - i + 1) i := skipN_fuel s _ _ i (by omega) (by omega)
  rw [e]
  conv => lhs; unfold skipN
  split
  · split
    · exact skipN_fuel s _ _ _ (by omega) (by omega)
    · split
      · rename_i hn
        have := note_lt s i hn
        exact skipN_fuel s _ _ _ (by omega) (by omega)
      · rfl
  · rfl
end Go.Lex
