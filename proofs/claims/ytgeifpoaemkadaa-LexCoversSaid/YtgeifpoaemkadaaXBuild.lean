/- Layer 4: a scanner is made. -/
import Derived.Test.YtgeifpoaemkadaaXScan
import Derived.Test.YtgeifpoaemkadaaEngStr
set_option linter.unusedSimpArgs false
set_option linter.unusedVariables false
set_option linter.all false
namespace Go.Lex
open Go Go.Eng
theorem fold_cells (o : Nat) : ∀ (K X Y : List Value) (k : Nat), X.length = o + k → Y.length = K.length → (K.zipIdx k).foldl (fun cs (x : Value × Nat) => cs.setIfInBounds (o + x.2) x.1) (X ++ Y).toArray = (X ++ K).toArray := by
  intro K
  induction K with
  | nil => intro X Y k _ hy; obtain rfl := List.eq_nil_of_length_eq_zero (by simpa using hy); rfl
  | cons a K ih =>
    intro X Y k hx hy
    cases Y with
    | nil => simp at hy
    | cons b Y =>
      rw [List.zipIdx_cons, List.foldl_cons]
      have e1 : (X ++ b :: Y).toArray.setIfInBounds (o + k) a = ((X ++ [a]) ++ Y).toArray := by
        rw [List.setIfInBounds_toArray, ← hx]; simp
      simp only [e1]
      rw [ih (X ++ [a]) Y (k + 1) (by simp; omega) (by simpa using hy)]
      simp
end Go.Lex
namespace Go.Proofs.Ytgeifpoaemkadaa
open Go Go.Eng Go.Lex
theorem built48_eq (parts : List (Nat × Value)) : Try.prog.built 48 parts = Instr.fill (fun i => (#[(0, 1), (1, 1), (2, 256)] : Array (Nat × Nat))[i]?) (Value.string ⟨#[]⟩ :: .int .i64 0 :: List.replicate 256 (Value.int .i64 0)).toArray parts := by kernel_rfl
theorem built48 (s : ByteArray) : Try.prog.built 48 [(0, .string s), (2, .agg (cellsI clsF))] = some (Value.string s :: .int .i64 0 :: KL).toArray := by
  rw [built48_eq]
  have hK : (cellsI clsF) = KL.toArray := rfl
  rw [hK]
  have hl := KL_len
  have hz : (List.replicate 256 (Value.int .i64 0)).length = 256 := List.length_replicate
  generalize List.replicate 256 (Value.int .i64 0) = Z at *
  generalize KL = K at *
  have hf := fold_cells 2 K [Value.string s, .int .i64 0] Z 0 rfl (by omega)
  unfold Instr.fill
  simp only [Value.cells, List.getElem?_toArray, List.getElem?_cons_zero, List.size_toArray, List.length_cons, List.length_nil]
  rw [if_neg (by simp)]
  unfold Instr.fill
  simp only [Value.cells, List.getElem?_toArray, List.getElem?_cons_zero, List.getElem?_cons_succ, List.size_toArray, List.length_cons, List.length_nil]
  rw [if_neg (by simp [hl, hz])]
  unfold Instr.fill
  simp only [Option.some.injEq]
  simpa using hf
theorem bd48 {C : KA} {m : Mem} {L : Lst} (s : ByteArray) : @buildA Try.prog 48 [(0, .string s), (2, .agg (cellsI clsF))] C m L = C.k (.agg (Value.string s :: .int .i64 0 :: KL).toArray) m L := buildA_eq (built48 s)
end Go.Proofs.Ytgeifpoaemkadaa
