/- Layer 16: the operations' rows: the document's. -/
import Derived.Test.YthfbfigdgjhhaaaQOf
set_option linter.unusedSimpArgs false
set_option linter.unusedVariables false
set_option maxRecDepth 20000
set_option linter.all false
-- @FC
namespace Go.Eng
open Go
theorem resA_six {P : Program} {e : En} {m : Mem} {L : Lst} {R : Value → Mem → Lst → Prop} {a b c d f g : Value} : resA P e m L R [] [g, f, d, c, b, a] = endA (R (.tuple #[a, b, c, d, f, g])) m L := Eq.trans rfl rfl
theorem ext_4 {a b c q f : Value} {l : List Value} {C : KX} {w : World} : @extP (.tuple (a :: b :: c :: q :: f :: l).toArray) 4 C w = C.k f w := by simp [extP]
theorem ext_5 {a b c q f g : Value} {l : List Value} {C : KX} {w : World} : @extP (.tuple (a :: b :: c :: q :: f :: g :: l).toArray) 5 C w = C.k g w := by simp [extP]
theorem extA_4 {C : KA} {m : Mem} {L : Lst} {a b c q f : Value} {l : List Value} : extA (.tuple (a :: b :: c :: q :: f :: l).toArray) 4 m L = C.k f m L := by unfold extA; simp only [ext_4]; exact pu
theorem extA_5 {C : KA} {m : Mem} {L : Lst} {a b c q f g : Value} {l : List Value} : extA (.tuple (a :: b :: c :: q :: f :: g :: l).toArray) 5 m L = C.k g m L := by unfold extA; simp only [ext_5]; exact pu
end Go.Eng
namespace Go.Tr
open Go Go.Eng
theorem of_no {op : Int} (h : ∀ n ∈ [4, 5, 6, 7, 8, 9, 10, 11, 12, 13, 14, 15, 16, 17, 19, 20, 26, 30, 31, 32, 33, 34, 35], op ≠ n) : ofF op = row0 := by
  unfold ofF
  split
  · rename_i h0
    obtain ⟨k, rfl⟩ : ∃ k : Nat, op = k := ⟨op.toNat, by omega⟩
    rw [Int.toNat_natCast]
    by_cases hk : k < 36
    · have h1 : ∀ k, k < 36 → k ∉ [4, 5, 6, 7, 8, 9, 10, 11, 12, 13, 14, 15, 16, 17, 19, 20, 26, 30, 31, 32, 33, 34, 35] → (rowT[k]?.map Row.is) = some false := by decide
      have h2 := h1 k hk (fun hm => by
        have := h (k : Int) (by simp only [List.mem_cons, List.not_mem_nil, or_false] at hm ⊢; omega)
        exact this rfl)
      cases hr : rowT[k]? with
      | none => rfl
      | some r =>
        rw [hr] at h2
        have : r.is = false := by simpa using h2
        dsimp only
        rw [this]; rfl
    · rw [List.getElem?_eq_none (by show 36 ≤ k; omega)]
  · rfl
abbrev rowU (r : Row) : Value := .tuple #[.string r.name, .int .i64 r.args, .bool r.k, .bool r.c, .bool r.makes, .bool r.may]
end Go.Tr
namespace Go.Proofs.Ythfbfigdgjhhaaa
open Go Go.Eng Go.Tr
set_option maxHeartbeats 0 in
theorem row_ct (op : Int) : Pur Try.prog 23 [.int .i64 op] (· = rowU (ofF op)) := by
  have hno := @of_no op
  intro m; refine cta_of_T (c := Fc.k23_0) Try.func23 rfl rfl (by kernel_rfl) (by kernel_rfl) ?_
  repeat' (first | simp (maxSteps := 1000000) (disch := omega) only [↓Fc.x23_0, ↓Fc.x23_1, ↓Fc.x23_2, ↓Fc.x23_3, ↓Fc.x23_4, ↓eng_pre, eng_post, ↓Fa.all_pc, Fa.all_fa, eng_core, Nat.reduceBEq, ne_eq, reduceIte, Nat.reduceEqDiff, Nat.reduceAdd, Nat.reduceMul, Nat.reduceLT, Nat.reduceSub, Int.reduceLT, Int.reduceLE, Int.reduceEq, Int.reduceAdd, Int.reduceSub, Int.reduceMul, Int.reduceNeg, Int.reduceToNat, resA_six] | (with_reducible (apply gd_cond; first | (refine cond_if (fun h => ?_) (fun h => ?_)) | (refine cond_nif (fun h => ?_) (fun h => ?_)) | (refine cond_nsplit (fun h => ?_) (fun h => ?_)) | (refine cond_split (fun h => ?_) (fun h => ?_)))) | fail)
  all_goals first | (subst_vars; exact end_here ⟨rfl, rfl, rfl⟩) | (subst_vars; exact end_here ⟨rfl, rfl⟩) | skip
  rw [hno (by
    intro n hn
    simp only [List.mem_cons, List.not_mem_nil, or_false] at hn
    omega)]
  exact end_here ⟨rfl, rfl, rfl⟩
theorem rmakes_ct (op : Int) : Pur Try.prog 9 [.int .i64 op] (· = .bool (ofF op).makes) := by
  have oc := row_ct op
  generalize ofF op = r at *
  intro m; refine cta_of_T (c := Fc.k9_0) Try.func9 rfl rfl (by kernel_rfl) (by kernel_rfl) ?_
  repeat' (first | simp (maxSteps := 1000000) (disch := omega) only [↓Fc.x9_0, ↓eng_pre, eng_post, ↓Fa.all_pc, Fa.all_fa, eng_core, Nat.reduceBEq, ne_eq, reduceIte, Nat.reduceEqDiff, Nat.reduceAdd, Nat.reduceMul, Nat.reduceLT, Nat.reduceSub, Int.reduceLT, Int.reduceLE, Int.reduceEq, Int.reduceAdd, Int.reduceSub, Int.reduceMul, Int.reduceNeg, Int.reduceToNat, extA_4, extA_5] | (with_reducible (apply gd_call; first | ((refine pur_of (oc) ?_); rintro _ rfl) | fail)) | fail)
  exact end_here ⟨rfl, rfl⟩
theorem rmay_ct (op : Int) : Pur Try.prog 11 [.int .i64 op] (· = .bool (ofF op).may) := by
  have oc := row_ct op
  generalize ofF op = r at *
  intro m; refine cta_of_T (c := Fc.k11_0) Try.func11 rfl rfl (by kernel_rfl) (by kernel_rfl) ?_
  repeat' (first | simp (maxSteps := 1000000) (disch := omega) only [↓Fc.x11_0, ↓eng_pre, eng_post, ↓Fa.all_pc, Fa.all_fa, eng_core, Nat.reduceBEq, ne_eq, reduceIte, Nat.reduceEqDiff, Nat.reduceAdd, Nat.reduceMul, Nat.reduceLT, Nat.reduceSub, Int.reduceLT, Int.reduceLE, Int.reduceEq, Int.reduceAdd, Int.reduceSub, Int.reduceMul, Int.reduceNeg, Int.reduceToNat, extA_4, extA_5] | (with_reducible (apply gd_call; first | ((refine pur_of (oc) ?_); rintro _ rfl) | fail)) | fail)
  exact end_here ⟨rfl, rfl⟩
theorem rargs_ct (op : Int) : Pur Try.prog 13 [.int .i64 op] (· = .int .i64 (ofF op).args) := by
  have oc := row_ct op
  generalize ofF op = r at *
  intro m; refine cta_of_T (c := Fc.k13_0) Try.func13 rfl rfl (by kernel_rfl) (by kernel_rfl) ?_
  repeat' (first | simp (maxSteps := 1000000) (disch := omega) only [↓Fc.x13_0, ↓eng_pre, eng_post, ↓Fa.all_pc, Fa.all_fa, eng_core, Nat.reduceBEq, ne_eq, reduceIte, Nat.reduceEqDiff, Nat.reduceAdd, Nat.reduceMul, Nat.reduceLT, Nat.reduceSub, Int.reduceLT, Int.reduceLE, Int.reduceEq, Int.reduceAdd, Int.reduceSub, Int.reduceMul, Int.reduceNeg, Int.reduceToNat, extA_4, extA_5] | (with_reducible (apply gd_call; first | ((refine pur_of (oc) ?_); rintro _ rfl) | fail)) | fail)
  exact end_here ⟨rfl, rfl⟩
end Go.Proofs.Ythfbfigdgjhhaaa
