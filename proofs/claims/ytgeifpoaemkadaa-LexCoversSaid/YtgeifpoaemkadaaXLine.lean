/- Layer 4: where lines begin. -/
import Derived.Test.YtgeifpoaemkadaaXNum
set_option linter.unusedSimpArgs false
set_option linter.unusedVariables false
set_option linter.all false
namespace Go.Lex
open Go Go.Eng
/-- Where lines begin, up to a place. -/
def starts (s : ByteArray) : Nat → List Int
  | 0 => [0]
  | n + 1 => if byteAt s n = 10 then starts s n ++ [(n : Int) + 1] else starts s n
theorem starts_len (s : ByteArray) (n : Nat) : 0 < (starts s n).length := by
  induction n with
  | zero => exact Nat.one_pos
  | succ n ih => unfold starts; split <;> simp [ih]
theorem starts_pre (s : ByteArray) (n k : Nat) : ∃ r, starts s (n + k) = starts s n ++ r ∧ ∀ x ∈ r, (n : Int) < x := by
  induction k with
  | zero => exact ⟨[], by simp, by simp⟩
  | succ k ih =>
    obtain ⟨r, h1, h2⟩ := ih
    rw [← Nat.add_assoc, starts.eq_2]
    split
    · refine ⟨r ++ [((n + k : Nat) : Int) + 1], by rw [h1, List.append_assoc], fun x hx => ?_⟩
      rcases List.mem_append.1 hx with hx | hx
      · exact h2 x hx
      · have := List.mem_singleton.1 hx; omega
    · exact ⟨r, h1, h2⟩
theorem starts_le (s : ByteArray) (n : Nat) : ∀ x ∈ starts s n, 0 ≤ x ∧ x ≤ n := by
  induction n with
  | zero => intro x hx; have := List.mem_singleton.1 hx; omega
  | succ n ih =>
    intro x hx
    unfold starts at hx
    split at hx
    · rcases List.mem_append.1 hx with hx | hx
      · have := ih x hx; omega
      · have := List.mem_singleton.1 hx; omega
    · have := ih x hx; omega
def args1 (l : List Int) : List (List Value) := l.map fun x => [.int .i64 x]
end Go.Lex
namespace Go.Proofs.Ytgeifpoaemkadaa
open Go Go.Eng Go.Lex
abbrev strO (s : ByteArray) : Obj := .cells #[.string s] 9 (0, 0)
theorem lines_ct (s : ByteArray) (m : Mem) : Cta Try.prog 34 [.string s] m [] (fun v m' L' => ∃ b, m' = m ∧ L' = [(b, strO s)] ∧ v = .func (.func 42) #[] #[ptr b]) := by
  refine cta_of_T Try.func34 rfl rfl (by kernel_rfl) (by kernel_rfl) ?_
  repeat' (first | simp (maxSteps := 1000000) (disch := omega) only [↓eng_pre, eng_post, ↓Fa.all_pc, Fa.all_fa, eng_core, Nat.reduceBEq, ne_eq, reduceIte, Nat.reduceEqDiff, Nat.reduceAdd, Nat.reduceMul, Nat.reduceLT, Nat.reduceSub, Int.reduceLT, Int.reduceLE, Int.reduceEq, Int.reduceAdd, Int.reduceSub, Int.reduceMul, Int.reduceNeg, Int.reduceToNat, *] | (with_reducible (first | (refine newA_of (fun _ => ?_)))) | (with_reducible (first | (refine cond_if (fun h => ?_) (fun h => ?_)) | (refine guard_t (fun h => ?_) (fun h => ?_)) | (refine guard_f (fun h => ?_) (fun h => ?_)) | (refine cond_nif (fun h => ?_) (fun h => ?_)) | (refine cond_nsplit (fun h => ?_) (fun h => ?_)) | (refine cond_split (fun h => ?_) (fun h => ?_)) | (refine guard_split (fun h => ?_) (fun h => ?_)))) | fail)
  rename_i b
  exact end_here ⟨b, rfl, rfl, rfl⟩
set_option maxHeartbeats 0 in
theorem lines_it (s : ByteArray) (b : Nat) (hs : s.size ≤ 100000000) (m : Mem) : IterA Try.prog 42 [ptr b] m [(b, strO s)] (args1 (starts s s.size)) := by
  refine ⟨by kernel_rfl, ?_⟩
  intro l J Jx hy m1 L1 hm1 hJ
  have hx : ∀ n, n < s.size → byteAt s n = 10 → (args1 (starts s s.size))[(starts s n).length]? = some [.int .i64 ((n : Int) + 1)] := by
    intro n hn h10
    obtain ⟨r, h1, _⟩ := starts_pre s (n + 1) (s.size - (n + 1))
    rw [show n + 1 + (s.size - (n + 1)) = s.size by omega] at h1
    unfold args1
    rw [h1, List.getElem?_map, show starts s (n + 1) = starts s n ++ [(n : Int) + 1] by rw [starts, if_pos h10], List.append_assoc, List.getElem?_append_right (Nat.le_refl _), Nat.sub_self]
    rfl
  have hx0 : (args1 (starts s s.size))[0]? = some [.int .i64 0] := by
    obtain ⟨r, h1, _⟩ := starts_pre s 0 s.size
    rw [Nat.zero_add] at h1; unfold args1; rw [h1]; rfl
  have hl : (args1 (starts s s.size)).length = (starts s s.size).length := by unfold args1; rw [List.length_map]
  rw [hl]
  generalize args1 (starts s s.size) = xs at *
  have y0 := hy 0 _ m1 L1 hx0 hm1 hJ
  refine cta_of_T Try.func42 rfl rfl (by kernel_rfl) (by kernel_rfl) ?_
  repeat' (first | simp (maxSteps := 1000000) (disch := omega) only [↓eng_pre, eng_post, ↓Fa.all_pc, Fa.all_fa, eng_core, Nat.reduceBEq, ne_eq, reduceIte, Nat.reduceEqDiff, Nat.reduceAdd, Nat.reduceMul, Nat.reduceLT, Nat.reduceSub, Int.reduceLT, Int.reduceLE, Int.reduceEq, Int.reduceAdd, Int.reduceSub, Int.reduceMul, Int.reduceNeg, Int.reduceToNat, *] | (with_reducible (first | (refine ld_one (by (first | exact at_own (by (repeat (first | exact Take.here | apply Take.there | apply Take.app))) | exact at_mem (by assumption) | exact At.up (by assumption) | assumption)) (by first | with_reducible rfl | (simp only [get_l, List.getElem?_cons_zero, List.getElem?_cons_succ, Option.some.injEq]; exact rfl) | assumption) ?_) | (refine ld_agg (by (first | exact at_own (by (repeat (first | exact Take.here | apply Take.there | apply Take.app))) | exact at_mem (by assumption) | exact At.up (by assumption) | assumption)) (by first | (simp only [subL_succ, subL_zero, get_l, List.getElem?_cons_zero, List.getElem?_cons_succ, consO_some, Nat.reduceAdd]; exact rfl) | assumption) ?_) | (refine bi_len (by kernel_rfl) ?_) | (refine bi_lens (by kernel_rfl) ?_) | (refine eq_ptr_nil (by kernel_rfl) ?_) | (refine neq_ptr_nil (by kernel_rfl) ?_) | (refine eq_iface_nil (by kernel_rfl) rfl ?_) | (refine neq_iface_nil (by kernel_rfl) rfl ?_))) | ((with_reducible refine ya_of (y0) (by (repeat (first | exact Takes.nil | (apply Takes.cons; (· (repeat (first | exact Take.here | apply Take.there | apply Take.app)))) | (apply Takes.app; (· ((repeat ((fail_if_success (first | exact TakeL.here | exact TakeL.all)); (first | apply TakeL.cons | apply TakeL.app))); (first | exact TakeL.here | exact TakeL.all)))) | (apply Takes.lst; (· ((repeat ((fail_if_success (first | exact TakeL.here | exact TakeL.all)); (first | apply TakeL.cons | apply TakeL.app))); (first | exact TakeL.here | exact TakeL.all)))) | fail))) ?_); rintro _ _ _ ⟨hle, ⟨rfl, hJ1⟩ | ⟨rfl, hJ1⟩⟩) | (with_reducible (first | (refine cond_if (fun h => ?_) (fun h => ?_)) | (refine guard_t (fun h => ?_) (fun h => ?_)) | (refine guard_f (fun h => ?_) (fun h => ?_)) | (refine cond_nif (fun h => ?_) (fun h => ?_)) | (refine cond_nsplit (fun h => ?_) (fun h => ?_)) | (refine cond_split (fun h => ?_) (fun h => ?_)) | (refine guard_split (fun h => ?_) (fun h => ?_)))) | fail)
  · rename_i m2 L2
    refine loopA_of (γ := Nat) (fun i => [(0, .func (.yield l) #[] #[]), (1, ptr b), (8, .int .i64 s.size), (9, .int .i64 (i : Int))])
      (fun i m' L' => ∃ Li, L' = Li ++ [(b, strO s)] ∧ m1.Le m' ∧ J (starts s i).length m' Li ∧ i ≤ s.size) (fun i => s.size - i) 0 (by (first | (simp (maxSteps := 1000000) (disch := omega) only [↓eng_pre, eng_post, ↓Fa.all_pc, Fa.all_fa, eng_core, Nat.reduceBEq, ne_eq, reduceIte, Nat.reduceEqDiff, Nat.reduceAdd, Nat.reduceMul, Nat.reduceLT, Nat.reduceSub, Int.reduceLT, Int.reduceLE, Int.reduceEq, Int.reduceAdd, Int.reduceSub, Int.reduceMul, Int.reduceNeg, Int.reduceToNat, *]; done) | (simp (maxSteps := 1000000) (disch := omega) only [↓eng_pre, eng_post, ↓Fa.all_pc, Fa.all_fa, eng_core, Nat.reduceBEq, ne_eq, reduceIte, Nat.reduceEqDiff, Nat.reduceAdd, Nat.reduceMul, Nat.reduceLT, Nat.reduceSub, Int.reduceLT, Int.reduceLE, Int.reduceEq, Int.reduceAdd, Int.reduceSub, Int.reduceMul, Int.reduceNeg, Int.reduceToNat, *, Value.int.injEq, true_and, and_true, Int.natCast_add, Int.natCast_one, Int.natCast_zero, Int.add_zero]; done) | (simp (maxSteps := 1000000) (disch := omega) only [↓eng_pre, eng_post, ↓Fa.all_pc, Fa.all_fa, eng_core, Nat.reduceBEq, ne_eq, reduceIte, Nat.reduceEqDiff, Nat.reduceAdd, Nat.reduceMul, Nat.reduceLT, Nat.reduceSub, Int.reduceLT, Int.reduceLE, Int.reduceEq, Int.reduceAdd, Int.reduceSub, Int.reduceMul, Int.reduceNeg, Int.reduceToNat, *, Value.int.injEq, true_and, and_true]; omega) | (simp (maxSteps := 1000000) (disch := omega) only [↓eng_pre, eng_post, ↓Fa.all_pc, Fa.all_fa, eng_core, Nat.reduceBEq, ne_eq, reduceIte, Nat.reduceEqDiff, Nat.reduceAdd, Nat.reduceMul, Nat.reduceLT, Nat.reduceSub, Int.reduceLT, Int.reduceLE, Int.reduceEq, Int.reduceAdd, Int.reduceSub, Int.reduceMul, Int.reduceNeg, Int.reduceToNat, *, Value.int.injEq, true_and, and_true]; exact rfl))) (end_here ⟨L2, rfl, hle, hJ1, by omega⟩) ?_
    clear y0 hJ hJ1 hx0
    rintro i e m3 L3 hf ⟨Li, rfl, hle3, hJ3, hi⟩
    simp only [fits_cons, fits_nil, and_true] at hf
    obtain ⟨e0, e1, e8, e9⟩ := hf
    by_cases hlt : i < s.size
    · have hlt' : (i : Int) < s.size := by omega
      by_cases h10 : byteAt s i = 10
      · have y1 := hy _ _ m3 Li (hx i hlt h10) (hm1.trans hle3) hJ3
        have hst : (starts s (i + 1)).length = (starts s i).length + 1 := by rw [starts, if_pos h10, List.length_append]; rfl
        clear hx
        repeat' (first | simp (maxSteps := 1000000) (disch := omega) only [↓eng_pre, eng_post, ↓Fa.all_pc, Fa.all_fa, eng_core, Nat.reduceBEq, ne_eq, reduceIte, Nat.reduceEqDiff, Nat.reduceAdd, Nat.reduceMul, Nat.reduceLT, Nat.reduceSub, Int.reduceLT, Int.reduceLE, Int.reduceEq, Int.reduceAdd, Int.reduceSub, Int.reduceMul, Int.reduceNeg, Int.reduceToNat, *, Int.toNat_natCast] | (with_reducible (first | (refine ld_one (by (first | exact at_own (by (repeat (first | exact Take.here | apply Take.there | apply Take.app))) | exact at_mem (by assumption) | exact At.up (by assumption) | assumption)) (by first | with_reducible rfl | (simp only [get_l, List.getElem?_cons_zero, List.getElem?_cons_succ, Option.some.injEq]; exact rfl) | assumption) ?_) | (refine ld_agg (by (first | exact at_own (by (repeat (first | exact Take.here | apply Take.there | apply Take.app))) | exact at_mem (by assumption) | exact At.up (by assumption) | assumption)) (by first | (simp only [subL_succ, subL_zero, get_l, List.getElem?_cons_zero, List.getElem?_cons_succ, consO_some, Nat.reduceAdd]; exact rfl) | assumption) ?_) | (refine bi_len (by kernel_rfl) ?_) | (refine bi_lens (by kernel_rfl) ?_) | (refine eq_ptr_nil (by kernel_rfl) ?_) | (refine neq_ptr_nil (by kernel_rfl) ?_) | (refine eq_iface_nil (by kernel_rfl) rfl ?_) | (refine neq_iface_nil (by kernel_rfl) rfl ?_))) | ((with_reducible refine ya_of (y1) (by (repeat (first | exact Takes.nil | (apply Takes.cons; (· (repeat (first | exact Take.here | apply Take.there | apply Take.app)))) | (apply Takes.app; (· ((repeat ((fail_if_success (first | exact TakeL.here | exact TakeL.all)); (first | apply TakeL.cons | apply TakeL.app))); (first | exact TakeL.here | exact TakeL.all)))) | (apply Takes.lst; (· ((repeat ((fail_if_success (first | exact TakeL.here | exact TakeL.all)); (first | apply TakeL.cons | apply TakeL.app))); (first | exact TakeL.here | exact TakeL.all)))) | fail))) ?_); rintro _ _ _ ⟨hle4, ⟨rfl, hJ4⟩ | ⟨rfl, hJ4⟩⟩) | (with_reducible (first | (refine cond_if (fun h => ?_) (fun h => ?_)) | (refine guard_t (fun h => ?_) (fun h => ?_)) | (refine guard_f (fun h => ?_) (fun h => ?_)) | (refine cond_nif (fun h => ?_) (fun h => ?_)) | (refine cond_nsplit (fun h => ?_) (fun h => ?_)) | (refine cond_split (fun h => ?_) (fun h => ?_)) | (refine guard_split (fun h => ?_) (fun h => ?_)))) | fail)
        · rename_i m4 L4
          exact next_of (i + 1) (by (first | (simp (maxSteps := 1000000) (disch := omega) only [↓eng_pre, eng_post, ↓Fa.all_pc, Fa.all_fa, eng_core, Nat.reduceBEq, ne_eq, reduceIte, Nat.reduceEqDiff, Nat.reduceAdd, Nat.reduceMul, Nat.reduceLT, Nat.reduceSub, Int.reduceLT, Int.reduceLE, Int.reduceEq, Int.reduceAdd, Int.reduceSub, Int.reduceMul, Int.reduceNeg, Int.reduceToNat, *]; done) | (simp (maxSteps := 1000000) (disch := omega) only [↓eng_pre, eng_post, ↓Fa.all_pc, Fa.all_fa, eng_core, Nat.reduceBEq, ne_eq, reduceIte, Nat.reduceEqDiff, Nat.reduceAdd, Nat.reduceMul, Nat.reduceLT, Nat.reduceSub, Int.reduceLT, Int.reduceLE, Int.reduceEq, Int.reduceAdd, Int.reduceSub, Int.reduceMul, Int.reduceNeg, Int.reduceToNat, *, Value.int.injEq, true_and, and_true, Int.natCast_add, Int.natCast_one, Int.natCast_zero, Int.add_zero]; done) | (simp (maxSteps := 1000000) (disch := omega) only [↓eng_pre, eng_post, ↓Fa.all_pc, Fa.all_fa, eng_core, Nat.reduceBEq, ne_eq, reduceIte, Nat.reduceEqDiff, Nat.reduceAdd, Nat.reduceMul, Nat.reduceLT, Nat.reduceSub, Int.reduceLT, Int.reduceLE, Int.reduceEq, Int.reduceAdd, Int.reduceSub, Int.reduceMul, Int.reduceNeg, Int.reduceToNat, *, Value.int.injEq, true_and, and_true]; omega) | (simp (maxSteps := 1000000) (disch := omega) only [↓eng_pre, eng_post, ↓Fa.all_pc, Fa.all_fa, eng_core, Nat.reduceBEq, ne_eq, reduceIte, Nat.reduceEqDiff, Nat.reduceAdd, Nat.reduceMul, Nat.reduceLT, Nat.reduceSub, Int.reduceLT, Int.reduceLE, Int.reduceEq, Int.reduceAdd, Int.reduceSub, Int.reduceMul, Int.reduceNeg, Int.reduceToNat, *, Value.int.injEq, true_and, and_true]; exact rfl))) (end_here ⟨L4, rfl, hle3.trans hle4, by rw [hst]; exact hJ4, by omega⟩) (by omega)
        · rename_i m4 L4
          exact end_here ⟨L4, rfl, hle3.trans hle4, .inr hJ4⟩
      · have hst : (starts s (i + 1)).length = (starts s i).length := by rw [starts, if_neg h10]
        clear hx
        repeat' (first | simp (maxSteps := 1000000) (disch := omega) only [↓eng_pre, eng_post, ↓Fa.all_pc, Fa.all_fa, eng_core, Nat.reduceBEq, ne_eq, reduceIte, Nat.reduceEqDiff, Nat.reduceAdd, Nat.reduceMul, Nat.reduceLT, Nat.reduceSub, Int.reduceLT, Int.reduceLE, Int.reduceEq, Int.reduceAdd, Int.reduceSub, Int.reduceMul, Int.reduceNeg, Int.reduceToNat, *, Int.toNat_natCast] | (with_reducible (first | (refine ld_one (by (first | exact at_own (by (repeat (first | exact Take.here | apply Take.there | apply Take.app))) | exact at_mem (by assumption) | exact At.up (by assumption) | assumption)) (by first | with_reducible rfl | (simp only [get_l, List.getElem?_cons_zero, List.getElem?_cons_succ, Option.some.injEq]; exact rfl) | assumption) ?_) | (refine ld_agg (by (first | exact at_own (by (repeat (first | exact Take.here | apply Take.there | apply Take.app))) | exact at_mem (by assumption) | exact At.up (by assumption) | assumption)) (by first | (simp only [subL_succ, subL_zero, get_l, List.getElem?_cons_zero, List.getElem?_cons_succ, consO_some, Nat.reduceAdd]; exact rfl) | assumption) ?_) | (refine bi_len (by kernel_rfl) ?_) | (refine bi_lens (by kernel_rfl) ?_) | (refine eq_ptr_nil (by kernel_rfl) ?_) | (refine neq_ptr_nil (by kernel_rfl) ?_) | (refine eq_iface_nil (by kernel_rfl) rfl ?_) | (refine neq_iface_nil (by kernel_rfl) rfl ?_))) | (with_reducible (first | (refine cond_if (fun h => ?_) (fun h => ?_)) | (refine guard_t (fun h => ?_) (fun h => ?_)) | (refine guard_f (fun h => ?_) (fun h => ?_)) | (refine cond_nif (fun h => ?_) (fun h => ?_)) | (refine cond_nsplit (fun h => ?_) (fun h => ?_)) | (refine cond_split (fun h => ?_) (fun h => ?_)) | (refine guard_split (fun h => ?_) (fun h => ?_)))) | fail)
        exact next_of (i + 1) (by (first | (simp (maxSteps := 1000000) (disch := omega) only [↓eng_pre, eng_post, ↓Fa.all_pc, Fa.all_fa, eng_core, Nat.reduceBEq, ne_eq, reduceIte, Nat.reduceEqDiff, Nat.reduceAdd, Nat.reduceMul, Nat.reduceLT, Nat.reduceSub, Int.reduceLT, Int.reduceLE, Int.reduceEq, Int.reduceAdd, Int.reduceSub, Int.reduceMul, Int.reduceNeg, Int.reduceToNat, *]; done) | (simp (maxSteps := 1000000) (disch := omega) only [↓eng_pre, eng_post, ↓Fa.all_pc, Fa.all_fa, eng_core, Nat.reduceBEq, ne_eq, reduceIte, Nat.reduceEqDiff, Nat.reduceAdd, Nat.reduceMul, Nat.reduceLT, Nat.reduceSub, Int.reduceLT, Int.reduceLE, Int.reduceEq, Int.reduceAdd, Int.reduceSub, Int.reduceMul, Int.reduceNeg, Int.reduceToNat, *, Value.int.injEq, true_and, and_true, Int.natCast_add, Int.natCast_one, Int.natCast_zero, Int.add_zero]; done) | (simp (maxSteps := 1000000) (disch := omega) only [↓eng_pre, eng_post, ↓Fa.all_pc, Fa.all_fa, eng_core, Nat.reduceBEq, ne_eq, reduceIte, Nat.reduceEqDiff, Nat.reduceAdd, Nat.reduceMul, Nat.reduceLT, Nat.reduceSub, Int.reduceLT, Int.reduceLE, Int.reduceEq, Int.reduceAdd, Int.reduceSub, Int.reduceMul, Int.reduceNeg, Int.reduceToNat, *, Value.int.injEq, true_and, and_true]; omega) | (simp (maxSteps := 1000000) (disch := omega) only [↓eng_pre, eng_post, ↓Fa.all_pc, Fa.all_fa, eng_core, Nat.reduceBEq, ne_eq, reduceIte, Nat.reduceEqDiff, Nat.reduceAdd, Nat.reduceMul, Nat.reduceLT, Nat.reduceSub, Int.reduceLT, Int.reduceLE, Int.reduceEq, Int.reduceAdd, Int.reduceSub, Int.reduceMul, Int.reduceNeg, Int.reduceToNat, *, Value.int.injEq, true_and, and_true]; exact rfl))) (end_here ⟨Li, rfl, hle3, by rw [hst]; exact hJ3, by omega⟩) (by omega)
    · have hlt' : ¬ (i : Int) < s.size := by omega
      obtain rfl : i = s.size := by omega
      clear hx
      repeat' (first | simp (maxSteps := 1000000) (disch := omega) only [↓eng_pre, eng_post, ↓Fa.all_pc, Fa.all_fa, eng_core, Nat.reduceBEq, ne_eq, reduceIte, Nat.reduceEqDiff, Nat.reduceAdd, Nat.reduceMul, Nat.reduceLT, Nat.reduceSub, Int.reduceLT, Int.reduceLE, Int.reduceEq, Int.reduceAdd, Int.reduceSub, Int.reduceMul, Int.reduceNeg, Int.reduceToNat, *, Int.toNat_natCast] | (with_reducible (first | (refine ld_one (by (first | exact at_own (by (repeat (first | exact Take.here | apply Take.there | apply Take.app))) | exact at_mem (by assumption) | exact At.up (by assumption) | assumption)) (by first | with_reducible rfl | (simp only [get_l, List.getElem?_cons_zero, List.getElem?_cons_succ, Option.some.injEq]; exact rfl) | assumption) ?_) | (refine ld_agg (by (first | exact at_own (by (repeat (first | exact Take.here | apply Take.there | apply Take.app))) | exact at_mem (by assumption) | exact At.up (by assumption) | assumption)) (by first | (simp only [subL_succ, subL_zero, get_l, List.getElem?_cons_zero, List.getElem?_cons_succ, consO_some, Nat.reduceAdd]; exact rfl) | assumption) ?_) | (refine bi_len (by kernel_rfl) ?_) | (refine bi_lens (by kernel_rfl) ?_) | (refine eq_ptr_nil (by kernel_rfl) ?_) | (refine neq_ptr_nil (by kernel_rfl) ?_) | (refine eq_iface_nil (by kernel_rfl) rfl ?_) | (refine neq_iface_nil (by kernel_rfl) rfl ?_))) | (with_reducible (first | (refine cond_if (fun h => ?_) (fun h => ?_)) | (refine guard_t (fun h => ?_) (fun h => ?_)) | (refine guard_f (fun h => ?_) (fun h => ?_)) | (refine cond_nif (fun h => ?_) (fun h => ?_)) | (refine cond_nsplit (fun h => ?_) (fun h => ?_)) | (refine cond_split (fun h => ?_) (fun h => ?_)) | (refine guard_split (fun h => ?_) (fun h => ?_)))) | fail)
      exact end_here ⟨Li, rfl, hle3, .inl hJ3⟩
  · rename_i m2 L2
    exact end_here ⟨L2, rfl, hle, .inr hJ1⟩
end Go.Proofs.Ytgeifpoaemkadaa
