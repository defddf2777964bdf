/- Layer 4: the document's words, blanks and signs. -/
import Derived.Test.YtgeifpoaemkadaaXSign
import Derived.Test.YtgeifpoaemkadaaXWord
import Derived.Test.YtgeifpoaemkadaaEngStr
set_option linter.unusedSimpArgs false
set_option linter.unusedVariables false
set_option linter.all false
namespace Go.Lex
open Go Go.Eng
def twos : List (Int × Int) := [(60, 60), (62, 62), (61, 61), (33, 61), (60, 61)]
def ones : List Int := [40, 41, 123, 125, 91, 93, 44, 59, 46, 61, 43, 45, 42, 47, 37, 38, 124, 94, 60, 33, 126]
def strP (p : Int × Int) : ByteArray := ⟨#[UInt8.ofNat p.1.toNat, UInt8.ofNat p.2.toNat]⟩
def twosV : List Value := twos.map fun p => .string (strP p)
def onesV : List Value := ones.map (Value.int .u8)
theorem sgn_eq (s : ByteArray) (i : Nat) : sgn s i = if (byteAt s i, atF s (i + 1)) ∈ twos then 2 else if byteAt s i ∈ ones then 1 else 0 := by
  obtain ⟨b1, b2⟩ := byteAt_lt s i
  unfold sgn sgnF twos ones
  generalize byteAt s i = c at *
  generalize atF s (i + 1) = d at *
  have h4 : cls c = 4 ↔ c = 62 ∨ c ∈ [40, 41, 123, 125, 91, 93, 44, 59, 46, 61, 43, 45, 42, 47, 37, 38, 124, 94, 60, 33, 126] := by
    unfold cls clsV
    constructor
    · intro h1; (repeat' split at h1) <;> simp_all <;> omega
    · intro h1
      simp at h1
      rw [if_neg (by omega), if_neg (by omega), if_neg (by omega), if_neg (by omega), if_pos (by simp; omega)]
  have ht : (c, d) ∈ [((60 : Int), (60 : Int)), (62, 62), (61, 61), (33, 61), (60, 61)] ↔ (c = 60 ∧ d = 60) ∨ (c = 62 ∧ d = 62) ∨ (c = 61 ∧ d = 61) ∨ (c = 33 ∧ d = 61) ∨ (c = 60 ∧ d = 61) := by simp
  by_cases hc : c = 62
  · subst hc
    rw [if_pos (h4.2 (.inl rfl))]
    by_cases hd : d = 62
    · rw [if_neg (by omega), if_pos (by omega), if_pos (ht.2 (by omega))]
    · rw [if_pos ⟨rfl, hd⟩, if_neg (fun h => by have := ht.1 h; omega), if_neg (by simp)]
  · by_cases hm : c ∈ [40, 41, 123, 125, 91, 93, 44, 59, 46, 61, 43, 45, 42, 47, 37, 38, 124, 94, 60, 33, 126]
    · rw [if_pos (h4.2 (.inr hm)), if_neg (by omega)]
      by_cases hd : ((c = 60 ∨ c = 62) ∧ d = c) ∨ ((c = 61 ∨ c = 33 ∨ c = 60) ∧ d = 61)
      · rw [if_pos hd, if_pos (ht.2 (by omega))]
      · rw [if_neg hd, if_neg (fun h => hd (by have := ht.1 h; omega)), if_pos hm]
    · rw [if_neg (fun h => (h4.1 h).elim hc hm), if_neg (fun h => by have := ht.1 h; simp at hm; omega), if_neg hm]
end Go.Lex
namespace Go.Proofs.Ytgeifpoaemkadaa
open Go Go.Eng Go.Lex
set_option maxHeartbeats 0 in
theorem rWord_ct (s : ByteArray) : Pur Try.prog 26 [.string s] (· = .bool (isWord s)) := by
  have hat := wordsV_at
  have hWV : wordsV = [.string ⟨#[114, 101, 99]⟩, .string ⟨#[102, 110]⟩, .string ⟨#[108, 101, 116]⟩, .string ⟨#[105, 102]⟩, .string ⟨#[101, 108, 115, 101]⟩, .string ⟨#[119, 104, 105, 108, 101]⟩, .string ⟨#[114, 101, 116, 117, 114, 110]⟩, .string ⟨#[111, 117, 116]⟩, .string ⟨#[115, 116, 111, 112]⟩, .string ⟨#[109, 101, 114, 103, 101]⟩, .string ⟨#[112, 114, 111, 109, 111, 116, 101]⟩,
    .string ⟨#[110, 101, 119]⟩, .string ⟨#[97, 114, 114]⟩, .string ⟨#[108, 101, 110]⟩, .string ⟨#[105, 110]⟩, .string ⟨#[105, 109, 103]⟩, .string ⟨#[115, 105, 122, 101]⟩, .string ⟨#[110, 117, 108, 108]⟩, .string ⟨#[114, 111, 111, 116]⟩] := rfl
  intro m; refine cta_of_T Try.func26 rfl rfl (by kernel_rfl) (by kernel_rfl) ?_
  repeat' (first | simp (maxSteps := 1000000) (disch := omega) only [↓eng_pre, eng_post, ↓Fa.all_pc, Fa.all_fa, eng_core, Nat.reduceBEq, ne_eq, reduceIte, Nat.reduceEqDiff, Nat.reduceAdd, Nat.reduceMul, Nat.reduceLT, Nat.reduceSub, Int.reduceLT, Int.reduceLE, Int.reduceEq, Int.reduceAdd, Int.reduceSub, Int.reduceMul, Int.reduceNeg, Int.reduceToNat, ← hWV] | (with_reducible (first | (refine newA_of (fun _ => ?_)) | (refine ld_one (by (first | exact at_own (by (repeat (first | exact Take.here | apply Take.there | apply Take.app))) | exact at_mem (by assumption) | exact At.up (by assumption) | assumption)) (by first | with_reducible rfl | (simp only [get_l, List.getElem?_cons_zero, List.getElem?_cons_succ, Option.some.injEq]; exact rfl) | assumption) ?_) | (refine ld_agg (by (first | exact at_own (by (repeat (first | exact Take.here | apply Take.there | apply Take.app))) | exact at_mem (by assumption) | exact At.up (by assumption) | assumption)) (by first | (simp only [subL_succ, subL_zero, get_l, List.getElem?_cons_zero, List.getElem?_cons_succ, consO_some, Nat.reduceAdd]; exact rfl) | assumption) ?_) | (refine p_bsl ?_) | (refine bi_len (by kernel_rfl) ?_) | (refine bi_lens (by kernel_rfl) ?_) | (refine eq_ptr_nil (by kernel_rfl) ?_) | (refine neq_ptr_nil (by kernel_rfl) ?_) | (refine eq_iface_nil (by kernel_rfl) rfl ?_) | (refine neq_iface_nil (by kernel_rfl) rfl ?_))) | (with_reducible (first | (refine cond_if (fun h => ?_) (fun h => ?_)) | (refine guard_t (fun h => ?_) (fun h => ?_)) | (refine guard_f (fun h => ?_) (fun h => ?_)) | (refine cond_nif (fun h => ?_) (fun h => ?_)) | (refine cond_nsplit (fun h => ?_) (fun h => ?_)) | (refine cond_split (fun h => ?_) (fun h => ?_)) | (refine guard_split (fun h => ?_) (fun h => ?_)))) | fail)
  rename_i xb
  trace_state
  generalize hWV2 : wordsV = WV at *
  clear hWV
  refine loopA_of (γ := Nat) (fun i => [(0, .string s), (5, .slice (some ⟨xb, 0, none⟩) 19 19), (6, .int .i64 19), (7, .int .i64 (i : Int))]) (fun i m' L' => m' = m ∧ L' = [(xb, .cells WV.toArray 9 (0, 0))] ∧ i ≤ 19 ∧ s ∉ words.take i) (fun i => 19 - i) 0 (by (first | (simp (maxSteps := 1000000) (disch := omega) only [↓eng_pre, eng_post, ↓Fa.all_pc, Fa.all_fa, eng_core, Nat.reduceBEq, ne_eq, reduceIte, Nat.reduceEqDiff, Nat.reduceAdd, Nat.reduceMul, Nat.reduceLT, Nat.reduceSub, Int.reduceLT, Int.reduceLE, Int.reduceEq, Int.reduceAdd, Int.reduceSub, Int.reduceMul, Int.reduceNeg, Int.reduceToNat, *]; done) | (simp (maxSteps := 1000000) (disch := omega) only [↓eng_pre, eng_post, ↓Fa.all_pc, Fa.all_fa, eng_core, Nat.reduceBEq, ne_eq, reduceIte, Nat.reduceEqDiff, Nat.reduceAdd, Nat.reduceMul, Nat.reduceLT, Nat.reduceSub, Int.reduceLT, Int.reduceLE, Int.reduceEq, Int.reduceAdd, Int.reduceSub, Int.reduceMul, Int.reduceNeg, Int.reduceToNat, *, Value.int.injEq, true_and, and_true, Int.natCast_add, Int.natCast_one, Int.natCast_zero, Int.add_zero]; done) | (simp (maxSteps := 1000000) (disch := omega) only [↓eng_pre, eng_post, ↓Fa.all_pc, Fa.all_fa, eng_core, Nat.reduceBEq, ne_eq, reduceIte, Nat.reduceEqDiff, Nat.reduceAdd, Nat.reduceMul, Nat.reduceLT, Nat.reduceSub, Int.reduceLT, Int.reduceLE, Int.reduceEq, Int.reduceAdd, Int.reduceSub, Int.reduceMul, Int.reduceNeg, Int.reduceToNat, *, Value.int.injEq, true_and, and_true]; omega) | (simp (maxSteps := 1000000) (disch := omega) only [↓eng_pre, eng_post, ↓Fa.all_pc, Fa.all_fa, eng_core, Nat.reduceBEq, ne_eq, reduceIte, Nat.reduceEqDiff, Nat.reduceAdd, Nat.reduceMul, Nat.reduceLT, Nat.reduceSub, Int.reduceLT, Int.reduceLE, Int.reduceEq, Int.reduceAdd, Int.reduceSub, Int.reduceMul, Int.reduceNeg, Int.reduceToNat, *, Value.int.injEq, true_and, and_true]; exact rfl))) (end_here ⟨rfl, rfl, by omega, by simp⟩) ?_
  rintro i e m' L' hf ⟨rfl, rfl, hi, hn⟩
  simp only [fits_cons, fits_nil, and_true] at hf
  obtain ⟨e0, e5, e6, e7⟩ := hf
  by_cases hlt : i < 19
  · have hlt' : (i : Int) < 19 := by omega
    obtain ⟨w, hw⟩ : ∃ w, words[i]? = some w := ⟨_, List.getElem?_eq_getElem (by simp [words]; omega)⟩
    have hwv := hat i w hw
    by_cases hc : s = w
    · have hin : isWord s = true := (isWord_iff s).2 (by rw [hc]; exact List.mem_of_getElem? hw)
      rw [hin]
      clear hat hin hn
      repeat' (first | simp (maxSteps := 1000000) (disch := omega) only [↓eng_pre, eng_post, ↓Fa.all_pc, Fa.all_fa, eng_core, Nat.reduceBEq, ne_eq, reduceIte, Nat.reduceEqDiff, Nat.reduceAdd, Nat.reduceMul, Nat.reduceLT, Nat.reduceSub, Int.reduceLT, Int.reduceLE, Int.reduceEq, Int.reduceAdd, Int.reduceSub, Int.reduceMul, Int.reduceNeg, Int.reduceToNat, *, Int.toNat_natCast] | (with_reducible (first | (refine newA_of (fun _ => ?_)) | (refine ld_one (by (first | exact at_own (by (repeat (first | exact Take.here | apply Take.there | apply Take.app))) | exact at_mem (by assumption) | exact At.up (by assumption) | assumption)) (by first | with_reducible rfl | (simp only [get_l, List.getElem?_cons_zero, List.getElem?_cons_succ, Option.some.injEq]; exact rfl) | assumption) ?_) | (refine ld_agg (by (first | exact at_own (by (repeat (first | exact Take.here | apply Take.there | apply Take.app))) | exact at_mem (by assumption) | exact At.up (by assumption) | assumption)) (by first | (simp only [subL_succ, subL_zero, get_l, List.getElem?_cons_zero, List.getElem?_cons_succ, consO_some, Nat.reduceAdd]; exact rfl) | assumption) ?_) | (refine p_bsl ?_) | (refine bi_len (by kernel_rfl) ?_) | (refine bi_lens (by kernel_rfl) ?_) | (refine eq_ptr_nil (by kernel_rfl) ?_) | (refine neq_ptr_nil (by kernel_rfl) ?_) | (refine eq_iface_nil (by kernel_rfl) rfl ?_) | (refine neq_iface_nil (by kernel_rfl) rfl ?_))) | (with_reducible (first | (refine cond_if (fun h => ?_) (fun h => ?_)) | (refine guard_t (fun h => ?_) (fun h => ?_)) | (refine guard_f (fun h => ?_) (fun h => ?_)) | (refine cond_nif (fun h => ?_) (fun h => ?_)) | (refine cond_nsplit (fun h => ?_) (fun h => ?_)) | (refine cond_split (fun h => ?_) (fun h => ?_)) | (refine guard_split (fun h => ?_) (fun h => ?_)))) | fail)
      (first | exact end_here ⟨rfl, rfl⟩ | exact end_here ⟨rfl, rfl, rfl⟩ | exact end_drop (end_here ⟨rfl, rfl⟩) | exact end_drop (end_here ⟨rfl, rfl, rfl⟩) | exact end_drop (end_drop (end_here ⟨rfl, rfl⟩)) | exact end_drop (end_drop (end_here ⟨rfl, rfl, rfl⟩)))
    · have hn' : s ∉ words.take (i + 1) := by
        rw [List.take_succ, hw]; intro h; rcases List.mem_append.1 h with h | h; exact hn h; exact hc (by simpa using (List.mem_singleton.1 (by simpa using h)))
      clear hat hn
      repeat' (first | simp (maxSteps := 1000000) (disch := omega) only [↓eng_pre, eng_post, ↓Fa.all_pc, Fa.all_fa, eng_core, Nat.reduceBEq, ne_eq, reduceIte, Nat.reduceEqDiff, Nat.reduceAdd, Nat.reduceMul, Nat.reduceLT, Nat.reduceSub, Int.reduceLT, Int.reduceLE, Int.reduceEq, Int.reduceAdd, Int.reduceSub, Int.reduceMul, Int.reduceNeg, Int.reduceToNat, *, Int.toNat_natCast] | (with_reducible (first | (refine newA_of (fun _ => ?_)) | (refine ld_one (by (first | exact at_own (by (repeat (first | exact Take.here | apply Take.there | apply Take.app))) | exact at_mem (by assumption) | exact At.up (by assumption) | assumption)) (by first | with_reducible rfl | (simp only [get_l, List.getElem?_cons_zero, List.getElem?_cons_succ, Option.some.injEq]; exact rfl) | assumption) ?_) | (refine ld_agg (by (first | exact at_own (by (repeat (first | exact Take.here | apply Take.there | apply Take.app))) | exact at_mem (by assumption) | exact At.up (by assumption) | assumption)) (by first | (simp only [subL_succ, subL_zero, get_l, List.getElem?_cons_zero, List.getElem?_cons_succ, consO_some, Nat.reduceAdd]; exact rfl) | assumption) ?_) | (refine p_bsl ?_) | (refine bi_len (by kernel_rfl) ?_) | (refine bi_lens (by kernel_rfl) ?_) | (refine eq_ptr_nil (by kernel_rfl) ?_) | (refine neq_ptr_nil (by kernel_rfl) ?_) | (refine eq_iface_nil (by kernel_rfl) rfl ?_) | (refine neq_iface_nil (by kernel_rfl) rfl ?_))) | (with_reducible (first | (refine cond_if (fun h => ?_) (fun h => ?_)) | (refine guard_t (fun h => ?_) (fun h => ?_)) | (refine guard_f (fun h => ?_) (fun h => ?_)) | (refine cond_nif (fun h => ?_) (fun h => ?_)) | (refine cond_nsplit (fun h => ?_) (fun h => ?_)) | (refine cond_split (fun h => ?_) (fun h => ?_)) | (refine guard_split (fun h => ?_) (fun h => ?_)))) | fail)
      exact next_of (i + 1) (by (first | (simp (maxSteps := 1000000) (disch := omega) only [↓eng_pre, eng_post, ↓Fa.all_pc, Fa.all_fa, eng_core, Nat.reduceBEq, ne_eq, reduceIte, Nat.reduceEqDiff, Nat.reduceAdd, Nat.reduceMul, Nat.reduceLT, Nat.reduceSub, Int.reduceLT, Int.reduceLE, Int.reduceEq, Int.reduceAdd, Int.reduceSub, Int.reduceMul, Int.reduceNeg, Int.reduceToNat, *]; done) | (simp (maxSteps := 1000000) (disch := omega) only [↓eng_pre, eng_post, ↓Fa.all_pc, Fa.all_fa, eng_core, Nat.reduceBEq, ne_eq, reduceIte, Nat.reduceEqDiff, Nat.reduceAdd, Nat.reduceMul, Nat.reduceLT, Nat.reduceSub, Int.reduceLT, Int.reduceLE, Int.reduceEq, Int.reduceAdd, Int.reduceSub, Int.reduceMul, Int.reduceNeg, Int.reduceToNat, *, Value.int.injEq, true_and, and_true, Int.natCast_add, Int.natCast_one, Int.natCast_zero, Int.add_zero]; done) | (simp (maxSteps := 1000000) (disch := omega) only [↓eng_pre, eng_post, ↓Fa.all_pc, Fa.all_fa, eng_core, Nat.reduceBEq, ne_eq, reduceIte, Nat.reduceEqDiff, Nat.reduceAdd, Nat.reduceMul, Nat.reduceLT, Nat.reduceSub, Int.reduceLT, Int.reduceLE, Int.reduceEq, Int.reduceAdd, Int.reduceSub, Int.reduceMul, Int.reduceNeg, Int.reduceToNat, *, Value.int.injEq, true_and, and_true]; omega) | (simp (maxSteps := 1000000) (disch := omega) only [↓eng_pre, eng_post, ↓Fa.all_pc, Fa.all_fa, eng_core, Nat.reduceBEq, ne_eq, reduceIte, Nat.reduceEqDiff, Nat.reduceAdd, Nat.reduceMul, Nat.reduceLT, Nat.reduceSub, Int.reduceLT, Int.reduceLE, Int.reduceEq, Int.reduceAdd, Int.reduceSub, Int.reduceMul, Int.reduceNeg, Int.reduceToNat, *, Value.int.injEq, true_and, and_true]; exact rfl))) (end_here ⟨rfl, rfl, by omega, hn'⟩) (by omega)
  · have hlt' : ¬ (i : Int) < 19 := by omega
    have hout : isWord s = false := Bool.eq_false_iff.2 fun h => by
      rw [List.take_of_length_le (by simp [words]; omega)] at hn; exact hn ((isWord_iff s).1 h)
    rw [hout]
    clear hat hn hout
    repeat' (first | simp (maxSteps := 1000000) (disch := omega) only [↓eng_pre, eng_post, ↓Fa.all_pc, Fa.all_fa, eng_core, Nat.reduceBEq, ne_eq, reduceIte, Nat.reduceEqDiff, Nat.reduceAdd, Nat.reduceMul, Nat.reduceLT, Nat.reduceSub, Int.reduceLT, Int.reduceLE, Int.reduceEq, Int.reduceAdd, Int.reduceSub, Int.reduceMul, Int.reduceNeg, Int.reduceToNat, *, Int.toNat_natCast] | (with_reducible (first | (refine newA_of (fun _ => ?_)) | (refine ld_one (by (first | exact at_own (by (repeat (first | exact Take.here | apply Take.there | apply Take.app))) | exact at_mem (by assumption) | exact At.up (by assumption) | assumption)) (by first | with_reducible rfl | (simp only [get_l, List.getElem?_cons_zero, List.getElem?_cons_succ, Option.some.injEq]; exact rfl) | assumption) ?_) | (refine ld_agg (by (first | exact at_own (by (repeat (first | exact Take.here | apply Take.there | apply Take.app))) | exact at_mem (by assumption) | exact At.up (by assumption) | assumption)) (by first | (simp only [subL_succ, subL_zero, get_l, List.getElem?_cons_zero, List.getElem?_cons_succ, consO_some, Nat.reduceAdd]; exact rfl) | assumption) ?_) | (refine p_bsl ?_) | (refine bi_len (by kernel_rfl) ?_) | (refine bi_lens (by kernel_rfl) ?_) | (refine eq_ptr_nil (by kernel_rfl) ?_) | (refine neq_ptr_nil (by kernel_rfl) ?_) | (refine eq_iface_nil (by kernel_rfl) rfl ?_) | (refine neq_iface_nil (by kernel_rfl) rfl ?_))) | (with_reducible (first | (refine cond_if (fun h => ?_) (fun h => ?_)) | (refine guard_t (fun h => ?_) (fun h => ?_)) | (refine guard_f (fun h => ?_) (fun h => ?_)) | (refine cond_nif (fun h => ?_) (fun h => ?_)) | (refine cond_nsplit (fun h => ?_) (fun h => ?_)) | (refine cond_split (fun h => ?_) (fun h => ?_)) | (refine guard_split (fun h => ?_) (fun h => ?_)))) | fail)
    (first | exact end_here ⟨rfl, rfl⟩ | exact end_here ⟨rfl, rfl, rfl⟩ | exact end_drop (end_here ⟨rfl, rfl⟩) | exact end_drop (end_here ⟨rfl, rfl, rfl⟩) | exact end_drop (end_drop (end_here ⟨rfl, rfl⟩)) | exact end_drop (end_drop (end_here ⟨rfl, rfl, rfl⟩)))
end Go.Proofs.Ytgeifpoaemkadaa
