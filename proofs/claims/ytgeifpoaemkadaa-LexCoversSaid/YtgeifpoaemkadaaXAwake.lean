/- Layer 4: the examples are answered as the chapter says. -/
import Derived.Test.YtgeifpoaemkadaaXConc
import Derived.Test.YtgeifpoaemkadaaXAll
import Derived.Test.YtgeifpoaemkadaaXLine3
set_option linter.unusedSimpArgs false
set_option linter.unusedVariables false
set_option linter.all false
namespace Go.Lex
open Go Go.Eng
theorem encT_at {l : List Tok} {k : Nat} {t : Tok} (h : l[k]? = some t) (j : Nat) (hj : j < 5) : (encT l)[k * 5 + j]? = (tokV t)[j]? := by
  induction l generalizing k with
  | nil => simp at h
  | cons a l ih =>
    unfold encT at *
    rw [List.flatMap_cons]
    have hl : (tokV a).length = 5 := rfl
    cases k with
    | zero =>
      obtain rfl := Option.some.inj h
      rw [Nat.zero_mul, Nat.zero_add, List.getElem?_append_left (by omega)]
    | succ k =>
      rw [List.getElem?_append_right (by omega), hl, show (k + 1) * 5 + j - 5 = k * 5 + j by omega]
      exact ih (by simpa using h)
end Go.Lex
namespace Go.Proofs.Ytgeifpoaemkadaa
open Go Go.Eng Go.Lex
theorem ex1_ct (m : Mem) : Cta Try.prog 10 [.string ⟨#[120, 60, 60, 61, 48, 120, 49, 70]⟩] m [] (fun v m' L' => ∃ b c cs, m' = m ∧ L' = [(b, .cells cs 37 (0, 0))] ∧ v = .tuple #[.slice (some ⟨b, 0, none⟩) 5 c, .int .i64 0, .int .i64 0] ∧ cs[19]? = some (.int .i64 31)) := by
  refine (scan_ct ex1 m).mono ?_
  rintro v m' L' ⟨rfl, p, c, rfl, hg⟩
  obtain ⟨h1, h2, h3, h4⟩ := ex1_e
  rw [h1, h2, h3]
  unfold TokS at hg
  rw [h1] at hg
  obtain ⟨hl, ⟨_, h5, _⟩ | ⟨b, c', sp, he, hnc, hcm, hsp, rfl⟩⟩ := hg
  · omega
  · injection he with he1 he2 he3
    subst he1
    cases ht : (scanF ex1).1[3]? with
    | none => rw [ht] at h4; cases h4
    | some t =>
      rw [ht] at h4
      have h31 : t.n = 31 := Option.some.inj h4
      have := encT_at ht 4 (by omega)
      refine ⟨b, c, _, rfl, rfl, rfl, ?_⟩
      rw [List.getElem?_toArray, List.getElem?_append_left (by rw [hl]; omega), this]
      show some (Value.int .i64 t.n) = _
      rw [h31]
theorem ex2_ct (m : Mem) : Cta Try.prog 10 [.string ⟨#[49, 50, 97]⟩] m [] (fun v m' L' => ∃ p c, m' = m ∧ v = .tuple #[.slice p 0 c, .int .i64 0, .int .i64 41]) := by
  refine (scan_ct ex2 m).mono ?_
  rintro v m' L' ⟨rfl, p, c, rfl, hg⟩
  obtain ⟨h1, h2, h3⟩ := ex2_e
  rw [h1, h2, h3]
  exact ⟨p, c, rfl, rfl⟩
set_option maxHeartbeats 0 in
theorem awake_ct : Pur Try.prog 9 [] (· = .bool true) := by
  have q3 := Line_ct ⟨#[97, 10, 98]⟩ 2 (by decide)
  rw [show lineF ⟨#[97, 10, 98]⟩ (clampP ⟨#[97, 10, 98]⟩ 2) = 2 from ex3_e.1, show colF ⟨#[97, 10, 98]⟩ (clampP ⟨#[97, 10, 98]⟩ 2) = 1 from ex3_e.2] at q3
  have q4 := Number_ct ⟨#[39, 97, 39]⟩ (by decide)
  rw [show number ⟨#[39, 97, 39]⟩ = (97, true) from ex4_e] at q4
  have q5 := Name_ct ⟨#[120]⟩ (by decide)
  rw [show nameB ⟨#[120]⟩ = true from ex5_e] at q5
  unfold pairV at q4
  have c5 : ((5 : Nat) : Int) = 5 := rfl
  intro m; refine cta_of_T Try.func9 rfl rfl (by kernel_rfl) (by kernel_rfl) ?_
  repeat' (first | simp (maxSteps := 1000000) (disch := omega) only [↓eng_pre, eng_post, ↓Fa.all_pc, Fa.all_fa, eng_core, Nat.reduceBEq, ne_eq, reduceIte, Nat.reduceEqDiff, Nat.reduceAdd, Nat.reduceMul, Nat.reduceLT, Nat.reduceSub, Int.reduceLT, Int.reduceLE, Int.reduceEq, Int.reduceAdd, Int.reduceSub, Int.reduceMul, Int.reduceNeg, Int.reduceToNat, *, c5] | (with_reducible (first | (refine ld_one (by (first | exact at_own (by (repeat (first | exact Take.here | apply Take.there | apply Take.app))) | exact at_mem (by assumption) | exact At.up (by assumption) | assumption)) (by first | with_reducible rfl | (simp only [get_l, List.getElem?_cons_zero, List.getElem?_cons_succ, Option.some.injEq]; exact rfl) | assumption) ?_) | (refine ld_agg (by (first | exact at_own (by (repeat (first | exact Take.here | apply Take.there | apply Take.app))) | exact at_mem (by assumption) | exact At.up (by assumption) | assumption)) (by first | (simp only [subL_succ, subL_zero, get_l, List.getElem?_cons_zero, List.getElem?_cons_succ, consO_some, Nat.reduceAdd]; exact rfl) | assumption) ?_) | (refine bi_len (by kernel_rfl) ?_) | (refine bi_lens (by kernel_rfl) ?_) | (refine eq_ptr_nil (by kernel_rfl) ?_) | (refine neq_ptr_nil (by kernel_rfl) ?_) | (refine eq_iface_nil (by kernel_rfl) rfl ?_) | (refine neq_iface_nil (by kernel_rfl) rfl ?_))) | ((with_reducible refine ca_of (ex1_ct _) (by (repeat (first | exact Takes.nil | (apply Takes.cons; (· (repeat (first | exact Take.here | apply Take.there | apply Take.app)))) | (apply Takes.app; (· ((repeat ((fail_if_success (first | exact TakeL.here | exact TakeL.all)); (first | apply TakeL.cons | apply TakeL.app))); (first | exact TakeL.here | exact TakeL.all)))) | (apply Takes.lst; (· ((repeat ((fail_if_success (first | exact TakeL.here | exact TakeL.all)); (first | apply TakeL.cons | apply TakeL.app))); (first | exact TakeL.here | exact TakeL.all)))) | fail))) ?_); rintro _ _ _ ⟨b, c, cs, rfl, rfl, rfl, h19⟩) | ((with_reducible refine ca_of (ex2_ct _) (by (repeat (first | exact Takes.nil | (apply Takes.cons; (· (repeat (first | exact Take.here | apply Take.there | apply Take.app)))) | (apply Takes.app; (· ((repeat ((fail_if_success (first | exact TakeL.here | exact TakeL.all)); (first | apply TakeL.cons | apply TakeL.app))); (first | exact TakeL.here | exact TakeL.all)))) | (apply Takes.lst; (· ((repeat ((fail_if_success (first | exact TakeL.here | exact TakeL.all)); (first | apply TakeL.cons | apply TakeL.app))); (first | exact TakeL.here | exact TakeL.all)))) | fail))) ?_); rintro _ _ _ ⟨p, c, rfl, rfl⟩) | ((with_reducible refine pur_of (q3) ?_); rintro _ rfl) | ((with_reducible refine pur_of (q4) ?_); rintro _ rfl) | ((with_reducible refine ca_of (q5 _) (by (repeat (first | exact Takes.nil | (apply Takes.cons; (· (repeat (first | exact Take.here | apply Take.there | apply Take.app)))) | (apply Takes.app; (· ((repeat ((fail_if_success (first | exact TakeL.here | exact TakeL.all)); (first | apply TakeL.cons | apply TakeL.app))); (first | exact TakeL.here | exact TakeL.all)))) | (apply Takes.lst; (· ((repeat ((fail_if_success (first | exact TakeL.here | exact TakeL.all)); (first | apply TakeL.cons | apply TakeL.app))); (first | exact TakeL.here | exact TakeL.all)))) | fail))) ?_); rintro _ _ _ ⟨rfl, rfl⟩) | (with_reducible (first | (refine cond_if (fun h => ?_) (fun h => ?_)) | (refine guard_t (fun h => ?_) (fun h => ?_)) | (refine guard_f (fun h => ?_) (fun h => ?_)) | (refine cond_nif (fun h => ?_) (fun h => ?_)) | (refine cond_nsplit (fun h => ?_) (fun h => ?_)) | (refine cond_split (fun h => ?_) (fun h => ?_)) | (refine guard_split (fun h => ?_) (fun h => ?_)))) | fail)
  all_goals exact end_clear ⟨rfl, rfl⟩
end Go.Proofs.Ytgeifpoaemkadaa
