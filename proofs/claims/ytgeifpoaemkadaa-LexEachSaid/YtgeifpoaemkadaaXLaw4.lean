/- Layer 4: the document's tokens that are told. -/
import Derived.Test.YtgeifpoaemkadaaXLaw3
set_option linter.unusedSimpArgs false
set_option linter.unusedVariables false
set_option linter.all false
namespace Go.Eng
open Go Go.RowKit
def isFn (P : Program) (T : TypeId) : Bool := match P.underlying T with | some (.func _ _ _) => true | _ => false
theorem run_equalIn_fn {P : Program} {T : TypeId} {g : Fn} {a b : Array Value} {w : World} {dp : Nat} {q r : Array TypeId} {v : Bool} (hu : P.underlying T = some (.func q r v)) : (Op.equalIn (dp + 1) T (.func g a b) .nilFunc).run P w = .ok false w := by simp [Op.equalIn, run_underlying hu]
theorem b_eq_func {P : Program} {C : KX} {w : World} {T : TypeId} {x y : Operand} {g : Fn} {a b : Array Value} (h : isFn P T = true) : binP P .eql T x y (.func g a b) .nilFunc w = C.k (.bool false) w := by
  unfold isFn at h
  split at h
  · rename_i _ _ _ hu
    have hq : (Op.equal T (.func g a b) .nilFunc).run P w = .ok false w := run_equalIn_fn (dp := 9999) hu
    have hg : (eqGuard .eql T x y (.func g a b) .nilFunc).run P w = .ok () w := by unfold eqGuard; simp
    simp only [binP, runV, binOp, Sem.run_bind, Sem.run_pure, Result.andThen_ok, hg, hq]
  · cases h
theorem ab_eq_func {P : Program} {C : KA} {m : Mem} {L : Lst} {T : TypeId} {x y : Operand} {g : Fn} {a b : Array Value} (h : isFn P T = true) : @binA P .eql T x y (.func g a b) .nilFunc C m L = C.k (.bool false) m L := ab_of fun C w => b_eq_func h
end Go.Eng
namespace Go.Lex
open Go Go.Eng
theorem tokF_err (s : ByteArray) (j : Nat) : (tokF s j).2.1 = 0 ∨ (tokF s j).2.1 = 40 ∨ (tokF s j).2.1 = 41 := by
  unfold tokF
  (repeat' split) <;> simp
theorem good_err (s : ByteArray) : ∀ n i, s.size - i = n → i ≤ s.size → (good s i).2.1 = 0 ∨ (good s i).2.1 = 40 ∨ (good s i).2.1 = 41 := by
  intro n
  induction n using Nat.strongRecOn with
  | ind n ih =>
    intro i hn hi
    obtain ⟨g1, g2, g3⟩ := next_gt s i hi
    have he' : (nextF s i).2.1 = 0 ∨ (nextF s i).2.1 = 40 ∨ (nextF s i).2.1 = 41 := tokF_err s _
    rw [good_eq s i hi]
    by_cases he : (nextF s i).2.1 = 0
    · rw [if_neg (by omega)]
      by_cases hk : (nextF s i).1.kind = 0
      · rw [if_pos hk]; exact .inl rfl
      · rw [if_neg hk]; exact ih _ (by have := g3 he hk; omega) _ rfl g1
    · rw [if_pos he]; exact he'
theorem encT_take (l : List Tok) (k : Nat) (j : Nat) (x : Value) (h : (encT (l.take k))[j]? = some x) : (encT l)[j]? = some x := by
  have e : encT l = encT (l.take k) ++ encT (l.drop k) := by
    unfold encT; rw [← List.flatMap_append, List.take_append_drop]
  rw [e, List.getElem?_append_left (List.getElem?_eq_some_iff.1 h).1]; exact h
end Go.Lex
namespace Go.Proofs.Ytgeifpoaemkadaa
open Go Go.Eng Go.Lex
theorem GS.cap {E : TypeId} {s n c : Nat} {p : Option Addr} {xs : List Value} {Lg : Lst} (h : GS E s (.slice p n c) n xs Lg) : n ≤ c := by
  obtain ⟨_, ⟨_, rfl, _⟩ | ⟨b, c', sp, he, hc, _⟩⟩ := h
  · exact Nat.zero_le _
  · injection he with _ _ h3; omega
/-- Ahead of the last. -/
theorem SlAt.front {m : Mem} {L : Lst} {p : Option Addr} {n c k : Nat} {l : List Tok} (h : SlAt m L (.slice p n c) n 5 (encT l)) (hk : k ≤ n) (hl : l.length = n) : SlAt m L (.slice p k c) k 5 (encT (l.take k)) := by
  by_cases h0 : k = 0
  · subst h0; exact .inl ⟨rfl, by simp [encT], p, c, rfl⟩
  · obtain ⟨b, o, cs, rfl, h1, h2, h3⟩ := h.block (by omega)
    exact .inr ⟨b, o, c, cs, rfl, by rw [encT_len, List.length_take]; congr 1; omega, h2, fun j x hj => h3 j x (encT_take l k j x hj)⟩
set_option maxHeartbeats 0 in
theorem rgood_ct (s : ByteArray) (hs : s.size ≤ 100000) (m : Mem) : Cta Try.prog 20 [.string s] m [] (fun v m' L' => m' = m ∧ ∃ p c, v = .slice p (told s).length c ∧ SlAt m' L' (.slice p (told s).length c) (told s).length 5 (encT (told s))) := by
  obtain ⟨k1, k2, k3, k4, k5, k6⟩ := scan_bounds s (by omega)
  have c1 := fun l a er h m => rscan_parts s l a er h m
  have hsc : scanF s = if (good s 0).2.1 ≠ 0 then ([], (good s 0).2.2, (good s 0).2.1) else ((good s 0).1, 0, 0) := by unfold scanF; rw [if_neg (by omega)]
  by_cases he : (good s 0).2.1 = 0
  · rw [if_neg (by omega)] at hsc
    have hne := good_ne s 0 (by omega) he
    have ht : told s = (good s 0).1.take ((good s 0).1.length - 1) := by unfold told; rw [if_neg (by omega), List.dropLast_eq_take]
    have htl : (told s).length = (good s 0).1.length - 1 := by rw [ht, List.length_take]; omega
    rw [hsc] at k4
    have c1 := fun m => (c1 _ _ _ hsc m).mono fun v m' L' h => (⟨h.1, h.2.imp fun p h => h.imp fun c h => ⟨GS.cap h.2, h⟩⟩ : m' = m ∧ ∃ p c, (good s 0).1.length ≤ c ∧ _)
    have hlen : 0 < (good s 0).1.length := List.length_pos_iff.2 hne
    have fin : ∀ m' L' p c, GS 37 5 (.slice p (good s 0).1.length c) (good s 0).1.length (encT (good s 0).1) L' → SlAt m' L' (.slice p ((good s 0).1.length - 1) c) ((good s 0).1.length - 1) 5 (encT (told s)) := fun m' L' p c hg => by
      rw [ht]; exact SlAt.front (hg.at TakeL.all) (by omega) rfl
    rw [htl]
    unfold TokS at c1
    generalize encT (told s) = et at *
    generalize encT (good s 0).1 = eg at *
    change (good s 0).1.length ≤ s.size + 1 at k4
    generalize (good s 0).1.length = n at *
    clear k1 k2 k3 k5 k6 hsc he hne ht htl
    have e1 : ((n : Int) - 1).toNat = n - 1 := by omega
    have e0 : ¬ (n : Int) = 0 := by omega
    refine cta_of_T Try.func20 rfl rfl (by kernel_rfl) (by kernel_rfl) ?_
    repeat' (first | simp (maxSteps := 1000000) (disch := omega) only [↓eng_pre, eng_post, ↓Fa.all_pc, Fa.all_fa, eng_core, Nat.reduceBEq, ne_eq, reduceIte, Nat.reduceEqDiff, Nat.reduceAdd, Nat.reduceMul, Nat.reduceLT, Nat.reduceSub, Int.reduceLT, Int.reduceLE, Int.reduceEq, Int.reduceAdd, Int.reduceSub, Int.reduceMul, Int.reduceNeg, Int.reduceToNat, e1, e0] | (with_reducible (first | (refine bi_len (by kernel_rfl) ?_) | (refine bi_lens (by kernel_rfl) ?_) | (refine sl_h (by kernel_rfl) (by first | with_reducible exact Fa.es_23 | fail) (by omega) ?_) | (refine ss_h (by kernel_rfl) (by omega) ?_) | (refine eq_ptr_nil (by kernel_rfl) ?_) | (refine neq_ptr_nil (by kernel_rfl) ?_) | (refine eq_iface_nil (by kernel_rfl) rfl ?_) | (refine neq_iface_nil (by kernel_rfl) rfl ?_))) | ((with_reducible refine ca_of (c1 _) (by (repeat (first | exact Takes.nil | (apply Takes.cons; (· (repeat (first | exact Take.here | apply Take.there | apply Take.app)))) | (apply Takes.app; (· ((repeat ((fail_if_success (first | exact TakeL.here | exact TakeL.all)); (first | apply TakeL.cons | apply TakeL.app))); (first | exact TakeL.here | exact TakeL.all)))) | (apply Takes.lst; (· ((repeat ((fail_if_success (first | exact TakeL.here | exact TakeL.all)); (first | apply TakeL.cons | apply TakeL.app))); (first | exact TakeL.here | exact TakeL.all)))) | fail))) ?_); rintro _ _ _ ⟨rfl, p1, q1, hcp, rfl, hg1⟩) | (with_reducible (first | (refine cond_if (fun h => ?_) (fun h => ?_)) | (refine guard_t (fun h => ?_) (fun h => ?_)) | (refine guard_f (fun h => ?_) (fun h => ?_)) | (refine cond_nif (fun h => ?_) (fun h => ?_)) | (refine cond_nsplit (fun h => ?_) (fun h => ?_)) | (refine cond_split (fun h => ?_) (fun h => ?_)) | (refine guard_split (fun h => ?_) (fun h => ?_)))) | fail)
    exact end_here ⟨rfl, p1, q1, rfl, fin _ _ _ _ hg1⟩
  · rw [if_pos he] at hsc
    obtain ⟨bb, hb1, hb2, hb3⟩ := good_place s _ 0 rfl (by omega) he
    obtain ⟨p1, p2, p3⟩ := told_pre s bb he hb1
    have hze := extract_size s 0 bb ⟨Nat.zero_le _, hb3⟩
    have hsc2 : scanF (s.extract 0 bb) = (told s ++ [endT bb], 0, 0) := by unfold scanF; rw [if_neg (by omega), if_neg (by omega), p3]
    have her := good_err s _ 0 rfl (by omega)
    have hne2 : ¬ (good s 0).2.1 = 2 := by omega
    have fin : ∀ m' L' p c, GS 37 5 (.slice p ((told s).length + 1) c) ((told s).length + 1) (encT (told s ++ [endT bb])) L' → SlAt m' L' (.slice p (told s).length c) (told s).length 5 (encT (told s)) := fun m' L' p c hg => by
      have := SlAt.front (m := m') (k := (told s).length) (hg.at TakeL.all) (by omega) (TokS.len _ _)
      rwa [List.take_left' rfl] at this
    have c2 := fun m => (c1 _ _ _ hsc m)
    have c3 := rscan_parts _ _ _ _ hsc2
    have c3 := fun m => (c3 m).mono fun v m' L' h => (⟨h.1, h.2.imp fun p h => h.imp fun c h => ⟨GS.cap h.2, h⟩⟩ : m' = m ∧ ∃ p c, (told s ++ [endT bb]).length ≤ c ∧ _)
    unfold TokS at c2 c3
    rw [TokS.len] at c3
    have htl := told_len s
    rw [hb1] at c2
    have e1 : ((((told s).length + 1 : Nat) : Int) - 1).toNat = (told s).length := by omega
    have e0 : ¬ (((told s).length + 1 : Nat) : Int) = 0 := by omega
    have e2 : ¬ (s.size : Int) < bb := by omega
    clear c1 k1 k2 k3 k4 k5 k6 hsc hsc2 her p1 p2 p3 hb1
    generalize (good s 0).2.1 = er at *
    generalize encT (told s) = et at *
    generalize encT (told s ++ [endT bb]) = eg at *
    generalize (told s).length = n at *
    refine cta_of_T Try.func20 rfl rfl (by kernel_rfl) (by kernel_rfl) ?_
    repeat' (first | simp (maxSteps := 1000000) (disch := omega) only [↓eng_pre, eng_post, ↓Fa.all_pc, Fa.all_fa, eng_core, Nat.reduceBEq, ne_eq, reduceIte, Nat.reduceEqDiff, Nat.reduceAdd, Nat.reduceMul, Nat.reduceLT, Nat.reduceSub, Int.reduceLT, Int.reduceLE, Int.reduceEq, Int.reduceAdd, Int.reduceSub, Int.reduceMul, Int.reduceNeg, Int.reduceToNat, he, hne2, e1, e0, e2, Int.toNat_natCast] | (with_reducible (first | (refine bi_len (by kernel_rfl) ?_) | (refine bi_lens (by kernel_rfl) ?_) | (refine sl_h (by kernel_rfl) (by first | with_reducible exact Fa.es_23 | fail) (by omega) ?_) | (refine ss_h (by kernel_rfl) (by omega) ?_) | (refine eq_ptr_nil (by kernel_rfl) ?_) | (refine neq_ptr_nil (by kernel_rfl) ?_) | (refine eq_iface_nil (by kernel_rfl) rfl ?_) | (refine neq_iface_nil (by kernel_rfl) rfl ?_))) | ((with_reducible refine ca_of (c2 _) (by (repeat (first | exact Takes.nil | (apply Takes.cons; (· (repeat (first | exact Take.here | apply Take.there | apply Take.app)))) | (apply Takes.app; (· ((repeat ((fail_if_success (first | exact TakeL.here | exact TakeL.all)); (first | apply TakeL.cons | apply TakeL.app))); (first | exact TakeL.here | exact TakeL.all)))) | (apply Takes.lst; (· ((repeat ((fail_if_success (first | exact TakeL.here | exact TakeL.all)); (first | apply TakeL.cons | apply TakeL.app))); (first | exact TakeL.here | exact TakeL.all)))) | fail))) ?_); rintro _ _ _ ⟨rfl, p1, q1, rfl, hg1⟩) | ((with_reducible refine ca_of (c3 _) (by (repeat (first | exact Takes.nil | (apply Takes.cons; (· (repeat (first | exact Take.here | apply Take.there | apply Take.app)))) | (apply Takes.app; (· ((repeat ((fail_if_success (first | exact TakeL.here | exact TakeL.all)); (first | apply TakeL.cons | apply TakeL.app))); (first | exact TakeL.here | exact TakeL.all)))) | (apply Takes.lst; (· ((repeat ((fail_if_success (first | exact TakeL.here | exact TakeL.all)); (first | apply TakeL.cons | apply TakeL.app))); (first | exact TakeL.here | exact TakeL.all)))) | fail))) ?_); rintro _ _ _ ⟨rfl, p2, q2, hcp, rfl, hg2⟩) | (with_reducible (first | (refine cond_if (fun h => ?_) (fun h => ?_)) | (refine guard_t (fun h => ?_) (fun h => ?_)) | (refine guard_f (fun h => ?_) (fun h => ?_)) | (refine cond_nif (fun h => ?_) (fun h => ?_)) | (refine cond_nsplit (fun h => ?_) (fun h => ?_)) | (refine cond_split (fun h => ?_) (fun h => ?_)) | (refine guard_split (fun h => ?_) (fun h => ?_)))) | fail)
    (exact end_takeR (⟨rfl, p2, q2, rfl, fin _ _ _ _ hg2⟩) (by (repeat (first | exact Takes.nil | (apply Takes.cons; (· (repeat (first | exact Take.here | apply Take.there | apply Take.app)))) | (apply Takes.app; (· ((repeat ((fail_if_success (first | exact TakeL.here | exact TakeL.all)); (first | apply TakeL.cons | apply TakeL.app))); (first | exact TakeL.here | exact TakeL.all)))) | (apply Takes.lst; (· ((repeat ((fail_if_success (first | exact TakeL.here | exact TakeL.all)); (first | apply TakeL.cons | apply TakeL.app))); (first | exact TakeL.here | exact TakeL.all)))) | fail))))
end Go.Proofs.Ytgeifpoaemkadaa
