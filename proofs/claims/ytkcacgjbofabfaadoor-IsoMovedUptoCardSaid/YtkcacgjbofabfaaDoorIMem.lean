/- Layer 2: what a heap is in memory: the program's. -/
import Derived.Test.YtkcacgjbofabfaaDoorIPlain
import Derived.Test.YtkcacgjbofabfaaDoorFactsC
set_option linter.unusedSimpArgs false
set_option linter.unusedVariables false
set_option maxRecDepth 20000
set_option linter.all false
-- @FC
namespace Go.Proofs.YtkcacgjbofabfaaDoor
open Go Go.Eng Go.Heap
abbrev ptr (b : Nat) : Value := .pointer (some ⟨b, 0, none⟩)
abbrev hobj (tv : Value) (s : HS) : Obj := .cells #[tv, .int .i64 s.limit, .int .i64 s.used, .int .i64 1, .int .i64 s.root.1, .int .i64 s.root.2] 96 (0, 0)
/-- A thing: its record, the interface value, the blocks. -/
def ThR (o : Int × List V) (iv : Value) (Lt : Lst) : Prop := ∃ sv Lc t, GS 45 2 sv o.2.length (encs o.2) Lc ∧
  ((o.1 = -1 ∧ iv = .iface 99 (ptr t) ∧ Lt = (t, .cells #[sv] 98 (0, 0)) :: Lc) ∨
   (0 ≤ o.1 ∧ iv = .iface 102 (ptr t) ∧ Lt = (t, .cells #[sv, .int .i64 o.1] 104 (0, 0)) :: Lc))
inductive Things : List (Int × List V) → List Value → Lst → Prop
  | nil : Things [] [] []
  | cons {o os iv ivs Lo L} : ThR o iv Lo → Things os ivs L → Things (o :: os) (iv :: ivs) (Lo ++ L)
theorem Things.len {os ivs L} (h : Things os ivs L) : ivs.length = os.length := by
  induction h with
  | nil => rfl
  | cons _ _ ih => simp [ih]
theorem Things.snoc {os ivs L o iv Lo} (h : Things os ivs L) (k : ThR o iv Lo) : Things (os ++ [o]) (ivs ++ [iv]) (L ++ Lo) := by
  induction h with
  | nil => simpa using Things.cons k .nil
  | cons h0 _ ih => simpa [List.append_assoc] using Things.cons h0 ih
theorem Things.at {os ivs L o} (h : Things os ivs L) {i : Nat} (hi : os[i]? = some o) : ∃ iv Lo L1 L2, ivs[i]? = some iv ∧ ThR o iv Lo ∧ L = L1 ++ (Lo ++ L2) ∧ ∀ o' Lo', ThR o' iv Lo' → Things (os.set i o') ivs (L1 ++ (Lo' ++ L2)) := by
  induction h generalizing i with
  | nil => simp at hi
  | @cons o0 os iv0 ivs Lo0 L h0 hr ih =>
    cases i with
    | zero =>
      simp at hi; subst hi
      exact ⟨iv0, Lo0, [], L, rfl, h0, rfl, fun o' Lo' h' => by simpa using Things.cons h' hr⟩
    | succ i =>
      obtain ⟨iv, Lo, L1, L2, h1, h2, h3, h4⟩ := ih (by simpa using hi)
      refine ⟨iv, Lo, Lo0 ++ L1, L2, by simpa using h1, h2, by rw [h3]; simp [List.append_assoc], fun o' Lo' h' => ?_⟩
      have := Things.cons h0 (h4 o' Lo' h')
      simpa [List.append_assoc] using this
/-- Bounds that any heap keeps. -/
structure HOk (s : HS) : Prop where
  lim : 0 ≤ s.limit ∧ s.limit ≤ 10000000
  use : 0 ≤ s.used ∧ s.used ≤ s.limit
/-- A heap of the program, at block b. -/
def HP (b : Nat) (s : HS) (L : Lst) : Prop := HOk s ∧ ∃ tv ivs Lg Lt, GS 101 1 tv ivs.length ivs Lg ∧ Things s.objs ivs Lt ∧ L = (b, hobj tv s) :: (Lg ++ Lt)
theorem new_ct (n : Int) (m : Mem) : Cta Tryd.prog 20 [.int .i64 n] m [] (fun v m' L' => m' = m ∧ ∃ b, v = ptr b ∧ HP b (newF n) L') := by
  refine cta_of_T (c := Fc.k20_0) Tryd.func20 rfl rfl (by kernel_rfl) (by kernel_rfl) ?_
  repeat' (first | simp (maxSteps := 1000000) (disch := omega) only [↓Fc.x20_0, ↓eng_pre, eng_post, ↓Fa.all_pc, Fa.all_fa, eng_core, Nat.reduceBEq, ne_eq, reduceIte, Nat.reduceEqDiff, Nat.reduceAdd, Nat.reduceMul, Nat.reduceLT, Nat.reduceSub, Int.reduceLT, Int.reduceLE, Int.reduceEq, Int.reduceAdd, Int.reduceSub, Int.reduceMul, Int.reduceNeg, Int.reduceToNat, *] | (with_reducible (apply gd_new; first | (refine newA_of (fun _ => ?_)) | fail)) | (with_reducible (apply gd_bi; first | (refine bi_min ?_) | (refine bi_max ?_) | fail)) | fail)
  refine end_here ⟨rfl, _, rfl, ⟨⟨?_, ?_⟩, .slice none 0 0, [], [], [], GS.nil, .nil, rfl⟩⟩
  · show 0 ≤ clampL n ∧ clampL n ≤ 10000000
    unfold clampL mnI mxI; split <;> split <;> omega
  · show 0 ≤ (0 : Int) ∧ 0 ≤ clampL n
    unfold clampL mnI mxI; split <;> split <;> omega
theorem is_ct (b : Nat) (tv : Value) (s : HS) (m : Mem) : Obs Tryd.prog 36 [ptr b] m [(b, hobj tv s)] (· = .bool true) := by
  refine cta_of_T (c := Fc.k36_0) Tryd.func36 rfl rfl (by kernel_rfl) (by kernel_rfl) ?_
  repeat' (first | simp (maxSteps := 1000000) (disch := omega) only [↓Fc.x36_0, ↓eng_pre, eng_post, ↓Fa.all_pc, Fa.all_fa, eng_core, Nat.reduceBEq, ne_eq, reduceIte, Nat.reduceEqDiff, Nat.reduceAdd, Nat.reduceMul, Nat.reduceLT, Nat.reduceSub, Int.reduceLT, Int.reduceLE, Int.reduceEq, Int.reduceAdd, Int.reduceSub, Int.reduceMul, Int.reduceNeg, Int.reduceToNat, *] | (with_reducible (apply gd_load; first | (refine ld_by (by (first | (apply at_own; (· (repeat (first | apply Take.here | apply Take.there | apply Take.app)))) | (apply at_mem; assumption) | (apply At.up; assumption) | assumption)) ?_; first | (refine lb_one (by first | with_reducible rfl | (simp only [get_l, List.getElem?_cons_zero, List.getElem?_cons_succ, Option.some.injEq]; exact rfl) | assumption) ?_) | (refine lb_agg (by first | (simp only [subL_succ, subL_zero, get_l, List.getElem?_cons_zero, List.getElem?_cons_succ, consO_some, Nat.reduceAdd]; exact rfl) | assumption) ?_) | fail) | fail)) | (with_reducible (apply gd_top; first | (refine p_nilck ?_) | fail)) | (with_reducible (apply gd_eq; first | (refine eq_ptr_nil (by kernel_rfl) ?_) | (refine neq_ptr_nil (by kernel_rfl) ?_) | (refine eq_iface_nil (by kernel_rfl) rfl ?_) | (refine neq_iface_nil (by kernel_rfl) rfl ?_) | fail)) | (with_reducible (apply gd_guard; first | (refine guard_t (fun h => ?_) (fun h => ?_)) | (refine guard_f (fun h => ?_) (fun h => ?_)) | (refine guard_split (fun h => ?_) (fun h => ?_)))) | fail)

  refine end_here ?_; exact ⟨rfl, rfl⟩
end Go.Proofs.YtkcacgjbofabfaaDoor
