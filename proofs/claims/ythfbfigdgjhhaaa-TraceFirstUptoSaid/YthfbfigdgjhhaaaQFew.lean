/- Layer 16: how much a trace is: the document's Size. -/
import Derived.Test.YthfbfigdgjhhaaaQTake
set_option linter.unusedSimpArgs false
set_option linter.unusedVariables false
set_option maxRecDepth 20000
set_option linter.all false
-- @FC
namespace Go.Tr
open Go Go.Eng
def sumN {α : Type} (f : α → Nat) (l : List α) : Nat := (l.map f).sum
theorem sumN_snoc {α : Type} {f : α → Nat} {l : List α} {j : Nat} {a : α} (h : l[j]? = some a) : sumN f (l.take (j + 1)) = sumN f (l.take j) + f a := by
  unfold sumN; rw [List.take_succ, h, Option.toList_some, List.map_append, List.sum_append]; simp
theorem sumN_le {α : Type} {f : α → Nat} {B : Nat} : ∀ {l : List α}, (∀ a ∈ l, f a ≤ B) → sumN f l ≤ l.length * B
  | [], _ => Nat.zero_le _
  | a :: l, h => by
    have h1 := h a (by simp)
    have h2 := sumN_le (l := l) fun x hx => h x (by simp [hx])
    unfold sumN at *
    rw [List.map_cons, List.sum_cons, List.length_cons, Nat.succ_mul]; omega
def sizeF (t : TrR) : Nat := t.ins.length + t.ops.length + t.links.length + t.virts.length + t.back.length + sumN (fun o => o.args.length) t.ops + sumN (fun o => o.regs.length) t.links + sumN (fun o => o.cells.length) t.virts
theorem sumN_bd {α : Type} {f : α → Nat} {l : List α} (hl : l.length ≤ 1048576) (h : ∀ a ∈ l, f a ≤ 1048576) (j : Nat) : sumN f (l.take j) ≤ 1099511627776 := by
  have := sumN_le (f := f) (B := 1048576) (l := l.take j) fun a ha => h a (List.mem_of_mem_take ha)
  rw [List.length_take] at this
  have h2 : min j l.length ≤ 1048576 := by omega
  have := Nat.le_trans this (Nat.mul_le_mul_right 1048576 h2)
  omega
theorem sumN_all {α : Type} {f : α → Nat} {l : List α} {j : Nat} (h : l.length ≤ j) : sumN f (l.take j) = sumN f l := by rw [List.take_of_length_le h]
theorem recs_mem {α : Type} {m : Mem} {s : Nat} {E : α → List Value → Prop} {p : Option Addr} {c : Nat} {l : List α} (h : RecsAt m s E p c l) {a : α} (ha : a ∈ l) : ∃ r, E a r := by
  obtain ⟨i, hi⟩ := List.getElem?_of_mem ha
  obtain ⟨_, _, _, r, _, _, _, hE, _⟩ := h.get hi
  exact ⟨r, hE⟩
end Go.Tr
namespace Go.Proofs.Ythfbfigdgjhhaaa
open Go Go.Eng Go.Tr
set_option maxHeartbeats 0 in
theorem size_ct (z : TLoc) (t : TrR) (m : Mem) (ht : TrAt m z t) :
    Cta Try.prog 24 [trV t.key t.fn t.pc z t.ins.length t.ops.length t.links.length t.virts.length t.back.length] m [] (fun v m' L' => m' = m ∧ v = .int .i64 (sizeF t)) := by
  have hbl := ht.back.len
  have ho : ∀ a ∈ t.ops, a.args.length ≤ 1048576 := fun a ha => by obtain ⟨_, _, _, _, hs, _⟩ := recs_mem ht.ops ha; exact hs.len
  have hk : ∀ a ∈ t.links, a.regs.length ≤ 1048576 := fun a ha => by obtain ⟨_, _, _, _, hs, _⟩ := recs_mem ht.links ha; exact hs.len
  have hv : ∀ a ∈ t.virts, a.cells.length ≤ 1048576 := fun a ha => by obtain ⟨_, _, _, _, hs, _⟩ := recs_mem ht.virts ha; exact hs.len
  have bo := sumN_bd ht.lo ho
  have bk := sumN_bd ht.ll hk
  have bv := sumN_bd ht.lv hv
  have li := ht.li
  have lo := ht.lo
  have ll := ht.ll
  have lv := ht.lv
  have hops := ht.ops
  have hlks := ht.links
  have hvts := ht.virts
  clear ht ho hk hv
  unfold sizeF
  obtain ⟨fo, hfo⟩ : ∃ f : OpR → Nat, f = fun o => o.args.length := ⟨_, rfl⟩
  obtain ⟨fk, hfk⟩ : ∃ f : LinkR → Nat, f = fun o => o.regs.length := ⟨_, rfl⟩
  obtain ⟨fv, hfv⟩ : ∃ f : VirtR → Nat, f = fun o => o.cells.length := ⟨_, rfl⟩
  rw [← hfo, ← hfk, ← hfv]
  rw [← hfo] at bo
  rw [← hfk] at bk
  rw [← hfv] at bv
  obtain ⟨key, fn0, pc0, ins, ops, lks, vts, bks⟩ := t
  dsimp only at *
  generalize ins.length = ni at *
  generalize hno : ops.length = no at *
  generalize hnl : lks.length = nl at *
  generalize hnv : vts.length = nv at *
  generalize bks.length = nb at *
  refine cta_of_T (c := Fc.k24_0) Try.func24 rfl rfl (by kernel_rfl) (by kernel_rfl) ?_
  repeat' (first | simp (maxSteps := 1000000) (disch := omega) only [↓Fc.x24_0, ↓Fc.x24_1, ↓eng_pre, eng_post, ↓Fa.all_pc, Fa.all_fa, eng_core, Nat.reduceBEq, ne_eq, reduceIte, Nat.reduceEqDiff, Nat.reduceAdd, Nat.reduceMul, Nat.reduceLT, Nat.reduceSub, Int.reduceLT, Int.reduceLE, Int.reduceEq, Int.reduceAdd, Int.reduceSub, Int.reduceMul, Int.reduceNeg, Int.reduceToNat, Int.toNat_natCast] | (with_reducible (apply gd_new; first | (refine newA_of (fun _ => ?_)) | fail)) | (with_reducible (apply gd_load; first | (refine ld_by (by (first | (apply at_own; (· (repeat (first | apply Take.here | apply Take.there | apply Take.app)))) | (apply at_mem; assumption) | (apply At.up; assumption) | assumption)) ?_; first | (refine lb_one (by first | with_reducible rfl | (simp only [get_l, List.getElem?_cons_zero, List.getElem?_cons_succ, Option.some.injEq]; exact rfl) | assumption) ?_) | (refine lb_agg (by first | (simp only [subL_succ, subL_zero, get_l, List.getElem?_cons_zero, List.getElem?_cons_succ, consO_some, Nat.reduceAdd]; exact rfl) | assumption) ?_) | fail) | fail)) | (with_reducible (apply gd_store; first | (refine st_own (by (repeat (first | apply Put.here | apply Put.there | apply Put.app))) (by simp only [eng_sm, eng_core, Nat.reduceAdd, Nat.reduceLeDiff] <;> with_reducible assumption) (by simp only [eng_sm, eng_core, Nat.reduceAdd, Nat.reduceLeDiff] <;> first | with_reducible assumption | omega) ?_) | fail)) | (with_reducible (apply gd_bi; first | (refine bi_len (by kernel_rfl) ?_) | (refine bi_lens (by kernel_rfl) ?_) | fail)) | (with_reducible (apply gd_cond; first | (refine cond_if (fun h => ?_) (fun h => ?_)) | (refine cond_nif (fun h => ?_) (fun h => ?_)) | (refine cond_nsplit (fun h => ?_) (fun h => ?_)) | (refine cond_split (fun h => ?_) (fun h => ?_)))) | fail)
  rename_i b
  obtain ⟨LL, hLL⟩ : ∃ LL : Lst, LL = [(b, trO key fn0 pc0 z ni no nl nv nb)] := ⟨_, rfl⟩
  obtain ⟨S0, hS0⟩ : ∃ S : Nat, S = ni + no + nl + nv + nb := ⟨_, rfl⟩
  have hS0' : (ni : Int) + no + nl + nv + nb = S0 := by omega
  have hS0b : S0 ≤ 5242880 := by omega
  refine loopA_of (γ := Nat) (fun j => [(1, ptr b), (3, .int .i64 ((S0 + sumN fo (ops.take j) : Nat) : Int)), (30, .slice z.po no z.co), (31, .int .i64 no), (32, .int .i64 (j : Int))])
    (fun j m' L' => m' = m ∧ L' = LL ∧ j ≤ no) (fun j => no - j) 0 (by rw [show sumN fo (ops.take 0) = 0 from rfl, Nat.add_zero, ← hS0']; (first | (simp (maxSteps := 1000000) (disch := omega) only [↓eng_pre, eng_post, ↓Fa.all_pc, Fa.all_fa, eng_core, Nat.reduceBEq, ne_eq, reduceIte, Nat.reduceEqDiff, Nat.reduceAdd, Nat.reduceMul, Nat.reduceLT, Nat.reduceSub, Int.reduceLT, Int.reduceLE, Int.reduceEq, Int.reduceAdd, Int.reduceSub, Int.reduceMul, Int.reduceNeg, Int.reduceToNat, *]; done) | (simp (maxSteps := 1000000) (disch := omega) only [↓eng_pre, eng_post, ↓Fa.all_pc, Fa.all_fa, eng_core, Nat.reduceBEq, ne_eq, reduceIte, Nat.reduceEqDiff, Nat.reduceAdd, Nat.reduceMul, Nat.reduceLT, Nat.reduceSub, Int.reduceLT, Int.reduceLE, Int.reduceEq, Int.reduceAdd, Int.reduceSub, Int.reduceMul, Int.reduceNeg, Int.reduceToNat, *, Value.int.injEq, true_and, and_true, Int.natCast_add, Int.natCast_one, Int.natCast_zero, Int.add_zero]; done) | (simp (maxSteps := 1000000) (disch := omega) only [↓eng_pre, eng_post, ↓Fa.all_pc, Fa.all_fa, eng_core, Nat.reduceBEq, ne_eq, reduceIte, Nat.reduceEqDiff, Nat.reduceAdd, Nat.reduceMul, Nat.reduceLT, Nat.reduceSub, Int.reduceLT, Int.reduceLE, Int.reduceEq, Int.reduceAdd, Int.reduceSub, Int.reduceMul, Int.reduceNeg, Int.reduceToNat, *, Value.int.injEq, true_and, and_true]; omega) | (simp (maxSteps := 1000000) (disch := omega) only [↓eng_pre, eng_post, ↓Fa.all_pc, Fa.all_fa, eng_core, Nat.reduceBEq, ne_eq, reduceIte, Nat.reduceEqDiff, Nat.reduceAdd, Nat.reduceMul, Nat.reduceLT, Nat.reduceSub, Int.reduceLT, Int.reduceLE, Int.reduceEq, Int.reduceAdd, Int.reduceSub, Int.reduceMul, Int.reduceNeg, Int.reduceToNat, *, Value.int.injEq, true_and, and_true]; exact rfl))) (by rw [hLL]; exact end_here ⟨rfl, rfl, Nat.zero_le _⟩) ?_
  rintro j e m' L' hf ⟨rfl, rfl, hj⟩
  simp only [fits_cons, fits_nil, and_true] at hf
  obtain ⟨e1, e3, e30, e31, e32⟩ := hf
  have hbj := bo j
  by_cases hlt : j < no
  · obtain ⟨o, hoj⟩ : ∃ o, ops[j]? = some o := ⟨_, List.getElem?_eq_getElem (by omega)⟩
    obtain ⟨bb, oo, cs, r, hp, hat, hrl, ⟨ap, ac, hE, hsr, hr⟩, hsub, _⟩ := hops.get hoj
    rw [hE] at hsub
    have hst := sumN_snoc (f := fo) hoj
    have hb2 := bo (j + 1)
    rw [show fo o = o.args.length by rw [hfo]] at hst
    rw [hst] at hb2
    have hlt' : (j : Int) < no := by omega
    clear hops hlks hvts hE hsr bo bk bv
    rw [hp] at e30
    obtain ⟨na, hna⟩ : ∃ na, na = o.args.length := ⟨_, rfl⟩
    rw [← hna] at hsub hst hb2
    clear hLL
    repeat' (first | simp (maxSteps := 1000000) (disch := omega) only [↓Fc.x24_0, ↓Fc.x24_1, ↓eng_pre, eng_post, ↓Fa.all_pc, Fa.all_fa, eng_core, Nat.reduceBEq, ne_eq, reduceIte, Nat.reduceEqDiff, Nat.reduceAdd, Nat.reduceMul, Nat.reduceLT, Nat.reduceSub, Int.reduceLT, Int.reduceLE, Int.reduceEq, Int.reduceAdd, Int.reduceSub, Int.reduceMul, Int.reduceNeg, Int.reduceToNat, e1, e3, e30, e31, e32, hlt', hsub, Int.toNat_natCast, Nat.mul_one] | (with_reducible (apply gd_new; first | (refine newA_of (fun _ => ?_)) | fail)) | (with_reducible (apply gd_load; first | (refine ld_by (by (first | (apply at_own; (· (repeat (first | apply Take.here | apply Take.there | apply Take.app)))) | (apply at_mem; assumption) | (apply At.up; assumption) | assumption)) ?_; first | (refine lb_one (by first | with_reducible rfl | (simp only [get_l, List.getElem?_cons_zero, List.getElem?_cons_succ, Option.some.injEq]; exact rfl) | assumption) ?_) | (refine lb_agg (by first | (simp only [subL_succ, subL_zero, get_l, List.getElem?_cons_zero, List.getElem?_cons_succ, consO_some, Nat.reduceAdd]; exact rfl) | assumption) ?_) | fail) | fail)) | (with_reducible (apply gd_store; first | (refine st_own (by (repeat (first | apply Put.here | apply Put.there | apply Put.app))) (by simp only [eng_sm, eng_core, Nat.reduceAdd, Nat.reduceLeDiff] <;> with_reducible assumption) (by simp only [eng_sm, eng_core, Nat.reduceAdd, Nat.reduceLeDiff] <;> first | with_reducible assumption | omega) ?_) | fail)) | (with_reducible (apply gd_bi; first | (refine bi_len (by kernel_rfl) ?_) | (refine bi_lens (by kernel_rfl) ?_) | fail)) | (with_reducible (apply gd_cond; first | (refine cond_if (fun h => ?_) (fun h => ?_)) | (refine cond_nif (fun h => ?_) (fun h => ?_)) | (refine cond_nsplit (fun h => ?_) (fun h => ?_)) | (refine cond_split (fun h => ?_) (fun h => ?_)))) | fail)
    refine next_of (γ := Nat) (j + 1) ?_ (end_drop (end_here ⟨rfl, rfl, hlt⟩)) (by omega)
    rw [hst]
    have e9 : (((S0 + (sumN fo (ops.take j) + na) : Nat)) : Int) = ((S0 + sumN fo (ops.take j) : Nat) : Int) + na := by omega
    rw [e9, hp]
    clear hst e9 hoj hna hlt
    (first | (simp (maxSteps := 1000000) (disch := omega) only [↓eng_pre, eng_post, ↓Fa.all_pc, Fa.all_fa, eng_core, Nat.reduceBEq, ne_eq, reduceIte, Nat.reduceEqDiff, Nat.reduceAdd, Nat.reduceMul, Nat.reduceLT, Nat.reduceSub, Int.reduceLT, Int.reduceLE, Int.reduceEq, Int.reduceAdd, Int.reduceSub, Int.reduceMul, Int.reduceNeg, Int.reduceToNat, *]; done) | (simp (maxSteps := 1000000) (disch := omega) only [↓eng_pre, eng_post, ↓Fa.all_pc, Fa.all_fa, eng_core, Nat.reduceBEq, ne_eq, reduceIte, Nat.reduceEqDiff, Nat.reduceAdd, Nat.reduceMul, Nat.reduceLT, Nat.reduceSub, Int.reduceLT, Int.reduceLE, Int.reduceEq, Int.reduceAdd, Int.reduceSub, Int.reduceMul, Int.reduceNeg, Int.reduceToNat, *, Value.int.injEq, true_and, and_true, Int.natCast_add, Int.natCast_one, Int.natCast_zero, Int.add_zero]; done) | (simp (maxSteps := 1000000) (disch := omega) only [↓eng_pre, eng_post, ↓Fa.all_pc, Fa.all_fa, eng_core, Nat.reduceBEq, ne_eq, reduceIte, Nat.reduceEqDiff, Nat.reduceAdd, Nat.reduceMul, Nat.reduceLT, Nat.reduceSub, Int.reduceLT, Int.reduceLE, Int.reduceEq, Int.reduceAdd, Int.reduceSub, Int.reduceMul, Int.reduceNeg, Int.reduceToNat, *, Value.int.injEq, true_and, and_true]; omega) | (simp (maxSteps := 1000000) (disch := omega) only [↓eng_pre, eng_post, ↓Fa.all_pc, Fa.all_fa, eng_core, Nat.reduceBEq, ne_eq, reduceIte, Nat.reduceEqDiff, Nat.reduceAdd, Nat.reduceMul, Nat.reduceLT, Nat.reduceSub, Int.reduceLT, Int.reduceLE, Int.reduceEq, Int.reduceAdd, Int.reduceSub, Int.reduceMul, Int.reduceNeg, Int.reduceToNat, *, Value.int.injEq, true_and, and_true]; exact rfl))
  · have hlt' : ¬ (j : Int) < no := by omega
    rw [show sumN fo (ops.take j) = sumN fo ops from sumN_all (by omega)] at e3 hbj
    obtain ⟨S1, hS1⟩ : ∃ S : Nat, S = S0 + sumN fo ops := ⟨_, rfl⟩
    rw [← hS1] at e3
    have hS1b : S1 ≤ 1200000000000 := by omega
    rw [hLL]
    clear hops bo
    repeat' (first | simp (maxSteps := 1000000) (disch := omega) only [↓Fc.x24_0, ↓Fc.x24_1, ↓eng_pre, eng_post, ↓Fa.all_pc, Fa.all_fa, eng_core, Nat.reduceBEq, ne_eq, reduceIte, Nat.reduceEqDiff, Nat.reduceAdd, Nat.reduceMul, Nat.reduceLT, Nat.reduceSub, Int.reduceLT, Int.reduceLE, Int.reduceEq, Int.reduceAdd, Int.reduceSub, Int.reduceMul, Int.reduceNeg, Int.reduceToNat, e1, e3, e30, e31, e32, hlt', Int.toNat_natCast] | (with_reducible (apply gd_new; first | (refine newA_of (fun _ => ?_)) | fail)) | (with_reducible (apply gd_load; first | (refine ld_by (by (first | (apply at_own; (· (repeat (first | apply Take.here | apply Take.there | apply Take.app)))) | (apply at_mem; assumption) | (apply At.up; assumption) | assumption)) ?_; first | (refine lb_one (by first | with_reducible rfl | (simp only [get_l, List.getElem?_cons_zero, List.getElem?_cons_succ, Option.some.injEq]; exact rfl) | assumption) ?_) | (refine lb_agg (by first | (simp only [subL_succ, subL_zero, get_l, List.getElem?_cons_zero, List.getElem?_cons_succ, consO_some, Nat.reduceAdd]; exact rfl) | assumption) ?_) | fail) | fail)) | (with_reducible (apply gd_store; first | (refine st_own (by (repeat (first | apply Put.here | apply Put.there | apply Put.app))) (by simp only [eng_sm, eng_core, Nat.reduceAdd, Nat.reduceLeDiff] <;> with_reducible assumption) (by simp only [eng_sm, eng_core, Nat.reduceAdd, Nat.reduceLeDiff] <;> first | with_reducible assumption | omega) ?_) | fail)) | (with_reducible (apply gd_bi; first | (refine bi_len (by kernel_rfl) ?_) | (refine bi_lens (by kernel_rfl) ?_) | fail)) | (with_reducible (apply gd_cond; first | (refine cond_if (fun h => ?_) (fun h => ?_)) | (refine cond_nif (fun h => ?_) (fun h => ?_)) | (refine cond_nsplit (fun h => ?_) (fun h => ?_)) | (refine cond_split (fun h => ?_) (fun h => ?_)))) | fail)
    refine loopA_of (γ := Nat) (fun j => [(1, ptr b), (3, .int .i64 ((S1 + sumN fk (lks.take j) : Nat) : Int)), (43, .slice z.pl nl z.cl), (44, .int .i64 nl), (45, .int .i64 (j : Int))])
      (fun j m2 L2 => m2 = m' ∧ L2 = L' ∧ j ≤ nl) (fun j => nl - j) 0 (by rw [show sumN fk (lks.take 0) = 0 from rfl, Nat.add_zero]; (first | (simp (maxSteps := 1000000) (disch := omega) only [↓eng_pre, eng_post, ↓Fa.all_pc, Fa.all_fa, eng_core, Nat.reduceBEq, ne_eq, reduceIte, Nat.reduceEqDiff, Nat.reduceAdd, Nat.reduceMul, Nat.reduceLT, Nat.reduceSub, Int.reduceLT, Int.reduceLE, Int.reduceEq, Int.reduceAdd, Int.reduceSub, Int.reduceMul, Int.reduceNeg, Int.reduceToNat, *]; done) | (simp (maxSteps := 1000000) (disch := omega) only [↓eng_pre, eng_post, ↓Fa.all_pc, Fa.all_fa, eng_core, Nat.reduceBEq, ne_eq, reduceIte, Nat.reduceEqDiff, Nat.reduceAdd, Nat.reduceMul, Nat.reduceLT, Nat.reduceSub, Int.reduceLT, Int.reduceLE, Int.reduceEq, Int.reduceAdd, Int.reduceSub, Int.reduceMul, Int.reduceNeg, Int.reduceToNat, *, Value.int.injEq, true_and, and_true, Int.natCast_add, Int.natCast_one, Int.natCast_zero, Int.add_zero]; done) | (simp (maxSteps := 1000000) (disch := omega) only [↓eng_pre, eng_post, ↓Fa.all_pc, Fa.all_fa, eng_core, Nat.reduceBEq, ne_eq, reduceIte, Nat.reduceEqDiff, Nat.reduceAdd, Nat.reduceMul, Nat.reduceLT, Nat.reduceSub, Int.reduceLT, Int.reduceLE, Int.reduceEq, Int.reduceAdd, Int.reduceSub, Int.reduceMul, Int.reduceNeg, Int.reduceToNat, *, Value.int.injEq, true_and, and_true]; omega) | (simp (maxSteps := 1000000) (disch := omega) only [↓eng_pre, eng_post, ↓Fa.all_pc, Fa.all_fa, eng_core, Nat.reduceBEq, ne_eq, reduceIte, Nat.reduceEqDiff, Nat.reduceAdd, Nat.reduceMul, Nat.reduceLT, Nat.reduceSub, Int.reduceLT, Int.reduceLE, Int.reduceEq, Int.reduceAdd, Int.reduceSub, Int.reduceMul, Int.reduceNeg, Int.reduceToNat, *, Value.int.injEq, true_and, and_true]; exact rfl))) (by rw [hLL]; exact end_here ⟨rfl, rfl, Nat.zero_le _⟩) ?_
    clear e1 e3 e30 e31 e32 hlt hlt' hbj hj
    rintro j e m2 L2 hf ⟨rfl, rfl, hj⟩
    simp only [fits_cons, fits_nil, and_true] at hf
    obtain ⟨e1, e3, e43, e44, e45⟩ := hf
    have hbj := bk j
    by_cases hlt : j < nl
    · obtain ⟨o, hoj⟩ : ∃ o, lks[j]? = some o := ⟨_, List.getElem?_eq_getElem (by omega)⟩
      obtain ⟨bb, oo, cs, r, hp, hat, hrl, ⟨ap, ac, hE, hsr, hr⟩, hsub, _⟩ := hlks.get hoj
      rw [hE] at hsub
      have hst := sumN_snoc (f := fk) hoj
      have hb2 := bk (j + 1)
      rw [show fk o = o.regs.length by rw [hfk]] at hst
      rw [hst] at hb2
      have hlt' : (j : Int) < nl := by omega
      clear hlks hvts hE hsr bk bv
      rw [hp] at e43
      obtain ⟨na, hna⟩ : ∃ na, na = o.regs.length := ⟨_, rfl⟩
      rw [← hna] at hsub hst hb2
      clear hLL
      repeat' (first | simp (maxSteps := 1000000) (disch := omega) only [↓Fc.x24_0, ↓Fc.x24_1, ↓eng_pre, eng_post, ↓Fa.all_pc, Fa.all_fa, eng_core, Nat.reduceBEq, ne_eq, reduceIte, Nat.reduceEqDiff, Nat.reduceAdd, Nat.reduceMul, Nat.reduceLT, Nat.reduceSub, Int.reduceLT, Int.reduceLE, Int.reduceEq, Int.reduceAdd, Int.reduceSub, Int.reduceMul, Int.reduceNeg, Int.reduceToNat, e1, e3, e43, e44, e45, hlt', hsub, Int.toNat_natCast, Nat.mul_one] | (with_reducible (apply gd_new; first | (refine newA_of (fun _ => ?_)) | fail)) | (with_reducible (apply gd_load; first | (refine ld_by (by (first | (apply at_own; (· (repeat (first | apply Take.here | apply Take.there | apply Take.app)))) | (apply at_mem; assumption) | (apply At.up; assumption) | assumption)) ?_; first | (refine lb_one (by first | with_reducible rfl | (simp only [get_l, List.getElem?_cons_zero, List.getElem?_cons_succ, Option.some.injEq]; exact rfl) | assumption) ?_) | (refine lb_agg (by first | (simp only [subL_succ, subL_zero, get_l, List.getElem?_cons_zero, List.getElem?_cons_succ, consO_some, Nat.reduceAdd]; exact rfl) | assumption) ?_) | fail) | fail)) | (with_reducible (apply gd_store; first | (refine st_own (by (repeat (first | apply Put.here | apply Put.there | apply Put.app))) (by simp only [eng_sm, eng_core, Nat.reduceAdd, Nat.reduceLeDiff] <;> with_reducible assumption) (by simp only [eng_sm, eng_core, Nat.reduceAdd, Nat.reduceLeDiff] <;> first | with_reducible assumption | omega) ?_) | fail)) | (with_reducible (apply gd_bi; first | (refine bi_len (by kernel_rfl) ?_) | (refine bi_lens (by kernel_rfl) ?_) | fail)) | (with_reducible (apply gd_cond; first | (refine cond_if (fun h => ?_) (fun h => ?_)) | (refine cond_nif (fun h => ?_) (fun h => ?_)) | (refine cond_nsplit (fun h => ?_) (fun h => ?_)) | (refine cond_split (fun h => ?_) (fun h => ?_)))) | fail)
      refine next_of (γ := Nat) (j + 1) ?_ (end_drop (end_here ⟨rfl, rfl, hlt⟩)) (by omega)
      rw [hst]
      have e9 : (((S1 + (sumN fk (lks.take j) + na) : Nat)) : Int) = ((S1 + sumN fk (lks.take j) : Nat) : Int) + na := by omega
      rw [e9, hp]
      clear hst e9 hoj hna hlt
      (first | (simp (maxSteps := 1000000) (disch := omega) only [↓eng_pre, eng_post, ↓Fa.all_pc, Fa.all_fa, eng_core, Nat.reduceBEq, ne_eq, reduceIte, Nat.reduceEqDiff, Nat.reduceAdd, Nat.reduceMul, Nat.reduceLT, Nat.reduceSub, Int.reduceLT, Int.reduceLE, Int.reduceEq, Int.reduceAdd, Int.reduceSub, Int.reduceMul, Int.reduceNeg, Int.reduceToNat, *]; done) | (simp (maxSteps := 1000000) (disch := omega) only [↓eng_pre, eng_post, ↓Fa.all_pc, Fa.all_fa, eng_core, Nat.reduceBEq, ne_eq, reduceIte, Nat.reduceEqDiff, Nat.reduceAdd, Nat.reduceMul, Nat.reduceLT, Nat.reduceSub, Int.reduceLT, Int.reduceLE, Int.reduceEq, Int.reduceAdd, Int.reduceSub, Int.reduceMul, Int.reduceNeg, Int.reduceToNat, *, Value.int.injEq, true_and, and_true, Int.natCast_add, Int.natCast_one, Int.natCast_zero, Int.add_zero]; done) | (simp (maxSteps := 1000000) (disch := omega) only [↓eng_pre, eng_post, ↓Fa.all_pc, Fa.all_fa, eng_core, Nat.reduceBEq, ne_eq, reduceIte, Nat.reduceEqDiff, Nat.reduceAdd, Nat.reduceMul, Nat.reduceLT, Nat.reduceSub, Int.reduceLT, Int.reduceLE, Int.reduceEq, Int.reduceAdd, Int.reduceSub, Int.reduceMul, Int.reduceNeg, Int.reduceToNat, *, Value.int.injEq, true_and, and_true]; omega) | (simp (maxSteps := 1000000) (disch := omega) only [↓eng_pre, eng_post, ↓Fa.all_pc, Fa.all_fa, eng_core, Nat.reduceBEq, ne_eq, reduceIte, Nat.reduceEqDiff, Nat.reduceAdd, Nat.reduceMul, Nat.reduceLT, Nat.reduceSub, Int.reduceLT, Int.reduceLE, Int.reduceEq, Int.reduceAdd, Int.reduceSub, Int.reduceMul, Int.reduceNeg, Int.reduceToNat, *, Value.int.injEq, true_and, and_true]; exact rfl))
    · have hlt' : ¬ (j : Int) < nl := by omega
      rw [show sumN fk (lks.take j) = sumN fk lks from sumN_all (by omega)] at e3 hbj
      obtain ⟨S2, hS2⟩ : ∃ S : Nat, S = S1 + sumN fk lks := ⟨_, rfl⟩
      rw [← hS2] at e3
      have hS2b : S2 ≤ 2400000000000 := by omega
      rw [hLL]
      clear hlks bk
      repeat' (first | simp (maxSteps := 1000000) (disch := omega) only [↓Fc.x24_0, ↓Fc.x24_1, ↓eng_pre, eng_post, ↓Fa.all_pc, Fa.all_fa, eng_core, Nat.reduceBEq, ne_eq, reduceIte, Nat.reduceEqDiff, Nat.reduceAdd, Nat.reduceMul, Nat.reduceLT, Nat.reduceSub, Int.reduceLT, Int.reduceLE, Int.reduceEq, Int.reduceAdd, Int.reduceSub, Int.reduceMul, Int.reduceNeg, Int.reduceToNat, e1, e3, e43, e44, e45, hlt', Int.toNat_natCast] | (with_reducible (apply gd_new; first | (refine newA_of (fun _ => ?_)) | fail)) | (with_reducible (apply gd_load; first | (refine ld_by (by (first | (apply at_own; (· (repeat (first | apply Take.here | apply Take.there | apply Take.app)))) | (apply at_mem; assumption) | (apply At.up; assumption) | assumption)) ?_; first | (refine lb_one (by first | with_reducible rfl | (simp only [get_l, List.getElem?_cons_zero, List.getElem?_cons_succ, Option.some.injEq]; exact rfl) | assumption) ?_) | (refine lb_agg (by first | (simp only [subL_succ, subL_zero, get_l, List.getElem?_cons_zero, List.getElem?_cons_succ, consO_some, Nat.reduceAdd]; exact rfl) | assumption) ?_) | fail) | fail)) | (with_reducible (apply gd_store; first | (refine st_own (by (repeat (first | apply Put.here | apply Put.there | apply Put.app))) (by simp only [eng_sm, eng_core, Nat.reduceAdd, Nat.reduceLeDiff] <;> with_reducible assumption) (by simp only [eng_sm, eng_core, Nat.reduceAdd, Nat.reduceLeDiff] <;> first | with_reducible assumption | omega) ?_) | fail)) | (with_reducible (apply gd_bi; first | (refine bi_len (by kernel_rfl) ?_) | (refine bi_lens (by kernel_rfl) ?_) | fail)) | (with_reducible (apply gd_cond; first | (refine cond_if (fun h => ?_) (fun h => ?_)) | (refine cond_nif (fun h => ?_) (fun h => ?_)) | (refine cond_nsplit (fun h => ?_) (fun h => ?_)) | (refine cond_split (fun h => ?_) (fun h => ?_)))) | fail)
      refine loopA_of (γ := Nat) (fun j => [(3, .int .i64 ((S2 + sumN fv (vts.take j) : Nat) : Int)), (56, .slice z.pv nv z.cv), (57, .int .i64 nv), (58, .int .i64 (j : Int))])
        (fun j m3 L3 => m3 = m2 ∧ L3 = L2 ∧ j ≤ nv) (fun j => nv - j) 0 (by rw [show sumN fv (vts.take 0) = 0 from rfl, Nat.add_zero]; (first | (simp (maxSteps := 1000000) (disch := omega) only [↓eng_pre, eng_post, ↓Fa.all_pc, Fa.all_fa, eng_core, Nat.reduceBEq, ne_eq, reduceIte, Nat.reduceEqDiff, Nat.reduceAdd, Nat.reduceMul, Nat.reduceLT, Nat.reduceSub, Int.reduceLT, Int.reduceLE, Int.reduceEq, Int.reduceAdd, Int.reduceSub, Int.reduceMul, Int.reduceNeg, Int.reduceToNat, *]; done) | (simp (maxSteps := 1000000) (disch := omega) only [↓eng_pre, eng_post, ↓Fa.all_pc, Fa.all_fa, eng_core, Nat.reduceBEq, ne_eq, reduceIte, Nat.reduceEqDiff, Nat.reduceAdd, Nat.reduceMul, Nat.reduceLT, Nat.reduceSub, Int.reduceLT, Int.reduceLE, Int.reduceEq, Int.reduceAdd, Int.reduceSub, Int.reduceMul, Int.reduceNeg, Int.reduceToNat, *, Value.int.injEq, true_and, and_true, Int.natCast_add, Int.natCast_one, Int.natCast_zero, Int.add_zero]; done) | (simp (maxSteps := 1000000) (disch := omega) only [↓eng_pre, eng_post, ↓Fa.all_pc, Fa.all_fa, eng_core, Nat.reduceBEq, ne_eq, reduceIte, Nat.reduceEqDiff, Nat.reduceAdd, Nat.reduceMul, Nat.reduceLT, Nat.reduceSub, Int.reduceLT, Int.reduceLE, Int.reduceEq, Int.reduceAdd, Int.reduceSub, Int.reduceMul, Int.reduceNeg, Int.reduceToNat, *, Value.int.injEq, true_and, and_true]; omega) | (simp (maxSteps := 1000000) (disch := omega) only [↓eng_pre, eng_post, ↓Fa.all_pc, Fa.all_fa, eng_core, Nat.reduceBEq, ne_eq, reduceIte, Nat.reduceEqDiff, Nat.reduceAdd, Nat.reduceMul, Nat.reduceLT, Nat.reduceSub, Int.reduceLT, Int.reduceLE, Int.reduceEq, Int.reduceAdd, Int.reduceSub, Int.reduceMul, Int.reduceNeg, Int.reduceToNat, *, Value.int.injEq, true_and, and_true]; exact rfl))) (by rw [hLL]; exact end_here ⟨rfl, rfl, Nat.zero_le _⟩) ?_
      clear e1 e3 e43 e44 e45 hlt hlt' hbj hj
      rintro j e m3 L3 hf ⟨rfl, rfl, hj⟩
      simp only [fits_cons, fits_nil, and_true] at hf
      obtain ⟨e3, e56, e57, e58⟩ := hf
      have hbj := bv j
      by_cases hlt : j < nv
      · obtain ⟨o, hoj⟩ : ∃ o, vts[j]? = some o := ⟨_, List.getElem?_eq_getElem (by omega)⟩
        obtain ⟨bb, oo, cs, r, hp, hat, hrl, ⟨ap, ac, hE, hsr, hr⟩, hsub, _⟩ := hvts.get hoj
        rw [hE] at hsub
        have hst := sumN_snoc (f := fv) hoj
        have hb2 := bv (j + 1)
        rw [show fv o = o.cells.length by rw [hfv]] at hst
        rw [hst] at hb2
        have hlt' : (j : Int) < nv := by omega
        clear hvts hE hsr bv
        rw [hp] at e56
        obtain ⟨na, hna⟩ : ∃ na, na = o.cells.length := ⟨_, rfl⟩
        rw [← hna] at hsub hst hb2
        clear hLL
        repeat' (first | simp (maxSteps := 1000000) (disch := omega) only [↓Fc.x24_0, ↓Fc.x24_1, ↓eng_pre, eng_post, ↓Fa.all_pc, Fa.all_fa, eng_core, Nat.reduceBEq, ne_eq, reduceIte, Nat.reduceEqDiff, Nat.reduceAdd, Nat.reduceMul, Nat.reduceLT, Nat.reduceSub, Int.reduceLT, Int.reduceLE, Int.reduceEq, Int.reduceAdd, Int.reduceSub, Int.reduceMul, Int.reduceNeg, Int.reduceToNat, e3, e56, e57, e58, hlt', hsub, Int.toNat_natCast, Nat.mul_one] | (with_reducible (apply gd_new; first | (refine newA_of (fun _ => ?_)) | fail)) | (with_reducible (apply gd_load; first | (refine ld_by (by (first | (apply at_own; (· (repeat (first | apply Take.here | apply Take.there | apply Take.app)))) | (apply at_mem; assumption) | (apply At.up; assumption) | assumption)) ?_; first | (refine lb_one (by first | with_reducible rfl | (simp only [get_l, List.getElem?_cons_zero, List.getElem?_cons_succ, Option.some.injEq]; exact rfl) | assumption) ?_) | (refine lb_agg (by first | (simp only [subL_succ, subL_zero, get_l, List.getElem?_cons_zero, List.getElem?_cons_succ, consO_some, Nat.reduceAdd]; exact rfl) | assumption) ?_) | fail) | fail)) | (with_reducible (apply gd_store; first | (refine st_own (by (repeat (first | apply Put.here | apply Put.there | apply Put.app))) (by simp only [eng_sm, eng_core, Nat.reduceAdd, Nat.reduceLeDiff] <;> with_reducible assumption) (by simp only [eng_sm, eng_core, Nat.reduceAdd, Nat.reduceLeDiff] <;> first | with_reducible assumption | omega) ?_) | fail)) | (with_reducible (apply gd_bi; first | (refine bi_len (by kernel_rfl) ?_) | (refine bi_lens (by kernel_rfl) ?_) | fail)) | (with_reducible (apply gd_cond; first | (refine cond_if (fun h => ?_) (fun h => ?_)) | (refine cond_nif (fun h => ?_) (fun h => ?_)) | (refine cond_nsplit (fun h => ?_) (fun h => ?_)) | (refine cond_split (fun h => ?_) (fun h => ?_)))) | fail)
        refine next_of (γ := Nat) (j + 1) ?_ (end_drop (end_here ⟨rfl, rfl, hlt⟩)) (by omega)
        rw [hst]
        have e9 : (((S2 + (sumN fv (vts.take j) + na) : Nat)) : Int) = ((S2 + sumN fv (vts.take j) : Nat) : Int) + na := by omega
        rw [e9, hp]
        clear hst e9 hoj hna hlt
        (first | (simp (maxSteps := 1000000) (disch := omega) only [↓eng_pre, eng_post, ↓Fa.all_pc, Fa.all_fa, eng_core, Nat.reduceBEq, ne_eq, reduceIte, Nat.reduceEqDiff, Nat.reduceAdd, Nat.reduceMul, Nat.reduceLT, Nat.reduceSub, Int.reduceLT, Int.reduceLE, Int.reduceEq, Int.reduceAdd, Int.reduceSub, Int.reduceMul, Int.reduceNeg, Int.reduceToNat, *]; done) | (simp (maxSteps := 1000000) (disch := omega) only [↓eng_pre, eng_post, ↓Fa.all_pc, Fa.all_fa, eng_core, Nat.reduceBEq, ne_eq, reduceIte, Nat.reduceEqDiff, Nat.reduceAdd, Nat.reduceMul, Nat.reduceLT, Nat.reduceSub, Int.reduceLT, Int.reduceLE, Int.reduceEq, Int.reduceAdd, Int.reduceSub, Int.reduceMul, Int.reduceNeg, Int.reduceToNat, *, Value.int.injEq, true_and, and_true, Int.natCast_add, Int.natCast_one, Int.natCast_zero, Int.add_zero]; done) | (simp (maxSteps := 1000000) (disch := omega) only [↓eng_pre, eng_post, ↓Fa.all_pc, Fa.all_fa, eng_core, Nat.reduceBEq, ne_eq, reduceIte, Nat.reduceEqDiff, Nat.reduceAdd, Nat.reduceMul, Nat.reduceLT, Nat.reduceSub, Int.reduceLT, Int.reduceLE, Int.reduceEq, Int.reduceAdd, Int.reduceSub, Int.reduceMul, Int.reduceNeg, Int.reduceToNat, *, Value.int.injEq, true_and, and_true]; omega) | (simp (maxSteps := 1000000) (disch := omega) only [↓eng_pre, eng_post, ↓Fa.all_pc, Fa.all_fa, eng_core, Nat.reduceBEq, ne_eq, reduceIte, Nat.reduceEqDiff, Nat.reduceAdd, Nat.reduceMul, Nat.reduceLT, Nat.reduceSub, Int.reduceLT, Int.reduceLE, Int.reduceEq, Int.reduceAdd, Int.reduceSub, Int.reduceMul, Int.reduceNeg, Int.reduceToNat, *, Value.int.injEq, true_and, and_true]; exact rfl))
      · have hlt' : ¬ (j : Int) < nv := by omega
        rw [show sumN fv (vts.take j) = sumN fv vts from sumN_all (by omega)] at e3 hbj
        have e9 : ni + no + nl + nv + nb + sumN fo ops + sumN fk lks + sumN fv vts = S2 + sumN fv vts := by omega
        rw [e9]
        clear hvts bv e9
        repeat' (first | simp (maxSteps := 1000000) (disch := omega) only [↓Fc.x24_0, ↓Fc.x24_1, ↓eng_pre, eng_post, ↓Fa.all_pc, Fa.all_fa, eng_core, Nat.reduceBEq, ne_eq, reduceIte, Nat.reduceEqDiff, Nat.reduceAdd, Nat.reduceMul, Nat.reduceLT, Nat.reduceSub, Int.reduceLT, Int.reduceLE, Int.reduceEq, Int.reduceAdd, Int.reduceSub, Int.reduceMul, Int.reduceNeg, Int.reduceToNat, e3, e56, e57, e58, hlt'] | (with_reducible (apply gd_new; first | (refine newA_of (fun _ => ?_)) | fail)) | (with_reducible (apply gd_load; first | (refine ld_by (by (first | (apply at_own; (· (repeat (first | apply Take.here | apply Take.there | apply Take.app)))) | (apply at_mem; assumption) | (apply At.up; assumption) | assumption)) ?_; first | (refine lb_one (by first | with_reducible rfl | (simp only [get_l, List.getElem?_cons_zero, List.getElem?_cons_succ, Option.some.injEq]; exact rfl) | assumption) ?_) | (refine lb_agg (by first | (simp only [subL_succ, subL_zero, get_l, List.getElem?_cons_zero, List.getElem?_cons_succ, consO_some, Nat.reduceAdd]; exact rfl) | assumption) ?_) | fail) | fail)) | (with_reducible (apply gd_store; first | (refine st_own (by (repeat (first | apply Put.here | apply Put.there | apply Put.app))) (by simp only [eng_sm, eng_core, Nat.reduceAdd, Nat.reduceLeDiff] <;> with_reducible assumption) (by simp only [eng_sm, eng_core, Nat.reduceAdd, Nat.reduceLeDiff] <;> first | with_reducible assumption | omega) ?_) | fail)) | (with_reducible (apply gd_bi; first | (refine bi_len (by kernel_rfl) ?_) | (refine bi_lens (by kernel_rfl) ?_) | fail)) | (with_reducible (apply gd_cond; first | (refine cond_if (fun h => ?_) (fun h => ?_)) | (refine cond_nif (fun h => ?_) (fun h => ?_)) | (refine cond_nsplit (fun h => ?_) (fun h => ?_)) | (refine cond_split (fun h => ?_) (fun h => ?_)))) | fail)
        exact end_clear rfl
theorem few_ct (z : TLoc) (t : TrR) (m : Mem) (ht : TrAt m z t) :
    Cta Try.prog 14 [trV t.key t.fn t.pc z t.ins.length t.ops.length t.links.length t.virts.length t.back.length] m [] (fun v m' L' => m' = m ∧ v = .bool (decide (sizeF t ≤ 1500))) := by
  have sc := size_ct z t m ht
  have h : (decide ((sizeF t : Int) ≤ 1500)) = decide (sizeF t ≤ 1500) := by
    by_cases h : sizeF t ≤ 1500
    · rw [decide_eq_true h, decide_eq_true (by omega)]
    · rw [decide_eq_false h, decide_eq_false (by omega)]
  rw [← h]
  generalize sizeF t = S at *
  clear ht h
  refine cta_of_T (c := Fc.k14_0) Try.func14 rfl rfl (by kernel_rfl) (by kernel_rfl) ?_
  repeat' (first | simp (maxSteps := 1000000) (disch := omega) only [↓Fc.x14_0, ↓eng_pre, eng_post, ↓Fa.all_pc, Fa.all_fa, eng_core, Nat.reduceBEq, ne_eq, reduceIte, Nat.reduceEqDiff, Nat.reduceAdd, Nat.reduceMul, Nat.reduceLT, Nat.reduceSub, Int.reduceLT, Int.reduceLE, Int.reduceEq, Int.reduceAdd, Int.reduceSub, Int.reduceMul, Int.reduceNeg, Int.reduceToNat, *] | (with_reducible (apply gd_new; first | (refine newA_of (fun _ => ?_)) | fail)) | (with_reducible (apply gd_load; first | (refine ld_by (by (first | (apply at_own; (· (repeat (first | apply Take.here | apply Take.there | apply Take.app)))) | (apply at_mem; assumption) | (apply At.up; assumption) | assumption)) ?_; first | (refine lb_one (by first | with_reducible rfl | (simp only [get_l, List.getElem?_cons_zero, List.getElem?_cons_succ, Option.some.injEq]; exact rfl) | assumption) ?_) | (refine lb_agg (by first | (simp only [subL_succ, subL_zero, get_l, List.getElem?_cons_zero, List.getElem?_cons_succ, consO_some, Nat.reduceAdd]; exact rfl) | assumption) ?_) | fail) | fail)) | (with_reducible (apply gd_call; first | ((refine ca_of (sc) (by (repeat (first | apply Takes.nil | (apply Takes.cons; (· (repeat (first | apply Take.here | apply Take.there | apply Take.app)))) | (apply Takes.app; (· ((repeat ((fail_if_success (first | apply TakeL.here | apply TakeL.all | apply TakeL.hd)); (first | apply TakeL.cons | apply TakeL.app))); (first | apply TakeL.here | apply TakeL.all | apply TakeL.hd)))) | (apply Takes.lst; (· ((repeat ((fail_if_success (first | apply TakeL.here | apply TakeL.all | apply TakeL.hd)); (first | apply TakeL.cons | apply TakeL.app))); (first | apply TakeL.here | apply TakeL.all | apply TakeL.hd)))) | fail))) ?_); rintro _ _ _ ⟨rfl, rfl⟩) | fail)) | fail)
  exact end_clear rfl
end Go.Proofs.Ythfbfigdgjhhaaa
