/- The law HeapActs holds of every input of bulk at most 1048576: it answers true and leaves what it was given as it was. -/
import Derived.Test.YtjflcnanncddpaaRows
import Derived.Test.YtjflcnanncddpaaHActs
import Derived.WalkKit
import Derived.ProofKit
import Derived.OpenShut
import Derived.ShutString
import Derived.ChangeOld
import Derived.Below
import Derived.SizedLaws
import Derived.Lib.SmallJoins
import Derived.JoinedCond
namespace Go.Proofs.Ytjflcnanncddpaa.heapActs
open Go Go.Eng Go.ChangeShapes Go.WideShapes Go.ChangeAt Go.RowKit Go.Joins
open Go.ChangeMaps (open_string shut_string)
set_option linter.all false
theorem own : ownKnob Try.prog.godebug = none := by kernel_rfl
theorem laidOut : laidOutB Try.prog = true := by kernel_rfl
theorem bulkAll {H : Type} (l : List (DataW H)) : Rows.uptoBulkAll l = (l.map Rows.uptoBulk).sum := by
  induction l with
  | nil => simp [Rows.uptoBulkAll]
  | cons d l ih => simp [Rows.uptoBulkAll, ih]
theorem bulk {H : Type} : Bulk (H := H) Rows.uptoBulk := by
  refine ⟨fun l => ?_, fun bs => ?_, fun es rs => ?_, fun ps => ?_, ?_⟩
  · cases l <;> simp [Rows.uptoBulk]
  · simp [Rows.uptoBulk]
  · simp only [Rows.uptoBulk, bulkAll]; omega
  · simp only [Rows.uptoBulk, bulkAll]; omega
  · simp [Rows.uptoBulk]
theorem upc : (Rows.OpenSpec.upto Rows.heapActsSpec).cond = some Rows.uptoSmall := rfl
set_option maxRecDepth 100000 in
theorem lifted (os : Os) (started : os.Started) (H : Type) (enc : TypeId × Value → H) (F : Stop.Interp) :
    ReturnsInHanded {} Try.checked os 6 .any ((Rows.OpenSpec.upto Rows.heapActsSpec).pre6 enc Try.prog Try.f6 Rows.heapActsUptoRow.domain false) (((Rows.OpenSpec.upto Rows.heapActsSpec).at F).post enc Try.prog Try.f6 false true false false) := by
  refine returnsInHanded_of_cond (C := Try.checked) upc own started (by kernel_rfl) Try.func6
    (OpenSpec.witness (enc := enc) (C := Try.checked) upc false ⟨#[], #[.int .i64 0, .slice none 0 0], []⟩ 8 (by kernel_rfl) (by kernel_rfl) (by kernel_rfl) (x := ([.lit (.int .i64 0), .nil], [], [])) (by kernel_rfl) (by kernel_rfl) (by kernel_rfl)) ?_
  intro W base args ds gs before hval0 hW hcnd hkk _
  have hval : ∀ (j : Nat) t v, Try.f6.params[j]? = some t → args[j]? = some v → Value.okWide Try.prog W .any base t v := hval0
  have hW' := hW
  obtain ⟨p, q, hA0, hV, rfl, hfz, hnd⟩ := hW
  have hA : DataW.TrodAll enc Try.prog W 0 (fun _ => true) true Try.f6.params.toList args.toList ds p := hA0
  rw [Try.params6] at hA hval
  obtain ⟨v0, vs0, d0, ds0, p0, q0, hargs, rfl, rfl, h0, r0⟩ := trodAll_cons hA
  obtain ⟨v1, vs1, d1, ds1, p1, q1, rfl, rfl, rfl, h1, r1⟩ := trodAll_cons r0
  obtain ⟨rfl, rfl, rfl⟩ := trodAll_nil r1
  obtain rfl : args = #[v0, v1] := by cases args; simp_all
  obtain ⟨rfl, rfl⟩ := trodVars_none hV
  obtain ⟨a0, rfl, rfl, rfl, w0⟩ := open_int Try.underlying3 (hval 0 3 v0 rfl rfl) h0
  have k1 := h1
  have lt1 : ∀ x ∈ p1, x.block < W.heap.size := by obtain ⟨m, hm⟩ := k1; exact DataW.trod_lt m _ _ _ hm
  obtain ⟨a1, rfl, ok1, wt1⟩ := open_slA (E := (opPair (opInt .i64) (opPair (opPair (opInt .i64) (opInt .i64)) (opPair (opPair (opInt .i64) (opInt .i64)) (opPair (opPair (opInt .i64) (opInt .i64)) (opPair (opInt .i64) (opPair (opInt .i64) (opSl 2 (opPair (opInt .i64) (opInt .i64)))))))))) Try.underlying46 (opens_sl Try.underlying46 (opens_st Try.underlying51 (by kernel_rfl) (opensS_cons (s := 1) (opens_int Try.underlying3) (by kernel_rfl) rfl (opensS_cons (s := 2) (opens_st Try.underlying27 (by kernel_rfl) (opensS_cons (s := 1) (opens_int Try.underlying3) (by kernel_rfl) rfl (opensS_last (s := 1) (opens_int Try.underlying2) (by kernel_rfl) rfl rfl))) (by kernel_rfl) rfl (opensS_cons (s := 2) (opens_st Try.underlying27 (by kernel_rfl) (opensS_cons (s := 1) (opens_int Try.underlying3) (by kernel_rfl) rfl (opensS_last (s := 1) (opens_int Try.underlying2) (by kernel_rfl) rfl rfl))) (by kernel_rfl) rfl (opensS_cons (s := 2) (opens_st Try.underlying27 (by kernel_rfl) (opensS_cons (s := 1) (opens_int Try.underlying3) (by kernel_rfl) rfl (opensS_last (s := 1) (opens_int Try.underlying2) (by kernel_rfl) rfl rfl))) (by kernel_rfl) rfl (opensS_cons (s := 1) (opens_int Try.underlying3) (by kernel_rfl) rfl (opensS_cons (s := 1) (opens_int Try.underlying3) (by kernel_rfl) rfl (opensS_last (s := 1) (opens_sl Try.underlying32 (opens_st Try.underlying27 (by kernel_rfl) (opensS_cons (s := 1) (opens_int Try.underlying3) (by kernel_rfl) rfl (opensS_last (s := 1) (opens_int Try.underlying2) (by kernel_rfl) rfl rfl))) (by kernel_rfl) (by decide)) (by kernel_rfl) rfl rfl)))))))) (by kernel_rfl) (by decide)) (hval 1 46 v1 rfl rfl) h1
  have hle := of_decide_eq_true hkk
  simp only [List.append_nil, List.cons_append, List.nil_append, Rows.uptoBulkAll] at hle
  have bl1 : Sh.wt (opSl 10 (opPair (opInt .i64) (opPair (opPair (opInt .i64) (opInt .i64)) (opPair (opPair (opInt .i64) (opInt .i64)) (opPair (opPair (opInt .i64) (opInt .i64)) (opPair (opInt .i64) (opPair (opInt .i64) (opSl 2 (opPair (opInt .i64) (opInt .i64)))))))))) a1 ≤ 1048576 := by have h : Sh.wt (opSl 10 (opPair (opInt .i64) (opPair (opPair (opInt .i64) (opInt .i64)) (opPair (opPair (opInt .i64) (opInt .i64)) (opPair (opPair (opInt .i64) (opInt .i64)) (opPair (opInt .i64) (opPair (opInt .i64) (opSl 2 (opPair (opInt .i64) (opInt .i64)))))))))) a1 ≤ Rows.uptoBulk d1 := wt1 _ (bulk (H := H)); first | omega | (simp only [Rows.uptoBulk] at hle; omega)
  clear hkk hle
  clear hA0 hval0
  refine (And.right (acts_row a0 a1 W ok1 bl1)).mono fun e W' he => ?_
  cases e with
  | returned v =>
    obtain ⟨rfl, bel⟩ := he
    exact ⟨_, rfl, _, _, _, [], _, [], hW', trodAll_mk1 (shut_bool Try.underlying4 _), (trodAll_cons_mk (shut_int Try.underlying3 w0) (trodAll_cons_mk (Below.trod laidOut (by kernel_rfl) (of_decide_eq_true (by kernel_rfl)) k1 bel lt1) trodAll_mk0)), rfl, bel.frame _, fun h => by cases h⟩
  | panicked c => exact he.elim
  | outgrown => exact he.elim
theorem over : Rows.heapActsUptoRow.holds Try.pinned (Rows.OpenSpec.upto Rows.heapActsSpec) :=
  OpenClaim.holds_of_cond 6 Try.f6 rfl rfl rfl rfl rfl rfl rfl ⟨rfl, rfl, rfl, rfl, rfl⟩ rfl rfl rfl rfl rfl (by kernel_rfl) Try.func6 (by kernel_rfl)
    (of_decide_eq_true (by kernel_rfl)) (by unfold Func.isWrapper; first | (rw [if_pos (by decide +kernel)]; kernel_rfl) | (rw [if_neg (by decide +kernel)]; exact ⟨rfl, rfl⟩))
    (fun os started H enc _ F => lifted os started H enc F)
theorem proved : Rows.HeapActsUptoSaid := over
end Go.Proofs.Ytjflcnanncddpaa.heapActs
namespace Go.Proofs.Ytjflcnanncddpaa
/-- The row, under a short name, for the claim. -/
theorem heapActs_holds : Rows.HeapActsUptoSaid := heapActs.proved
#print axioms heapActs_holds
end Go.Proofs.Ytjflcnanncddpaa
