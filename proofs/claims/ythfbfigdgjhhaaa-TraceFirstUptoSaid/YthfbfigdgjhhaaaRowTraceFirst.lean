/- The law TraceFirst holds of every input of bulk at most 1048576: it answers true and leaves what it was given as it was. -/
import Derived.Test.YthfbfigdgjhhaaaRows
import Derived.Test.YthfbfigdgjhhaaaQTrRow
import Derived.WalkKit
import Derived.ProofKit
import Derived.OpenShut
import Derived.ShutString
import Derived.ChangeOld
import Derived.Below
import Derived.SizedLaws
import Derived.Lib.SmallJoins
import Derived.JoinedCond
import Derived.Test.YthfbfigdgjhhaaaEngArr
namespace Go.Proofs.Ythfbfigdgjhhaaa.traceFirst
open Go Go.Eng Go.ChangeShapes Go.WideShapes Go.ChangeAt Go.RowKit Go.Joins
open Go.ChangeMaps (open_string shut_string)
set_option linter.all false
theorem own : ownKnob Try.prog.godebug = none := by kernel_rfl
theorem laidOut : laidOutB Try.prog = true := by kernel_rfl
theorem bulkAll {H : Type} (l : List (DataW H)) : Rows.uptoBulkAll l = (l.map Rows.uptoBulk).sum := by
  induction l with
  | nil => simp [Rows.uptoBulkAll]
  | cons d l ih => simp [Rows.uptoBulkAll, ih]
theorem bulk {H : Type} : Bulk (H := H) Rows.uptoBulk := by
  refine ⟨fun l => ?_, fun bs => ?_, fun es rs => ?_, fun ps => ?_, ?_⟩
  · cases l <;> simp [Rows.uptoBulk]
  · simp [Rows.uptoBulk]
  · simp only [Rows.uptoBulk, bulkAll]; omega
  · simp only [Rows.uptoBulk, bulkAll]; omega
  · simp [Rows.uptoBulk]
theorem upc : (Rows.OpenSpec.upto Rows.traceFirstSpec).cond = some Rows.uptoSmall := rfl
set_option maxRecDepth 100000 in
theorem lifted (os : Os) (started : os.Started) (H : Type) (enc : TypeId × Value → H) (F : Stop.Interp) :
    ReturnsInHanded {} Try.checked os 5 .any ((Rows.OpenSpec.upto Rows.traceFirstSpec).pre6 enc Try.prog Try.f5 Rows.traceFirstUptoRow.domain false) (((Rows.OpenSpec.upto Rows.traceFirstSpec).at F).post enc Try.prog Try.f5 false true false false) := by
  refine returnsInHanded_of_cond (C := Try.checked) upc own started (by kernel_rfl) Try.func5
    (OpenSpec.witness (enc := enc) (C := Try.checked) upc false ⟨#[], #[.agg #[.int .i64 0, .int .i64 0, .int .i64 0, .int .i64 0, .int .i64 0, .int .i64 0, .int .i64 0, .int .i64 0, .int .i64 0, .int .i64 0, .int .i64 0, .int .i64 0, .slice none 0 0, .slice none 0 0, .slice none 0 0, .slice none 0 0, .slice none 0 0]], []⟩ 8 (by kernel_rfl) (by kernel_rfl) (by kernel_rfl) (x := ([.agg [.agg [.lit (.int .i64 0), .lit (.int .i64 0), .agg [.agg [.lit (.int .i64 0), .lit (.int .i64 0)], .agg [.lit (.int .i64 0), .lit (.int .i64 0)], .agg [.lit (.int .i64 0), .lit (.int .i64 0)], .agg [.lit (.int .i64 0), .lit (.int .i64 0)]]], .lit (.int .i64 0), .lit (.int .i64 0), .nil, .nil, .nil, .nil, .nil]], [], [])) (by kernel_rfl) (by kernel_rfl) (by kernel_rfl)) ?_
  intro W base args ds gs before hval0 hW hcnd hkk _
  have hval : ∀ (j : Nat) t v, Try.f5.params[j]? = some t → args[j]? = some v → Value.okWide Try.prog W .any base t v := hval0
  have hW' := hW
  obtain ⟨p, q, hA0, hV, rfl, hfz, hnd⟩ := hW
  have hA : DataW.TrodAll enc Try.prog W 0 (fun _ => true) true Try.f5.params.toList args.toList ds p := hA0
  rw [Try.params5] at hA hval
  obtain ⟨v0, vs0, d0, ds0, p0, q0, hargs, rfl, rfl, h0, r0⟩ := trodAll_cons hA
  obtain ⟨rfl, rfl, rfl⟩ := trodAll_nil r0
  obtain rfl : args = #[v0] := by cases args; simp_all
  obtain ⟨rfl, rfl⟩ := trodVars_none hV
  have k0 := h0
  have lt0 : ∀ x ∈ p0, x.block < W.heap.size := by obtain ⟨m, hm⟩ := k0; exact DataW.trod_lt m _ _ _ hm
  obtain ⟨a0, rfl, ok0, wt0⟩ := open_stA (E := (opPair (opPair (opInt .i64) (opPair (opInt .i64) (opPair (opPair (opInt .i64) (opInt .i64)) (opPair (opPair (opInt .i64) (opInt .i64)) (opPair (opPair (opInt .i64) (opInt .i64)) (opPair (opInt .i64) (opInt .i64))))))) (opPair (opInt .i64) (opPair (opInt .i64) (opPair (opSl 1 (opInt .i64)) (opPair (opSl 5 (opPair (opInt .i64) (opPair (opSl 4 (opPair (opInt .i64) (opPair (opPair (opInt .i64) (opInt .i64)) (opInt .i64)))) (opPair (opInt .i64) (opPair (opInt .i64) (opInt .i64)))))) (opPair (opSl 5 (opPair (opInt .i64) (opPair (opInt .i64) (opPair (opInt .i64) (opPair (opInt .i64) (opSl 4 (opPair (opInt .i64) (opPair (opPair (opInt .i64) (opInt .i64)) (opInt .i64))))))))) (opPair (opSl 2 (opPair (opInt .i64) (opSl 4 (opPair (opInt .i64) (opPair (opPair (opInt .i64) (opInt .i64)) (opInt .i64)))))) (opSl 4 (opPair (opInt .i64) (opPair (opPair (opInt .i64) (opInt .i64)) (opInt .i64)))))))))))) Try.underlying36 (opens_st Try.underlying36 (by kernel_rfl) (opensS_cons (s := 10) (opens_st Try.underlying29 (by kernel_rfl) (opensS_cons (s := 1) (opens_int Try.underlying3) (by kernel_rfl) rfl (opensS_cons (s := 1) (opens_int Try.underlying3) (by kernel_rfl) rfl (opensS_last (s := 8) (opens_arr (s := 2) Try.underlying27 (by kernel_rfl) (by kernel_rfl) [arrF 26 0, arrF 26 2, arrF 26 4, arrF 26 6] rfl (fun i f hi => by match i, hi with | 0, hi => cases hi; exact ⟨rfl, rfl⟩ | 1, hi => cases hi; exact ⟨rfl, rfl⟩ | 2, hi => cases hi; exact ⟨rfl, rfl⟩ | 3, hi => cases hi; exact ⟨rfl, rfl⟩) (opensS_cons (s := 2) (opens_st Try.underlying26 (by kernel_rfl) (opensS_cons (s := 1) (opens_int Try.underlying3) (by kernel_rfl) rfl (opensS_last (s := 1) (opens_int Try.underlying2) (by kernel_rfl) rfl rfl))) (by kernel_rfl) rfl (opensS_cons (s := 2) (opens_st Try.underlying26 (by kernel_rfl) (opensS_cons (s := 1) (opens_int Try.underlying3) (by kernel_rfl) rfl (opensS_last (s := 1) (opens_int Try.underlying2) (by kernel_rfl) rfl rfl))) (by kernel_rfl) rfl (opensS_cons (s := 2) (opens_st Try.underlying26 (by kernel_rfl) (opensS_cons (s := 1) (opens_int Try.underlying3) (by kernel_rfl) rfl (opensS_last (s := 1) (opens_int Try.underlying2) (by kernel_rfl) rfl rfl))) (by kernel_rfl) rfl (opensS_last (s := 2) (opens_st Try.underlying26 (by kernel_rfl) (opensS_cons (s := 1) (opens_int Try.underlying3) (by kernel_rfl) rfl (opensS_last (s := 1) (opens_int Try.underlying2) (by kernel_rfl) rfl rfl))) (by kernel_rfl) rfl rfl))))) (by kernel_rfl) rfl rfl)))) (by kernel_rfl) rfl (opensS_cons (s := 1) (opens_int Try.underlying3) (by kernel_rfl) rfl (opensS_cons (s := 1) (opens_int Try.underlying3) (by kernel_rfl) rfl (opensS_cons (s := 1) (opens_sl Try.underlying30 (opens_int Try.underlying3) (by kernel_rfl) (by decide)) (by kernel_rfl) rfl (opensS_cons (s := 1) (opens_sl Try.underlying31 (opens_st Try.underlying46 (by kernel_rfl) (opensS_cons (s := 1) (opens_int Try.underlying3) (by kernel_rfl) rfl (opensS_cons (s := 1) (opens_sl Try.underlying34 (opens_st Try.underlying50 (by kernel_rfl) (opensS_cons (s := 1) (opens_int Try.underlying3) (by kernel_rfl) rfl (opensS_cons (s := 2) (opens_st Try.underlying26 (by kernel_rfl) (opensS_cons (s := 1) (opens_int Try.underlying3) (by kernel_rfl) rfl (opensS_last (s := 1) (opens_int Try.underlying2) (by kernel_rfl) rfl rfl))) (by kernel_rfl) rfl (opensS_last (s := 1) (opens_int Try.underlying3) (by kernel_rfl) rfl rfl)))) (by kernel_rfl) (by decide)) (by kernel_rfl) rfl (opensS_cons (s := 1) (opens_int Try.underlying2) (by kernel_rfl) rfl (opensS_cons (s := 1) (opens_int Try.underlying3) (by kernel_rfl) rfl (opensS_last (s := 1) (opens_int Try.underlying3) (by kernel_rfl) rfl rfl)))))) (by kernel_rfl) (by decide)) (by kernel_rfl) rfl (opensS_cons (s := 1) (opens_sl Try.underlying32 (opens_st Try.underlying80 (by kernel_rfl) (opensS_cons (s := 1) (opens_int Try.underlying3) (by kernel_rfl) rfl (opensS_cons (s := 1) (opens_int Try.underlying3) (by kernel_rfl) rfl (opensS_cons (s := 1) (opens_int Try.underlying3) (by kernel_rfl) rfl (opensS_cons (s := 1) (opens_int Try.underlying3) (by kernel_rfl) rfl (opensS_last (s := 1) (opens_sl Try.underlying34 (opens_st Try.underlying50 (by kernel_rfl) (opensS_cons (s := 1) (opens_int Try.underlying3) (by kernel_rfl) rfl (opensS_cons (s := 2) (opens_st Try.underlying26 (by kernel_rfl) (opensS_cons (s := 1) (opens_int Try.underlying3) (by kernel_rfl) rfl (opensS_last (s := 1) (opens_int Try.underlying2) (by kernel_rfl) rfl rfl))) (by kernel_rfl) rfl (opensS_last (s := 1) (opens_int Try.underlying3) (by kernel_rfl) rfl rfl)))) (by kernel_rfl) (by decide)) (by kernel_rfl) rfl rfl)))))) (by kernel_rfl) (by decide)) (by kernel_rfl) rfl (opensS_cons (s := 1) (opens_sl Try.underlying33 (opens_st Try.underlying84 (by kernel_rfl) (opensS_cons (s := 1) (opens_int Try.underlying3) (by kernel_rfl) rfl (opensS_last (s := 1) (opens_sl Try.underlying34 (opens_st Try.underlying50 (by kernel_rfl) (opensS_cons (s := 1) (opens_int Try.underlying3) (by kernel_rfl) rfl (opensS_cons (s := 2) (opens_st Try.underlying26 (by kernel_rfl) (opensS_cons (s := 1) (opens_int Try.underlying3) (by kernel_rfl) rfl (opensS_last (s := 1) (opens_int Try.underlying2) (by kernel_rfl) rfl rfl))) (by kernel_rfl) rfl (opensS_last (s := 1) (opens_int Try.underlying3) (by kernel_rfl) rfl rfl)))) (by kernel_rfl) (by decide)) (by kernel_rfl) rfl rfl))) (by kernel_rfl) (by decide)) (by kernel_rfl) rfl (opensS_last (s := 1) (opens_sl Try.underlying34 (opens_st Try.underlying50 (by kernel_rfl) (opensS_cons (s := 1) (opens_int Try.underlying3) (by kernel_rfl) rfl (opensS_cons (s := 2) (opens_st Try.underlying26 (by kernel_rfl) (opensS_cons (s := 1) (opens_int Try.underlying3) (by kernel_rfl) rfl (opensS_last (s := 1) (opens_int Try.underlying2) (by kernel_rfl) rfl rfl))) (by kernel_rfl) rfl (opensS_last (s := 1) (opens_int Try.underlying3) (by kernel_rfl) rfl rfl)))) (by kernel_rfl) (by decide)) (by kernel_rfl) rfl rfl))))))))) (hval 0 36 v0 rfl rfl) h0
  have hle := of_decide_eq_true hkk
  simp only [List.append_nil, List.cons_append, List.nil_append, Rows.uptoBulkAll] at hle
  have bl0 : Sh.wt (opPair (opPair (opInt .i64) (opPair (opInt .i64) (opPair (opPair (opInt .i64) (opInt .i64)) (opPair (opPair (opInt .i64) (opInt .i64)) (opPair (opPair (opInt .i64) (opInt .i64)) (opPair (opInt .i64) (opInt .i64))))))) (opPair (opInt .i64) (opPair (opInt .i64) (opPair (opSl 1 (opInt .i64)) (opPair (opSl 5 (opPair (opInt .i64) (opPair (opSl 4 (opPair (opInt .i64) (opPair (opPair (opInt .i64) (opInt .i64)) (opInt .i64)))) (opPair (opInt .i64) (opPair (opInt .i64) (opInt .i64)))))) (opPair (opSl 5 (opPair (opInt .i64) (opPair (opInt .i64) (opPair (opInt .i64) (opPair (opInt .i64) (opSl 4 (opPair (opInt .i64) (opPair (opPair (opInt .i64) (opInt .i64)) (opInt .i64))))))))) (opPair (opSl 2 (opPair (opInt .i64) (opSl 4 (opPair (opInt .i64) (opPair (opPair (opInt .i64) (opInt .i64)) (opInt .i64)))))) (opSl 4 (opPair (opInt .i64) (opPair (opPair (opInt .i64) (opInt .i64)) (opInt .i64))))))))))) a0 ≤ 1048576 := by have h : Sh.wt (opPair (opPair (opInt .i64) (opPair (opInt .i64) (opPair (opPair (opInt .i64) (opInt .i64)) (opPair (opPair (opInt .i64) (opInt .i64)) (opPair (opPair (opInt .i64) (opInt .i64)) (opPair (opInt .i64) (opInt .i64))))))) (opPair (opInt .i64) (opPair (opInt .i64) (opPair (opSl 1 (opInt .i64)) (opPair (opSl 5 (opPair (opInt .i64) (opPair (opSl 4 (opPair (opInt .i64) (opPair (opPair (opInt .i64) (opInt .i64)) (opInt .i64)))) (opPair (opInt .i64) (opPair (opInt .i64) (opInt .i64)))))) (opPair (opSl 5 (opPair (opInt .i64) (opPair (opInt .i64) (opPair (opInt .i64) (opPair (opInt .i64) (opSl 4 (opPair (opInt .i64) (opPair (opPair (opInt .i64) (opInt .i64)) (opInt .i64))))))))) (opPair (opSl 2 (opPair (opInt .i64) (opSl 4 (opPair (opInt .i64) (opPair (opPair (opInt .i64) (opInt .i64)) (opInt .i64)))))) (opSl 4 (opPair (opInt .i64) (opPair (opPair (opInt .i64) (opInt .i64)) (opInt .i64))))))))))) a0 ≤ Rows.uptoBulk d0 := wt0 _ (bulk (H := H)); first | omega | (simp only [Rows.uptoBulk] at hle; omega)
  clear hkk hle
  clear hA0 hval0
  refine (And.right (first_row a0 W ok0 bl0)).mono fun e W' he => ?_
  cases e with
  | returned v =>
    obtain ⟨rfl, bel⟩ := he
    exact ⟨_, rfl, _, _, _, [], _, [], hW', trodAll_mk1 (shut_bool Try.underlying4 _), (trodAll_cons_mk (Below.trod laidOut (by kernel_rfl) (of_decide_eq_true (by kernel_rfl)) k0 bel lt0) trodAll_mk0), rfl, bel.frame _, fun h => by cases h⟩
  | panicked c => exact he.elim
  | outgrown => exact he.elim
theorem over : Rows.traceFirstUptoRow.holds Try.pinned (Rows.OpenSpec.upto Rows.traceFirstSpec) :=
  OpenClaim.holds_of_cond 5 Try.f5 rfl rfl rfl rfl rfl rfl rfl ⟨rfl, rfl, rfl, rfl, rfl⟩ rfl rfl rfl rfl rfl (by kernel_rfl) Try.func5 (by kernel_rfl)
    (of_decide_eq_true (by kernel_rfl)) (by unfold Func.isWrapper; first | (rw [if_pos (by decide +kernel)]; kernel_rfl) | (rw [if_neg (by decide +kernel)]; exact ⟨rfl, rfl⟩))
    (fun os started H enc _ F => lifted os started H enc F)
theorem proved : Rows.TraceFirstUptoSaid := over
end Go.Proofs.Ythfbfigdgjhhaaa.traceFirst
namespace Go.Proofs.Ythfbfigdgjhhaaa
/-- The row, under a short name, for the claim. -/
theorem traceFirst_holds : Rows.TraceFirstUptoSaid := traceFirst.proved
#print axioms traceFirst_holds
end Go.Proofs.Ythfbfigdgjhhaaa
