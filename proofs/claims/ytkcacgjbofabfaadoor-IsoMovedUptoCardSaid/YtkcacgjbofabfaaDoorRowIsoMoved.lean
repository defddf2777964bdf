/- The law IsoMoved holds of every input of bulk at most 1048576: it answers true and leaves what it was given as it was. -/
import Derived.Test.YtkcacgjbofabfaaDoorRows
import Derived.Test.YtkcacgjbofabfaaDoorZMove
import Derived.WalkKit
import Derived.ProofKit
import Derived.OpenShut
import Derived.ShutString
import Derived.ChangeOld
import Derived.Below
import Derived.SizedLaws
import Derived.Lib.SmallJoins
import Derived.JoinedCond
import Derived.Deep.DeepHandedRow
import Derived.Test.YtkcacgjbofabfaaDoorCards
import Derived.Test.YtkcacgjbofabfaaDoorTie
namespace Go.Proofs.YtkcacgjbofabfaaDoor.isoMoved
open Go Go.Eng Go.ChangeShapes Go.WideShapes Go.ChangeAt Go.RowKit Go.Joins
open Go.ChangeMaps (open_string shut_string)
set_option linter.all false
theorem own : ownKnob Tryd.prog.godebug = none := by kernel_rfl
theorem laidOut : laidOutB Tryd.prog = true := by kernel_rfl
theorem bulkAll {H : Type} (l : List (DataW H)) : Rows.uptoBulkAll l = (l.map Rows.uptoBulk).sum := by
  induction l with
  | nil => simp [Rows.uptoBulkAll]
  | cons d l ih => simp [Rows.uptoBulkAll, ih]
theorem bulk {H : Type} : Bulk (H := H) Rows.uptoBulk := by
  refine ⟨fun l => ?_, fun bs => ?_, fun es rs => ?_, fun ps => ?_, ?_⟩
  · cases l <;> simp [Rows.uptoBulk]
  · simp [Rows.uptoBulk]
  · simp only [Rows.uptoBulk, bulkAll]; omega
  · simp only [Rows.uptoBulk, bulkAll]; omega
  · simp [Rows.uptoBulk]
theorem upc : (Rows.OpenSpec.upto Rows.isoMovedSpec).cond = some Rows.uptoSmall := rfl
/-- What a listed table holds. -/
def cellsD : DataW Unit → Array Value
  | .agg ds => (ds.map fun d => match d with | .lit (.int k n) => Value.int k n | _ => Value.bool false).toArray
  | _ => #[]
def putG (h : Array Obj) (g : Nat) (d : DataW Unit) : Array Obj := h.modify g fun
  | .cells _ t fz => .cells (cellsD d) t fz
  | o => o
/-- A world for the witness: the settled one, the listed tables holding what the program lays in them. -/
noncomputable def laidWorld (os : Os) : World := { World.holding Tryd.prog os ⟨#[], #[], []⟩ with heap := (putG (putG (putG (World.holding Tryd.prog os ⟨#[], #[], []⟩).heap 1 Rows.laid_math_bits_deBruijn32tab) 2 Rows.laid_math_bits_deBruijn64tab) 0 Rows.laid_internal_strconv_uint64pow10) }
theorem laid_met (os : Os) : laidMet Tryd.prog Rows.isoMovedUptoRow.laid ((laidWorld os).forCall (fun _ _ => 0) ⟨#[], #[.slice none 0 0, .slice none 0 0, .slice none 0 0], []⟩).memory :=
  laidMet_of_run' 8 (by kernel_rfl) (by kernel_rfl)
theorem reads (os : Os) {H : Type} (enc : TypeId × Value → H) : ∃ places, DataW.whole enc Tryd.prog ((laidWorld os).forCall (fun _ _ => 0) ⟨#[], #[.slice none 0 0, .slice none 0 0, .slice none 0 0], []⟩).memory Tryd.f7.params.toList Rows.isoMovedSpec.vars false (#[.slice none 0 0, .slice none 0 0, .slice none 0 0] : Array Value).toList 8 = some ([.nil, .nil, .nil], [], places) :=
  ⟨[], by kernel_rfl⟩
set_option maxRecDepth 100000 in
theorem lifted (os : Os) (started : os.Started) (H : Type) (enc : TypeId × Value → H) (F : Stop.Interp) :
    ReturnsInHanded {} Tryd.checked os 7 .any ((Rows.OpenSpec.upto Rows.isoMovedSpec).preRow enc Tryd.prog Tryd.f7 Rows.isoMovedUptoRow.domain false Rows.isoMovedUptoRow.laid) (((Rows.OpenSpec.upto Rows.isoMovedSpec).at F).post enc Tryd.prog Tryd.f7 false true false false) := by
  obtain ⟨places, hx⟩ := reads os enc
  refine returnsInHanded_of_row (C := Tryd.checked) (s := Rows.OpenSpec.upto Rows.isoMovedSpec) own started (by kernel_rfl) Tryd.func7
    (witness_row_at (enc := enc) (C := Tryd.checked) false (laidWorld os) #[.slice none 0 0, .slice none 0 0, .slice none 0 0] rfl (by kernel_rfl) (by kernel_rfl) (by kernel_rfl)
      (OpenSpec.preRow_of_cond 8 hx (by kernel_rfl) (fun k hk => by cases hk; kernel_rfl) (by kernel_rfl) (laid_met os))) ?_
  intro W base args ds gs before hval0 hW hcnd hkk0 _ hL _ _
  have hkk := hkk0 _ rfl
  have hval : ∀ (j : Nat) t v, Tryd.f7.params[j]? = some t → args[j]? = some v → Value.okWide Tryd.prog W .any base t v := hval0
  have hW' := hW
  obtain ⟨p, q, hA0, hV, rfl, hfz, hnd⟩ := hW
  have hA : DataW.TrodAll enc Tryd.prog W 0 (fun _ => true) true Tryd.f7.params.toList args.toList ds p := hA0
  rw [Tryd.params7] at hA hval
  obtain ⟨v0, vs0, d0, ds0, p0, q0, hargs, rfl, rfl, h0, r0⟩ := trodAll_cons hA
  obtain ⟨v1, vs1, d1, ds1, p1, q1, rfl, rfl, rfl, h1, r1⟩ := trodAll_cons r0
  obtain ⟨v2, vs2, d2, ds2, p2, q2, rfl, rfl, rfl, h2, r2⟩ := trodAll_cons r1
  obtain ⟨rfl, rfl, rfl⟩ := trodAll_nil r2
  obtain rfl : args = #[v0, v1, v2] := by cases args; simp_all
  obtain ⟨rfl, rfl⟩ := trodVars_none hV
  have k0 := h0
  have lt0 : ∀ x ∈ p0, x.block < W.heap.size := by obtain ⟨m, hm⟩ := k0; exact DataW.trod_lt m _ _ _ hm
  obtain ⟨a0, rfl, ok0, wt0⟩ := open_slA (E := (opPair (opInt .i64) (opSl 2 (opPair (opInt .i64) (opInt .i64))))) Tryd.underlying22 (opens_sl Tryd.underlying22 (opens_st Tryd.underlying41 (by kernel_rfl) (opensS_cons (s := 1) (opens_int Tryd.underlying3) (by kernel_rfl) rfl (opensS_last (s := 1) (opens_sl Tryd.underlying23 (opens_st Tryd.underlying45 (by kernel_rfl) (opensS_cons (s := 1) (opens_int Tryd.underlying3) (by kernel_rfl) rfl (opensS_last (s := 1) (opens_int Tryd.underlying2) (by kernel_rfl) rfl rfl))) (by kernel_rfl) (by decide)) (by kernel_rfl) rfl rfl))) (by kernel_rfl) (by decide)) (hval 0 22 v0 rfl rfl) h0
  have k1 := h1
  have lt1 : ∀ x ∈ p1, x.block < W.heap.size := by obtain ⟨m, hm⟩ := k1; exact DataW.trod_lt m _ _ _ hm
  obtain ⟨a1, rfl, ok1, wt1⟩ := open_slA (E := (opPair (opInt .i64) (opInt .i64))) Tryd.underlying23 (opens_sl Tryd.underlying23 (opens_st Tryd.underlying45 (by kernel_rfl) (opensS_cons (s := 1) (opens_int Tryd.underlying3) (by kernel_rfl) rfl (opensS_last (s := 1) (opens_int Tryd.underlying2) (by kernel_rfl) rfl rfl))) (by kernel_rfl) (by decide)) (hval 1 23 v1 rfl rfl) h1
  have k2 := h2
  have lt2 : ∀ x ∈ p2, x.block < W.heap.size := by obtain ⟨m, hm⟩ := k2; exact DataW.trod_lt m _ _ _ hm
  obtain ⟨a2, rfl, ok2, wt2⟩ := open_slA (E := (opInt .i64)) Tryd.underlying39 (opens_sl Tryd.underlying39 (opens_int Tryd.underlying3) (by kernel_rfl) (by decide)) (hval 2 39 v2 rfl rfl) h2
  have hle := of_decide_eq_true hkk
  simp only [List.append_nil, List.cons_append, List.nil_append, Rows.uptoBulkAll] at hle
  have bl0 : Sh.wt (opSl 2 (opPair (opInt .i64) (opSl 2 (opPair (opInt .i64) (opInt .i64))))) a0 ≤ 1048576 := by have h : Sh.wt (opSl 2 (opPair (opInt .i64) (opSl 2 (opPair (opInt .i64) (opInt .i64))))) a0 ≤ Rows.uptoBulk d0 := wt0 _ (bulk (H := H)); first | omega | (simp only [Rows.uptoBulk] at hle; omega)
  have bl1 : Sh.wt (opSl 2 (opPair (opInt .i64) (opInt .i64))) a1 ≤ 1048576 := by have h : Sh.wt (opSl 2 (opPair (opInt .i64) (opInt .i64))) a1 ≤ Rows.uptoBulk d1 := wt1 _ (bulk (H := H)); first | omega | (simp only [Rows.uptoBulk] at hle; omega)
  have bl2 : Sh.wt (opSl 1 (opInt .i64)) a2 ≤ 1048576 := by have h : Sh.wt (opSl 1 (opInt .i64)) a2 ≤ Rows.uptoBulk d2 := wt2 _ (bulk (H := H)); first | omega | (simp only [Rows.uptoBulk] at hle; omega)
  clear hkk hle
  clear hA0 hval0
  refine (And.right (moved_row a0 a1 a2 W ok0 ok1 ok2 bl0 bl1 bl2 hL)).mono fun e W' he => ?_
  cases e with
  | returned v =>
    obtain ⟨rfl, bel⟩ := he
    exact ⟨_, rfl, _, _, _, [], _, [], hW', trodAll_mk1 (shut_bool Tryd.underlying4 _), (trodAll_cons_mk (Below.trod laidOut (by kernel_rfl) (of_decide_eq_true (by kernel_rfl)) k0 bel lt0) (trodAll_cons_mk (Below.trod laidOut (by kernel_rfl) (of_decide_eq_true (by kernel_rfl)) k1 bel lt1) (trodAll_cons_mk (Below.trod laidOut (by kernel_rfl) (of_decide_eq_true (by kernel_rfl)) k2 bel lt2) trodAll_mk0))), rfl, bel.frame _, fun h => by cases h⟩
  | panicked c => exact he.elim
  | outgrown => exact he.elim
theorem over : Rows.isoMovedUptoRow.holds Tryd.pinned (Rows.OpenSpec.upto Rows.isoMovedSpec) :=
  OpenClaim.holds_of_cond 7 Tryd.f7 rfl rfl rfl rfl rfl rfl rfl ⟨rfl, rfl, rfl, rfl, rfl⟩ rfl rfl rfl rfl rfl (by kernel_rfl) Tryd.func7 (by kernel_rfl)
    (of_decide_eq_true (by kernel_rfl)) (by unfold Func.isWrapper; first | (rw [if_pos (by decide +kernel)]; kernel_rfl) | (rw [if_neg (by decide +kernel)]; exact ⟨rfl, rfl⟩))
    (fun os started H enc _ F => by rw [OpenClaim.pre_eq_preRow]; exact lifted os started H enc F)
theorem proved : Rows.IsoMovedUptoSaid := over
/-- No parameter wants a stand-in; the program has no looks of its own. -/
theorem plain (f : FuncId) (fn : Func) (hf : Tryd.pinned.checked.prog.funcNamed "swath/swathlaw03.IsoMoved" = some f) (hfn : Tryd.pinned.checked.prog.funcs[f]? = some fn) :
    true = Tryd.pinned.checked.prog.looks [] ∧ ∀ (j : Nat) t, fn.params[j]? = some t → Tryd.pinned.checked.prog.wantsStandIn t = false := by
  obtain rfl : f = 7 := Option.some.inj ((show Tryd.prog.funcNamed "swath/swathlaw03.IsoMoved" = some 7 by kernel_rfl).symm.trans hf) |>.symm
  obtain rfl : fn = Tryd.f7 := (Option.some.inj (Tryd.func7.symm.trans hfn)).symm
  refine ⟨by kernel_rfl, fun j t ht => ?_⟩
  rw [Tryd.params7] at ht
  have hm := Array.mem_of_getElem? ht
  have hall : (#[22, 23, 39] : Array TypeId).all (fun t => !Tryd.prog.wantsStandIn t) = true := by kernel_rfl
  have := Array.all_eq_true_iff_forall_mem.1 hall t hm
  have h2 : Tryd.prog.wantsStandIn t = false := by simpa using this
  exact h2
/-- The card. -/
theorem card : Rows.IsoMovedUptoCardSaid :=
  Claim7.holds_tied_plain_at .later [] _ _ _ _ proved (fun _ h => by cases h) (by kernel_rfl) (fun _ h => by cases h) isoMovedUpto_row_tie rfl ⟨rfl, rfl⟩ (by kernel_rfl) rfl plain (by kernel_rfl)
end Go.Proofs.YtkcacgjbofabfaaDoor.isoMoved
namespace Go.Proofs.YtkcacgjbofabfaaDoor
/-- The row, under a short name, for the claim. -/
theorem isoMoved_holds : Rows.IsoMovedUptoCardSaid := isoMoved.card
#print axioms isoMoved_holds
end Go.Proofs.YtkcacgjbofabfaaDoor
