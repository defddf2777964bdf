/- Layer 3: all numbers are shown. -/
import Derived.Test.YtkcacgjbofabfaaDoorSShow
import Derived.Test.YtkcacgjbofabfaaDoorShelf
import Derived.Test.YtkcacgjbofabfaaDoorRows
import Derived.Lib.LaidTab
import Derived.Stop.LaidErr
set_option linter.unusedSimpArgs false
set_option linter.unusedVariables false
set_option maxRecDepth 20000
set_option linter.all false
-- @FC
namespace Go.Proofs.YtkcacgjbofabfaaDoor
open Go Go.Eng Go.Heap
/-- The table of powers lies where it lies for good. -/
def TabM (m : Mem) : Prop := ∃ T f, m.blk 0 = some (.cells (Lib.pow10Tab.map fun z => Value.int .u64 z).toArray T f)
theorem TabM.le {m m' : Mem} (h : TabM m) (hm : m.Le m') : TabM m' := by
  obtain ⟨T, f, h⟩ := h
  exact ⟨T, f, hm.blk _ _ h⟩
theorem gPow : Tryd.prog.globalNamed "internal/strconv.uint64pow10" = some 0 := by kernel_rfl
theorem TabM.is {m : Mem} {L : Lst} {w : World} (h : TabM m) (hI : Inv m L w) : Lib.TabIs Tryd.prog w "internal/strconv.uint64pow10" .u64 Lib.pow10Tab := by
  obtain ⟨T, f, h⟩ := h
  unfold Lib.TabIs World.var?
  rw [gPow, Option.bind_some, hI.blk _ _ h]
theorem tabM_of {W : World} (h : Lib.TabIs Tryd.prog W "internal/strconv.uint64pow10" .u64 Lib.pow10Tab) : TabM (memOf W) := by
  unfold Lib.TabIs World.var? at h
  rw [gPow, Option.bind_some] at h
  split at h
  · rename_i cs T f hb
    rw [Option.some.inj h] at hb
    exact ⟨T, f, hb⟩
  · cases h
theorem inv_grow {m : Mem} {L : Lst} {w : World} (hI : Inv m L w) (k : Nat) (os : Array Obj) : Inv m L (Sort.grow (w.drewN k) os) := by
  have hh : ∀ (b : Nat) (o : Obj), w.heap[b]? = some o → (w.heap ++ os)[b]? = some o := by
    intro b o h
    have := (Array.getElem?_eq_some_iff.1 h).1
    rw [Array.getElem?_append_left this]; exact h
  exact ⟨hI.os, hI.tape, hI.output, fun b o h => hh b o (hI.blk b o h), fun p hp => ⟨hh _ _ (hI.own p hp).1, (hI.own p hp).2⟩, hI.nodup⟩
theorem tab_laid {W : World} (h : laidMetH Tryd.prog Rows.isoShowsRow.laid W) : TabM (memOf W) := by
  have h1 : laidMet Tryd.prog Rows.isoShowsRow.laid W := h
  exact tabM_of (Lib.tabIs_of_head (rest := []) gPow (t := 123) (by kernel_rfl) (n := 20) (e := 116) (by kernel_rfl) (by kernel_rfl) (by kernel_rfl) (by kernel_rfl) (laidMet.tail (laidMet.tail h1)))
theorem numOk_all {m : Mem} (ht : TabM m) (n : Int) (h0 : -9223372036854775808 ≤ n) (h1 : n ≤ 9223372036854775807) : NumOk m n := by
  refine ⟨itoaB_size n h0 h1, fun m' hm => ⟨fun L0 w hI => ⟨by kernel_rfl, ?_⟩⟩⟩
  refine (Tryd.internal_strconv_FormatInt_10 n h0 h1 w ((ht.le hm).is hI)).mono ?_
  rintro e w' ⟨rfl, k, os, rfl⟩
  exact ⟨m', [], inv_grow hI k os, rfl, rfl, rfl⟩
end Go.Proofs.YtkcacgjbofabfaaDoor
