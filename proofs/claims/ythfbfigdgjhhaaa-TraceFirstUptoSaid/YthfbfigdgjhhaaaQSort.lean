/- Layer 16: the library's sort and compact, of whole numbers. -/
import Derived.Test.YthfbfigdgjhhaaaQMem
import Derived.Test.YthfbfigdgjhhaaaQRev
import Derived.Test.YthfbfigdgjhhaaaShelf
set_option linter.unusedSimpArgs false
set_option linter.unusedVariables false
set_option maxRecDepth 20000
set_option linter.all false
-- @FC
namespace Go.Eng
open Go Go.RowKit Go.Sort Go.Tr
theorem inv_drawn {m : Mem} {L : Lst} {w : World} (hI : Inv m L w) (n : Nat) : Inv m L (Sort.ahead w n) := ⟨hI.os, hI.tape, hI.output, hI.blk, hI.own, hI.nodup⟩
theorem inv_grow {m : Mem} {L : Lst} {w : World} (hI : Inv m L w) (os : Array Obj) : Inv m L (Sort.grow w os) := by
  have hh : ∀ (b : Nat) (o : Obj), w.heap[b]? = some o → (w.heap ++ os)[b]? = some o := by
    intro b o h
    have := (Array.getElem?_eq_some_iff.1 h).1
    rw [Array.getElem?_append_left this]; exact h
  exact ⟨hI.os, hI.tape, hI.output, fun b o h => hh b o (hI.blk b o h), fun p hp => ⟨hh _ _ (hI.own p hp).1, (hI.own p hp).2⟩, hI.nodup⟩
theorem mapBlock_put {w : World} {b : Nat} {c : Array Value} {E : TypeId} {fr : Nat × Nat} (f : Array Value → Array Value) (h : w.heap[b]? = some (.cells c E fr)) : mapBlock w b f = w.putObj b (.cells (f c) E fr) := by
  unfold mapBlock World.putObj
  congr 1
  apply Array.ext_getElem?
  intro k
  rw [Array.getElem?_modify, Array.getElem?_setIfInBounds]
  by_cases hk : b = k
  · subst hk
    have := (Array.getElem?_eq_some_iff.1 h).1
    rw [if_pos rfl, if_pos rfl, h, if_pos this]; rfl
  · rw [if_neg hk, if_neg hk]
theorem putCells_ints (ys xs : List Int) (sp : List Value) (h : ys.length = xs.length) : putCells (Value.int .i64) 0 ys.toArray (intsV xs ++ sp).toArray = (intsV ys ++ sp).toArray := by
  apply Array.ext_getElem?
  intro k
  unfold putCells
  rw [Array.getElem?_mapIdx, List.getElem?_toArray, List.getElem?_toArray]
  have hx := intsV_length xs
  have hy := intsV_length ys
  by_cases hk : k < ys.length
  · rw [List.getElem?_append_left (by omega), List.getElem?_append_left (by omega), List.getElem?_eq_getElem (by omega), Option.map_some, if_pos ⟨by omega, by simpa using hk⟩, intsV_get, List.getElem?_eq_getElem hk, Option.map_some]
    simp [getElem!_pos, hk]
  · rw [List.getElem?_append_right (by omega), List.getElem?_append_right (by omega), hx, hy, h]
    cases sp[k - xs.length]? with
    | none => rfl
    | some v => rw [Option.map_some, if_neg (by simp; omega)]
theorem inv_putRow {m : Mem} {L : Lst} {w : World} {b : Nat} {xs ys : List Int} {sp : List Value} {E : TypeId} (h : ys.length = xs.length) (hI : Inv m ((b, .cells (intsV xs ++ sp).toArray E (0, 0)) :: L) w) :
    Inv m ((b, .cells (intsV ys ++ sp).toArray E (0, 0)) :: L) (putRow (Value.int .i64) w b 0 ys.toArray) := by
  have hb := (hI.own (b, .cells (intsV xs ++ sp).toArray E (0, 0)) (by simp)).1
  unfold putRow
  rw [mapBlock_put _ hb, putCells_ints ys xs sp h]
  exact hI.putObj
theorem holds_ints {m : Mem} {L : Lst} {w : World} {b : Nat} {xs : List Int} {sp : List Value} {E : TypeId} (hI : Inv m ((b, .cells (intsV xs ++ sp).toArray E (0, 0)) :: L) w) : Holds (Value.int .i64) w b 0 xs.toArray ∧ b < w.heap.size := by
  have hb := (hI.own (b, .cells (intsV xs ++ sp).toArray E (0, 0)) (by simp)).1
  refine ⟨fun j hj => ?_, (Array.getElem?_eq_some_iff.1 hb).1⟩
  have hj' : j < xs.length := by simpa using hj
  have hx := intsV_length xs
  constructor
  · unfold World.cell?
    dsimp only
    rw [hb]
    dsimp only
    rw [Nat.zero_add, List.getElem?_toArray, List.getElem?_append_left (by omega), intsV_get, List.getElem?_eq_getElem hj', Option.map_some]
    simp [getElem!_pos, hj']
  · unfold World.frozen?
    dsimp only
    rw [hb]
    simp
end Go.Eng
namespace Go.Proofs.Ythfbfigdgjhhaaa
open Go Go.Eng Go.Tr
theorem sort_ct (l : List Int) (p : Option Addr) (c : Nat) (Lg : Lst) (m : Mem) (hg : GS 3 1 (.slice p l.length c) l.length (intsV l) Lg) (hl : l.length < 4611686018427387904) :
    Cta Try.prog 27 [.slice p l.length c] m Lg (fun _ m' L' => m' = m ∧ GS 3 1 (.slice p l.length c) l.length (intsV (l.mergeSort fun x y => decide (x ≤ y))) L') := by
  obtain ⟨hxl, ⟨he, h0, rfl⟩ | ⟨b, c', sp, he, hc, hcm, hsp, rfl⟩⟩ := hg
  · have hl0 : l = [] := List.eq_nil_of_length_eq_zero h0
    subst hl0
    refine ⟨fun L0 w hI => ⟨by kernel_rfl, ?_⟩⟩
    refine (Try.slices_Sort_int_none p c w).mono ?_
    rintro e w' ⟨rfl, rfl⟩
    rw [he, show (([] : List Int).mergeSort fun x y => decide (x ≤ y)) = [] by simp]
    exact ⟨m, [], hI, rfl, GS.nil⟩
  · injection he with e1 e2 e3
    subst e1 e3
    refine ⟨fun L0 w hI => ⟨by kernel_rfl, ?_⟩⟩
    obtain ⟨hH, hblk⟩ := holds_ints hI
    refine (Try.slices_Sort_int b 0 c l w hH hblk hl).mono ?_
    rintro e w' ⟨rfl, n, os, rfl⟩
    have hlen : (l.mergeSort fun x y => decide (x ≤ y)).length = l.length := List.length_mergeSort l
    refine ⟨m, [(b, .cells (intsV (l.mergeSort fun x y => decide (x ≤ y)) ++ sp).toArray 3 (0, 0))], inv_grow (inv_putRow hlen (inv_drawn hI n)) os, rfl, ?_⟩
    exact ⟨by rw [intsV_length, hlen, Nat.mul_one], .inr ⟨b, c, sp, rfl, hc, hcm, hsp, rfl⟩⟩
theorem compact_ct (l : List Int) (p : Option Addr) (c : Nat) (Lg : Lst) (m : Mem) (hg : GS 3 1 (.slice p l.length c) l.length (intsV l) Lg) (hl : l.length < 4611686018427387904) :
    Cta Try.prog 28 [.slice p l.length c] m Lg (fun v m' L' => m' = m ∧ v = .slice p (Lib.compact l).length c ∧ GS 3 1 (.slice p (Lib.compact l).length c) (Lib.compact l).length (intsV (Lib.compact l)) L') := by
  obtain ⟨hxl, ⟨he, h0, rfl⟩ | ⟨b, c', sp, he, hc, hcm, hsp, rfl⟩⟩ := hg
  · have hl0 : l = [] := List.eq_nil_of_length_eq_zero h0
    subst hl0
    refine ⟨fun L0 w hI => ⟨by kernel_rfl, ?_⟩⟩
    refine (Try.slices_Compact_int_empty p c w).mono ?_
    rintro e w' ⟨rfl, rfl⟩
    rw [show (Lib.compact ([] : List Int)).length = ([] : List Int).length from rfl, he]
    exact ⟨m, [], hI, rfl, he, GS.nil⟩
  · injection he with e1 e2 e3
    subst e1 e3
    refine ⟨fun L0 w hI => ⟨by kernel_rfl, ?_⟩⟩
    obtain ⟨hH, hblk⟩ := holds_ints hI
    refine (Try.slices_Compact_int b 0 c l w hH (by omega) hc).mono ?_
    rintro e w' ⟨rfl, n, rfl⟩
    obtain ⟨K, hK⟩ : ∃ K, K = Lib.compact l := ⟨_, rfl⟩
    have hle : K.length ≤ l.length := by
      rw [hK]; unfold Lib.compact Lib.compactUpTo
      rw [List.length_map]
      exact Nat.le_trans (List.length_filter_le _ _) (by simp)
    rw [← hK]
    have hlen : (K ++ List.replicate (l.length - K.length) 0).length = l.length := by rw [List.length_append, List.length_replicate]; omega
    refine ⟨m, [(b, .cells (intsV (K ++ List.replicate (l.length - K.length) 0) ++ sp).toArray 3 (0, 0))], inv_putRow hlen (inv_drawn hI n), rfl, rfl, ?_⟩
    refine ⟨by rw [intsV_length, Nat.mul_one], .inr ⟨b, c, intsV (List.replicate (l.length - K.length) 0) ++ sp, rfl, by omega, hcm, ?_, by rw [intsV_app, List.append_assoc]⟩⟩
    rw [List.length_append, intsV_length, List.length_replicate, hsp]; omega
end Go.Proofs.Ythfbfigdgjhhaaa
