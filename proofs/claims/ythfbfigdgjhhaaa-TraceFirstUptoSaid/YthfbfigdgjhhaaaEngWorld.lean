/- The engine's memory: what is read behind what was made and written. -/
import Derived.Test.YthfbfigdgjhhaaaEngOps
import Derived.Below
set_option linter.all false
set_option linter.unusedSimpArgs false
set_option linter.unusedVariables false
namespace Go.Eng
open Go Go.RowKit
variable {w : World} {b b' o o' : Nat} {t : TypeId} {v : Value} {c : Array Value}

theorem cells_int {k : IntKind} {n : Int} : (Value.int k n).cells = #[.int k n] := Eq.trans rfl rfl
theorem cells_bool {p : Bool} : (Value.bool p).cells = #[.bool p] := Eq.trans rfl rfl
theorem cells_str {s : ByteArray} : (Value.string s).cells = #[.string s] := Eq.trans rfl rfl
theorem cells_ptr {p : Option Addr} : (Value.pointer p).cells = #[.pointer p] := Eq.trans rfl rfl
theorem cells_slice {p : Option Addr} {n k : Nat} : (Value.slice p n k).cells = #[.slice p n k] := Eq.trans rfl rfl
theorem cells_map {r : Option Nat} : (Value.map r).cells = #[.map r] := Eq.trans rfl rfl
theorem cells_func {f : Fn} {a k : Array Value} : (Value.func f a k).cells = #[.func f a k] := Eq.trans rfl rfl
theorem cells_nilFunc : (Value.nilFunc).cells = #[.nilFunc] := Eq.trans rfl rfl
theorem cells_iface {u : TypeId} {x : Value} : (Value.iface u x).cells = #[.iface u x] := Eq.trans rfl rfl
theorem cells_nilIface : (Value.nilIface).cells = #[.nilIface] := Eq.trans rfl rfl
theorem cells_agg {k : Array Value} : (Value.agg k).cells = k := Eq.trans rfl rfl
theorem one_int {k : IntKind} {n : Int} : (Value.int k n).oneCell' = true := Eq.trans rfl rfl
theorem one_bool {p : Bool} : (Value.bool p).oneCell' = true := Eq.trans rfl rfl
theorem one_str {s : ByteArray} : (Value.string s).oneCell' = true := Eq.trans rfl rfl
theorem one_ptr {p : Option Addr} : (Value.pointer p).oneCell' = true := Eq.trans rfl rfl
theorem one_slice {p : Option Addr} {n k : Nat} : (Value.slice p n k).oneCell' = true := Eq.trans rfl rfl
theorem one_map {r : Option Nat} : (Value.map r).oneCell' = true := Eq.trans rfl rfl
theorem one_func {f : Fn} {a k : Array Value} : (Value.func f a k).oneCell' = true := Eq.trans rfl rfl
theorem one_nilFunc : (Value.nilFunc).oneCell' = true := Eq.trans rfl rfl
theorem one_iface {u : TypeId} {x : Value} : (Value.iface u x).oneCell' = true := Eq.trans rfl rfl
theorem one_nilIface : (Value.nilIface).oneCell' = true := Eq.trans rfl rfl
theorem ls_size {l : List Value} : l.toArray.size = l.length := by simp
theorem ls_toList {l : List Value} : l.toArray.toList = l := Eq.trans rfl rfl

theorem cell_alloc : (w.alloc (.cells c t)).cell? ⟨b, o, none⟩ = if b = w.heap.size then c[o]? else w.cell? ⟨b, o, none⟩ := by
  split
  · rename_i h; subst h; simp
  · rename_i h; exact World.cell?_alloc_old _ _ _ h
theorem frozen_alloc : (w.alloc (.cells c t)).frozen? ⟨b, o, none⟩ = if b = w.heap.size then false else w.frozen? ⟨b, o, none⟩ := by
  split
  · rename_i h; subst h; simp
  · rename_i h; exact World.frozen?_alloc_old _ _ _ h
theorem cell_set : (w.setCell ⟨b, o, none⟩ v).cell? ⟨b', o', none⟩ = if b' = b ∧ o' = o then (w.cell? ⟨b', o', none⟩).map (fun _ => v) else w.cell? ⟨b', o', none⟩ := by
  split
  · rename_i h; obtain ⟨rfl, rfl⟩ := h
    cases hc : w.cell? ⟨b', o', none⟩ with
    | some u => rw [World.cell?_setCell_same _ _ _ hc]; rfl
    | none =>
      have := setCell_isSome (w := w) (p := ⟨b', o', none⟩) (q := ⟨b', o', none⟩) (v := v)
      rw [hc] at this
      simpa using this
  · rename_i h
    exact World.cell?_setCell_other _ _ _ _ (by intro hc; apply h; injection hc with h1 h2; exact ⟨h1.symm, h2.symm⟩)
theorem frozen_set {p q : Addr} : (w.setCell p v).frozen? q = w.frozen? q := World.frozen?_setCell _ _ _ _
/-- A store into a block that has just been made is put into the block. -/
theorem set_alloc : (w.alloc (.cells c t)).setCell ⟨b, o, none⟩ v = if b = w.heap.size then w.alloc (.cells (c.setIfInBounds o v) t) else (w.setCell ⟨b, o, none⟩ v).alloc (.cells c t) := by
  by_cases h : b = w.heap.size
  · rw [if_pos h]; subst h
    unfold World.alloc World.setCell
    congr 1
    apply Array.ext_getElem?
    intro i
    simp only [Array.getElem?_modify, Array.getElem?_push]
    by_cases hi : i = w.heap.size
    · subst hi; simp
    · simp [hi, Ne.symm hi]
  · rw [if_neg h]
    unfold World.alloc World.setCell
    congr 1
    apply Array.ext_getElem?
    intro i
    simp only [Array.getElem?_modify, Array.getElem?_push, Array.size_modify]
    by_cases hi : i = w.heap.size
    · subst hi; simp [h]
    · simp [hi]
theorem size_alloc {ob : Obj} : (w.alloc ob).heap.size = w.heap.size + 1 := World.size_alloc _ _
theorem size_set {p : Addr} : (w.setCell p v).heap.size = w.heap.size := World.size_setCell _ _ _
theorem ne_hs {a : Nat} (h : a < w.heap.size) : (a = w.heap.size) = False := by simp; omega
theorem ne_hsk {a k : Nat} (h : a < w.heap.size + k) : (a = w.heap.size + k) = False := by simp; omega
theorem ne_hs_gt {k : Nat} (h : 0 < k) : (w.heap.size + k = w.heap.size) = False := by simp; omega
theorem ne_hsk_gt {a k : Nat} (h : w.heap.size + k < a) : (a = w.heap.size + k) = False := by simp; omega
theorem get_cons_zero {a : Value} {l : List Value} : (a :: l).toArray[0]? = some a := Eq.trans rfl rfl
theorem get_cons_succ {a : Value} {l : List Value} {i : Nat} : (a :: l).toArray[i + 1]? = l.toArray[i]? := by simp
theorem set_cons_zero {a x : Value} {l : List Value} : (a :: l).toArray.setIfInBounds 0 x = (x :: l).toArray := by simp
theorem set_list {l : List Value} {i : Nat} {x : Value} : l.toArray.setIfInBounds i x = (l.set i x).toArray := by simp
theorem w_below_alloc {B : Nat} {w0 : World} (h : Below B w0 w) (hB : B ≤ w.heap.size) {ob : Obj} : Below B w0 (w.alloc ob) := h.alloc hB ob
/-- Cells below a bound, behind a call. -/
theorem bel_cell {B : Nat} {w1 : World} (h : Below B w w1) : ∀ b o, b < B → w1.cell? ⟨b, o, none⟩ = w.cell? ⟨b, o, none⟩ := fun b o hb => h.cell (p := ⟨b, o, none⟩) hb
theorem bel_frozen {B : Nat} {w1 : World} (h : Below B w w1) : ∀ b o, b < B → w1.frozen? ⟨b, o, none⟩ = w.frozen? ⟨b, o, none⟩ := fun b o hb => h.frozen (p := ⟨b, o, none⟩) hb
end Go.Eng
