/- Layer 3: two values held against each other: the program's. -/
import Derived.Test.YtkcacgjbofabfaaDoorKSame
set_option linter.unusedSimpArgs false
set_option linter.unusedVariables false
set_option linter.all false
namespace Go.Heap
open Go Go.Eng Go.Proofs.YtkcacgjbofabfaaDoor
def encPs (l : List (Int × Int)) : List Value := l.flatMap fun p => [.int .i64 p.1, .int .i64 p.2]
theorem encPs_snoc (l : List (Int × Int)) (p : Int × Int) : encPs (l ++ [p]) = encPs l ++ [.int .i64 p.1, .int .i64 p.2] := by unfold encPs; simp
theorem kn_in {P : List (Int × Int)} {p : Int × Int} (h : p ∈ P) : kget (knM P) p = some (.int .i64 1) := by
  obtain ⟨x, _, h2, h3⟩ := kget_map_some P (fun p => p) (fun _ => .int .i64 1) p (by rw [map_id']; exact h)
  exact h3
theorem kn_out {P : List (Int × Int)} {p : Int × Int} (h : p ∉ P) : kget (knM P) p = none := kget_map P (fun p => p) (fun _ => .int .i64 1) p (by rw [map_id']; exact h)
theorem th_in {P : List (Int × Int)} {n : Int} (h : n ∈ P.map (·.1)) : ∃ x, kget (thM P) n = some x := by
  obtain ⟨x, _, _, h3⟩ := kget_map_some P (·.1) (fun p => .int .i64 p.2) n h; exact ⟨_, h3⟩
theorem th_out {P : List (Int × Int)} {n : Int} (h : n ∉ P.map (·.1)) : kget (thM P) n = none := kget_map P (·.1) (fun p => .int .i64 p.2) n h
theorem bk_in {P : List (Int × Int)} {n : Int} (h : n ∈ P.map (·.2)) : ∃ x, kget (bkM P) n = some x := by
  obtain ⟨x, _, _, h3⟩ := kget_map_some P (·.2) (fun p => .int .i64 p.1) n h; exact ⟨_, h3⟩
theorem bk_out {P : List (Int × Int)} {n : Int} (h : n ∉ P.map (·.2)) : kget (bkM P) n = none := kget_map P (·.2) (fun p => .int .i64 p.1) n h
end Go.Heap
namespace Go.Proofs.YtkcacgjbofabfaaDoor
open Go Go.Eng Go.Heap
structure AN where
  ba : Nat
  bb : Nat
  bk : Nat
  bt : Nat
  bc : Nat
  btd : Nat
  qk : Nat
  qt : Nat
  qb : Nat
/-- What stays for good while two heaps are compared. -/
structure AM (N : AN) (m : Mem) : Prop where
  k : m.blk N.bk = some (.cells #[.map (some N.qk)] 51 (0, 0))
  t : m.blk N.bt = some (.cells #[.map (some N.qt)] 50 (0, 0))
  c : m.blk N.bc = some (.cells #[.map (some N.qb)] 50 (0, 0))
/-- What the comparing of two heaps holds. -/
abbrev aS (N : AN) (ha hb : Nat) (Lz : Lst) (P : List (Int × Int)) (p : Option Addr) (n c : Nat) (Lt : Lst) : Lst :=
  (N.qk, mapK encP (knM P)) :: (N.qt, mapK encI (thM P)) :: (N.qb, mapK encI (bkM P)) :: (N.btd, .cells #[.slice p n c] 52 (0, 0)) :: (N.ba, hpO ha) :: (N.bb, hpO hb) :: (Lt ++ Lz)
def AlkR (N : AN) (ha hb : Nat) (a b : HS) (Lz : Lst) (P : List (Int × Int)) (i : Nat) (v w : V) (m : Mem) (y : Value) (m' : Mem) (L' : Lst) : Prop :=
  m.Le m' ∧ y = .bool (alk a b P v w).1 ∧ ∃ p c Lt, L' = aS N ha hb Lz (alk a b P v w).2 p ((alk a b P v w).2.length - i) c Lt ∧ GO 56 2 (.slice p ((alk a b P v w).2.length - i) c) ((alk a b P v w).2.length - i) (encPs ((alk a b P v w).2.drop i)) Lt
section
variable (N : AN) (ha hb : Nat) (a b : HS) (Lz : Lst) (P : List (Int × Int)) (i : Nat) (p : Option Addr) (c : Nat) (Lt : Lst) (v w : V) (m : Mem) (oa : ObjK ha a Lz) (ob : ObjK hb b Lz) (hm : AM N m)
  (hg : GO 56 2 (.slice p (P.length - i) c) (P.length - i) (encPs (P.drop i)) Lt)
include oa ob hm hg
end
end Go.Proofs.YtkcacgjbofabfaaDoor
