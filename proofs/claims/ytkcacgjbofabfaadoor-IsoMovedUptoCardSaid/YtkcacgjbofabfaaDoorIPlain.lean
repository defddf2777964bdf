/- Layer 2: what a heap is, as plain lists. -/
import Derived.Test.YtkcacgjbofabfaaDoorFactsA
set_option linter.unusedSimpArgs false
set_option linter.unusedVariables false
set_option linter.all false
namespace Go.Heap
open Go Go.Eng
abbrev V := Int × Int
structure HS where
  objs : List (Int × List V)
  limit : Int
  used : Int
  root : V
def clampL (n : Int) : Int := mnI (mxI n 0) 10000000
def newF (n : Int) : HS := ⟨[], clampL n, 0, (0, 0)⟩
def atF (s : HS) (v : V) : Option Nat := if v.1 = 2 ∧ 0 ≤ v.2 ∧ v.2 < s.objs.length then some v.2.toNat else none
def chargeT (s : HS) (n : Int) : Int := if n < 0 then 6 else if s.limit - s.used < n then 5 else 0
def chargeF (s : HS) (n : Int) : HS := if chargeT s n = 0 then { s with used := s.used + n } else s
def recO (r : Int) : Int := if r < 0 then -1 else r
def layF (s : HS) (r : Int) (cells : List V) : HS := { s with objs := s.objs ++ [(recO r, cells)] }
def layV (s : HS) : V := (2, (s.objs.length : Int))
def zeros (n : Int) : List V := List.replicate n.toNat (0, 0)
def recT (s : HS) (r n : Int) : Int := if r < 0 ∨ n < 0 ∨ 1000 < n then 6 else chargeT s (1 + n)
def recF (s : HS) (r n : Int) : HS := if recT s r n = 0 then layF (chargeF s (1 + n)) r (zeros n) else s
def recV (s : HS) (r n : Int) : V := if recT s r n = 0 then layV s else (0, 0)
def arrT (s : HS) (v : V) : Int := if v.1 ≠ 0 then 6 else if v.2 < 0 then 2 else if s.limit - s.used ≤ v.2 then 5 else 0
def arrF (s : HS) (v : V) : HS := if arrT s v = 0 then layF { s with used := s.used + (1 + v.2) } (-1) (zeros v.2) else s
def arrV (s : HS) (v : V) : V := if arrT s v = 0 then layV s else (0, 0)
/-- A record's cell: the thing's number, or the trap. -/
def cellF (s : HS) (v : V) (r i : Int) : Nat × Int :=
  if v.1 = 1 then (0, 3) else match atF s v with
    | some k => (match s.objs[k]? with | some o => if 0 ≤ r ∧ o.1 = r ∧ 0 ≤ i ∧ i < o.2.length then (k, 0) else (0, 6) | none => (0, 6))
    | none => (0, 6)
def getC (s : HS) (k : Nat) (i : Int) : V := ((s.objs[k]?).bind (fun o => o.2[i.toNat]?)).getD (0, 0)
def setC (s : HS) (k : Nat) (i : Int) (x : V) : HS := { s with objs := s.objs.modify k fun o => (o.1, o.2.set i.toNat x) }
def listF (s : HS) (v : V) : Nat × Int :=
  if v.1 = 1 then (0, 3) else match atF s v with
    | some k => (match s.objs[k]? with | some o => if o.1 = -1 then (k, 0) else (0, 6) | none => (0, 6))
    | none => (0, 6)
def lenOf (s : HS) (k : Nat) : Int := match s.objs[k]? with | some o => o.2.length | none => 0
def elemF (s : HS) (v at_ : V) : Nat × Int :=
  let p := listF s v
  if p.2 ≠ 0 then (0, p.2) else if at_.1 ≠ 0 then (0, 6) else if at_.2 < 0 ∨ lenOf s p.1 ≤ at_.2 then (0, 2) else (p.1, 0)
def enc (v : V) : List Value := [.int .i64 v.1, .int .i64 v.2]
def encs (l : List V) : List Value := l.flatMap enc
abbrev vv (v : V) : Value := .agg #[.int .i64 v.1, .int .i64 v.2]
theorem encs_length (l : List V) : (encs l).length = l.length * 2 := by
  induction l with
  | nil => rfl
  | cons a l ih => simp only [encs, List.flatMap_cons, List.length_append, List.length_cons] at *; simp [enc, ih]; omega
theorem encs_at (l : List V) (i : Nat) (v : V) (h : l[i]? = some v) (r : List Value) : (encs l ++ r)[i * 2]? = some (.int .i64 v.1) ∧ (encs l ++ r)[i * 2 + 1]? = some (.int .i64 v.2) := by
  induction l generalizing i with
  | nil => simp at h
  | cons a l ih =>
    cases i with
    | zero => simp at h; subst h; simp [encs, enc]
    | succ i =>
      have := ih i (by simpa using h)
      simp only [encs, List.flatMap_cons, enc] at *
      rw [show (i + 1) * 2 = i * 2 + 2 by omega, show i * 2 + 2 + 1 = (i * 2 + 1) + 2 by omega]
      simpa using this
theorem encs_set (l : List V) (i : Nat) (v : V) (h : i < l.length) (r : List Value) : ((encs l ++ r).set (i * 2) (.int .i64 v.1)).set (i * 2 + 1) (.int .i64 v.2) = encs (l.set i v) ++ r := by
  induction l generalizing i with
  | nil => simp at h
  | cons a l ih =>
    cases i with
    | zero => simp [encs, enc]
    | succ i =>
      have := ih i (by simpa using h)
      simp only [encs, List.flatMap_cons, enc, List.set_cons_succ] at *
      rw [show (i + 1) * 2 = i * 2 + 2 by omega, show i * 2 + 2 + 1 = (i * 2 + 1) + 2 by omega]
      simpa using this
theorem oneAll_encs (l : List V) : oneAll (encs l) = true := oneAll_flat (fun _ => rfl) l
theorem rep_zeros (n : Nat) : rep n [.int .i64 0, .int .i64 0] = encs (List.replicate n (0, 0)) := by
  simp [rep, encs, enc, List.flatMap_def]
theorem encs_sub (l : List V) (i : Nat) (v : V) (h : l[i]? = some v) (r : List Value) : subL (encs l ++ r).toArray (i * 2) 2 = some [.int .i64 v.1, .int .i64 v.2] := by
  obtain ⟨h1, h2⟩ := encs_at l i v h r
  simp only [subL_succ, subL_zero, get_l, h1, h2, consO_some]
theorem encs_lt (l r : List Value) (c : List V) (i : Nat) (h : i < c.length) : i * 2 + 2 ≤ (encs c ++ r).length := by
  rw [List.length_append, encs_length]; omega
end Go.Heap
