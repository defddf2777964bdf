/- Layer 3: heaps held against each other, plainly; what is known of a heap whose blocks are held with others. -/
import Derived.Test.YtkcacgjbofabfaaDoorJThings
import Derived.Test.YtkcacgjbofabfaaDoorEngOff
set_option linter.unusedSimpArgs false
set_option linter.unusedVariables false
set_option linter.all false
namespace Go.Heap
open Go Go.Eng Go.Proofs.YtkcacgjbofabfaaDoor
def alk (a b : HS) (P : List (Int × Int)) (v w : V) : Bool × List (Int × Int) :=
  if v.1 ≠ w.1 ∨ (objO a v).isSome ≠ (objO b w).isSome then (false, P)
  else if (objO a v).isSome = false then (decide (v.2 = w.2), P)
  else if (v.2, w.2) ∈ P then (true, P)
  else if v.2 ∈ P.map (·.1) ∨ w.2 ∈ P.map (·.2) then (false, P)
  else (true, P ++ [(v.2, w.2)])
def lst (a b : HS) : List (Int × Int) → List V → List V → Bool × List (Int × Int)
  | P, v :: l, w :: k => if (alk a b P v w).1 then lst a b (alk a b P v w).2 l k else (false, (alk a b P v w).2)
  | P, _, _ => (true, P)
def goS (a b : HS) : Nat → Nat → List (Int × Int) → Bool
  | 0, _, _ => true
  | f + 1, i, P => match P[i]? with
    | none => true
    | some p => match objO a (2, p.1), objO b (2, p.2) with
      | some o, some q => if o.1 ≠ q.1 ∨ o.2.length ≠ q.2.length then false else if (lst a b P o.2 q.2).1 then goS a b f (i + 1) (lst a b P o.2 q.2).2 else false
      | _, _ => true
def sameF (a : HS) (x : List V) (b : HS) (y : List V) : Bool := if x.length ≠ y.length then false else (lst a b [] x y).1 && goS a b (a.objs.length + 1) 0 (lst a b [] x y).2
def knM (P : List (Int × Int)) : List ((Int × Int) × Value) := P.map fun p => (p, .int .i64 1)
def thM (P : List (Int × Int)) : List (Int × Value) := P.map fun p => (p.1, .int .i64 p.2)
def bkM (P : List (Int × Int)) : List (Int × Value) := P.map fun p => (p.2, .int .i64 p.1)
theorem kget_map {κ : Type} [DecidableEq κ] {α : Type} (l : List α) (f : α → κ) (g : α → Value) (n : κ) (h : n ∉ l.map f) : kget (l.map fun x => (f x, g x)) n = none := by
  induction l with
  | nil => rfl
  | cons a l ih =>
    rw [List.map_cons]; unfold kget
    rw [List.map_cons, List.mem_cons, not_or] at h
    rw [if_neg (fun e => h.1 e.symm)]; exact ih h.2
theorem kget_map_some {κ : Type} [DecidableEq κ] {α : Type} (l : List α) (f : α → κ) (g : α → Value) (n : κ) (h : n ∈ l.map f) : ∃ x ∈ l, f x = n ∧ kget (l.map fun x => (f x, g x)) n = some (g x) := by
  induction l with
  | nil => cases h
  | cons a l ih =>
    rw [List.map_cons]; unfold kget
    by_cases e : f a = n
    · exact ⟨a, by simp, e, by rw [if_pos e]⟩
    · rw [if_neg e]
      rw [List.map_cons, List.mem_cons] at h
      obtain ⟨x, h1, h2, h3⟩ := ih (h.resolve_left fun e' => e e'.symm)
      exact ⟨x, by simp [h1], h2, h3⟩
theorem kput_map {κ : Type} [DecidableEq κ] {α : Type} (l : List α) (f : α → κ) (g : α → Value) (x : α) (h : f x ∉ l.map f) : kput (l.map fun x => (f x, g x)) (f x) (g x) = (l ++ [x]).map fun x => (f x, g x) := by
  induction l with
  | nil => rfl
  | cons a l ih =>
    rw [List.map_cons]; unfold kput
    rw [List.map_cons, List.mem_cons, not_or] at h
    rw [if_neg (fun e => h.1 e.symm), ih h.2]; rfl
theorem map_id' (P : List (Int × Int)) : P.map (fun p => p) = P := List.map_id' P
end Go.Heap
namespace Go.Proofs.YtkcacgjbofabfaaDoor
open Go Go.Eng Go.Heap
/-- What Obj answers, of a heap whose blocks are among those that are held. -/
structure ObjK (b : Nat) (s : HS) (L : Lst) : Prop where
  no : ∀ v, objO s v = none → ∀ m, Obs Tryd.prog 25 [ptr b, vv v] m L (· = .tuple #[.agg #[.int .i64 0, .slice none 0 0], .bool false])
  yes : ∀ v o, objO s v = some o → ∀ m, Cta Tryd.prog 25 [ptr b, vv v] m L (fun y m' L' => L = L' ∧ m.Le m' ∧ ∃ p c, y = .tuple #[.agg #[.int .i64 o.1, .slice p o.2.length c], .bool true] ∧ SlAt m' [] (.slice p o.2.length c) o.2.length 2 (encs o.2))
  tmp : ∀ v o, objO s v = some o → ∀ m, Cta Tryd.prog 25 [ptr b, vv v] m L (fun y m' L' => m' = m ∧ ∃ sp sc Lo, y = .tuple #[.agg #[.int .i64 o.1, .slice sp o.2.length sc], .bool true] ∧ L' = Lo ++ L)
theorem HP.objK {b : Nat} {s : HS} {L : Lst} (h : HP b s L) (hc : ∀ o ∈ s.objs, o.2.length ≤ 1000000) : ObjK b s L :=
  ⟨fun v hv m => obj_none b s L v h m hv, fun v o ho m => obj_pub b s L v o h m ho (by obtain ⟨k, _, h2⟩ := objO_spec ho; have := hc o (List.mem_of_getElem? h2); omega),
   fun v o ho m => (obj_ct b s L v o h m ho (by obtain ⟨k, _, h2⟩ := objO_spec ho; have := hc o (List.mem_of_getElem? h2); omega)).mono fun y m' L' ⟨sv, Lo, h1, h2, h4, h3⟩ => by obtain ⟨sp, sc, rfl⟩ := h4.slice; exact ⟨h2, sp, sc, Lo, h1, h3⟩⟩
theorem ObjK.ext {b : Nat} {s : HS} {L Lp Lf : Lst} (h : ObjK b s Lp) (p : Takes L Lp Lf) : ObjK b s L := by
  have pe : ∀ L0, (L ++ L0).Perm (Lp ++ (Lf ++ L0)) := fun L0 => by rw [← List.append_assoc]; exact p.perm.append_right L0
  refine ⟨fun v hv m => ⟨fun L0 w hI => ?_⟩, fun v o ho m => ⟨fun L0 w hI => ?_⟩, fun v o ho m => ⟨fun L0 w hI => ?_⟩⟩
  · refine ((h.no v hv m).run (Lf ++ L0) w (hI.perm (pe L0))).mono ?_
    rintro y w' ⟨m', L', h1, h2, rfl, rfl⟩
    exact ⟨m', L, h1.perm (pe L0).symm, h2, rfl, rfl⟩
  · refine ((h.yes v o ho m).run (Lf ++ L0) w (hI.perm (pe L0))).mono ?_
    rintro y w' ⟨m', L', h1, rfl, h2⟩
    exact ⟨m', L, h1.perm (pe L0).symm, rfl, h2⟩
  · refine ((h.tmp v o ho m).run (Lf ++ L0) w (hI.perm (pe L0))).mono ?_
    rintro y w' ⟨m', L', h1, rfl, sp, sc, Lo, h2, rfl⟩
    refine ⟨m', Lo ++ L, ?_, rfl, sp, sc, Lo, h2, rfl⟩
    rw [List.append_assoc] at h1 ⊢
    exact h1.perm ((pe L0).symm.append_left Lo)
end Go.Proofs.YtkcacgjbofabfaaDoor
