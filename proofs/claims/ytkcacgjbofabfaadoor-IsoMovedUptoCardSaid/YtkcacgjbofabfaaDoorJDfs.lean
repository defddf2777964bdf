/- Layer 3: what is reached, depth first, plainly. -/
import Derived.Test.YtkcacgjbofabfaaDoorIObj
set_option linter.unusedSimpArgs false
set_option linter.unusedVariables false
set_option linter.all false
namespace Go.Heap
open Go Go.Eng Go.Proofs.YtkcacgjbofabfaaDoor
/-- How much the things that have not been seen weigh. -/
def wt (s : HS) (sn : List Int) : Nat := (s.objs.zipIdx.map fun p => if (p.2 : Int) ∈ sn then 0 else 1 + p.1.2.length).sum
theorem sum_le_of {α : Type} {f g : α → Nat} {l : List α} (h : ∀ x ∈ l, f x ≤ g x) : (l.map f).sum ≤ (l.map g).sum := by
  induction l with
  | nil => exact Nat.le_refl _
  | cons a l ih =>
    simp only [List.map_cons, List.sum_cons]
    have := h a (by simp)
    have := ih fun x hx => h x (by simp [hx])
    omega
theorem sum_lt_of {α : Type} {f g : α → Nat} {l : List α} {d : Nat} (h : ∀ x ∈ l, f x ≤ g x) {a : α} (ha : a ∈ l) (hd : f a + d ≤ g a) : (l.map f).sum + d ≤ (l.map g).sum := by
  induction l with
  | nil => cases ha
  | cons b l ih =>
    simp only [List.map_cons, List.sum_cons]
    rcases List.mem_cons.1 ha with rfl | ha
    · have := sum_le_of (f := f) (g := g) (l := l) fun x hx => h x (by simp [hx])
      omega
    · have := h b (by simp)
      have := ih (fun x hx => h x (by simp [hx])) ha
      omega
theorem objO_spec {s : HS} {v : V} {o : Int × List V} (h : objO s v = some o) : ∃ k : Nat, v = (2, (k : Int)) ∧ s.objs[k]? = some o := by
  unfold objO at h
  cases ha : atF s v with
  | none => rw [ha] at h; cases h
  | some k =>
    rw [ha, Option.bind_some] at h
    obtain ⟨_, h2, h3⟩ := Go.Proofs.YtkcacgjbofabfaaDoor.atF_lt ha
    exact ⟨k, by rw [← h2, ← h3], h⟩
theorem wt_visit {s : HS} {sn : List Int} {v : V} {o : Int × List V} (h : objO s v = some o) (hv : v.2 ∉ sn) : wt s (sn ++ [v.2]) + (1 + o.2.length) ≤ wt s sn := by
  obtain ⟨k, rfl, hk⟩ := objO_spec h
  unfold wt
  refine sum_lt_of (a := (o, k)) (fun x _ => ?_) ?_ ?_
  · split
    · exact Nat.zero_le _
    · rename_i hx; rw [if_neg (fun hc => hx (List.mem_append_left _ hc))]; exact Nat.le_refl _
  · rw [List.mem_zipIdx_iff_getElem?]; exact hk
  · simp only [List.mem_append, List.mem_singleton, or_true, if_true]
    rw [if_neg hv]; simp
def dfsN (s : HS) : Nat → List Int → List V → List (Int × (Int × List V))
  | 0, _, _ => []
  | _ + 1, _, [] => []
  | f + 1, sn, v :: t => match objO s v with
    | none => dfsN s f sn t
    | some o => if v.2 ∈ sn then dfsN s f sn t else (v.2, o) :: dfsN s f (sn ++ [v.2]) (o.2 ++ t)
theorem dfsN_fuel (s : HS) : ∀ f g sn t, t.length + wt s sn ≤ f → t.length + wt s sn ≤ g → dfsN s f sn t = dfsN s g sn t := by
  intro f
  induction f with
  | zero =>
    intro g sn t hf hg
    have : t = [] := List.eq_nil_of_length_eq_zero (by omega)
    subst this
    cases g <;> rfl
  | succ f ih =>
    intro g sn t hf hg
    cases t with
    | nil => cases g <;> rfl
    | cons v t =>
      rw [List.length_cons] at hf hg
      cases g with
      | zero => omega
      | succ g =>
        unfold dfsN
        cases ho : objO s v with
        | none => exact ih g sn t (by omega) (by omega)
        | some o =>
          dsimp only
          split
          · exact ih g sn t (by omega) (by omega)
          · rename_i hv
            have := wt_visit ho hv
            rw [ih g (sn ++ [v.2]) (o.2 ++ t) (by rw [List.length_append]; omega) (by rw [List.length_append]; omega)]
/-- The things that are reached, depth first, of those not seen yet. -/
def dfs (s : HS) (sn : List Int) (t : List V) : List (Int × (Int × List V)) := dfsN s (t.length + wt s sn) sn t
theorem dfs_nil (s : HS) (sn : List Int) : dfs s sn [] = [] := by unfold dfs; cases ([] : List V).length + wt s sn <;> rfl
theorem dfs_cons (s : HS) (sn : List Int) (v : V) (t : List V) : dfs s sn (v :: t) = match objO s v with
    | none => dfs s sn t
    | some o => if v.2 ∈ sn then dfs s sn t else (v.2, o) :: dfs s (sn ++ [v.2]) (o.2 ++ t) := by
  unfold dfs
  rw [List.length_cons, show t.length + 1 + wt s sn = (t.length + wt s sn) + 1 by omega]
  conv => lhs; unfold dfsN
  cases ho : objO s v with
  | none => rfl
  | some o =>
    dsimp only
    split
    · rfl
    · rename_i hv
      have := wt_visit ho hv
      rw [dfsN_fuel s _ _ (sn ++ [v.2]) (o.2 ++ t) (by rw [List.length_append]; omega) (Nat.le_refl _)]
end Go.Heap
