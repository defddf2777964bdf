/- Layer 3: what is reached, by recursion and by a stack, plainly. -/
import Derived.Test.YtkcacgjbofabfaaDoorJDfs
set_option linter.unusedSimpArgs false
set_option linter.unusedVariables false
set_option linter.all false
namespace Go.Heap
open Go Go.Eng Go.Proofs.YtkcacgjbofabfaaDoor
/-- What is reached from a value on, in the document's way. -/
def rchN (s : HS) : Nat → V → List Int → List Int
  | 0, _, out => out
  | f + 1, v, out => match objO s v with
    | none => out
    | some o => if v.2 ∈ out then out else o.2.foldl (fun out c => rchN s f c out) (out ++ [v.2])
def unseen (s : HS) (out : List Int) : Nat := (s.objs.zipIdx.map fun p => if (p.2 : Int) ∈ out then 0 else 1).sum
theorem unseen_mono {s : HS} {a b : List Int} (h : ∀ x ∈ a, x ∈ b) : unseen s b ≤ unseen s a := by
  unfold unseen
  refine sum_le_of fun x _ => ?_
  split
  · exact Nat.zero_le _
  · rename_i hx; rw [if_neg (fun hc => hx (h _ hc))]; exact Nat.le_refl _
theorem unseen_visit {s : HS} {out : List Int} {v : V} {o : Int × List V} (h : objO s v = some o) (hv : v.2 ∉ out) : unseen s (out ++ [v.2]) + 1 ≤ unseen s out := by
  obtain ⟨k, rfl, hk⟩ := objO_spec h
  unfold unseen
  refine sum_lt_of (a := (o, k)) (fun x _ => ?_) ?_ ?_
  · split
    · exact Nat.zero_le _
    · rename_i hx; rw [if_neg (fun hc => hx (List.mem_append_left _ hc))]; exact Nat.le_refl _
  · rw [List.mem_zipIdx_iff_getElem?]; exact hk
  · simp only [List.mem_append, List.mem_singleton, or_true, if_true]
    rw [if_neg hv]; simp
theorem unseen_le (s : HS) (out : List Int) : unseen s out ≤ s.objs.length := by
  unfold unseen
  have : (s.objs.zipIdx.map fun p => if (p.2 : Int) ∈ out then 0 else 1).sum ≤ (s.objs.zipIdx.map fun _ => 1).sum := sum_le_of fun x _ => by split <;> omega
  refine Nat.le_trans this ?_
  have hc : ∀ l : List ((Int × List V) × Nat), (l.map fun _ => 1).sum = l.length := by
    intro l; induction l with
    | nil => rfl
    | cons a l ih => rw [List.map_cons, List.sum_cons, ih, List.length_cons]; omega
  rw [hc]; simp
theorem rchN_sub (s : HS) : ∀ f v out, ∀ x ∈ out, x ∈ rchN s f v out := by
  intro f
  induction f with
  | zero => intro v out x hx; exact hx
  | succ f ih =>
    intro v out x hx
    unfold rchN
    cases objO s v with
    | none => exact hx
    | some o =>
      dsimp only
      split
      · exact hx
      · have : ∀ (l : List V) (out : List Int), x ∈ out → x ∈ l.foldl (fun out c => rchN s f c out) out := by
          intro l
          induction l with
          | nil => intro out h; exact h
          | cons c l ihl => intro out h; exact ihl _ (ih c out x h)
        exact this _ _ (List.mem_append_left _ hx)
theorem rch_dfs (s : HS) : ∀ f (l t : List V) (sn : List Int), unseen s sn ≤ f → sn ++ (dfs s sn (l ++ t)).map (·.1) = l.foldl (fun out c => rchN s f c out) sn ++ (dfs s (l.foldl (fun out c => rchN s f c out) sn) t).map (·.1) := by
  intro f
  induction f with
  | zero =>
    intro l t
    induction l with
    | nil => intro sn _; rfl
    | cons v l ihl =>
      intro sn hu
      rw [List.cons_append, dfs_cons, List.foldl_cons]
      cases ho : objO s v with
      | none => exact ihl sn hu
      | some o =>
        dsimp only
        by_cases hv : v.2 ∈ sn
        · rw [if_pos hv]; exact ihl sn hu
        · have := unseen_visit ho hv; omega
  | succ f ih =>
    intro l t
    induction l with
    | nil => intro sn _; rfl
    | cons v l ihl =>
      intro sn hu
      rw [List.cons_append, dfs_cons, List.foldl_cons]
      have hsub := rchN_sub s (f + 1) v sn
      have hle := Nat.le_trans (unseen_mono (s := s) hsub) hu
      cases ho : objO s v with
      | none =>
        have e : rchN s (f + 1) v sn = sn := by unfold rchN; rw [ho]
        rw [e]; exact ihl sn hu
      | some o =>
        dsimp only
        by_cases hv : v.2 ∈ sn
        · have e : rchN s (f + 1) v sn = sn := by unfold rchN; rw [ho]; dsimp only; rw [if_pos hv]
          rw [if_pos hv, e]; exact ihl sn hu
        · have e : rchN s (f + 1) v sn = o.2.foldl (fun out c => rchN s f c out) (sn ++ [v.2]) := by conv => lhs; unfold rchN; rw [ho]; dsimp only; rw [if_neg hv]
          have h1 := unseen_visit ho hv
          have h2 := ih o.2 (l ++ t) (sn ++ [v.2]) (by omega)
          rw [if_neg hv, List.map_cons]
          rw [← e] at h2
          have h3 := ihl _ hle
          rw [← h3, ← h2]
          simp
/-- Both ways reach the same. -/
theorem reach_same (s : HS) (l : List V) (f : Nat) (hf : s.objs.length ≤ f) : l.foldl (fun out c => rchN s f c out) [] = (dfs s [] l).map (·.1) := by
  have := rch_dfs s f l [] [] (Nat.le_trans (unseen_le s []) hf)
  rw [List.append_nil, List.nil_append, dfs_nil, List.map_nil, List.append_nil] at this
  exact this.symm
end Go.Heap
