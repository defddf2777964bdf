/- Layer 3: things laid down in another order, plainly. -/
import Derived.Test.YtkcacgjbofabfaaDoorZMoved
set_option linter.unusedSimpArgs false
set_option linter.unusedVariables false
set_option linter.all false
namespace Go.Heap
open Go Go.Eng Go.Proofs.YtkcacgjbofabfaaDoor
/-- An order of so many things. -/
structure Ord (n : Nat) (t : List Int) : Prop where
  len : t.length = n
  rng : ∀ (j : Nat) (x : Int), t[j]? = some x → 0 ≤ x ∧ x < n
  inj : ∀ (i j : Nat) (x : Int), t[i]? = some x → t[j]? = some x → i = j
theorem Ord.id {n : Nat} {t : List Int} (hl : t.length = n) (h : ∀ j, j < n → t[j]? = some (j : Int)) : Ord n t := by
  refine ⟨hl, fun j x hx => ?_, fun i j x hi hj => ?_⟩
  · have hj : j < t.length := (List.getElem?_eq_some_iff.1 hx).1
    rw [h j (by omega)] at hx
    cases hx; omega
  · have h1 : i < t.length := (List.getElem?_eq_some_iff.1 hi).1
    have h2 : j < t.length := (List.getElem?_eq_some_iff.1 hj).1
    rw [h i (by omega)] at hi
    rw [h j (by omega)] at hj
    cases hi
    have := Option.some.inj hj
    omega
theorem swap_get {t : List Int} {a b : Nat} {x y : Int} (ha : t[a]? = some x) (hb : t[b]? = some y) (j : Nat) : ((t.set a y).set b x)[j]? = if j = b then some x else if j = a then some y else t[j]? := by
  have h1 : a < t.length := (List.getElem?_eq_some_iff.1 ha).1
  have h2 : b < t.length := (List.getElem?_eq_some_iff.1 hb).1
  rw [List.getElem?_set, List.getElem?_set]
  by_cases hj : b = j
  · subst hj; simp [h2]
  · have hj' : ¬ j = b := fun e => hj e.symm
    rw [if_neg hj, if_neg hj']
    by_cases hk : a = j
    · subst hk; simp [h1]
    · have hk' : ¬ j = a := fun e => hk e.symm
      rw [if_neg hk, if_neg hk']
theorem Ord.swap {n : Nat} {t : List Int} (h : Ord n t) {a b : Nat} {x y : Int} (ha : t[a]? = some x) (hb : t[b]? = some y) : Ord n ((t.set a y).set b x) := by
  have hs := swap_get ha hb
  refine ⟨by rw [List.length_set, List.length_set, h.len], fun j z hz => ?_, fun i j z hi hj => ?_⟩
  · rw [hs] at hz
    split at hz
    · cases hz; exact h.rng _ _ ha
    · split at hz
      · cases hz; exact h.rng _ _ hb
      · exact h.rng _ _ hz
  · rw [hs] at hi hj
    have key : ∀ i z, (if i = b then some x else if i = a then some y else t[i]?) = some z → t[if i = b then a else if i = a then b else i]? = some z := by
      intro i z h
      split at h
      · rw [if_pos (by assumption)]; rw [ha]; exact h
      · rename_i hib
        rw [if_neg hib]
        split at h
        · rw [if_pos (by assumption)]; rw [hb]; exact h
        · rename_i hia; rw [if_neg hia]; exact h
    have := h.inj _ _ _ (key i z hi) (key j z hj)
    by_cases hab : a = b
    · subst hab
      split at this <;> split at this <;> (try omega) <;> simp_all
    · by_cases e1 : i = b <;> by_cases e2 : j = b <;> by_cases e3 : i = a <;> by_cases e4 : j = a <;> simp_all <;> omega
/-- The things as they have been laid down anew. -/
def MvR (t : List Int) (xs mv : List ObjT) (i : Nat) : Prop := ∀ (j : Nat) (a : ObjT) (k : Int), j < i → xs[j]? = some a → t[j]? = some k → ∃ b, mv[k.toNat]? = some b ∧ b.1 = a.1 ∧ b.2.xs = a.2.xs.map (mvV t)
theorem objO_laid {xs : List ObjT} {n : Int} {a : ObjT} (h0 : 0 ≤ n) (h : xs[n.toNat]? = some a) : objO (laidF xs) (2, n) = some (recO a.1, a.2.xs) := by
  have hl : n.toNat < xs.length := (List.getElem?_eq_some_iff.1 h).1
  unfold objO atF
  rw [if_pos ⟨rfl, h0, by rw [laidF_objs, List.length_map]; dsimp only; omega⟩, Option.bind_some, laidF_objs, List.getElem?_map, h]; rfl
theorem objO_not {xs : List ObjT} {v : V} (h : ¬ (v.1 = 2 ∧ 0 ≤ v.2 ∧ v.2 < xs.length)) : objO (laidF xs) v = none := by
  unfold objO atF
  rw [if_neg (by rw [laidF_objs, List.length_map]; exact h)]; rfl
def MR (t : List Int) : Int → Int → Prop := fun n m => 0 ≤ n ∧ t[n.toNat]? = some m
theorem moved_vals {xs mv : List ObjT} {t : List Int} (ho : Ord xs.length t) (hm : MvR t xs mv xs.length) (hl : mv.length = xs.length) (l : List V) : All2 (VR (laidF xs) (laidF mv) (MR t)) l (l.map (mvV t)) := by
  induction l with
  | nil => exact trivial
  | cons v l ih =>
    refine ⟨?_, ih⟩
    by_cases hc : v.1 = 2 ∧ 0 ≤ v.2 ∧ v.2 < t.length
    · obtain ⟨v1, v2⟩ := v
      obtain ⟨rfl, h1, h2⟩ := hc
      dsimp only at h1 h2
      obtain ⟨a, ha⟩ : ∃ a, xs[v2.toNat]? = some a := ⟨_, List.getElem?_eq_getElem (by rw [ho.len] at h2; omega)⟩
      obtain ⟨k, hk⟩ : ∃ k, t[v2.toNat]? = some k := ⟨_, List.getElem?_eq_getElem (by omega)⟩
      obtain ⟨b, hb, _, _⟩ := hm _ a k (List.getElem?_eq_some_iff.1 ha).1 ha hk
      have hmv : mvV t (2, v2) = (2, k) := by unfold mvV; rw [if_pos ⟨rfl, h1, h2⟩]; simp [List.getD, hk]
      rw [hmv]
      exact ⟨rfl, .inr ⟨_, _, objO_laid h1 ha, objO_laid (ho.rng _ _ hk).1 hb, h1, hk⟩⟩
    · have hmv : mvV t v = v := by unfold mvV; rw [if_neg hc]
      rw [hmv]
      rw [ho.len] at hc
      exact ⟨rfl, .inl ⟨objO_not hc, objO_not (by rw [hl]; exact hc), rfl⟩⟩
theorem moved_iso {xs mv : List ObjT} {t : List Int} (ho : Ord xs.length t) (hm : MvR t xs mv xs.length) (hl : mv.length = xs.length) : Iso (laidF xs) (laidF mv) (MR t) := by
  refine ⟨fun a b c h1 h2 => ?_, fun a b c h1 h2 => ?_, fun n m h => ?_⟩
  · obtain ⟨_, h1⟩ := h1
    obtain ⟨_, h2⟩ := h2
    rw [h1] at h2; exact Option.some.inj h2
  · obtain ⟨p1, h1⟩ := h1
    obtain ⟨p2, h2⟩ := h2
    have := ho.inj _ _ _ h1 h2
    omega
  · obtain ⟨h0, h1⟩ := h
    have hlt : n.toNat < t.length := (List.getElem?_eq_some_iff.1 h1).1
    rw [ho.len] at hlt
    obtain ⟨a, ha⟩ : ∃ a, xs[n.toNat]? = some a := ⟨_, List.getElem?_eq_getElem hlt⟩
    obtain ⟨b, hb, e1, e2⟩ := hm _ a m hlt ha h1
    refine ⟨_, _, objO_laid h0 ha, objO_laid (ho.rng _ _ h1).1 hb, by rw [e1], ?_⟩
    dsimp only
    rw [e2]
    exact moved_vals ho hm hl _
theorem moved_same {xs mv : List ObjT} {t : List Int} (ho : Ord xs.length t) (hm : MvR t xs mv xs.length) (hl : mv.length = xs.length) (l : List V) : sameF (laidF xs) l (laidF mv) (l.map (mvV t)) = true ∧ showF (dfs (laidF mv) [] (l.map (mvV t))) (l.map (mvV t)) = showF (dfs (laidF xs) [] l) l :=
  ⟨same_of_iso (moved_iso ho hm hl) (moved_vals ho hm hl l), (show_of_iso (moved_iso ho hm hl) (moved_vals ho hm hl l)).symm⟩
/-- One more thing laid down. -/
theorem MvR.step {t : List Int} {xs mv : List ObjT} {i : Nat} (h : MvR t xs mv i) (ho : Ord xs.length t) (hl : mv.length = xs.length) {a b : ObjT} {k : Int} (ha : xs[i]? = some a) (hk : t[i]? = some k) (h1 : b.1 = a.1) (h2 : b.2.xs = a.2.xs.map (mvV t)) : MvR t xs (mv.set k.toNat b) (i + 1) := by
  intro j a' k' hj ha' hk'
  have hr := ho.rng _ _ hk
  by_cases hji : j = i
  · subst hji
    rw [ha] at ha'; rw [hk] at hk'
    cases ha'; cases hk'
    exact ⟨b, by rw [List.getElem?_set_self (by omega)], h1, h2⟩
  · obtain ⟨c, hc, q1, q2⟩ := h j a' k' (by omega) ha' hk'
    refine ⟨c, ?_, q1, q2⟩
    rw [List.getElem?_set_ne, hc]
    intro e
    have hr2 := ho.rng _ _ hk'
    have : k = k' := by omega
    subst this
    exact hji (ho.inj _ _ _ hk' hk)
theorem flat_set (E : ObjT → List Value) (hE : ∀ a, (E a).length = 2) (l : List ObjT) (i : Nat) (a : ObjT) (x y : Value) (hi : i < l.length) (he : E a = [x, y]) : ((l.flatMap E).set (i * 2) x).set (i * 2 + 1) y = (l.set i a).flatMap E := by
  induction l generalizing i with
  | nil => simp at hi
  | cons b l ih =>
    have hb := hE b
    obtain ⟨u, v, huv⟩ : ∃ u v, E b = [u, v] := by
      match E b, hb with
      | [u, v], _ => exact ⟨u, v, rfl⟩
    cases i with
    | zero => simp [huv, he]
    | succ i =>
      have := ih i (by simpa using hi)
      rw [List.flatMap_cons, huv, List.set_cons_succ, List.flatMap_cons, huv, ← this]
      rw [show (i + 1) * 2 = i * 2 + 2 by omega, show i * 2 + 2 + 1 = (i * 2 + 1) + 2 by omega]
      simp
end Go.Heap
