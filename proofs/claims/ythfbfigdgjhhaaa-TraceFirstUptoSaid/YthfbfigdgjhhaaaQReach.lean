/- Layer 16: which sources are reached from a link, plainly. -/
import Derived.Test.YthfbfigdgjhhaaaQRev
set_option linter.unusedSimpArgs false
set_option linter.unusedVariables false
set_option linter.all false
namespace Go.Tr
open Go Go.Eng
theorem sum_le_of {α : Type} {f g : α → Nat} {l : List α} (h : ∀ x ∈ l, f x ≤ g x) : (l.map f).sum ≤ (l.map g).sum := by
  induction l with
  | nil => exact Nat.le_refl _
  | cons a l ih =>
    simp only [List.map_cons, List.sum_cons]
    have := h a (by simp)
    have := ih fun x hx => h x (by simp [hx])
    omega
theorem sum_lt_of {α : Type} {f g : α → Nat} {l : List α} {d : Nat} (h : ∀ x ∈ l, f x ≤ g x) {a : α} (ha : a ∈ l) (hd : f a + d ≤ g a) : (l.map f).sum + d ≤ (l.map g).sum := by
  induction l with
  | nil => cases ha
  | cons b l ih =>
    simp only [List.map_cons, List.sum_cons]
    rcases List.mem_cons.1 ha with rfl | ha
    · have := sum_le_of (f := f) (g := g) (l := l) fun x hx => h x (by simp [hx])
      omega
    · have := h b (by simp)
      have := ih (fun x hx => h x (by simp [hx])) ha
      omega
theorem wtV_new {v : List VirtR} {sn : List Int} {n : Int} (hn : n ∉ sn) : wtV v (sn ++ [n]) + (cellsV v n).length ≤ wtV v sn := by
  unfold cellsV
  have mono : wtV v (sn ++ [n]) ≤ wtV v sn := by
    unfold wtV
    refine sum_le_of fun x _ => ?_
    split
    · exact Nat.zero_le _
    · rename_i hx; rw [if_neg (fun hc => hx (List.mem_append_left _ hc))]; exact Nat.le_refl _
  by_cases h0 : n < 0
  · rw [if_pos h0]; simpa using mono
  rw [if_neg h0]
  cases hk : v[n.toNat]? with
  | none => simpa using mono
  | some c =>
    dsimp only
    unfold wtV
    refine sum_lt_of (a := (c, n.toNat)) (fun x _ => ?_) ?_ ?_
    · split
      · exact Nat.zero_le _
      · rename_i hx; rw [if_neg (fun hc => hx (List.mem_append_left _ hc))]; exact Nat.le_refl _
    · rw [List.mem_zipIdx_iff_getElem?]; exact hk
    · have e : ((n.toNat : Nat) : Int) = n := by omega
      dsimp only
      rw [e, if_pos (by simp), if_neg hn]; omega
theorem go_fuel (v : List VirtR) : ∀ (f g : Nat) (sn : List Int) (t : List Src), t.length + wtV v sn ≤ f → t.length + wtV v sn ≤ g → goF v f sn t = goF v g sn t := by
  intro f
  induction f with
  | zero =>
    intro g sn t hf hg
    have : t = [] := List.eq_nil_of_length_eq_zero (by omega)
    subst this
    cases g <;> rfl
  | succ f ih =>
    intro g sn t hf hg
    cases t with
    | nil => cases g <;> rfl
    | cons s t =>
      rw [List.length_cons] at hf hg
      obtain ⟨g, rfl⟩ : ∃ g', g = g' + 1 := ⟨g - 1, by omega⟩
      unfold goF
      by_cases hc : s.kind = 2 ∧ s.n ∉ sn
      · rw [if_pos hc, if_pos hc]
        have := wtV_new (v := v) hc.2
        rw [ih g (sn ++ [s.n]) (t ++ cellsV v s.n) (by rw [List.length_append]; omega) (by rw [List.length_append]; omega)]
      · rw [if_neg hc, if_neg hc, ih g sn t (by omega) (by omega)]
def tkF (v : List VirtR) (sn : List Int) (t : List Src) : List Src := goF v (t.length + wtV v sn) sn t
theorem tk_nil (v : List VirtR) (sn : List Int) : tkF v sn [] = [] := by unfold tkF; cases ([] : List Src).length + wtV v sn <;> rfl
theorem tk_cons (v : List VirtR) (sn : List Int) (s : Src) (t : List Src) : tkF v sn (s :: t) = s :: (if s.kind = 2 ∧ s.n ∉ sn then tkF v (sn ++ [s.n]) (t ++ cellsV v s.n) else tkF v sn t) := by
  unfold tkF
  rw [List.length_cons, show t.length + 1 + wtV v sn = (t.length + wtV v sn) + 1 by omega]
  conv => lhs; unfold goF
  by_cases hc : s.kind = 2 ∧ s.n ∉ sn
  · rw [if_pos hc, if_pos hc]
    have := wtV_new (v := v) hc.2
    rw [go_fuel v _ _ (sn ++ [s.n]) (t ++ cellsV v s.n) (by rw [List.length_append]; omega) (Nat.le_refl _)]
  · rw [if_neg hc, if_neg hc]
theorem taken_tk (t : TrR) (n : Int) : takenF t n = tkF t.virts [] (regsF t.links (chainF t.links n)) := rfl
/-- What is known of a trace whose outside may be. -/
structure OutR (t : TrR) : Prop where
  up : LinksOk t.links
  regs : ∀ k ∈ t.links, k.regs.length ≤ 1000 ∧ ∀ s ∈ k.regs, plainF t.virts.length s = true
  cells : ∀ v ∈ t.virts, v.cells.length ≤ 1000 ∧ ∀ s ∈ v.cells, plainF t.virts.length s = true
  back : t.back.length = t.ins.length ∧ ∀ s ∈ t.back, plainF t.virts.length s = true
theorem plain_virt {nv : Nat} {s : Src} (h : plainF nv s = true) (hk : s.kind = 2) : 0 ≤ s.n ∧ s.n < nv := by
  unfold plainF at h
  rw [if_neg (by rw [hk]; decide), if_neg (by rw [hk]; decide), if_pos hk, Bool.and_eq_true, Bool.and_eq_true, decide_eq_true_eq, decide_eq_true_eq] at h
  exact h.1
theorem outR_of {t : TrR} (h : outF t = true) : OutR t := by
  unfold outF at h
  simp only [Bool.and_eq_true, List.all_eq_true, decide_eq_true_eq] at h
  obtain ⟨⟨⟨⟨⟨⟨h0, h1⟩, h2⟩, h3⟩, h4⟩, h5⟩, h6⟩ := h
  refine ⟨fun i k hk => ?_, fun k hk => ?_, fun v hv => ?_, h2, fun s hs => (h6 s hs).1⟩
  · have := h4 (k, i) (List.mem_zipIdx_iff_getElem?.2 hk)
    exact this.1.1
  · obtain ⟨i, hi⟩ := List.getElem?_of_mem hk
    have := h4 (k, i) (List.mem_zipIdx_iff_getElem?.2 hi)
    exact ⟨this.1.2, this.2⟩
  · have := h5 v hv
    exact ⟨this.1.2, this.2⟩
theorem regs_snoc (l : List LinkR) (c : List Nat) (i : Nat) : regsF l (c ++ [i]) = regsF l c ++ linkR l i := by
  unfold regsF; rw [List.flatMap_append]; simp
theorem regs_len {t : TrR} (h : OutR t) (c : List Nat) : (regsF t.links c).length ≤ c.length * 1000 := by
  unfold regsF
  induction c with
  | nil => exact Nat.zero_le _
  | cons i c ih =>
    rw [List.flatMap_cons, List.length_append, List.length_cons]
    have : (linkR t.links i).length ≤ 1000 := by
      unfold linkR
      split
      · rename_i k hk; exact (h.regs k (List.mem_of_getElem? hk)).1
      · exact Nat.zero_le _
    omega
theorem regs_plain {t : TrR} (h : OutR t) (c : List Nat) : ∀ s ∈ regsF t.links c, plainF t.virts.length s = true := by
  intro s hs
  unfold regsF at hs
  obtain ⟨i, _, hs⟩ := List.mem_flatMap.1 hs
  unfold linkR at hs
  split at hs
  · rename_i k hk; exact (h.regs k (List.mem_of_getElem? hk)).2 s hs
  · cases hs
theorem cells_plain {t : TrR} (h : OutR t) (n : Int) : ∀ s ∈ cellsV t.virts n, plainF t.virts.length s = true := by
  intro s hs
  unfold cellsV at hs
  split at hs
  · cases hs
  split at hs
  · rename_i k hk; exact (h.cells k (List.mem_of_getElem? hk)).2 s hs
  · cases hs
theorem ups_len {l : List LinkR} (hl : LinksOk l) : ∀ (f : Nat) (n : Int), (upsF l f n).length ≤ n.toNat + 1 := by
  intro f
  induction f with
  | zero => intro n; exact Nat.zero_le _
  | succ f ih =>
    intro n
    unfold upsF
    split
    · exact Nat.zero_le _
    · split
      · exact Nat.zero_le _
      · rename_i k hk
        have := hl _ k hk
        rw [List.length_cons]
        by_cases h2 : k.up < 0
        · rw [ups_neg l f h2]; simp
        · have := ih k.up; omega
theorem wtV_len {t : TrR} (h : OutR t) (sn : List Int) : wtV t.virts sn ≤ t.virts.length * 1000 := by
  have key : ∀ (l : List VirtR) (i : Nat), (∀ v ∈ l, v.cells.length ≤ 1000) → ((l.zipIdx i).map fun p => if (p.2 : Int) ∈ sn then 0 else p.1.cells.length).sum ≤ l.length * 1000 := by
    intro l
    induction l with
    | nil => intro i _; exact Nat.zero_le _
    | cons v l ih =>
      intro i hv
      rw [List.zipIdx_cons, List.map_cons, List.sum_cons, List.length_cons]
      have h1 := ih (i + 1) fun x hx => hv x (by simp [hx])
      have h2 := hv v (by simp)
      dsimp only
      split <;> omega
  exact key t.virts 0 fun v hv => (h.cells v hv).1
theorem chain_len {t : TrR} (h : OutR t) (n : Int) : (chainF t.links n).length ≤ n.toNat + 1 := by unfold chainF; rw [List.length_reverse]; exact ups_len h.up _ _
/-- How much is to be gone through. -/
theorem total_len {t : TrR} (h : OutR t) {n : Int} (hn : n < t.links.length) (hl : t.links.length ≤ 1048576) (hv : t.virts.length ≤ 1048576) : (regsF t.links (chainF t.links n)).length + wtV t.virts [] ≤ 3000000000 := by
  have h1 := regs_len h (chainF t.links n)
  have h2 := chain_len h n
  have h3 := wtV_len h []
  omega
end Go.Tr
