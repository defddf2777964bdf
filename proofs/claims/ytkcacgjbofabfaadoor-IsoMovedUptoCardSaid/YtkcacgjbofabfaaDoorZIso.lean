/- Layer 3: heaps that are alike, plainly: a relation between things, and Same. -/
import Derived.Test.YtkcacgjbofabfaaDoorKMain
import Derived.Test.YtkcacgjbofabfaaDoorUPlain
set_option linter.unusedSimpArgs false
set_option linter.unusedVariables false
set_option linter.all false
namespace Go.Heap
open Go Go.Eng Go.Proofs.YtkcacgjbofabfaaDoor
def All2 {α β : Type} (R : α → β → Prop) : List α → List β → Prop
  | [], [] => True
  | a :: l, b :: k => R a b ∧ All2 R l k
  | _, _ => False
theorem All2.mono {α β : Type} {R S : α → β → Prop} (h : ∀ a b, R a b → S a b) : ∀ {l : List α} {k : List β}, All2 R l k → All2 S l k
  | [], [], _ => trivial
  | _ :: _, _ :: _, ⟨h1, h2⟩ => ⟨h _ _ h1, h2.mono h⟩
  | [], _ :: _, h => h.elim
  | _ :: _, [], h => h.elim
theorem All2.len {α β : Type} {R : α → β → Prop} : ∀ {l : List α} {k : List β}, All2 R l k → l.length = k.length
  | [], [], _ => rfl
  | _ :: _, _ :: _, ⟨_, h2⟩ => by rw [List.length_cons, List.length_cons, h2.len]
  | [], _ :: _, h => h.elim
  | _ :: _, [], h => h.elim
theorem All2.app {α β : Type} {R : α → β → Prop} {l2 : List α} {k2 : List β} (h2 : All2 R l2 k2) : ∀ {l : List α} {k : List β}, All2 R l k → All2 R (l ++ l2) (k ++ k2)
  | [], [], _ => h2
  | _ :: _, _ :: _, ⟨h, h'⟩ => ⟨h, All2.app h2 h'⟩
  | [], _ :: _, h => h.elim
  | _ :: _, [], h => h.elim
/-- Values that stand for one another. -/
def VR (s t : HS) (R : Int → Int → Prop) (v w : V) : Prop := v.1 = w.1 ∧ ((objO s v = none ∧ objO t w = none ∧ v.2 = w.2) ∨ (∃ o q, objO s v = some o ∧ objO t w = some q ∧ R v.2 w.2))
theorem VR.mono {s t : HS} {R S : Int → Int → Prop} (h : ∀ a b, R a b → S a b) {v w : V} (hv : VR s t R v w) : VR s t S v w :=
  ⟨hv.1, hv.2.imp id fun ⟨o, q, h1, h2, h3⟩ => ⟨o, q, h1, h2, h _ _ h3⟩⟩
def ObjR (s t : HS) (R : Int → Int → Prop) (n m : Int) : Prop := ∃ o q, objO s (2, n) = some o ∧ objO t (2, m) = some q ∧ o.1 = q.1 ∧ All2 (VR s t R) o.2 q.2
theorem ObjR.mono {s t : HS} {R S : Int → Int → Prop} (h : ∀ a b, R a b → S a b) {n m : Int} (hv : ObjR s t R n m) : ObjR s t S n m := by
  obtain ⟨o, q, h1, h2, h3, h4⟩ := hv
  exact ⟨o, q, h1, h2, h3, h4.mono fun _ _ => VR.mono h⟩
structure Iso (s t : HS) (R : Int → Int → Prop) : Prop where
  fst : ∀ a b c, R a b → R a c → b = c
  snd : ∀ a b c, R a b → R c b → a = c
  obj : ∀ n m, R n m → ObjR s t R n m
abbrev PRel (P : List (Int × Int)) : Int → Int → Prop := fun a b => (a, b) ∈ P
/-! ### from the relation to Same -/
theorem alk_iso {s t : HS} {R : Int → Int → Prop} (hi : Iso s t R) {v w : V} (hv : VR s t R v w) {P : List (Int × Int)} (hP : ∀ p ∈ P, R p.1 p.2) : ∃ P', alk s t P v w = (true, P') ∧ ∀ p ∈ P', R p.1 p.2 := by
  obtain ⟨h0, h⟩ := hv
  unfold alk
  rcases h with ⟨h1, h2, h3⟩ | ⟨o, q, h1, h2, h3⟩
  · rw [h1, h2]
    rw [if_neg (by simp [h0]), if_pos (by simp)]
    exact ⟨P, by simp [h3], hP⟩
  · rw [h1, h2]
    rw [if_neg (by simp [h0]), if_neg (by simp)]
    by_cases h4 : (v.2, w.2) ∈ P
    · rw [if_pos h4]; exact ⟨P, rfl, hP⟩
    · rw [if_neg h4, if_neg ?_]
      · refine ⟨_, rfl, fun p hp => ?_⟩
        rcases List.mem_append.1 hp with hp | hp
        · exact hP p hp
        · rw [List.mem_singleton] at hp; subst hp; exact h3
      · rintro (h | h)
        · obtain ⟨p, hp, he⟩ := List.mem_map.1 h
          have h5 := hP p hp
          try dsimp only at he
          rw [he] at h5
          have := hi.fst _ _ _ h5 h3
          exact h4 (by rw [← this, ← he]; exact hp)
        · obtain ⟨p, hp, he⟩ := List.mem_map.1 h
          have h5 := hP p hp
          try dsimp only at he
          rw [he] at h5
          have := hi.snd _ _ _ h5 h3
          exact h4 (by rw [← this, ← he]; exact hp)
theorem lst_iso {s t : HS} {R : Int → Int → Prop} (hi : Iso s t R) : ∀ {l k : List V}, All2 (VR s t R) l k → ∀ {P : List (Int × Int)}, (∀ p ∈ P, R p.1 p.2) → ∃ P', lst s t P l k = (true, P') ∧ ∀ p ∈ P', R p.1 p.2
  | [], [], _, P, hP => ⟨P, rfl, hP⟩
  | v :: l, w :: k, ⟨h1, h2⟩, P, hP => by
    obtain ⟨P1, e1, q1⟩ := alk_iso hi h1 hP
    obtain ⟨P2, e2, q2⟩ := lst_iso hi h2 q1
    rw [lst_cons, e1]
    exact ⟨P2, e2, q2⟩
  | [], _ :: _, h, _, _ => h.elim
  | _ :: _, [], h, _, _ => h.elim
theorem goS_iso {s t : HS} {R : Int → Int → Prop} (hi : Iso s t R) : ∀ (f i : Nat) (P : List (Int × Int)), (∀ p ∈ P, R p.1 p.2) → goS s t f i P = true := by
  intro f
  induction f with
  | zero => intro i P _; rfl
  | succ f ih =>
    intro i P hP
    unfold goS
    cases hp : P[i]? with
    | none => rfl
    | some p =>
      obtain ⟨o, q, h1, h2, h3, h4⟩ := hi.obj _ _ (hP p (List.mem_of_getElem? hp))
      dsimp only
      rw [h1, h2]
      dsimp only
      obtain ⟨P', e, hq⟩ := lst_iso hi h4 hP
      rw [if_neg (by simp [h3, h4.len]), e]
      exact ih _ _ hq
theorem same_of_iso {s t : HS} {R : Int → Int → Prop} (hi : Iso s t R) {x y : List V} (h : All2 (VR s t R) x y) : sameF s x t y = true := by
  unfold sameF
  obtain ⟨P', e, hq⟩ := lst_iso hi h (P := []) (fun p hp => by cases hp)
  rw [if_neg (by simp [h.len]), e]
  exact goS_iso hi _ _ _ hq
/-! ### from Same to the relation -/
def InjP (P : List (Int × Int)) : Prop := (∀ a b c, (a, b) ∈ P → (a, c) ∈ P → b = c) ∧ ∀ a b c, (a, b) ∈ P → (c, b) ∈ P → a = c
theorem InjP.snoc {P : List (Int × Int)} (h : InjP P) {a b : Int} (ha : a ∉ P.map (·.1)) (hb : b ∉ P.map (·.2)) : InjP (P ++ [(a, b)]) := by
  constructor
  · intro x y z h1 h2
    rw [List.mem_append, List.mem_singleton] at h1 h2
    rcases h1 with h1 | h1 <;> rcases h2 with h2 | h2
    · exact h.1 _ _ _ h1 h2
    · cases h2; exact (ha (List.mem_map.2 ⟨_, h1, rfl⟩)).elim
    · cases h1; exact (ha (List.mem_map.2 ⟨_, h2, rfl⟩)).elim
    · cases h1; cases h2; rfl
  · intro x y z h1 h2
    rw [List.mem_append, List.mem_singleton] at h1 h2
    rcases h1 with h1 | h1 <;> rcases h2 with h2 | h2
    · exact h.2 _ _ _ h1 h2
    · cases h2; exact (hb (List.mem_map.2 ⟨_, h1, rfl⟩)).elim
    · cases h1; exact (hb (List.mem_map.2 ⟨_, h2, rfl⟩)).elim
    · cases h1; cases h2; rfl
theorem alk_true {s t : HS} {v w : V} {P P' : List (Int × Int)} (hP : InjP P) (h : alk s t P v w = (true, P')) : InjP P' ∧ P <+: P' ∧ VR s t (PRel P') v w := by
  unfold alk at h
  split at h
  · cases h
  · rename_i h0
    have e1 : v.1 = w.1 := Classical.byContradiction fun e => h0 (.inl e)
    have e2 : (objO s v).isSome = (objO t w).isSome := Classical.byContradiction fun e => h0 (.inr e)
    split at h
    · rename_i h1
      injection h with h2 h3
      subst h3
      rw [h1] at e2
      exact ⟨hP, List.prefix_rfl, e1, .inl ⟨by simpa using h1, by simpa using e2.symm, by simpa using h2⟩⟩
    · rename_i h1
      have h1' : (objO s v).isSome = true := by cases hx : (objO s v).isSome with | false => exact (h1 hx).elim | true => rfl
      obtain ⟨o, ho⟩ := Option.isSome_iff_exists.1 h1'
      obtain ⟨q, hq⟩ := Option.isSome_iff_exists.1 (e2.symm.trans h1')
      split at h
      · rename_i h2
        injection h with _ h3
        subst h3
        exact ⟨hP, List.prefix_rfl, e1, .inr ⟨o, q, ho, hq, h2⟩⟩
      · split at h
        · cases h
        · rename_i h3
          injection h with _ h4
          subst h4
          rw [not_or] at h3
          exact ⟨hP.snoc h3.1 h3.2, ⟨_, rfl⟩, e1, .inr ⟨o, q, ho, hq, by simp [PRel]⟩⟩
theorem pre_mem {P P' : List (Int × Int)} (h : P <+: P') : ∀ a b, PRel P a b → PRel P' a b := fun _ _ hm => h.subset hm
theorem lst_true {s t : HS} : ∀ {l k : List V} {P P' : List (Int × Int)}, l.length = k.length → InjP P → lst s t P l k = (true, P') → InjP P' ∧ P <+: P' ∧ All2 (VR s t (PRel P')) l k
  | [], [], P, P', _, hP, h => by
    rw [lst_nil] at h; injection h with _ h; subst h
    exact ⟨hP, List.prefix_rfl, trivial⟩
  | v :: l, w :: k, P, P', hl, hP, h => by
    rw [lst_cons] at h
    generalize ha : alk s t P v w = a at h
    obtain ⟨b, P1⟩ := a
    dsimp only at h
    cases b with
    | false => rw [if_neg (by simp)] at h; cases h
    | true =>
      rw [if_pos rfl] at h
      obtain ⟨h1, h2, h3⟩ := alk_true hP ha
      obtain ⟨q1, q2, q3⟩ := lst_true (by simpa using hl) h1 h
      exact ⟨q1, h2.trans q2, h3.mono (pre_mem q2), q3⟩
  | [], _ :: _, _, _, h, _, _ => by simp at h
  | _ :: _, [], _, _, h, _, _ => by simp at h
theorem goS_true {s t : HS} : ∀ (f i : Nat) (P : List (Int × Int)), Pok s t P → s.objs.length + 1 ≤ f + i → InjP P → goS s t f i P = true → ∃ P', InjP P' ∧ P <+: P' ∧ ∀ j, i ≤ j → ∀ p, P'[j]? = some p → ObjR s t (PRel P') p.1 p.2 := by
  intro f
  induction f with
  | zero =>
    intro i P hp hf hi _
    refine ⟨P, hi, List.prefix_rfl, fun j hj p hpj => ?_⟩
    have := (List.getElem?_eq_some_iff.1 hpj).1
    have := hp.len
    omega
  | succ f ih =>
    intro i P hp hf hi h
    unfold goS at h
    cases hpi : P[i]? with
    | none =>
      refine ⟨P, hi, List.prefix_rfl, fun j hj p hpj => ?_⟩
      have := (List.getElem?_eq_some_iff.1 hpj).1
      rw [List.getElem?_eq_none_iff] at hpi
      omega
    | some p =>
      rw [hpi] at h
      obtain ⟨o, q, ho, hq⟩ := hp.obj p (List.mem_of_getElem? hpi)
      dsimp only at h
      rw [ho, hq] at h
      dsimp only at h
      split at h
      · cases h
      rename_i h1
      generalize hl : lst s t P o.2 q.2 = r at h
      obtain ⟨b, P1⟩ := r
      have e1 : o.1 = q.1 := Classical.byContradiction fun e => h1 (.inl e)
      have e2 : o.2.length = q.2.length := Classical.byContradiction fun e => h1 (.inr e)
      cases b with
      | false => simp at h
      | true =>
        rw [if_pos rfl] at h
        have hp1 := Pok.lst o.2 q.2 hp
        rw [hl] at hp1
        obtain ⟨i1, pr1, al1⟩ := lst_true e2 hi hl
        obtain ⟨P', i2, pr2, h2⟩ := ih (i + 1) P1 hp1 (by omega) i1 h
        refine ⟨P', i2, pr1.trans pr2, fun j hj r hr => ?_⟩
        rcases Nat.lt_or_ge i j with hij | hij
        · exact h2 j hij r hr
        · obtain rfl : j = i := by omega
          have hlt := (List.getElem?_eq_some_iff.1 hpi).1
          obtain ⟨Z, rfl⟩ := pr1.trans pr2
          rw [List.getElem?_append_left hlt, hpi] at hr
          cases hr
          exact ⟨o, q, ho, hq, e1, al1.mono fun _ _ => VR.mono (pre_mem pr2)⟩
theorem iso_of_same {s t : HS} {x y : List V} (h : sameF s x t y = true) : ∃ R, Iso s t R ∧ All2 (VR s t R) x y := by
  unfold sameF at h
  split at h
  · cases h
  rename_i hl
  generalize hr : lst s t [] x y = r at h
  obtain ⟨b, P⟩ := r
  simp only [Bool.and_eq_true] at h
  obtain ⟨rfl, h⟩ := h
  have hp := Pok.lst x y (Pok.nil s t)
  rw [hr] at hp
  obtain ⟨i1, _, al⟩ := lst_true (by omega) ⟨fun _ _ _ h => (by cases h), fun _ _ _ h => (by cases h)⟩ hr
  obtain ⟨P', i2, pr, h2⟩ := goS_true _ _ _ hp (by omega) i1 h
  refine ⟨PRel P', ⟨i2.1, i2.2, fun n m hm => ?_⟩, al.mono fun _ _ => VR.mono (pre_mem pr)⟩
  obtain ⟨j, hj⟩ := List.getElem?_of_mem hm
  exact h2 j (Nat.zero_le _) _ hj
end Go.Heap
namespace Go.Heap
open Go Go.Eng Go.Proofs.YtkcacgjbofabfaaDoor
theorem All2.mem_iff {R : Int → Int → Prop} (h1 : ∀ a b c, R a b → R a c → b = c) (h2 : ∀ a b c, R a b → R c b → a = c) : ∀ {l k : List Int}, All2 R l k → ∀ {a b : Int}, R a b → (a ∈ l ↔ b ∈ k)
  | [], [], _, a, b, _ => by simp
  | x :: l, y :: k, ⟨e, h⟩, a, b, hr => by
    rw [List.mem_cons, List.mem_cons]
    have := All2.mem_iff h1 h2 h hr
    constructor
    · rintro (rfl | q)
      · exact .inl (h1 _ _ _ hr e)
      · exact .inr (this.1 q)
    · rintro (rfl | q)
      · exact .inl (h2 _ _ _ hr e)
      · exact .inr (this.2 q)
  | [], _ :: _, h, _, _, _ => h.elim
  | _ :: _, [], h, _, _, _ => h.elim
/-- Things that stand for one another. -/
def YR (s t : HS) (R : Int → Int → Prop) (y z : Int × (Int × List V)) : Prop := R y.1 z.1 ∧ y.2.1 = z.2.1 ∧ All2 (VR s t R) y.2.2 z.2.2
theorem dfsN_iso {s t : HS} {R : Int → Int → Prop} (hi : Iso s t R) : ∀ (f : Nat) (sn sn' : List Int) (l k : List V), All2 R sn sn' → All2 (VR s t R) l k → All2 (YR s t R) (dfsN s f sn l) (dfsN t f sn' k) := by
  intro f
  induction f with
  | zero => intro sn sn' l k _ _; exact trivial
  | succ f ih =>
    intro sn sn' l k hs hl
    match l, k, hl with
    | [], [], _ => exact trivial
    | v :: l, w :: k, ⟨hv, hl⟩ =>
      unfold dfsN
      rcases hv with ⟨h0, ⟨h1, h2, h3⟩ | ⟨o, q, h1, h2, h3⟩⟩
      · rw [h1, h2]; exact ih _ _ _ _ hs hl
      · rw [h1, h2]
        dsimp only
        have hm := All2.mem_iff hi.fst hi.snd hs h3
        by_cases hin : v.2 ∈ sn
        · rw [if_pos hin, if_pos (hm.1 hin)]; exact ih _ _ _ _ hs hl
        · rw [if_neg hin, if_neg (fun e => hin (hm.2 e))]
          obtain ⟨o', q', e1, e2, e3, e4⟩ := hi.obj _ _ h3
          have ev : v = (2, v.2) := by obtain ⟨k, e, _⟩ := objO_spec h1; rw [e]
          have ew : w = (2, w.2) := by obtain ⟨k, e, _⟩ := objO_spec h2; rw [e]
          rw [← ev, h1] at e1
          rw [← ew, h2] at e2
          cases e1; cases e2
          exact ⟨⟨h3, e3, e4⟩, ih _ _ _ _ (All2.app (l2 := [v.2]) (k2 := [w.2]) ⟨h3, trivial⟩ hs) (All2.app hl e4)⟩
    | [], _ :: _, h => exact h.elim
    | _ :: _, [], h => exact h.elim
theorem dfs_iso {s t : HS} {R : Int → Int → Prop} (hi : Iso s t R) {x y : List V} (h : All2 (VR s t R) x y) : All2 (YR s t R) (dfs s [] x) (dfs t [] y) := by
  have := dfsN_iso hi (x.length + wt s [] + (y.length + wt t [])) [] [] x y trivial h
  unfold dfs
  rw [dfsN_fuel s _ _ [] x (Nat.le_refl _) (show x.length + wt s [] ≤ x.length + wt s [] + (y.length + wt t []) by omega), dfsN_fuel t _ _ [] y (Nat.le_refl _) (show y.length + wt t [] ≤ x.length + wt s [] + (y.length + wt t []) by omega)]
  exact this
theorem lkY_iso {s t : HS} {R : Int → Int → Prop} (hi : Iso s t R) {n m : Int} (hr : R n m) : ∀ {ys zs : Ys}, All2 (YR s t R) ys zs → ixY ys n = ixY zs m ∧ ((lkY ys n = none ∧ lkY zs m = none) ∨ ∃ o q, lkY ys n = some o ∧ lkY zs m = some q ∧ o.1 = q.1 ∧ All2 (VR s t R) o.2 q.2)
  | [], [], _ => ⟨rfl, .inl ⟨rfl, rfl⟩⟩
  | y :: ys, z :: zs, ⟨⟨h1, h2, h3⟩, h⟩ => by
    rw [ixY_cons, ixY_cons]
    unfold lkY
    by_cases hn : y.1 = n
    · have hm : z.1 = m := by rw [hn] at h1; exact hi.fst _ _ _ h1 hr
      rw [if_pos hn, if_pos hm, List.find?_cons_of_pos (by simp [hn]), List.find?_cons_of_pos (by simp [hm])]
      exact ⟨rfl, .inr ⟨_, _, rfl, rfl, h2, h3⟩⟩
    · have hm : ¬ z.1 = m := by intro e; rw [e] at h1; exact hn (hi.snd _ _ _ h1 hr)
      rw [if_neg hn, if_neg hm, List.find?_cons_of_neg (by simp [hn]), List.find?_cons_of_neg (by simp [hm])]
      obtain ⟨q1, q2⟩ := lkY_iso hi hr h
      exact ⟨by rw [q1], q2⟩
  | [], _ :: _, h => h.elim
  | _ :: _, [], h => h.elim
theorem muY_iso {s t : HS} {R : Int → Int → Prop} : ∀ {ys zs : Ys}, All2 (YR s t R) ys zs → muY ys [] = muY zs []
  | [], [], _ => rfl
  | y :: ys, z :: zs, ⟨⟨_, _, h3⟩, h⟩ => by
    have := muY_iso h
    have := h3.len
    unfold muY at *
    rw [List.map_cons, List.map_cons, List.sum_cons, List.sum_cons]
    simp only [List.not_mem_nil, if_false] at *
    omega
  | [], _ :: _, h => h.elim
  | _ :: _, [], h => h.elim
/-- What is still to be shown. -/
def LR (s t : HS) (R : Int → Int → Prop) (l k : Lv) : Prop := All2 (VR s t R) l.rest k.rest ∧ l.cl = k.cl ∧ l.sp = k.sp
theorem shV_iso {s t : HS} {R : Int → Int → Prop} (hi : Iso s t R) {ys zs : Ys} (hy : All2 (YR s t R) ys zs) (hys : ∀ y ∈ ys, objO s (2, y.1) = some y.2) (hzs : ∀ y ∈ zs, objO t (2, y.1) = some y.2) {sn sn' : List Int} (hs : All2 R sn sn') {v w : V} (hv : VR s t R v w) :
    (∃ tx, shV ys sn v = .txt tx ∧ shV zs sn' w = .txt tx) ∨ (∃ tx, shV ys sn v = .seen tx ∧ shV zs sn' w = .seen tx) ∨ ∃ tx u n m l k, shV ys sn v = .opn tx u n l ∧ shV zs sn' w = .opn tx u m k ∧ R n m ∧ LR s t R l k := by
  obtain ⟨h0, h⟩ := hv
  unfold shV
  by_cases c0 : v.1 = 0
  · rw [if_pos c0, if_pos (h0 ▸ c0)]
    rcases h with ⟨_, _, h3⟩ | ⟨o, q, h1, _, _⟩
    · rw [h3]; exact .inl ⟨_, rfl, rfl⟩
    · obtain ⟨k, e, _⟩ := objO_spec h1
      rw [e] at c0; cases c0
  have c0' : ¬ w.1 = 0 := fun e => c0 (h0.trans e)
  rw [if_neg c0, if_neg c0']
  rcases h with ⟨h1, h2, h3⟩ | ⟨o, q, h1, h2, h3⟩
  · rw [← h3, ← h0]
    by_cases c1 : v.1 = 1 ∧ v.2 = 0
    · rw [if_pos c1, if_pos c1]; exact .inl ⟨_, rfl, rfl⟩
    rw [if_neg c1, if_neg c1]
    by_cases c2 : v.1 = 2
    · rw [if_neg (by simp [c2]), if_neg (by simp [c2])]
      have e1 : lkY ys v.2 = none := by
        cases hl : lkY ys v.2 with
        | none => rfl
        | some o =>
          have := hys _ (lkY_mem hl)
          dsimp only at this
          rw [show ((2, v.2) : V) = v from Prod.ext c2.symm rfl, h1] at this; cases this
      have e2 : lkY zs v.2 = none := by
        cases hl : lkY zs v.2 with
        | none => rfl
        | some o =>
          have := hzs _ (lkY_mem hl)
          dsimp only at this
          rw [show ((2, v.2) : V) = w from Prod.ext (c2.symm.trans h0) h3, h2] at this; cases this
      rw [e1, e2]; exact .inl ⟨_, rfl, rfl⟩
    · rw [if_pos c2, if_pos c2]; exact .inl ⟨_, rfl, rfl⟩
  · have c2 : v.1 = 2 := by obtain ⟨k, e, _⟩ := objO_spec h1; rw [e]
    have c3 : w.1 = 2 := h0.symm.trans c2
    rw [if_neg (by simp [c2]), if_neg (by simp [c2]), if_neg (by simp [c3]), if_neg (by simp [c3])]
    obtain ⟨q1, q2⟩ := lkY_iso hi h3 hy
    have hm := All2.mem_iff hi.fst hi.snd hs h3
    rcases q2 with ⟨e1, e2⟩ | ⟨o, q, e1, e2, e3, e4⟩
    · rw [e1, e2]; exact .inl ⟨_, rfl, rfl⟩
    · rw [e1, e2, q1]
      dsimp only
      by_cases hin : v.2 ∈ sn
      · rw [if_pos hin, if_pos (hm.1 hin)]; exact .inr (.inl ⟨_, rfl, rfl⟩)
      · rw [if_neg hin, if_neg (fun e => hin (hm.2 e)), ← e3]
        by_cases hn : o.1 < 0
        · rw [if_pos hn, if_pos hn]; exact .inr (.inr ⟨_, _, _, _, _, _, rfl, rfl, h3, e4, rfl, rfl⟩)
        · rw [if_neg hn, if_neg hn]; exact .inr (.inr ⟨_, _, _, _, _, _, rfl, rfl, h3, e4, rfl, rfl⟩)
theorem shM_iso {s t : HS} {R : Int → Int → Prop} (hi : Iso s t R) {ys zs : Ys} (hy : All2 (YR s t R) ys zs) (hys : ∀ y ∈ ys, objO s (2, y.1) = some y.2) (hzs : ∀ y ∈ zs, objO t (2, y.1) = some y.2) : ∀ (f : Nat) (st st' : List Lv) (sn sn' : List Int) (out : ByteArray),
    All2 (LR s t R) st st' → All2 R sn sn' → shM ys f st sn out = shM zs f st' sn' out := by
  intro f
  induction f with
  | zero => intro st st' sn sn' out _ _; rfl
  | succ f ih =>
    intro st st' sn sn' out h hs
    match st, st', h with
    | [], [], _ => rfl
    | ⟨[], cl, sp⟩ :: st, ⟨[], cl', sp'⟩ :: st', ⟨⟨_, h2, _⟩, h⟩ =>
      dsimp only at h2
      subst h2
      exact ih _ _ _ _ _ h hs
    | ⟨v :: r, cl, sp⟩ :: st, ⟨w :: r', cl', sp'⟩ :: st', ⟨⟨⟨hv, hr⟩, h2, h3⟩, h⟩ =>
      dsimp only at h2 h3
      subst h2 h3
      show (match shV ys sn v with | .txt t => _ | .seen t => _ | .opn t u n l => _) = (match shV zs sn' w with | .txt t => _ | .seen t => _ | .opn t u n l => _)
      rcases shV_iso hi hy hys hzs hs hv with ⟨tx, e1, e2⟩ | ⟨tx, e1, e2⟩ | ⟨tx, u, n, m, l, k, e1, e2, e3, e4⟩
      · rw [e1, e2]; exact ih _ _ _ _ _ ⟨⟨hr, rfl, rfl⟩, h⟩ hs
      · rw [e1, e2]; exact ih _ _ _ _ _ ⟨⟨hr, rfl, rfl⟩, h⟩ hs
      · rw [e1, e2]; exact ih _ _ _ _ _ ⟨e4, ⟨hr, rfl, rfl⟩, h⟩ (All2.app (l2 := [n]) (k2 := [m]) ⟨e3, trivial⟩ hs)
    | ⟨[], _, _⟩ :: _, ⟨_ :: _, _, _⟩ :: _, ⟨⟨h, _⟩, _⟩ => exact h.elim
    | ⟨_ :: _, _, _⟩ :: _, ⟨[], _, _⟩ :: _, ⟨⟨h, _⟩, _⟩ => exact h.elim
    | [], _ :: _, h => exact h.elim
    | _ :: _, [], h => exact h.elim
theorem show_of_iso {s t : HS} {R : Int → Int → Prop} (hi : Iso s t R) {x y : List V} (h : All2 (VR s t R) x y) : showF (dfs s [] x) x = showF (dfs t [] y) y := by
  have hd := dfs_iso hi h
  unfold showF
  rw [h.len, muY_iso hd]
  exact shM_iso hi hd (dfsN_mem s _ [] x) (dfsN_mem t _ [] y) _ _ _ [] [] _ ⟨⟨h, rfl, rfl⟩, trivial⟩ trivial
end Go.Heap
namespace Go.Heap
open Go Go.Eng Go.Proofs.YtkcacgjbofabfaaDoor
/-! ### numerals -/
def isD (c : UInt8) : Prop := 48 ≤ c.toNat ∧ c.toNat ≤ 57
theorem ofNat_dig {k : Nat} (h : k < 10) : (UInt8.ofNat (48 + k)).toNat = 48 + k := by rw [UInt8.toNat_ofNat']; omega
theorem dd_all : ∀ (n u : Nat), u ≤ n → ∀ c ∈ Go.Lib.decDigits u, isD c := by
  intro n
  induction n with
  | zero =>
    intro u hu c hc
    rw [Go.Lib.decDigits, dif_pos (by omega), List.mem_singleton] at hc
    subst hc
    unfold isD; rw [ofNat_dig (by omega)]; omega
  | succ n ih =>
    intro u hu c hc
    rw [Go.Lib.decDigits] at hc
    split at hc
    · rw [List.mem_singleton] at hc
      subst hc
      unfold isD; rw [ofNat_dig (by omega)]; omega
    · rw [List.mem_append, List.mem_singleton] at hc
      rcases hc with hc | hc
      · exact ih (u / 10) (by omega) c hc
      · subst hc
        unfold isD; rw [ofNat_dig (Nat.mod_lt _ (by omega))]; have := Nat.mod_lt u (show 0 < 10 by omega); omega
def valD (l : List UInt8) : Nat := l.foldl (fun a c => 10 * a + (c.toNat - 48)) 0
theorem dd_val : ∀ (n u : Nat), u ≤ n → valD (Go.Lib.decDigits u) = u := by
  intro n
  induction n with
  | zero =>
    intro u hu
    rw [Go.Lib.decDigits, dif_pos (by omega)]
    unfold valD
    rw [List.foldl_cons, List.foldl_nil, ofNat_dig (by omega)]; omega
  | succ n ih =>
    intro u hu
    rw [Go.Lib.decDigits]
    split
    · unfold valD
      rw [List.foldl_cons, List.foldl_nil, ofNat_dig (by omega)]; omega
    · have := ih (u / 10) (by omega)
      unfold valD at this ⊢
      rw [List.foldl_append, this, List.foldl_cons, List.foldl_nil, ofNat_dig (Nat.mod_lt _ (by omega))]
      omega
theorem dd_ne (u : Nat) : ∃ c l, Go.Lib.decDigits u = c :: l ∧ isD c := by
  cases h : Go.Lib.decDigits u with
  | nil =>
    rw [Go.Lib.decDigits] at h
    split at h
    · cases h
    · simp at h
  | cons c l => exact ⟨c, l, rfl, dd_all u u (Nat.le_refl _) c (by rw [h]; simp)⟩
/-- What may stand behind a number. -/
def Stop (l : List UInt8) : Prop := l = [] ∨ ∃ c k, l = c :: k ∧ ¬ isD c
theorem dig_cut : ∀ {a b X Y : List UInt8}, (∀ c ∈ a, isD c) → (∀ c ∈ b, isD c) → Stop X → Stop Y → a ++ X = b ++ Y → a = b ∧ X = Y
  | [], [], X, Y, _, _, _, _, h => ⟨rfl, h⟩
  | x :: a, [], X, Y, ha, _, _, hY, h => by
    rcases hY with rfl | ⟨c, k, rfl, hc⟩
    · cases h
    · rw [List.nil_append, List.cons_append] at h
      injection h with h1 h2
      subst h1
      exact (hc (ha _ (by simp))).elim
  | [], y :: b, X, Y, _, hb, hX, _, h => by
    rcases hX with rfl | ⟨c, k, rfl, hc⟩
    · cases h
    · rw [List.nil_append, List.cons_append] at h
      injection h with h1 h2
      subst h1
      exact (hc (hb _ (by simp))).elim
  | x :: a, y :: b, X, Y, ha, hb, hX, hY, h => by
    rw [List.cons_append, List.cons_append] at h
    injection h with h1 h2
    obtain ⟨q1, q2⟩ := dig_cut (fun c hc => ha c (by simp [hc])) (fun c hc => hb c (by simp [hc])) hX hY h2
    exact ⟨by rw [h1, q1], q2⟩
theorem itoa_head (n : Int) : ∃ c l, Go.Lib.itoa n = c :: l ∧ (c = 45 ∨ isD c) := by
  unfold Go.Lib.itoa
  split
  · exact ⟨_, _, rfl, .inl rfl⟩
  · obtain ⟨c, l, h, hd⟩ := dd_ne n.toNat
    exact ⟨c, l, h, .inr hd⟩
theorem not_isD {c : UInt8} (h : ¬ (48 ≤ c.toNat ∧ c.toNat ≤ 57)) : ¬ isD c := h
theorem dd_inj {u w : Nat} (h : Go.Lib.decDigits u = Go.Lib.decDigits w) : u = w := by
  have h1 := dd_val u u (Nat.le_refl _)
  rw [h, dd_val w w (Nat.le_refl _)] at h1
  exact h1.symm
theorem itoa_cut {a b : Int} {X Y : List UInt8} (hX : Stop X) (hY : Stop Y) (h : Go.Lib.itoa a ++ X = Go.Lib.itoa b ++ Y) : a = b ∧ X = Y := by
  unfold Go.Lib.itoa at h
  by_cases ha : a < 0 <;> by_cases hb : b < 0
  · rw [if_pos ha, if_pos hb, List.cons_append, List.cons_append] at h
    injection h with _ h
    obtain ⟨h1, h2⟩ := dig_cut (dd_all _ _ (Nat.le_refl _)) (dd_all _ _ (Nat.le_refl _)) hX hY h
    have := dd_inj h1
    exact ⟨by omega, h2⟩
  · rw [if_pos ha, if_neg hb] at h
    obtain ⟨c, l, e, hd⟩ := dd_ne b.toNat
    rw [e, List.cons_append, List.cons_append] at h
    injection h with h1 _
    subst h1
    exact (not_isD (by decide) hd).elim
  · rw [if_neg ha, if_pos hb] at h
    obtain ⟨c, l, e, hd⟩ := dd_ne a.toNat
    rw [e, List.cons_append, List.cons_append] at h
    injection h with h1 _
    subst h1
    exact (not_isD (by decide) hd).elim
  · rw [if_neg ha, if_neg hb] at h
    obtain ⟨h1, h2⟩ := dig_cut (dd_all _ _ (Nat.le_refl _)) (dd_all _ _ (Nat.le_refl _)) hX hY h
    have := dd_inj h1
    exact ⟨by omega, h2⟩
/-! ### texts as lists of bytes -/
def bl (b : ByteArray) : List UInt8 := b.data.toList
theorem bl_app (a b : ByteArray) : bl (a ++ b) = bl a ++ bl b := by unfold bl; simp
theorem bl_itoa (n : Int) : bl (itoaB n) = Go.Lib.itoa n := by unfold bl itoaB; simp
theorem bl_inj {a b : ByteArray} (h : bl a = bl b) : a = b := by
  unfold bl at h
  cases a; cases b
  congr 1
  exact Array.ext' h
section
variable (ys : Ys)
theorem shM_out : ∀ (f : Nat) (st : List Lv) (sn : List Int) (out a : ByteArray), shM ys f st sn (out ++ a) = out ++ shM ys f st sn a := by
  intro f
  induction f with
  | zero => intro st sn out a; rfl
  | succ f ih =>
    intro st sn out a
    match st with
    | [] => rfl
    | ⟨[], cl, sp⟩ :: st =>
      show shM ys f st sn (out ++ a ++ cl) = out ++ shM ys f st sn (a ++ cl)
      rw [ByteArray.append_assoc]; exact ih _ _ _ _
    | ⟨v :: r, cl, sp⟩ :: st =>
      show (match shV ys sn v with | .txt t => _ | .seen t => _ | .opn t u n l => _) = _ ++ (match shV ys sn v with | .txt t => _ | .seen t => _ | .opn t u n l => _)
      cases shV ys sn v with
      | txt t => dsimp only; rw [show out ++ a ++ sp ++ t = out ++ (a ++ sp ++ t) by simp only [ByteArray.append_assoc]]; exact ih _ _ _ _
      | seen t => dsimp only; rw [show out ++ a ++ sp ++ t = out ++ (a ++ sp ++ t) by simp only [ByteArray.append_assoc]]; exact ih _ _ _ _
      | opn t u n l => dsimp only; rw [show out ++ a ++ sp ++ t ++ u = out ++ (a ++ sp ++ t ++ u) by simp only [ByteArray.append_assoc]]; exact ih _ _ _ _
def shL (st : List Lv) (sn : List Int) : List UInt8 := bl (shC ys st sn .empty)
theorem shC_out (st : List Lv) (sn : List Int) (out : ByteArray) : bl (shC ys st sn out) = bl out ++ shL ys st sn := by
  unfold shL shC
  have := shM_out ys (muA ys st sn) st sn out .empty
  rw [show out ++ ByteArray.empty = out by simp] at this
  rw [this, bl_app]
theorem shL_nil (sn : List Int) : shL ys [] sn = [] := by unfold shL; rw [shC_nil]; rfl
theorem shL_end (cl sp : ByteArray) (st : List Lv) (sn : List Int) : shL ys (⟨[], cl, sp⟩ :: st) sn = bl cl ++ shL ys st sn := by
  unfold shL
  rw [shC_end, shC_out, bl_app]; rfl
theorem shL_one (cl sp : ByteArray) (v : V) (r : List V) (st : List Lv) (sn : List Int) {t : ByteArray} (h : shV ys sn v = .txt t ∨ shV ys sn v = .seen t) : shL ys (⟨v :: r, cl, sp⟩ :: st) sn = bl sp ++ (bl t ++ shL ys (⟨r, cl, bSp⟩ :: st) sn) := by
  unfold shL
  rw [shC_one ys cl sp v r st sn _ h, shC_out, bl_app, bl_app, List.append_assoc]; rfl
theorem shL_opn (cl sp : ByteArray) (v : V) (r : List V) (st : List Lv) (sn : List Int) {t u : ByteArray} {n : Int} {l : Lv} (h : shV ys sn v = .opn t u n l) : shL ys (⟨v :: r, cl, sp⟩ :: st) sn = bl sp ++ (bl t ++ (bl u ++ shL ys (l :: ⟨r, cl, bSp⟩ :: st) (sn ++ [n]))) := by
  unfold shL
  rw [shC_opn ys cl sp v r st sn _ h, shC_out, bl_app, bl_app, bl_app, List.append_assoc, List.append_assoc]; rfl
/-- The things that are being shown, as they may be. -/
def StK : List Lv → Prop
  | [] => True
  | l :: st => (l.sp = .empty ∨ l.sp = bSp) ∧ ((st = [] ∧ l.cl = .empty) ∨ (st ≠ [] ∧ (l.cl = bRb ∨ l.cl = bRc))) ∧ StK st
theorem StK.next {v : V} {r : List V} {cl sp : ByteArray} {st : List Lv} (h : StK (⟨v :: r, cl, sp⟩ :: st)) : StK (⟨r, cl, bSp⟩ :: st) := ⟨.inr rfl, h.2.1, h.2.2⟩
/-- What may stand behind a value. -/
theorem tail_ok {r : List V} {cl : ByteArray} {st : List Lv} {sn : List Int} (h : StK (⟨r, cl, bSp⟩ :: st)) : shL ys (⟨r, cl, bSp⟩ :: st) sn = [] ∨ ∃ c k, shL ys (⟨r, cl, bSp⟩ :: st) sn = c :: k ∧ (c = 32 ∨ c = 93 ∨ c = 125) := by
  cases r with
  | nil =>
    rw [shL_end]
    obtain ⟨_, ⟨rfl, h⟩ | ⟨_, h | h⟩, _⟩ := h
    · dsimp only at h; subst h; rw [shL_nil]; exact .inl rfl
    · dsimp only at h; subst h; exact .inr ⟨93, _, rfl, .inr (.inl rfl)⟩
    · dsimp only at h; subst h; exact .inr ⟨125, _, rfl, .inr (.inr rfl)⟩
  | cons v r =>
    refine .inr ?_
    cases hs : shV ys sn v with
    | txt t => rw [shL_one ys cl bSp v r st sn (.inl hs)]; exact ⟨32, _, rfl, .inl rfl⟩
    | seen t => rw [shL_one ys cl bSp v r st sn (.inr hs)]; exact ⟨32, _, rfl, .inl rfl⟩
    | opn t u n l => rw [shL_opn ys cl bSp v r st sn hs]; exact ⟨32, _, rfl, .inl rfl⟩
theorem stop_of {X : List UInt8} (h : X = [] ∨ ∃ c k, X = c :: k ∧ (c = 32 ∨ c = 93 ∨ c = 125)) : Stop X := by
  rcases h with h | ⟨c, k, rfl, h⟩
  · exact .inl h
  · refine .inr ⟨c, k, rfl, not_isD ?_⟩
    rcases h with rfl | rfl | rfl <;> decide
end
/-! ### what is not odd -/
def Good (s : HS) (ys : Ys) (v : V) : Prop := v.1 = 0 ∨ (v.1 = 1 ∧ v.2 = 0) ∨ ∃ o, objO s v = some o ∧ v.2 ∈ ys.map (·.1)
structure Clo (s : HS) (ys : Ys) : Prop where
  obj : ∀ y ∈ ys, objO s (2, y.1) = some y.2
  good : ∀ y ∈ ys, ∀ c ∈ y.2.2, Good s ys c
  rec_ : ∀ y ∈ ys, -1 ≤ y.2.1
/-- A value's token. -/
inductive Tok (s : HS) (ys : Ys) (sn : List Int) (v : V) : Prop where
  | num (h : v.1 = 0) (e : shV ys sn v = .txt (itoaB v.2))
  | nul (h : v.1 = 1 ∧ v.2 = 0) (e : shV ys sn v = .txt bNull)
  | seen (o : Int × List V) (h : v.1 = 2) (ho : objO s v = some o) (hk : v.2 ∈ ys.map (·.1)) (hn : v.2 ∈ sn) (e : shV ys sn v = .seen (bAt ++ itoaB (ixY ys v.2)))
  | arr (o : Int × List V) (h : v.1 = 2) (ho : objO s v = some o) (hk : v.2 ∈ ys.map (·.1)) (hn : v.2 ∉ sn) (hr : o.1 = -1) (hg : ∀ c ∈ o.2, Good s ys c) (e : shV ys sn v = .opn (bAt ++ itoaB (ixY ys v.2)) bLb v.2 ⟨o.2, bRb, .empty⟩)
  | rcd (o : Int × List V) (h : v.1 = 2) (ho : objO s v = some o) (hk : v.2 ∈ ys.map (·.1)) (hn : v.2 ∉ sn) (hg : ∀ c ∈ o.2, Good s ys c) (e : shV ys sn v = .opn (bAt ++ itoaB (ixY ys v.2)) (bLc ++ itoaB o.1) v.2 ⟨o.2, bRc, bSp⟩)
theorem Good.tok {s : HS} {ys : Ys} (hc : Clo s ys) {v : V} (h : Good s ys v) (sn : List Int) : Tok s ys sn v := by
  rcases h with h | h | ⟨o, ho, hk⟩
  · exact .num h (by unfold shV; rw [if_pos h])
  · exact .nul h (by unfold shV; rw [if_neg (by simp [h.1]), if_pos h])
  · have h2 : v.1 = 2 := by obtain ⟨k, e, _⟩ := objO_spec ho; rw [e]
    have hv : ((2, v.2) : V) = v := Prod.ext h2.symm rfl
    have hl : lkY ys v.2 = some o := lkY_of hc.obj (by rw [hv]; exact ho) hk
    have hm := lkY_mem hl
    have hg := hc.good _ hm
    have hr := hc.rec_ _ hm
    dsimp only at hg hr
    by_cases hn : v.2 ∈ sn
    · exact .seen o h2 ho hk hn (by unfold shV; rw [if_neg (by simp [h2]), if_neg (by simp [h2]), if_neg (by simp [h2]), hl]; dsimp only; rw [if_pos hn])
    · by_cases h0 : o.1 < 0
      · exact .arr o h2 ho hk hn (by omega) hg (by unfold shV; rw [if_neg (by simp [h2]), if_neg (by simp [h2]), if_neg (by simp [h2]), hl]; dsimp only; rw [if_neg hn, if_pos h0])
      · exact .rcd o h2 ho hk hn hg (by unfold shV; rw [if_neg (by simp [h2]), if_neg (by simp [h2]), if_neg (by simp [h2]), hl]; dsimp only; rw [if_neg hn, if_neg h0])
/-- The text of what begins with a value, by its token. -/
inductive Txt (s : HS) (ys : Ys) (sn : List Int) (v : V) (r : List V) (cl : ByteArray) (st : List Lv) (T : List UInt8) : Prop where
  | num (h : v.1 = 0) (e : T = Go.Lib.itoa v.2 ++ shL ys (⟨r, cl, bSp⟩ :: st) sn)
  | nul (h : v.1 = 1 ∧ v.2 = 0) (e : T = 110 :: 117 :: 108 :: 108 :: shL ys (⟨r, cl, bSp⟩ :: st) sn)
  | seen (o : Int × List V) (h : v.1 = 2) (ho : objO s v = some o) (hk : v.2 ∈ ys.map (·.1)) (hn : v.2 ∈ sn) (e : T = 64 :: (Go.Lib.itoa (ixY ys v.2) ++ shL ys (⟨r, cl, bSp⟩ :: st) sn))
  | arr (o : Int × List V) (h : v.1 = 2) (ho : objO s v = some o) (hk : v.2 ∈ ys.map (·.1)) (hn : v.2 ∉ sn) (hr : o.1 = -1) (hg : ∀ c ∈ o.2, Good s ys c) (e : T = 64 :: (Go.Lib.itoa (ixY ys v.2) ++ 91 :: shL ys (⟨o.2, bRb, .empty⟩ :: ⟨r, cl, bSp⟩ :: st) (sn ++ [v.2])))
      (hm : muA ys (⟨o.2, bRb, .empty⟩ :: ⟨r, cl, bSp⟩ :: st) (sn ++ [v.2]) < muA ys (⟨v :: r, cl, bSp⟩ :: st) sn)
  | rcd (o : Int × List V) (h : v.1 = 2) (ho : objO s v = some o) (hk : v.2 ∈ ys.map (·.1)) (hn : v.2 ∉ sn) (hg : ∀ c ∈ o.2, Good s ys c) (e : T = 64 :: (Go.Lib.itoa (ixY ys v.2) ++ 123 :: (Go.Lib.itoa o.1 ++ shL ys (⟨o.2, bRc, bSp⟩ :: ⟨r, cl, bSp⟩ :: st) (sn ++ [v.2]))))
      (hm : muA ys (⟨o.2, bRc, bSp⟩ :: ⟨r, cl, bSp⟩ :: st) (sn ++ [v.2]) < muA ys (⟨v :: r, cl, bSp⟩ :: st) sn)
theorem muA_opn {ys : Ys} {sn : List Int} {v : V} {t u : ByteArray} {l : Lv} {n : Int} (h : shV ys sn v = .opn t u n l) (r : List V) (cl sp : ByteArray) (st : List Lv) : muA ys (l :: ⟨r, cl, bSp⟩ :: st) (sn ++ [n]) < muA ys (⟨v :: r, cl, sp⟩ :: st) sn := by
  obtain ⟨o, ho, hn, hl⟩ := shV_opn h
  have hm := muY_opn ho hn
  unfold muA
  rw [muS_cons, muS_cons, muS_cons, hl]
  dsimp only [List.length_cons]
  omega
theorem Tok.text {s : HS} {ys : Ys} {sn : List Int} {v : V} (h : Tok s ys sn v) (r : List V) (cl sp : ByteArray) (st : List Lv) : ∃ T, shL ys (⟨v :: r, cl, sp⟩ :: st) sn = bl sp ++ T ∧ Txt s ys sn v r cl st T := by
  cases h with
  | num h e => exact ⟨_, by rw [shL_one ys cl sp v r st sn (.inl e), bl_itoa], .num h rfl⟩
  | nul h e => exact ⟨_, by rw [shL_one ys cl sp v r st sn (.inl e)]; rfl, .nul h rfl⟩
  | seen o h ho hk hn e => exact ⟨_, by rw [shL_one ys cl sp v r st sn (.inr e), bl_app, bl_itoa]; rfl, .seen o h ho hk hn rfl⟩
  | arr o h ho hk hn hr hg e => exact ⟨_, by rw [shL_opn ys cl sp v r st sn e, bl_app, bl_itoa, List.append_assoc]; rfl, .arr o h ho hk hn hr hg rfl (muA_opn e r cl bSp st)⟩
  | rcd o h ho hk hn hg e => exact ⟨_, by rw [shL_opn ys cl sp v r st sn e, bl_app, bl_app, bl_itoa, bl_itoa, List.append_assoc, List.append_assoc]; rfl, .rcd o h ho hk hn hg rfl (muA_opn e r cl bSp st)⟩
/-- A value's text begins with none of the signs that end one. -/
theorem Txt.head {s : HS} {ys : Ys} {sn : List Int} {v : V} {r : List V} {cl : ByteArray} {st : List Lv} {T : List UInt8} (h : Txt s ys sn v r cl st T) : ∃ c k, T = c :: k ∧ c ≠ 93 ∧ c ≠ 125 := by
  cases h with
  | num h e =>
    obtain ⟨c, l, e1, hc⟩ := itoa_head v.2
    rw [e1] at e
    refine ⟨c, _, e, ?_, ?_⟩ <;> (rintro rfl; rcases hc with hc | hc; · cases hc
                                  · exact not_isD (by decide) hc)
  | nul h e => exact ⟨_, _, e, by decide, by decide⟩
  | seen o h ho hk hn e => exact ⟨_, _, e, by decide, by decide⟩
  | arr o h ho hk hn hr hg e hm => exact ⟨_, _, e, by decide, by decide⟩
  | rcd o h ho hk hn hg e hm => exact ⟨_, _, e, by decide, by decide⟩
end Go.Heap
namespace Go.Heap
open Go Go.Eng Go.Proofs.YtkcacgjbofabfaaDoor
theorem ixY_get {n : Int} : ∀ {ys : Ys}, n ∈ ys.map (·.1) → ∃ y, ys[ixY ys n]? = some y ∧ y.1 = n := by
  intro ys
  induction ys with
  | nil => intro h; cases h
  | cons y ys ih =>
    intro h
    rw [ixY_cons]
    by_cases hn : y.1 = n
    · rw [if_pos hn]; exact ⟨y, rfl, hn⟩
    · rw [if_neg hn]
      rw [List.map_cons, List.mem_cons] at h
      obtain ⟨z, h1, h2⟩ := ih (h.resolve_left fun e => hn e.symm)
      exact ⟨z, by simpa using h1, h2⟩
theorem ixY_inj {ys : Ys} {n m : Int} (hn : n ∈ ys.map (·.1)) (hm : m ∈ ys.map (·.1)) (h : ixY ys n = ixY ys m) : n = m := by
  obtain ⟨y, h1, rfl⟩ := ixY_get hn
  obtain ⟨z, h2, rfl⟩ := ixY_get hm
  rw [h, h2] at h1
  cases h1; rfl
def PX (ys zs : Ys) (P : List (Int × Int)) : Prop := ∀ p ∈ P, ixY ys p.1 = ixY zs p.2 ∧ p.1 ∈ ys.map (·.1) ∧ p.2 ∈ zs.map (·.1)
theorem PX.inj {ys zs : Ys} {P : List (Int × Int)} (h : PX ys zs P) : InjP P := by
  constructor
  · intro a b c h1 h2
    obtain ⟨e1, k1, l1⟩ := h _ h1
    obtain ⟨e2, k2, l2⟩ := h _ h2
    dsimp only at *
    exact ixY_inj l1 l2 (e1.symm.trans e2)
  · intro a b c h1 h2
    obtain ⟨e1, k1, l1⟩ := h _ h1
    obtain ⟨e2, k2, l2⟩ := h _ h2
    dsimp only at *
    exact ixY_inj k1 k2 (e1.trans e2.symm)
theorem PX.snoc {ys zs : Ys} {P : List (Int × Int)} (h : PX ys zs P) {a b : Int} (e : ixY ys a = ixY zs b) (ha : a ∈ ys.map (·.1)) (hb : b ∈ zs.map (·.1)) : PX ys zs (P ++ [(a, b)]) := by
  intro p hp
  rcases List.mem_append.1 hp with hp | hp
  · exact h p hp
  · rw [List.mem_singleton] at hp; subst hp; exact ⟨e, ha, hb⟩
theorem no_int {s : HS} {v : V} (h : v.1 ≠ 2) : objO s v = none := by
  unfold objO atF
  rw [if_neg (fun e => h e.1)]; rfl
/-- Where one list has ended so has the other. -/
theorem no_mix {t : HS} {ys zs : Ys} {sn sn' : List Int} {cl sp : ByteArray} {w : V} {r : List V} {st st' : List Lv} (h : StK (⟨[], cl, sp⟩ :: st)) (h' : StK (⟨w :: r, cl, sp⟩ :: st')) {T : List UInt8} (he : shL zs (⟨w :: r, cl, sp⟩ :: st') sn' = bl sp ++ T) (hT : Txt t zs sn' w r cl st' T)
    (e : shL ys (⟨[], cl, sp⟩ :: st) sn = shL zs (⟨w :: r, cl, sp⟩ :: st') sn') : False := by
  obtain ⟨c, k, rfl, h1, h2⟩ := hT.head
  rw [he, shL_end] at e
  obtain ⟨hs, hc, _⟩ := h
  dsimp only at hs hc
  rcases hc with ⟨rfl, rfl⟩ | ⟨_, rfl | rfl⟩
  · rw [shL_nil] at e
    have := congrArg List.length e
    simp [bl] at this
  · rcases hs with rfl | rfl
    · exact h1 (List.cons.inj (show (93 :: _ : List UInt8) = c :: k from e)).1.symm
    · cases (List.cons.inj (show (93 :: _ : List UInt8) = 32 :: _ from e)).1
  · rcases hs with rfl | rfl
    · exact h2 (List.cons.inj (show (125 :: _ : List UInt8) = c :: k from e)).1.symm
    · cases (List.cons.inj (show (125 :: _ : List UInt8) = 32 :: _ from e)).1
theorem itoa_not {n : Int} {X Y : List UInt8} {c : UInt8} (h : Go.Lib.itoa n ++ X = c :: Y) (h1 : c ≠ 45) (h2 : ¬ (48 ≤ c.toNat ∧ c.toNat ≤ 57)) : False := by
  obtain ⟨d, l, e, hd⟩ := itoa_head n
  rw [e, List.cons_append] at h
  injection h with h _
  subst h
  rcases hd with hd | hd
  · exact h1 hd
  · exact h2 hd
theorem stop_cons {c : UInt8} {k : List UInt8} (h : ¬ (48 ≤ c.toNat ∧ c.toNat ≤ 57)) : Stop (c :: k) := .inr ⟨c, k, rfl, h⟩
theorem tail_not {X : List UInt8} (h : X = [] ∨ ∃ c k, X = c :: k ∧ (c = 32 ∨ c = 93 ∨ c = 125)) {c : UInt8} {k : List UInt8} (e : X = c :: k) (h1 : c ≠ 32 ∧ c ≠ 93 ∧ c ≠ 125) : False := by
  rcases h with h | ⟨d, l, h, hd⟩
  · rw [h] at e; cases e
  · rw [h] at e
    injection e with e _
    subst e
    rcases hd with rfl | rfl | rfl
    · exact h1.1 rfl
    · exact h1.2.1 rfl
    · exact h1.2.2 rfl
abbrev LRs (s t : HS) (P : List (Int × Int)) : List Lv → List Lv → Prop := All2 (fun l k => All2 (VR s t (PRel P)) l.rest k.rest)
def Fin2 (s t : HS) (ys zs : Ys) (P : List (Int × Int)) (st st' : List Lv) : Prop := ∃ P', P <+: P' ∧ PX ys zs P' ∧ LRs s t P' st st' ∧ ∀ p ∈ P', p ∈ P ∨ ObjR s t (PRel P') p.1 p.2
theorem Fin2.next {s t : HS} {ys zs : Ys} {P : List (Int × Int)} {v w : V} {r r' : List V} {cl cl' sp sp' : ByteArray} {st st' : List Lv} (hv : VR s t (PRel P) v w) (h : Fin2 s t ys zs P (⟨r, cl, bSp⟩ :: st) (⟨r', cl', bSp⟩ :: st')) : Fin2 s t ys zs P (⟨v :: r, cl, sp⟩ :: st) (⟨w :: r', cl', sp'⟩ :: st') := by
  obtain ⟨P', h1, h2, ⟨h3, h4⟩, h5⟩ := h
  exact ⟨P', h1, h2, ⟨⟨hv.mono (pre_mem h1), h3⟩, h4⟩, h5⟩
theorem Fin2.opn {s t : HS} {ys zs : Ys} {P : List (Int × Int)} {v w : V} {o q : Int × List V} {r r' : List V} {cl cl' sp sp' cl2 sp2 cl3 sp3 : ByteArray} {st st' : List Lv} (hv : v.1 = 2) (hw : w.1 = 2) (ho : objO s v = some o) (hq : objO t w = some q) (e : o.1 = q.1) (h : Fin2 s t ys zs (P ++ [(v.2, w.2)]) (⟨o.2, cl2, sp2⟩ :: ⟨r, cl, bSp⟩ :: st) (⟨q.2, cl3, sp3⟩ :: ⟨r', cl', bSp⟩ :: st')) : Fin2 s t ys zs P (⟨v :: r, cl, sp⟩ :: st) (⟨w :: r', cl', sp'⟩ :: st') := by
  obtain ⟨P', h1, h2, ⟨h3, h4, h5⟩, h6⟩ := h
  have hm : (v.2, w.2) ∈ P' := h1.subset (by simp)
  refine ⟨P', ((List.prefix_append _ _).trans h1), h2, ⟨⟨⟨hv.trans hw.symm, .inr ⟨o, q, ho, hq, hm⟩⟩, h4⟩, h5⟩, fun p hp => ?_⟩
  rcases h6 p hp with h | h
  · rcases List.mem_append.1 h with h | h
    · exact .inl h
    · rw [List.mem_singleton] at h
      subst h
      refine .inr ⟨o, q, ?_, ?_, e, h3⟩
      · rw [show ((2, v.2) : V) = v from Prod.ext hv.symm rfl]; exact ho
      · rw [show ((2, w.2) : V) = w from Prod.ext hw.symm rfl]; exact hq
  · exact .inr h
theorem par {s t : HS} {ys zs : Ys} (hy : Clo s ys) (hz : Clo t zs) : ∀ (n : Nat) (st st' : List Lv) (P : List (Int × Int)), muA ys st (P.map (·.1)) ≤ n → StK st → StK st' → All2 (fun l k : Lv => l.cl = k.cl ∧ l.sp = k.sp) st st' →
    (∀ l ∈ st, ∀ v ∈ l.rest, Good s ys v) → (∀ l ∈ st', ∀ v ∈ l.rest, Good t zs v) → PX ys zs P → shL ys st (P.map (·.1)) = shL zs st' (P.map (·.2)) → Fin2 s t ys zs P st st' := by
  intro n
  induction n with
  | zero =>
    intro st st' P hn _ _ h _ _ hP _
    match st, st', h with
    | [], [], _ => exact ⟨P, List.prefix_rfl, hP, trivial, fun p hp => .inl hp⟩
    | l :: st, k :: st', _ => unfold muA at hn; rw [muS_cons] at hn; omega
    | [], _ :: _, h => exact h.elim
    | _ :: _, [], h => exact h.elim
  | succ n ih =>
    intro st st' P hn hk hk' h hg hg' hP he
    match st, st', h with
    | [], [], _ => exact ⟨P, List.prefix_rfl, hP, trivial, fun p hp => .inl hp⟩
    | [], _ :: _, h => exact h.elim
    | _ :: _, [], h => exact h.elim
    | ⟨[], cl, sp⟩ :: st, ⟨[], cl', sp'⟩ :: st', ⟨⟨h1, h2⟩, h⟩ =>
      dsimp only at h1 h2
      subst h1 h2
      rw [shL_end, shL_end] at he
      have hmu : muA ys st (P.map (·.1)) ≤ n := by unfold muA at hn ⊢; rw [muS_cons] at hn; dsimp only [List.length_nil] at hn; omega
      obtain ⟨P', q1, q2, q3, q4⟩ := ih st st' P hmu hk.2.2 hk'.2.2 h (fun l hl => hg l (by simp [hl])) (fun l hl => hg' l (by simp [hl])) hP (List.append_cancel_left he)
      exact ⟨P', q1, q2, ⟨trivial, q3⟩, q4⟩
    | ⟨[], cl, sp⟩ :: st, ⟨w :: r, cl', sp'⟩ :: st', ⟨⟨h1, h2⟩, h⟩ =>
      dsimp only at h1 h2
      subst h1 h2
      obtain ⟨T, e1, e2⟩ := ((hg' _ List.mem_cons_self w (by simp)).tok hz (P.map (·.2))).text r cl sp st'
      exact (no_mix hk hk' e1 e2 he).elim
    | ⟨v :: r, cl, sp⟩ :: st, ⟨[], cl', sp'⟩ :: st', ⟨⟨h1, h2⟩, h⟩ =>
      dsimp only at h1 h2
      subst h1 h2
      obtain ⟨T, e1, e2⟩ := ((hg _ List.mem_cons_self v (by simp)).tok hy (P.map (·.1))).text r cl sp st
      exact (no_mix hk' hk e1 e2 he.symm).elim
    | ⟨v :: r, cl, sp⟩ :: st, ⟨w :: r', cl', sp'⟩ :: st', ⟨⟨h1, h2⟩, h⟩ =>
      dsimp only at h1 h2
      subst h1 h2
      obtain ⟨T, e1, e2⟩ := ((hg _ List.mem_cons_self v (by simp)).tok hy (P.map (·.1))).text r cl sp st
      obtain ⟨T', f1, f2⟩ := ((hg' _ List.mem_cons_self w (by simp)).tok hz (P.map (·.2))).text r' cl sp st'
      rw [e1, f1] at he
      have hT := List.append_cancel_left he
      have hmu : muA ys (⟨r, cl, bSp⟩ :: st) (P.map (·.1)) ≤ n := by unfold muA at hn ⊢; rw [muS_cons] at hn ⊢; dsimp only [List.length_cons] at hn ⊢; omega
      have hmu2 : muA ys (⟨v :: r, cl, bSp⟩ :: st) (P.map (·.1)) ≤ n + 1 := by unfold muA at hn ⊢; rw [muS_cons] at hn ⊢; exact hn
      have hgr : ∀ l ∈ (⟨r, cl, bSp⟩ :: st : List Lv), ∀ v ∈ l.rest, Good s ys v := by
        intro l hl
        rcases List.mem_cons.1 hl with rfl | hl
        · intro x hx; exact hg _ List.mem_cons_self x (by simp [show x ∈ r from hx])
        · exact hg l (by simp [hl])
      have hgr' : ∀ l ∈ (⟨r', cl, bSp⟩ :: st' : List Lv), ∀ v ∈ l.rest, Good t zs v := by
        intro l hl
        rcases List.mem_cons.1 hl with rfl | hl
        · intro x hx; exact hg' _ List.mem_cons_self x (by simp [show x ∈ r' from hx])
        · exact hg' l (by simp [hl])
      have rec1 := fun hX => ih (⟨r, cl, bSp⟩ :: st) (⟨r', cl, bSp⟩ :: st') P hmu hk.next hk'.next ⟨⟨rfl, rfl⟩, h⟩ hgr hgr' hP hX
      have t1 := tail_ok ys (sn := P.map (·.1)) hk.next
      have t2 := tail_ok zs (sn := P.map (·.2)) hk'.next
      have rec2 := fun (o q : Int × List V) (c2 s2 : ByteArray) (hs2 : s2 = .empty ∨ s2 = bSp) (hc2 : c2 = bRb ∨ c2 = bRc) (ho : ∀ c ∈ o.2, Good s ys c) (hq : ∀ c ∈ q.2, Good t zs c) (hm : muA ys (⟨o.2, c2, s2⟩ :: ⟨r, cl, bSp⟩ :: st) (P.map (·.1) ++ [v.2]) < muA ys (⟨v :: r, cl, bSp⟩ :: st) (P.map (·.1)))
          (hix : ixY ys v.2 = ixY zs w.2) (hv : v.2 ∈ ys.map (·.1)) (hw : w.2 ∈ zs.map (·.1)) (hX : shL ys (⟨o.2, c2, s2⟩ :: ⟨r, cl, bSp⟩ :: st) (P.map (·.1) ++ [v.2]) = shL zs (⟨q.2, c2, s2⟩ :: ⟨r', cl, bSp⟩ :: st') (P.map (·.2) ++ [w.2])) =>
        ih (⟨o.2, c2, s2⟩ :: ⟨r, cl, bSp⟩ :: st) (⟨q.2, c2, s2⟩ :: ⟨r', cl, bSp⟩ :: st') (P ++ [(v.2, w.2)]) (by rw [List.map_append]; exact Nat.le_of_lt_succ (Nat.lt_of_lt_of_le hm hmu2))
          ⟨hs2, .inr ⟨by simp, hc2⟩, hk.next⟩ ⟨hs2, .inr ⟨by simp, hc2⟩, hk'.next⟩ ⟨⟨rfl, rfl⟩, ⟨rfl, rfl⟩, h⟩
          (fun l hl => (List.mem_cons.1 hl).elim (fun e => by subst e; exact ho) (hgr l)) (fun l hl => (List.mem_cons.1 hl).elim (fun e => by subst e; exact hq) (hgr' l)) (hP.snoc hix hv hw) (by rw [List.map_append, List.map_append]; exact hX)
      clear ih hg hg' hgr hgr' he e1 f1
      cases e2 with
      | num h e =>
        subst e
        cases f2 with
        | num h' e' =>
          subst e'
          obtain ⟨q1, q2⟩ := itoa_cut (stop_of t1) (stop_of t2) hT
          exact Fin2.next ⟨h.trans h'.symm, .inl ⟨no_int (by rw [h]; decide), no_int (by rw [h']; decide), q1⟩⟩ (rec1 q2)
        | nul h' e' => subst e'; exact (itoa_not hT (by decide) (by decide)).elim
        | seen q h' hq hk hn' e' => subst e'; exact (itoa_not hT (by decide) (by decide)).elim
        | arr q h' hq hk hn' hr hg e' hm => subst e'; exact (itoa_not hT (by decide) (by decide)).elim
        | rcd q h' hq hk hn' hg e' hm => subst e'; exact (itoa_not hT (by decide) (by decide)).elim
      | nul h e =>
        subst e
        cases f2 with
        | num h' e' => subst e'; exact (itoa_not hT.symm (by decide) (by decide)).elim
        | nul h' e' =>
          subst e'
          have q2 := (List.cons.inj (List.cons.inj (List.cons.inj (List.cons.inj hT).2).2).2).2
          exact Fin2.next ⟨h.1.trans h'.1.symm, .inl ⟨no_int (by rw [h.1]; decide), no_int (by rw [h'.1]; decide), h.2.trans h'.2.symm⟩⟩ (rec1 q2)
        | seen q h' hq hk hn' e' => subst e'; cases (List.cons.inj hT).1
        | arr q h' hq hk hn' hr hg e' hm => subst e'; cases (List.cons.inj hT).1
        | rcd q h' hq hk hn' hg e' hm => subst e'; cases (List.cons.inj hT).1
      | seen o h ho hk hn e =>
        subst e
        cases f2 with
        | num h' e' => subst e'; exact (itoa_not hT.symm (by decide) (by decide)).elim
        | nul h' e' => subst e'; cases (List.cons.inj hT).1
        | seen q h' hq hk' hn' e' =>
          subst e'
          obtain ⟨q1, q2⟩ := itoa_cut (stop_of t1) (stop_of t2) (List.cons.inj hT).2
          refine Fin2.next ⟨h.trans h'.symm, .inr ⟨o, q, ho, hq, ?_⟩⟩ (rec1 q2)
          obtain ⟨p, hp, ep⟩ := List.mem_map.1 hn
          try dsimp only at ep
          obtain ⟨x1, x2, x3⟩ := hP p hp
          have : p.2 = w.2 := ixY_inj x3 hk' (by rw [← x1, ep]; omega)
          show (v.2, w.2) ∈ P
          rw [← this, ← ep]; exact hp
        | arr q h' hq hk hn' hr hg e' hm => subst e'; exact (tail_not t1 (itoa_cut (stop_of t1) (stop_cons (by decide)) (List.cons.inj hT).2).2 (by decide)).elim
        | rcd q h' hq hk hn' hg e' hm => subst e'; exact (tail_not t1 (itoa_cut (stop_of t1) (stop_cons (by decide)) (List.cons.inj hT).2).2 (by decide)).elim
      | arr o h ho hk hn hr hg e hm =>
        subst e
        cases f2 with
        | num h' e' => subst e'; exact (itoa_not hT.symm (by decide) (by decide)).elim
        | nul h' e' => subst e'; cases (List.cons.inj hT).1
        | seen q h' hq hk' hn' e' => subst e'; exact (tail_not t2 (itoa_cut (stop_of t2) (stop_cons (by decide)) (List.cons.inj hT.symm).2).2 (by decide)).elim
        | arr q h' hq hk' hn' hr' hg' e' hm' =>
          subst e'
          obtain ⟨q1, q2⟩ := itoa_cut (stop_cons (by decide)) (stop_cons (by decide)) (List.cons.inj hT).2
          exact Fin2.opn h h' ho hq (hr.trans hr'.symm) (rec2 o q bRb .empty (.inl rfl) (.inl rfl) hg hg' hm (by omega) hk hk' (List.cons.inj q2).2)
        | rcd q h' hq hk' hn' hg' e' hm' =>
          subst e'
          cases (List.cons.inj (itoa_cut (stop_cons (by decide)) (stop_cons (by decide)) (List.cons.inj hT).2).2).1
      | rcd o h ho hk hn hg e hm =>
        subst e
        cases f2 with
        | num h' e' => subst e'; exact (itoa_not hT.symm (by decide) (by decide)).elim
        | nul h' e' => subst e'; cases (List.cons.inj hT).1
        | seen q h' hq hk' hn' e' => subst e'; exact (tail_not t2 (itoa_cut (stop_of t2) (stop_cons (by decide)) (List.cons.inj hT.symm).2).2 (by decide)).elim
        | arr q h' hq hk' hn' hr' hg' e' hm' =>
          subst e'
          cases (List.cons.inj (itoa_cut (stop_cons (by decide)) (stop_cons (by decide)) (List.cons.inj hT).2).2).1
        | rcd q h' hq hk' hn' hg' e' hm' =>
          subst e'
          obtain ⟨q1, q2⟩ := itoa_cut (stop_cons (by decide)) (stop_cons (by decide)) (List.cons.inj hT).2
          have t3 := tail_ok ys (r := o.2) (cl := bRc) (st := ⟨r, cl, bSp⟩ :: st) (sn := P.map (·.1) ++ [v.2]) ⟨.inr rfl, .inr ⟨by simp, .inr rfl⟩, StK.next ‹StK (⟨v :: r, cl, sp⟩ :: st)›⟩
          have t4 := tail_ok zs (r := q.2) (cl := bRc) (st := ⟨r', cl, bSp⟩ :: st') (sn := P.map (·.2) ++ [w.2]) ⟨.inr rfl, .inr ⟨by simp, .inr rfl⟩, StK.next ‹StK (⟨w :: r', cl, sp⟩ :: st')›⟩
          obtain ⟨q3, q4⟩ := itoa_cut (stop_of t3) (stop_of t4) (List.cons.inj q2).2
          exact Fin2.opn h h' ho hq q3 (rec2 o q bRc bSp (.inr rfl) (.inr rfl) hg hg' hm (by omega) hk hk' q4)
/-! ### what is reached -/
theorem dfsN_clo (s : HS) : ∀ (f : Nat) (sn : List Int) (t : List V), t.length + wt s sn ≤ f → ∀ v, (v ∈ t ∨ ∃ y ∈ dfsN s f sn t, v ∈ y.2.2) → ∀ o, objO s v = some o → v.2 ∈ sn ++ (dfsN s f sn t).map (·.1) := by
  intro f
  induction f with
  | zero =>
    intro sn t hf v hv o ho
    have : t = [] := List.eq_nil_of_length_eq_zero (by omega)
    subst this
    rcases hv with hv | ⟨y, hy, _⟩
    · cases hv
    · simp [dfsN] at hy
  | succ f ih =>
    intro sn t hf v hv o ho
    cases t with
    | nil =>
      rcases hv with hv | ⟨y, hy, _⟩
      · cases hv
      · simp [dfsN] at hy
    | cons v0 t =>
      rw [List.length_cons] at hf
      unfold dfsN at hv ⊢
      cases h0 : objO s v0 with
      | none =>
        rw [h0] at hv
        dsimp only at hv ⊢
        refine ih sn t (by omega) v ?_ o ho
        rcases hv with hv | hv
        · rcases List.mem_cons.1 hv with rfl | hv
          · rw [h0] at ho; cases ho
          · exact .inl hv
        · exact .inr hv
      | some q =>
        rw [h0] at hv
        dsimp only at hv ⊢
        by_cases hin : v0.2 ∈ sn
        · rw [if_pos hin] at hv ⊢
          rcases hv with hv | hv
          · rcases List.mem_cons.1 hv with rfl | hv
            · exact List.mem_append_left _ hin
            · exact ih sn t (by omega) v (.inl hv) o ho
          · exact ih sn t (by omega) v (.inr hv) o ho
        · rw [if_neg hin] at hv ⊢
          have hw := wt_visit h0 hin
          have key : (v ∈ q.2 ++ t ∨ ∃ y ∈ dfsN s f (sn ++ [v0.2]) (q.2 ++ t), v ∈ y.2.2) → v.2 ∈ sn ++ List.map (fun x => x.1) ((v0.2, q) :: dfsN s f (sn ++ [v0.2]) (q.2 ++ t)) := by
            intro hv
            have := ih (sn ++ [v0.2]) (q.2 ++ t) (by rw [List.length_append]; omega) v hv o ho
            rw [List.append_assoc] at this
            exact this
          rcases hv with hv | ⟨y, hy, hv⟩
          · rcases List.mem_cons.1 hv with rfl | hv
            · simp
            · exact key (.inl (List.mem_append_right _ hv))
          · rcases List.mem_cons.1 hy with rfl | hy
            · exact key (.inl (List.mem_append_left _ hv))
            · exact key (.inr ⟨y, hy, hv⟩)
def oddV (s : HS) (v : V) : Bool := decide (v.1 ≠ 0 ∧ (v.1 ≠ 1 ∨ v.2 ≠ 0) ∧ objO s v = none)
def oddL (s : HS) (x : List V) : List V := x ++ (dfs s [] x).flatMap (·.2.2)
def oddF (s : HS) (x : List V) : Bool := (oddL s x).any (oddV s)
theorem good_of {s : HS} {x : List V} (h : oddF s x = false) {v : V} (hv : v ∈ oddL s x) : Good s (dfs s [] x) v := by
  unfold oddF at h
  rw [List.any_eq_false] at h
  have h1 := h v hv
  unfold oddV at h1
  rw [decide_eq_true_eq] at h1
  by_cases c0 : v.1 = 0
  · exact .inl c0
  by_cases c1 : v.1 = 1 ∧ v.2 = 0
  · exact .inr (.inl c1)
  cases ho : objO s v with
  | none => exact (h1 ⟨c0, (Classical.em (v.1 = 1)).elim (fun e => .inr fun e2 => c1 ⟨e, e2⟩) .inl, ho⟩).elim
  | some o =>
    refine .inr (.inr ⟨o, ho, ?_⟩)
    have := dfsN_clo s _ [] x (Nat.le_refl _) v (by
      unfold oddL at hv
      rcases List.mem_append.1 hv with hv | hv
      · exact .inl hv
      · exact .inr (List.mem_flatMap.1 hv)) o ho
    simpa [dfs] using this
theorem clo_of {s : HS} {x : List V} (hr : ∀ o ∈ s.objs, -1 ≤ o.1) (h : oddF s x = false) : Clo s (dfs s [] x) := by
  have hm := dfsN_mem s (x.length + wt s []) [] x
  refine ⟨hm, fun y hy c hc => good_of h (List.mem_append_right _ (List.mem_flatMap.2 ⟨y, hy, hc⟩)), fun y hy => ?_⟩
  obtain ⟨k, _, hk⟩ := objO_spec (hm y hy)
  exact hr _ (List.mem_of_getElem? hk)
theorem iso_of_show {s t : HS} {x y : List V} (hs : ∀ o ∈ s.objs, -1 ≤ o.1) (ht : ∀ o ∈ t.objs, -1 ≤ o.1) (hx : oddF s x = false) (hy : oddF t y = false) (h : showF (dfs s [] x) x = showF (dfs t [] y) y) : ∃ R, Iso s t R ∧ All2 (VR s t R) x y := by
  have e : ∀ (s : HS) (x : List V), bl (showF (dfs s [] x) x) = shL (dfs s [] x) [⟨x, .empty, .empty⟩] [] := by
    intro s x
    unfold showF
    rw [shC_of (dfs s [] x) (by unfold muA; rw [muS_cons]; unfold muS; dsimp only; simp)]
    rfl
  have h2 := congrArg bl h
  rw [e, e] at h2
  obtain ⟨P', h3, h4, ⟨h5, _⟩, h6⟩ := par (clo_of hs hx) (clo_of ht hy) _ [⟨x, .empty, .empty⟩] [⟨y, .empty, .empty⟩] [] (Nat.le_refl _) ⟨.inl rfl, .inl ⟨rfl, rfl⟩, trivial⟩ ⟨.inl rfl, .inl ⟨rfl, rfl⟩, trivial⟩ ⟨⟨rfl, rfl⟩, trivial⟩
    (fun l hl v hv => by rw [List.mem_singleton] at hl; subst hl; exact good_of hx (List.mem_append_left _ hv)) (fun l hl v hv => by rw [List.mem_singleton] at hl; subst hl; exact good_of hy (List.mem_append_left _ hv)) (fun p hp => by cases hp) h2
  refine ⟨PRel P', ⟨h4.inj.1, h4.inj.2, fun n m hm => ?_⟩, h5⟩
  rcases h6 _ hm with h | h
  · cases h
  · exact h
/-- Where nothing is odd heaps are alike just if they are shown alike. -/
theorem texts_same {s t : HS} {x y : List V} (hs : ∀ o ∈ s.objs, -1 ≤ o.1) (ht : ∀ o ∈ t.objs, -1 ≤ o.1) (hx : oddF s x = false) (hy : oddF t y = false) : sameF s x t y = decide (showF (dfs s [] x) x = showF (dfs t [] y) y) := by
  rw [Bool.eq_iff_iff, decide_eq_true_eq]
  constructor
  · intro h
    obtain ⟨R, h1, h2⟩ := iso_of_same h
    exact show_of_iso h1 h2
  · intro h
    obtain ⟨R, h1, h2⟩ := iso_of_show hs ht hx hy h
    exact same_of_iso h1 h2
end Go.Heap
