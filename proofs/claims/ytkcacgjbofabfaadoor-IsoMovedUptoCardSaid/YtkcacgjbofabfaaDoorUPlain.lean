/- Layer 3: the document's texts, plainly. -/
import Derived.Test.YtkcacgjbofabfaaDoorSPlain
import Derived.Test.YtkcacgjbofabfaaDoorRReach2
set_option linter.unusedSimpArgs false
set_option linter.unusedVariables false
set_option linter.all false
namespace Go.Heap
open Go Go.Eng Go.Proofs.YtkcacgjbofabfaaDoor
def dBase (s : HS) (ord : List Int) (sh : Int) (v : V) (k : ByteArray × Int) : ByteArray × Int :=
  if v.1 = 0 then (itoaB v.2, sh)
  else if v.1 = 1 ∧ v.2 = 0 then (bNull, sh)
  else match objO s v with
    | none => (bQ, sh)
    | some _ => if findF ord v.2 < sh then (bAt ++ itoaB (findF ord v.2), sh) else k
def dStep (d : Int → V → ByteArray × Int) (a : ByteArray × Int × ByteArray) (c : V) : ByteArray × Int × ByteArray := (a.1 ++ a.2.2 ++ (d a.2.1 c).1, (d a.2.1 c).2, bSp)
def dIni (i : Int) (o : Int × List V) : ByteArray × Int × ByteArray := if o.1 < 0 then (bAt ++ itoaB i ++ bLb, i + 1, .empty) else (bAt ++ itoaB i ++ (bLc ++ itoaB o.1), i + 1, bSp)
def dVo (i : Int) (d : Int → V → ByteArray × Int) (o : Int × List V) : ByteArray × Int :=
  ((o.2.foldl (dStep d) (dIni i o)).1 ++ (if o.1 < 0 then bRb else bRc), (o.2.foldl (dStep d) (dIni i o)).2.1)
/-- A value's text, where so many things have been shown. -/
def dV (s : HS) (ord : List Int) : Nat → Int → V → ByteArray × Int
  | 0, sh, v => dBase s ord sh v (.empty, sh)
  | f + 1, sh, v => dBase s ord sh v (match objO s v with | some o => dVo (findF ord v.2) (dV s ord f) o | none => (.empty, sh))
def dShow (s : HS) (ord : List Int) (f : Nat) (l : List V) : ByteArray := (l.foldl (dStep (dV s ord f)) (.empty, 0, .empty)).1
theorem foldl_sp (d : Int → V → ByteArray × Int) (l : List V) (a : ByteArray × Int × ByteArray) : (l.foldl (dStep d) a).2.2 = if l = [] then a.2.2 else bSp := by
  rcases List.eq_nil_or_concat l with rfl | ⟨l, c, rfl⟩
  · rfl
  · rw [List.concat_eq_append, List.foldl_append, if_neg (by simp)]; rfl
/-! ### how great texts are -/
def wOf (s : HS) (n : Int) : Nat := match objO s (2, n) with | some o => 2 * o.2.length + 2 | none => 2
def pW (s : HS) (ord : List Int) (k : Int) : Nat := ((ord.take k.toNat).map (wOf s)).sum
theorem pW_mono (s : HS) (ord : List Int) {a b : Int} (h : a ≤ b) : pW s ord a ≤ pW s ord b := by
  unfold pW
  have : ord.take a.toNat = (ord.take b.toNat).take a.toNat := by rw [List.take_take]; congr 1; omega
  rw [this]
  conv => rhs; rw [← List.take_append_drop a.toNat (ord.take b.toNat)]
  rw [List.map_append, List.sum_append]; omega
theorem pW_all (s : HS) (ord : List Int) {a : Int} : pW s ord a ≤ pW s ord ord.length := by
  rcases Int.le_total a ord.length with h | h
  · exact pW_mono s ord h
  · unfold pW; rw [List.take_of_length_le (by omega), Int.toNat_natCast, List.take_length]; exact Nat.le_refl _
theorem findF_at {ord : List Int} {n : Int} (h : 0 ≤ findF ord n) : ∃ k : Nat, findF ord n = k ∧ ord[k]? = some n := by
  unfold findF at h ⊢
  split
  · rename_i k hk
    exact ⟨k, rfl, by
      have := List.idxOf?_eq_some_iff.1 hk
      obtain ⟨h1, h2, _⟩ := this
      rw [List.getElem?_eq_getElem h1]; simpa using h2⟩
  · rename_i hk; rw [hk] at h; simp at h
abbrev R64 (n : Int) : Prop := -9223372036854775808 ≤ n ∧ n ≤ 9223372036854775807
/-- What a text's length is bounded by. -/
def DOk (s : HS) (ord : List Int) (d : Int → V → ByteArray × Int) : Prop := ∀ (sh : Int) (v : V), 0 ≤ sh → sh ≤ ord.length → R64 v.2 → sh ≤ (d sh v).2 ∧ (d sh v).2 ≤ ord.length ∧ (d sh v).1.size + 128 * pW s ord sh ≤ 128 + 128 * pW s ord (d sh v).2
theorem fold_ok {s : HS} {ord : List Int} {d : Int → V → ByteArray × Int} (hd : DOk s ord d) : ∀ (l : List V) (a : ByteArray × Int × ByteArray), (∀ c ∈ l, R64 c.2) → 0 ≤ a.2.1 → a.2.1 ≤ ord.length → a.2.2.size ≤ 1 →
    a.2.1 ≤ (l.foldl (dStep d) a).2.1 ∧ (l.foldl (dStep d) a).2.1 ≤ ord.length ∧ (l.foldl (dStep d) a).1.size + 128 * pW s ord a.2.1 ≤ a.1.size + 129 * l.length + 128 * pW s ord (l.foldl (dStep d) a).2.1 := by
  intro l
  induction l with
  | nil => intro a _ h0 h1 _; exact ⟨Int.le_refl _, h1, by simp⟩
  | cons c l ih =>
    intro a hr h0 h1 h2
    obtain ⟨k1, k2, k3⟩ := hd a.2.1 c h0 h1 (hr c (by simp))
    obtain ⟨q1, q2, q3⟩ := ih (dStep d a c) (fun x hx => hr x (by simp [hx])) (by show 0 ≤ (d a.2.1 c).2; omega) k2 (by show bSp.size ≤ 1; decide)
    have e1 : (dStep d a c).2.1 = (d a.2.1 c).2 := rfl
    have e2 : (dStep d a c).1.size = a.1.size + a.2.2.size + (d a.2.1 c).1.size := by show (a.1 ++ a.2.2 ++ _).size = _; rw [sizeA, sizeA]
    rw [e1] at q1 q3
    rw [e2] at q3
    rw [List.foldl_cons, List.length_cons]
    exact ⟨by omega, q2, by omega⟩
theorem dBase_ok {s : HS} {ord : List Int} (hn : ord.length ≤ 1000000) {sh : Int} {v : V} {k : ByteArray × Int} (h0 : 0 ≤ sh) (h1 : sh ≤ ord.length) (hr : R64 v.2)
    (hk : ∀ o, objO s v = some o → sh ≤ findF ord v.2 → sh ≤ k.2 ∧ k.2 ≤ ord.length ∧ k.1.size + 128 * pW s ord sh ≤ 128 + 128 * pW s ord k.2) :
    sh ≤ (dBase s ord sh v k).2 ∧ (dBase s ord sh v k).2 ≤ ord.length ∧ (dBase s ord sh v k).1.size + 128 * pW s ord sh ≤ 128 + 128 * pW s ord (dBase s ord sh v k).2 := by
  unfold dBase
  have hi := itoaB_size v.2 hr.1 hr.2
  split
  · exact ⟨Int.le_refl _, h1, by dsimp only; omega⟩
  split
  · exact ⟨Int.le_refl _, h1, by have : bNull.size = 4 := by decide
                                 dsimp only; omega⟩
  cases ho : objO s v with
  | none => exact ⟨Int.le_refl _, h1, by have : bQ.size = 1 := by decide
                                         dsimp only; omega⟩
  | some o =>
    dsimp only
    split
    · rename_i hlt
      refine ⟨Int.le_refl _, h1, ?_⟩
      have hb : -1 ≤ findF ord v.2 := by unfold findF; split <;> omega
      have := itoaB_size (findF ord v.2) (by omega) (by omega)
      have e : bAt.size = 1 := by decide
      dsimp only; rw [sizeA]; omega
    · rename_i hge
      exact hk o ho (by omega)
theorem dV_ok {s : HS} {ord : List Int} (hv : ∀ o ∈ s.objs, R64 o.1 ∧ ∀ c ∈ o.2, R64 c.2) (hn : ord.length ≤ 1000000) : ∀ f, DOk s ord (dV s ord f) := by
  intro f
  induction f with
  | zero =>
    intro sh v h0 h1 hr
    unfold dV
    exact dBase_ok hn h0 h1 hr fun o _ _ => ⟨Int.le_refl _, h1, by show 0 + _ ≤ _; dsimp only; omega⟩
  | succ f ih =>
    intro sh v h0 h1 hr
    unfold dV
    refine dBase_ok hn h0 h1 hr fun o ho hge => ?_
    rw [ho]
    dsimp only
    obtain ⟨k, hk, hok⟩ := findF_at (ord := ord) (n := v.2) (by omega)
    have hkl : k < ord.length := (List.getElem?_eq_some_iff.1 hok).1
    obtain ⟨kk, hvk, hom⟩ := objO_spec ho
    obtain ⟨r1, r2⟩ := hv o (List.mem_of_getElem? hom)
    rw [hk] at hge ⊢
    have hw : pW s ord ((k : Int) + 1) = pW s ord k + (2 * o.2.length + 2) := by
      unfold pW
      have e1 : ((k : Int) + 1).toNat = k + 1 := by omega
      rw [e1, Int.toNat_natCast, List.take_succ, hok, List.map_append, List.sum_append]
      have e2 : wOf s v.2 = 2 * o.2.length + 2 := by
        unfold wOf
        have : ((2, v.2) : V) = v := by rw [hvk]
        rw [this, ho]
      simp [e2]
    have hm := pW_mono s ord hge
    have hi1 := itoaB_size (k : Int) (by omega) (by omega)
    have hi2 := itoaB_size o.1 r1.1 r1.2
    have z1 : bAt.size = 1 := by decide
    have z2 : bLb.size = 1 := by decide
    have z3 : bLc.size = 1 := by decide
    have hini : (dIni (k : Int) o).2.1 = (k : Int) + 1 ∧ (dIni (k : Int) o).2.2.size ≤ 1 ∧ (dIni (k : Int) o).1.size ≤ 46 := by
      unfold dIni
      split
      · exact ⟨rfl, by show ByteArray.empty.size ≤ 1; decide, by dsimp only; rw [sizeA, sizeA]; omega⟩
      · exact ⟨rfl, by show bSp.size ≤ 1; decide, by dsimp only; rw [sizeA, sizeA, sizeA]; omega⟩
    obtain ⟨j1, j2, j3⟩ := hini
    obtain ⟨q1, q2, q3⟩ := fold_ok ih o.2 (dIni (k : Int) o) r2 (by rw [j1]; omega) (by rw [j1]; omega) j2
    rw [j1] at q1 q3
    have z4 : (if o.1 < 0 then bRb else bRc).size = 1 := by split <;> decide
    unfold dVo
    refine ⟨by dsimp only; omega, q2, ?_⟩
    dsimp only
    rw [sizeA, z4]; omega
end Go.Heap
namespace Go.Heap
open Go Go.Eng Go.Proofs.YtkcacgjbofabfaaDoor
section
variable (ys : Ys)
def muA (st : List Lv) (sn : List Int) : Nat := muS st + muY ys sn
def shC (st : List Lv) (sn : List Int) (out : ByteArray) : ByteArray := shM ys (muA ys st sn) st sn out
theorem muS_cons (l : Lv) (st : List Lv) : muS (l :: st) = l.rest.length + 1 + muS st := by unfold muS; rw [List.map_cons, List.sum_cons]
theorem shV_opn {ys : Ys} {sn : List Int} {v : V} {t u : ByteArray} {n : Int} {l : Lv} (h : shV ys sn v = .opn t u n l) : ∃ o, lkY ys n = some o ∧ n ∉ sn ∧ l.rest = o.2 := by
  unfold shV at h
  split at h
  · cases h
  split at h
  · cases h
  split at h
  · cases h
  split at h
  · cases h
  · rename_i o ho
    split at h
    · cases h
    · rename_i hn
      split at h
      · injection h with _ _ h3 h4
        subst h3 h4
        exact ⟨o, ho, hn, rfl⟩
      · injection h with _ _ h3 h4
        subst h3 h4
        exact ⟨o, ho, hn, rfl⟩
theorem shM_fuel : ∀ (n : Nat) (st : List Lv) (sn : List Int) (out : ByteArray) (F G : Nat), muA ys st sn ≤ n → muA ys st sn ≤ F → muA ys st sn ≤ G → shM ys F st sn out = shM ys G st sn out := by
  intro n
  induction n with
  | zero =>
    intro st sn out F G h _ _
    cases st with
    | nil => rw [shM_nil, shM_nil]
    | cons l st => unfold muA at h; rw [muS_cons] at h; omega
  | succ n ih =>
    intro st sn out F G h hF hG
    cases st with
    | nil => rw [shM_nil, shM_nil]
    | cons l st =>
      unfold muA at h hF hG ih
      rw [muS_cons] at h hF hG
      obtain ⟨F, rfl⟩ : ∃ F', F = F' + 1 := ⟨F - 1, by omega⟩
      obtain ⟨G, rfl⟩ : ∃ G', G = G' + 1 := ⟨G - 1, by omega⟩
      obtain ⟨rest, cl, sp⟩ := l
      cases rest with
      | nil => exact ih st sn _ F G (by dsimp only [List.length_nil] at h; omega) (by dsimp only [List.length_nil] at hF; omega) (by dsimp only [List.length_nil] at hG; omega)
      | cons v r =>
        dsimp only [List.length_cons] at h hF hG
        have hr := muS_cons ⟨r, cl, bSp⟩ st
        dsimp only at hr
        show (match shV ys sn v with | .txt t => _ | .seen t => _ | .opn t u n l => _) = (match shV ys sn v with | .txt t => _ | .seen t => _ | .opn t u n l => _)
        cases hs : shV ys sn v with
        | txt t => exact ih _ sn _ F G (by omega) (by omega) (by omega)
        | seen t => exact ih _ sn _ F G (by omega) (by omega) (by omega)
        | opn t u n l =>
          obtain ⟨o, ho, hn, hl⟩ := shV_opn hs
          have hm := muY_opn ho hn
          have hr2 := muS_cons l (⟨r, cl, bSp⟩ :: st)
          rw [hl] at hr2
          exact ih _ _ _ F G (by omega) (by omega) (by omega)
theorem shC_of {st : List Lv} {sn : List Int} {out : ByteArray} {F : Nat} (h : muA ys st sn ≤ F) : shM ys F st sn out = shC ys st sn out := shM_fuel ys _ st sn out _ _ (Nat.le_refl _) h (Nat.le_refl _)
theorem shC_nil (sn : List Int) (out : ByteArray) : shC ys [] sn out = out := by unfold shC; rw [shM_nil]
theorem shC_end (cl sp : ByteArray) (st : List Lv) (sn : List Int) (out : ByteArray) : shC ys (⟨[], cl, sp⟩ :: st) sn out = shC ys st sn (out ++ cl) := by
  rw [← shC_of ys (F := muA ys st sn + 1) (by unfold muA; rw [muS_cons]; dsimp only [List.length_nil]; omega)]
  rfl
theorem shC_one (cl sp : ByteArray) (v : V) (r : List V) (st : List Lv) (sn : List Int) (out : ByteArray) {t : ByteArray} (h : shV ys sn v = .txt t ∨ shV ys sn v = .seen t) :
    shC ys (⟨v :: r, cl, sp⟩ :: st) sn out = shC ys (⟨r, cl, bSp⟩ :: st) sn (out ++ sp ++ t) := by
  rw [← shC_of ys (F := muA ys (⟨r, cl, bSp⟩ :: st) sn + 1) (by unfold muA; rw [muS_cons, muS_cons]; dsimp only [List.length_cons]; omega)]
  show (match shV ys sn v with | .txt t => _ | .seen t => _ | .opn t u n l => _) = _
  rcases h with h | h <;> (rw [h]; rfl)
theorem shC_opn (cl sp : ByteArray) (v : V) (r : List V) (st : List Lv) (sn : List Int) (out : ByteArray) {t u : ByteArray} {n : Int} {l : Lv} (h : shV ys sn v = .opn t u n l) :
    shC ys (⟨v :: r, cl, sp⟩ :: st) sn out = shC ys (l :: ⟨r, cl, bSp⟩ :: st) (sn ++ [n]) (out ++ sp ++ t ++ u) := by
  rw [← shC_of ys (F := muA ys (⟨v :: r, cl, sp⟩ :: st) sn + muA ys (l :: ⟨r, cl, bSp⟩ :: st) (sn ++ [n]) + 1) (by omega)]
  show (match shV ys sn v with | .txt t => _ | .seen t => _ | .opn t u n l => _) = _
  rw [h]
  exact shC_of ys (by omega)
end
/-! ### the order in which things are met -/
theorem dfsN_mem (s : HS) : ∀ f sn t, ∀ y ∈ dfsN s f sn t, objO s (2, y.1) = some y.2 := by
  intro f
  induction f with
  | zero => intro sn t y h; simp [dfsN] at h
  | succ f ih =>
    intro sn t y h
    cases t with
    | nil => simp [dfsN] at h
    | cons v t =>
      unfold dfsN at h
      cases ho : objO s v with
      | none => rw [ho] at h; exact ih _ _ y h
      | some o =>
        rw [ho] at h
        dsimp only at h
        split at h
        · exact ih _ _ y h
        · rcases List.mem_cons.1 h with rfl | h
          · obtain ⟨k, hk, _⟩ := objO_spec ho
            dsimp only
            rw [show ((2, v.2) : V) = v by rw [hk], ho]
          · exact ih _ _ y h
theorem lkY_of {s : HS} {ys : Ys} (hys : ∀ y ∈ ys, objO s (2, y.1) = some y.2) {n : Int} {o : Int × List V} (ho : objO s (2, n) = some o) (hm : n ∈ ys.map (·.1)) : lkY ys n = some o := by
  unfold lkY
  cases hf : ys.find? (fun y => y.1 == n) with
  | none =>
    obtain ⟨y, hy, rfl⟩ := List.mem_map.1 hm
    have := List.find?_eq_none.1 hf y hy
    simp at this
  | some y =>
    have h1 := List.find?_some hf
    have h2 := List.mem_of_find?_eq_some hf
    rw [beq_iff_eq] at h1
    have := hys y h2
    rw [h1, ho] at this
    rw [Option.map_some, Option.some.inj this]
theorem lkY_none {ys : Ys} {n : Int} (h : n ∉ ys.map (·.1)) : lkY ys n = none := by
  unfold lkY
  rw [Option.map_eq_none_iff, List.find?_eq_none]
  intro y hy hb
  exact h (List.mem_map.2 ⟨y, hy, by simpa using hb⟩)
theorem findF_ix (ys : Ys) (n : Int) (h : n ∈ ys.map (·.1)) : findF (ys.map (·.1)) n = (ixY ys n : Int) := by
  have key : ∀ ys : Ys, n ∈ ys.map (·.1) → (ys.map (·.1)).findIdx? (· == n) = some (ixY ys n) := by
    intro ys
    induction ys with
    | nil => intro h; cases h
    | cons y ys ih =>
      intro h
      rw [List.map_cons, List.findIdx?_cons]
      unfold ixY
      rw [List.findIdx_cons]
      by_cases hn : y.1 = n
      · simp [hn]
      · have hb : (y.1 == n) = false := by simp [hn]
        rw [List.map_cons, List.mem_cons] at h
        rw [hb]
        have := ih (h.resolve_left fun e => hn e.symm)
        unfold ixY at this
        rw [this]; rfl
  unfold findF
  rw [key ys h]
theorem ixY_cons (y : Int × (Int × List V)) (ys : Ys) (n : Int) : ixY (y :: ys) n = if y.1 = n then 0 else ixY ys n + 1 := by
  unfold ixY
  rw [List.findIdx_cons]
  by_cases h : y.1 = n
  · simp [h]
  · have hb : (y.1 == n) = false := by simp [h]
    rw [hb, if_neg h]; rfl
theorem ixY_lt {n : Int} : ∀ {ys : Ys} {k : Nat}, n ∈ (ys.take k).map (·.1) → ixY ys n < k := by
  intro ys
  induction ys with
  | nil => intro k h; simp at h
  | cons y ys ih =>
    intro k h
    cases k with
    | zero => simp at h
    | succ k =>
      rw [List.take_succ_cons, List.map_cons, List.mem_cons] at h
      rw [ixY_cons]
      by_cases hn : y.1 = n
      · rw [if_pos hn]; omega
      · rw [if_neg hn]
        have := ih (h.resolve_left fun e => hn e.symm)
        omega
theorem ixY_at {n : Int} : ∀ {ys : Ys} {k : Nat} {y : Int × (Int × List V)}, ys[k]? = some y → y.1 = n → n ∉ (ys.take k).map (·.1) → ixY ys n = k := by
  intro ys
  induction ys with
  | nil => intro k y h; simp at h
  | cons z ys ih =>
    intro k y h he hn
    rw [ixY_cons]
    cases k with
    | zero =>
      simp at h
      subst h
      rw [if_pos he]
    | succ k =>
      rw [List.take_succ_cons, List.map_cons, List.mem_cons, not_or] at hn
      rw [if_neg (fun e => hn.1 e.symm), ih (by simpa using h) he hn.2]
/-! ### one text -/
/-- What is still to be met. -/
def Hd (s : HS) (ys : Ys) (k : Nat) (t : List V) : Prop := k ≤ ys.length ∧ dfs s ((ys.take k).map (·.1)) t = ys.drop k
section
variable (s : HS) (ys : Ys) (hys : ∀ y ∈ ys, objO s (2, y.1) = some y.2)
/-- A value's text is what the machine writes for it. -/
def OneV (f : Nat) : Prop := ∀ (k : Nat) (v : V) (t : List V), Hd s ys k (v :: t) → ys.length ≤ f + k → ∃ k' : Nat, (dV s (ys.map (·.1)) f k v).2 = (k' : Int) ∧ k ≤ k' ∧ Hd s ys k' t ∧
  ∀ (r : List V) (cl sp : ByteArray) (st : List Lv) (out : ByteArray), shC ys (⟨v :: r, cl, sp⟩ :: st) ((ys.take k).map (·.1)) out = shC ys (⟨r, cl, bSp⟩ :: st) ((ys.take k').map (·.1)) (out ++ sp ++ (dV s (ys.map (·.1)) f k v).1)
theorem oneL {f : Nat} (ih : OneV s ys f) : ∀ (cs : List V) (k : Nat) (t : List V) (acc sp : ByteArray), Hd s ys k (cs ++ t) → ys.length ≤ f + k → ∃ k' : Nat, (cs.foldl (dStep (dV s (ys.map (·.1)) f)) (acc, (k : Int), sp)).2.1 = (k' : Int) ∧ k ≤ k' ∧ Hd s ys k' t ∧
    ∀ (cl : ByteArray) (st : List Lv) (out : ByteArray), shC ys (⟨cs, cl, sp⟩ :: st) ((ys.take k).map (·.1)) (out ++ acc) = shC ys st ((ys.take k').map (·.1)) (out ++ (cs.foldl (dStep (dV s (ys.map (·.1)) f)) (acc, (k : Int), sp)).1 ++ cl) := by
  intro cs
  induction cs with
  | nil =>
    intro k t acc sp h _
    exact ⟨k, rfl, Nat.le_refl _, h, fun cl st out => shC_end ys cl sp st _ _⟩
  | cons v cs ihl =>
    intro k t acc sp h hf
    obtain ⟨k1, e1, l1, h1, q1⟩ := ih k v (cs ++ t) h hf
    obtain ⟨k2, e2, l2, h2, q2⟩ := ihl k1 t (acc ++ sp ++ (dV s (ys.map (·.1)) f k v).1) bSp h1 (by omega)
    have hs : dStep (dV s (ys.map (·.1)) f) (acc, (k : Int), sp) v = (acc ++ sp ++ (dV s (ys.map (·.1)) f k v).1, (k1 : Int), bSp) := by unfold dStep; dsimp only; rw [e1]
    rw [List.foldl_cons, hs]
    refine ⟨k2, e2, by omega, h2, fun cl st out => ?_⟩
    rw [q1 cs cl sp st (out ++ acc), ← q2 cl st out]
    congr 1
    simp only [ByteArray.append_assoc]
include hys
theorem oneV_all : ∀ f, OneV s ys f := by
  have flat : ∀ (f k : Nat) (v : V) (t : List V), Hd s ys k (v :: t) → (∀ o, objO s v = some o → v.2 ∈ (ys.take k).map (·.1)) → ∃ k' : Nat, (dV s (ys.map (·.1)) f k v).2 = (k' : Int) ∧ k ≤ k' ∧ Hd s ys k' t ∧
      ∀ (r : List V) (cl sp : ByteArray) (st : List Lv) (out : ByteArray), shC ys (⟨v :: r, cl, sp⟩ :: st) ((ys.take k).map (·.1)) out = shC ys (⟨r, cl, bSp⟩ :: st) ((ys.take k').map (·.1)) (out ++ sp ++ (dV s (ys.map (·.1)) f k v).1) := by
    intro f k v t ⟨hk, hd⟩ hs
    have hH : Hd s ys k t := by
      refine ⟨hk, ?_⟩
      rw [dfs_cons] at hd
      cases ho : objO s v with
      | none => rw [ho] at hd; exact hd
      | some o => rw [ho] at hd; dsimp only at hd; rw [if_pos (hs o ho)] at hd; exact hd
    have key : ∃ tx, dV s (ys.map (·.1)) f k v = (tx, (k : Int)) ∧ (shV ys ((ys.take k).map (·.1)) v = .txt tx ∨ shV ys ((ys.take k).map (·.1)) v = .seen tx) := by
      by_cases c0 : v.1 = 0
      · refine ⟨_, ?_, .inl (by unfold shV; rw [if_pos c0])⟩
        cases f <;> (unfold dV dBase; rw [if_pos c0])
      by_cases c1 : v.1 = 1 ∧ v.2 = 0
      · refine ⟨_, ?_, .inl (by unfold shV; rw [if_neg c0, if_pos c1])⟩
        cases f <;> (unfold dV dBase; rw [if_neg c0, if_pos c1])
      cases ho : objO s v with
      | none =>
        refine ⟨bQ, ?_, .inl ?_⟩
        · cases f <;> (unfold dV dBase; rw [if_neg c0, if_neg c1, ho])
        · unfold shV
          rw [if_neg c0, if_neg c1]
          by_cases c2 : v.1 ≠ 2
          · rw [if_pos c2]
          · rw [if_neg c2]
            have hn : v.2 ∉ ys.map (·.1) := by
              intro hm
              obtain ⟨y, hy, he⟩ := List.mem_map.1 hm
              have := hys y hy
              have hv : v = (2, y.1) := by rw [he]; exact Prod.ext (by omega) rfl
              rw [hv, this] at ho; cases ho
            rw [lkY_none hn]
      | some o =>
        obtain ⟨kk, hvk, _⟩ := objO_spec ho
        have hin := hs o ho
        have hin2 : v.2 ∈ ys.map (·.1) := by
          obtain ⟨y, hy, he⟩ := List.mem_map.1 hin
          exact List.mem_map.2 ⟨y, List.mem_of_mem_take hy, he⟩
        have hfi := findF_ix ys v.2 hin2
        have hlt := ixY_lt hin
        have ho2 : objO s (2, v.2) = some o := by rw [show ((2, v.2) : V) = v by rw [hvk]]; exact ho
        refine ⟨bAt ++ itoaB (ixY ys v.2), ?_, .inr ?_⟩
        · cases f <;> (unfold dV dBase; rw [if_neg c0, if_neg c1, ho]; dsimp only; rw [hfi, if_pos (by omega)])
        · unfold shV
          rw [if_neg c0, if_neg c1, if_neg (by rw [hvk]; simp), lkY_of hys ho2 hin2]
          dsimp only
          rw [if_pos hin]
    obtain ⟨tx, h1, h2⟩ := key
    rw [h1]
    exact ⟨k, rfl, Nat.le_refl _, hH, fun r cl sp st out => shC_one ys cl sp v r st _ out h2⟩
  intro f
  induction f with
  | zero =>
    intro k v t h hf
    refine flat 0 k v t h fun o ho => ?_
    obtain ⟨hk, hd⟩ := h
    rw [dfs_cons, ho] at hd
    dsimp only at hd
    by_cases hv : v.2 ∈ (ys.take k).map (·.1)
    · exact hv
    · rw [if_neg hv, List.drop_eq_nil_of_le (by omega)] at hd; cases hd
  | succ f ih =>
    intro k v t h hf
    by_cases hs : ∀ o, objO s v = some o → v.2 ∈ (ys.take k).map (·.1)
    · exact flat (f + 1) k v t h hs
    simp only [Classical.not_forall] at hs
    obtain ⟨o, ho, hv⟩ := hs
    obtain ⟨hk, hd⟩ := h
    rw [dfs_cons, ho] at hd
    dsimp only at hd
    rw [if_neg hv] at hd
    have hlt : k < ys.length := by
      refine Classical.byContradiction fun h => ?_
      rw [List.drop_eq_nil_of_le (by omega)] at hd; cases hd
    rw [List.drop_eq_getElem_cons hlt] at hd
    obtain ⟨q1, q2⟩ := List.cons.inj hd
    have hyk : ys[k]? = some (v.2, o) := by rw [List.getElem?_eq_getElem hlt, q1]
    have hin2 : v.2 ∈ ys.map (·.1) := List.mem_map.2 ⟨_, List.mem_of_getElem? hyk, rfl⟩
    have hix := ixY_at hyk rfl hv
    have hfi := findF_ix ys v.2 hin2
    rw [hix] at hfi
    have htk : (ys.take (k + 1)).map (·.1) = (ys.take k).map (·.1) ++ [v.2] := by rw [List.take_succ, hyk]; simp
    have hH : Hd s ys (k + 1) (o.2 ++ t) := ⟨hlt, by rw [htk]; exact q2⟩
    obtain ⟨kk, hvk, _⟩ := objO_spec ho
    have c0 : ¬ v.1 = 0 := by rw [hvk]; intro h; cases h
    have c1 : ¬ (v.1 = 1 ∧ v.2 = 0) := by rw [hvk]; rintro ⟨h, _⟩; cases h
    have ho2 : objO s (2, v.2) = some o := by rw [show ((2, v.2) : V) = v by rw [hvk]]; exact ho
    have hdv : dV s (ys.map (·.1)) (f + 1) k v = dVo (k : Int) (dV s (ys.map (·.1)) f) o := by
      unfold dV dBase; rw [if_neg c0, if_neg c1, ho]; dsimp only; rw [hfi, if_neg (by omega)]
    rw [hdv]
    have hsh : ∃ (t u : ByteArray) (cl2 sp2 : ByteArray), shV ys ((ys.take k).map (·.1)) v = .opn t u v.2 ⟨o.2, cl2, sp2⟩ ∧ dIni (k : Int) o = (t ++ u, (k : Int) + 1, sp2) ∧ (if o.1 < 0 then bRb else bRc) = cl2 := by
      unfold shV dIni
      rw [if_neg c0, if_neg c1, if_neg (by rw [hvk]; simp), lkY_of hys ho2 hin2]
      dsimp only
      rw [if_neg hv, hix]
      by_cases hn : o.1 < 0
      · rw [if_pos hn, if_pos hn, if_pos hn]; exact ⟨_, _, _, _, rfl, rfl, rfl⟩
      · rw [if_neg hn, if_neg hn, if_neg hn]; exact ⟨_, _, _, _, rfl, rfl, rfl⟩
    obtain ⟨tt, uu, cl2, sp2, hs1, hs2, hs3⟩ := hsh
    obtain ⟨k', e1, l1, h1, q⟩ := oneL s ys ih o.2 (k + 1) t (tt ++ uu) sp2 hH (by omega)
    unfold dVo
    rw [hs2, hs3]
    have ec : ((k + 1 : Nat) : Int) = (k : Int) + 1 := by omega
    rw [ec] at e1 q
    refine ⟨k', e1, by omega, h1, fun r cl sp st out => ?_⟩
    rw [shC_opn ys cl sp v r st _ out hs1, ← htk]
    have := q cl2 (⟨r, cl, bSp⟩ :: st) (out ++ sp)
    simp only [ByteArray.append_assoc] at this ⊢
    exact this
end
/-- Both texts are the same. -/
theorem show_same (s : HS) (l : List V) : showF (dfs s [] l) l = dShow s (reachF s l) (reachF s l).length l := by
  have hys : ∀ y ∈ dfs s [] l, objO s (2, y.1) = some y.2 := dfsN_mem s _ [] l
  have hlen : (reachF s l).length = (dfs s [] l).length := by unfold reachF; rw [List.length_map]
  have hr : reachF s l = (dfs s [] l).map (·.1) := rfl
  obtain ⟨k', _, _, _, q⟩ := oneL s (dfs s [] l) (oneV_all s (dfs s [] l) hys (dfs s [] l).length) l 0 [] .empty .empty ⟨Nat.zero_le _, by simp⟩ (by omega)
  have := q .empty [] .empty
  rw [shC_nil] at this
  unfold showF dShow
  rw [shC_of (dfs s [] l) (by unfold muA; rw [muS_cons]; unfold muS; dsimp only; simp), hr, List.length_map]
  simpa using this
end Go.Heap
