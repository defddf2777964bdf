/- The engine over abstract states: a region that draws its order. Its operations are walked in one order that is told; the others come to the same. -/
import Derived.Test.YthfbfigdgjhhaaaEngAMem
set_option linter.all false
set_option linter.unusedSimpArgs false
set_option linter.unusedVariables false
namespace Go.Eng
open Go Go.RowKit
inductive Step where
  | free (k : Nat)   -- so many operations that leave all as it is, each with one value
  | one              -- an operation that may change what is held
  | grow             -- an operation that only adds to what is held
  | al               -- a variable is made
  | stab (k : Nat)   -- so many that read nothing but what stays for good
  | oneK             -- an operation that may change what is held, while such reads may still be ahead
def isLoad : Op → Bool | .load _ _ => true | _ => false
class GA where
  a : Prop
def gateA (p : Prop) [C : GA] : Prop := p ∧ C.a
theorem gateA_true {C : GA} : gateA True = C.a := by simp [gateA]
section
variable (P : Program) (ro : Option Nat) (dl : List (Option Nat))
def stepA (o : Oper) (e : En) (C : KA) (skip : Prop) (m : Mem) (L : Lst) : Prop :=
  match o.guard with
  | none => topC P ro o e m L
  | some (j, want) => guardP (yld dl e j) want (topC P ro o e m L) skip
def freeA (K : En → Prop) : List Oper → En → Mem → Lst → Prop
  | [], e, _, _ => K e
  | o :: rest, e, m, L => stepA P ro dl o e ⟨fun v m' L' => @gateA (m' = m ∧ L' = L) ⟨freeA K rest (updo e o.dst v) m L⟩, fun _ _ _ => False, fun _ _ _ => False⟩ (freeA K rest (updo e o.dst undef) m L) m L
def drunA (Q : QA) : List Step → List Oper → En → DS → Mem → Lst → Prop
  | [], _, e, ds, m, L => Q .normal e ds m L
  | .free k :: s, os, e, ds, m, L => ∃ es, freeA P ro dl (fun e' => e' = es) (os.take k) e m L ∧ drunA Q s (os.drop k) es ds m L
  | .one :: s, o :: os, e, ds, m, L => stepA P ro dl o e ⟨fun v m' L' => drunA Q s os (updo e o.dst v) ds m' L', fun q m' L' => drunA Q s os (updo e o.dst undef) (q :: ds) m' L', fun ch m' L' => ∀ e, Q (.panic ch) e ds m' L'⟩
      (drunA Q s os (updo e o.dst undef) ds m L) m L
  | .grow :: s, o :: os, e, ds, m, L => stepA P ro dl o e ⟨fun v m' L' => m' = m ∧ ∃ X, L' = X ++ L ∧ drunA Q s os (updo e o.dst v) ds m' L', fun _ _ _ => False, fun _ _ _ => False⟩ (drunA Q s os (updo e o.dst undef) ds m L) m L
  | .stab k :: s, os, e, ds, m, L => ∃ es, freeA P ro dl (fun e' => e' = es) (os.take k) e m [] ∧ drunA Q s (os.drop k) es ds m L
  | .oneK :: s, o :: os, e, ds, m, L => stepA P ro dl o e ⟨fun v m' L' => @gateA (m.Le m') ⟨drunA Q s os (updo e o.dst v) ds m' L'⟩, fun _ _ _ => False, fun ch m' L' => ∀ e, Q (.panic ch) e ds m' L'⟩
      (drunA Q s os (updo e o.dst undef) ds m L) m L
  | .al :: s, o :: os, e, ds, m, L => match o.op with
    | .alloc T => @allocA (zeroOf P T) T ⟨fun v m' L' => drunA Q s os (updo e o.dst v) ds m' L', fun _ _ _ => False, fun _ _ _ => False⟩ m L
    | _ => False
  | _ :: _, [], _, _, _, _ => False
end
/-! ### who waits on whom -/
def masksGo : List (List Nat) → List Nat → List Nat
  | [], acc => acc
  | d :: ds, acc => masksGo ds (acc ++ [d.foldl (fun a j => a ||| (2 ^ j ||| acc.getD j 0)) 0])
def ancM (M : List Nat) (i j : Nat) : Bool := (M.getD i 0).testBit j
theorem foldl_bits (f : Nat → Nat) (d : List Nat) (a k : Nat) (h : (d.foldl (fun a j => a ||| f j) a).testBit k = true) : a.testBit k = true ∨ ∃ j ∈ d, (f j).testBit k = true := by
  induction d generalizing a with
  | nil => exact .inl h
  | cons x d ih =>
    rcases ih _ h with h | ⟨j, hj, h⟩
    · rw [Nat.testBit_or, Bool.or_eq_true] at h
      rcases h with h | h
      · exact .inl h
      · exact .inr ⟨x, by simp, h⟩
    · exact .inr ⟨j, by simp [hj], h⟩
theorem masksGo_spec (D : List (List Nat)) : ∀ (ds : List (List Nat)) (acc : List Nat), D = D.take acc.length ++ ds → acc.length ≤ D.length →
    (∀ i j, i < acc.length → ancM acc i j = true → ∃ m ∈ (D.getD i []), m = j ∨ ancM acc m j = true) →
    ∀ i j, i < (masksGo ds acc).length → ancM (masksGo ds acc) i j = true → ∃ m ∈ (D.getD i []), m = j ∨ ancM (masksGo ds acc) m j = true := by
  intro ds
  induction ds with
  | nil => intro acc _ _ h; exact h
  | cons d ds ih =>
    intro acc hD hl h
    have hlen : acc.length < D.length := by
      have := congrArg List.length hD
      simp at this; omega
    have hd : D[acc.length]? = some d := by
      rw [hD, List.getElem?_append_right (by simp; omega)]
      simp [Nat.min_eq_left hl]
    refine ih _ ?_ (by simp; omega) ?_
    · simp only [List.length_append, List.length_cons, List.length_nil]
      rw [List.take_add_one, hd]; simp only [Option.toList_some, List.append_assoc, List.cons_append, List.nil_append]
      exact hD
    · intro i j hi hj
      have hmono : ∀ a b, ancM acc a b = true → ancM (acc ++ [d.foldl (fun a j => a ||| (2 ^ j ||| acc.getD j 0)) 0]) a b = true := by
        intro a b hab
        unfold ancM at hab ⊢
        rw [List.getD_eq_getElem?_getD] at hab ⊢
        rcases Nat.lt_or_ge a acc.length with ha | ha
        · rw [List.getElem?_append_left ha]; exact hab
        · rw [List.getElem?_eq_none ha] at hab; simp at hab
      rcases Nat.lt_or_ge i acc.length with ha | ha
      · have hj' : ancM acc i j = true := by
          unfold ancM at hj ⊢
          rw [List.getD_eq_getElem?_getD] at hj ⊢
          rw [List.getElem?_append_left ha] at hj; exact hj
        obtain ⟨m, hm, h1⟩ := h i j ha hj'
        exact ⟨m, hm, h1.imp id (hmono m j)⟩
      · have hie : i = acc.length := by simp at hi; omega
        subst hie
        unfold ancM at hj
        rw [List.getD_eq_getElem?_getD, List.getElem?_append_right (Nat.le_refl _)] at hj
        simp only [Nat.sub_self, List.getElem?_cons_zero, Option.getD_some] at hj
        rcases foldl_bits (fun j => 2 ^ j ||| acc.getD j 0) d 0 j hj with h0 | ⟨x, hx, h0⟩
        · simp at h0
        · refine ⟨x, by rw [List.getD_eq_getElem?_getD, hd]; exact hx, ?_⟩
          rw [Nat.testBit_or, Bool.or_eq_true, Nat.testBit_two_pow] at h0
          rcases h0 with h0 | h0
          · exact .inl (by simpa using h0)
          · exact .inr (hmono x j h0)
theorem masksGo_length : ∀ (ds : List (List Nat)) (acc : List Nat), (masksGo ds acc).length = acc.length + ds.length
  | [], acc => rfl
  | d :: ds, acc => by rw [masksGo, masksGo_length ds]; simp; omega
/-- The operations on which one waits, and on which it is told to wait. -/
def dirX (X : List (Nat × Nat)) (ops : List Oper) (i : Nat) : List Nat := direct ops i ++ (X.filter fun p => p.1 == i).map (·.2)
def posOf (ord : List Nat) (i : Nat) : Nat := ord.idxOf i
def dirO (X : List (Nat × Nat)) (ops : List Oper) (ord : List Nat) : List (List Nat) := ord.map fun i => (dirX X ops i).map (posOf ord)
def masksO (X : List (Nat × Nat)) (ops : List Oper) (ord : List Nat) : List Nat := masksGo (dirO X ops ord) []
/-- One waits on another, at once or through others. -/
def ancO (M : List Nat) (ord : List Nat) (i j : Nat) : Bool := ancM M (posOf ord i) (posOf ord j)
theorem posOf_inj {ord : List Nat} {i j : Nat} (h : posOf ord i = posOf ord j) (hi : posOf ord i < ord.length) : i = j := by
  unfold posOf at h hi
  have h1 := List.getElem_idxOf hi
  have hj : ord.idxOf j < ord.length := by omega
  have h2 := List.getElem_idxOf hj
  rw [← h1, ← h2]; congr 1
theorem masksO_spec (X : List (Nat × Nat)) (ops : List Oper) (ord : List Nat) {i j : Nat} (hi : posOf ord i < ord.length) (h : ancO (masksO X ops ord) ord i j = true) : ∃ m ∈ dirX X ops i, posOf ord m = posOf ord j ∨ ancO (masksO X ops ord) ord m j = true := by
  have hl : (masksO X ops ord).length = ord.length := by unfold masksO dirO; rw [masksGo_length]; simp
  obtain ⟨m, hm, h1⟩ := masksGo_spec (dirO X ops ord) (dirO X ops ord) [] (by simp) (by simp) (by intro i j hi; simp at hi) (posOf ord i) (posOf ord j) (by show _ < (masksO X ops ord).length; omega) h
  have hd : (dirO X ops ord).getD (posOf ord i) [] = (dirX X ops i).map (posOf ord) := by
    unfold dirO
    rw [List.getD_eq_getElem?_getD, List.getElem?_map, List.getElem?_eq_getElem hi]
    have : ord[posOf ord i] = i := List.getElem_idxOf hi
    simp [this]
  rw [hd] at hm
  obtain ⟨x, hx, rfl⟩ := List.mem_map.1 hm
  exact ⟨x, hx, h1⟩
theorem ancO_listed {X : List (Nat × Nat)} {ops : List Oper} {ord : List Nat} {D : Array Bool} (hac : ∀ i, posOf ord i < ord.length → ∀ j ∈ dirX X ops i, posOf ord j < posOf ord i) (hcl : ∀ i, D.getD i false = true → ∀ j ∈ dirX X ops i, D.getD j false = true) :
    ∀ (k i j : Nat), posOf ord i = k → posOf ord i < ord.length → ancO (masksO X ops ord) ord i j = true → (∀ m ∈ dirX X ops i, D.getD m false = true) → D.getD j false = true := by
  intro k
  induction k using Nat.strongRecOn with
  | _ k ih =>
    intro i j hk hi h hd
    obtain ⟨m, hm, h0 | h1⟩ := masksO_spec X ops ord hi h
    · have hmi := hac i hi m hm
      have := posOf_inj h0 (by omega)
      rw [← this]; exact hd _ hm
    · have hmi := hac i hi m hm
      exact ih _ (by omega) m j rfl (by omega) h1 (hcl m (hd m hm))

/-! ### the check of an order and a plan -/
inductive Cls where
  | p | r | w | g | a | s | k
  deriving DecidableEq
def clsOf (P : Program) : List Step → List Oper → List Cls
  | [], _ => []
  | .free k :: s, os => (os.take k).map (fun o => bif pureOp P o.op then .p else .r) ++ clsOf P s (os.drop k)
  | .one :: s, os => .w :: clsOf P s (os.drop 1)
  | .grow :: s, os => .g :: clsOf P s (os.drop 1)
  | .al :: s, os => .a :: clsOf P s (os.drop 1)
  | .stab k :: s, os => (os.take k).map (fun o => bif pureOp P o.op then .p else .s) ++ clsOf P s (os.drop k)
  | .oneK :: s, os => .k :: clsOf P s (os.drop 1)
def mayPass : Cls → Cls → Bool   -- the first stands ahead in the plan; the second need not wait on it
  | _, .a => true
  | .p, _ => true
  | .r, .p | .r, .r | .r, .g | .r, .s => true
  | .s, .w => false
  | .s, _ => true
  | _, _ => false
def planOk (P : Program) (n : Nat) (X : List (Nat × Nat)) (ops : List Oper) (plan : List Step) (ord : List Nat) (os : List Oper) : Bool :=
  let M := masksO X ops ord
  let cl := clsOf P plan os
  opsFit n ops && ((List.range ops.length).all fun i => (direct ops i).all fun j => decide (j < i)) && ((List.range ops.length).all fun i => (dirX X ops i).all fun j => decide (posOf ord j < posOf ord i)) &&
  decide (ord.length = ops.length) && decide (cl.length = ops.length) && ((List.range ops.length).all fun i => ord.contains i) &&
  ((List.range ops.length).all fun i => (List.range ops.length).all fun j => i == j || (match dstAt ops i, dstAt ops j with | some d, some d' => d != d' | _, _ => true)) &&
  ((List.range ops.length).all fun i => match ops[i]? with
    | some o => (List.range ops.length).all fun j => match dstAt ops j with | some d => !(readsOf ops o).contains d || (decide (posOf ord j < posOf ord i) && ancO M ord i j) | none => true
    | none => true) &&
  ((List.range ops.length).all fun q => (List.range q).all fun p => match cl[p]?, cl[q]?, ord[p]?, ord[q]? with
    | some a, some b, some i, some j => mayPass a b || ancO M ord j i
    | _, _, _, _ => false) &&
  ((List.range ops.length).all fun q => match cl[q]?, (ord[q]?).bind (ops[·]?) with
    | some .a, some o => o.dst.isSome && o.guard.isNone && (match o.op with | .alloc T => (zeroOf P T).isSome | _ => false)
    | some .p, some o => pureOp P o.op
    | some .s, some o => isLoad o.op
    | _, _ => true) && decide ord.Nodup

section
variable {P : Program} {ro : Option Nat} {n : Nat}
theorem topC_mono {o : Oper} {e : En} {C C' : KA} {m : Mem} {L : Lst} (hk : ∀ v m L, C.k v m L → C'.k v m L) (hd : ∀ v m L, C.kd v m L → C'.kd v m L) (hx : ∀ v m L, C.x v m L → C'.x v m L) (h : @topC P ro o e C m L) : @topC P ro o e C' m L := by
  unfold topC at *
  split at h
  · exact fun b => hk _ _ _ (h b)
  · unfold allocA at *
    split at h
    · exact fun b => hk _ _ _ (h b)
    · exact h
  · cases hp : pureOp P o.op with
    | true =>
      rw [hp] at h
      exact fun w => sopC_mono (C := pk C m L w) (C' := pk C' m L w) (fun v w' h => ⟨h.1, hk _ _ _ h.2⟩) (fun v w' h => ⟨h.1, hd _ _ _ h.2⟩) (fun v w' h => ⟨h.1, hx _ _ _ h.2⟩) (h w)
    | false =>
      rw [hp] at h
      exact fun L0 w hI => sopC_mono (C := ck C L0) (C' := ck C' L0) (fun v w' ⟨m, L, h1, h2⟩ => ⟨m, L, h1, hk _ _ _ h2⟩) (fun v w' ⟨m, L, h1, h2⟩ => ⟨m, L, h1, hd _ _ _ h2⟩) (fun v w' ⟨m, L, h1, h2⟩ => ⟨m, L, h1, hx _ _ _ h2⟩) (h L0 w hI)
theorem topC_some {o : Oper} {e : En} {C : KA} {m : Mem} {L L0 : Lst} {w : World} (hI : Inv m (L ++ L0) w) (h : @topC P ro o e C m L) : (∃ v m' L', C.k v m' L') ∨ (∃ v m' L', C.kd v m' L') ∨ ∃ v m' L', C.x v m' L' := by
  rcases sopC_some (topC_gen h L0 w hI) with ⟨v, w', m', L', _, h⟩ | ⟨v, w', m', L', _, h⟩ | ⟨v, w', m', L', _, h⟩
  · exact .inl ⟨v, m', L', h⟩
  · exact .inr (.inl ⟨v, m', L', h⟩)
  · exact .inr (.inr ⟨v, m', L', h⟩)
theorem stepA_toP {dl : List (Option Nat)} {o : Oper} {e : En} {C : KA} {skip : Prop} {m : Mem} {L L0 : Lst} {w : World} (hI : Inv m (L ++ L0) w) (h : stepA P ro dl o e C skip m L) : stepP P ro dl o e (ck C L0) skip w := by
  unfold stepA at h; unfold stepP
  cases hg : o.guard with
  | none => simp only [hg] at h ⊢; exact topC_gen h L0 w hI
  | some g =>
    obtain ⟨j, want⟩ := g
    simp only [hg] at h ⊢
    unfold guardP at h ⊢
    split at h
    · exact ⟨fun hb => topC_gen (h.1 hb) L0 w hI, h.2⟩
    · exact h
theorem topC_load {o : Oper} {e : En} {C : KA} {m : Mem} {L L0 : Lst} {w : World} (hp : isLoad o.op = true) (hI : Inv m (L ++ L0) w) (h : topC P ro o e m L) : @sopC P ro o e ⟨fun v w' => w' = w ∧ ∃ m' L', C.k v m' L', fun _ _ => False, fun _ _ => False⟩ w := by
  obtain ⟨d, op, ty, ps, af, g⟩ := o
  cases op with
  | load T x =>
    have h1 := h L0 w hI
    show @loadM (shapeOf P T) (ev e x) ⟨fun v w' => w' = w ∧ ∃ m' L', C.k v m' L', fun _ _ => False, fun _ _ => False⟩ w
    have h1 : @loadM (shapeOf P T) (ev e x) (ck C L0) w := h1
    unfold loadM at h1 ⊢
    split at h1
    · unfold cellC at h1 ⊢
      split at h1
      · obtain ⟨m', L', _, h2⟩ := h1; exact ⟨rfl, m', L', h2⟩
      · exact h1.elim
    · unfold cellsC at h1 ⊢
      split at h1
      · obtain ⟨m', L', _, h2⟩ := h1; exact ⟨rfl, m', L', h2⟩
      · exact h1.elim
    · exact h1.elim
  | _ => simp [isLoad] at hp
theorem stepA_loadP {dl : List (Option Nat)} {o : Oper} {e : En} {C : KA} {skip : Prop} {m : Mem} {L L0 : Lst} {w : World} (hp : isLoad o.op = true) (hI : Inv m (L ++ L0) w) (h : stepA P ro dl o e C skip m L) : stepP P ro dl o e ⟨fun v w' => w' = w ∧ ∃ m' L', C.k v m' L', fun _ _ => False, fun _ _ => False⟩ skip w := by
  unfold stepA at h; unfold stepP
  cases hg : o.guard with
  | none => simp only [hg] at h ⊢; exact topC_load hp hI h
  | some g =>
    obtain ⟨j, want⟩ := g
    simp only [hg] at h ⊢
    unfold guardP at h ⊢
    split at h
    · exact ⟨fun hb => topC_load hp hI (h.1 hb), h.2⟩
    · exact h
theorem topC_pure {o : Oper} {e : En} {C : KA} {m : Mem} {L : Lst} (hp : pureOp P o.op = true) (h : topC P ro o e m L) : pureA P ro o e m L := by
  unfold topC at h
  split at h
  · rename_i ho; rw [ho] at hp; simp [pureOp] at hp
  · rename_i ho; rw [ho] at hp; simp [pureOp] at hp
  · rw [hp] at h; exact h
theorem stepA_pureP {dl : List (Option Nat)} {o : Oper} {e : En} {C : KA} {skip : Prop} {m : Mem} {L : Lst} (w : World) (hp : pureOp P o.op = true) (h : stepA P ro dl o e C skip m L) : stepP P ro dl o e (pk C m L w) skip w := by
  unfold stepA at h; unfold stepP
  cases hg : o.guard with
  | none => simp only [hg] at h ⊢; exact topC_pure hp h w
  | some g =>
    obtain ⟨j, want⟩ := g
    simp only [hg] at h ⊢
    unfold guardP at h ⊢
    split at h
    · exact ⟨fun hb => topC_pure hp (h.1 hb) w, h.2⟩
    · exact h

/-- What the run in the told order says of each operation of a free stretch. -/
theorem freeA_at {dl : List (Option Nat)} {m : Mem} {L L0 : Lst} {w : World} (hI : Inv m (L ++ L0) w) {es : En} {all : List Oper} (hdis : ∀ i j d, i < all.length → j < all.length → dstAt all i = some d → dstAt all j = some d → i = j) :
    ∀ (l : List Oper) (k : Nat) (e : En), l = all.drop k → freeA P ro dl (fun e' => e' = es) l e m L →
      (∀ t, (∀ i, k ≤ i → i < all.length → dstAt all i ≠ some t) → es t = e t) ∧
      ∀ i o, k ≤ i → all[i]? = some o → ∃ ep : En, (∀ t, (∀ j, k ≤ j → j < i → dstAt all j ≠ some t) → ep t = e t) ∧ (∀ j d, k ≤ j → j < i → dstAt all j = some d → ep d = es d) ∧
        stepA P ro dl o ep ⟨fun v m' L' => (m' = m ∧ L' = L) ∧ ∀ d, o.dst = some d → es d = v, fun _ _ _ => False, fun _ _ _ => False⟩ (∀ d, o.dst = some d → es d = undef) m L := by
  intro l
  induction l with
  | nil =>
    intro k e hl h
    have hm : all.length ≤ k := by
      have := congrArg List.length hl; simp at this; omega
    refine ⟨fun t _ => by rw [show e = es from h], fun i o hi ho => ?_⟩
    have := (List.getElem?_eq_some_iff.1 ho).1
    omega
  | cons o rest ih =>
    intro k e hl h
    have hm : k < all.length := by
      rcases Nat.lt_or_ge k all.length with hlt | hge
      · exact hlt
      · rw [List.drop_eq_nil_of_le hge] at hl; cases hl
    have hcons := List.drop_eq_getElem_cons hm
    rw [hcons] at hl
    injection hl with ho hrest
    have hom : all[k]? = some o := by rw [List.getElem?_eq_getElem hm, ho]
    have hdm : dstAt all k = o.dst := by simp [dstAt, hom]
    have key : ∀ v, freeA P ro dl (fun e' => e' = es) rest (updo e o.dst v) m L → (∀ d, o.dst = some d → es d = v) ∧
        (∀ t, (∀ i, k ≤ i → i < all.length → dstAt all i ≠ some t) → es t = e t) ∧
        ∀ i o', k < i → all[i]? = some o' → ∃ ep : En, (∀ t, (∀ j, k ≤ j → j < i → dstAt all j ≠ some t) → ep t = e t) ∧ (∀ j d, k ≤ j → j < i → dstAt all j = some d → ep d = es d) ∧
          stepA P ro dl o' ep ⟨fun v m' L' => (m' = m ∧ L' = L) ∧ ∀ d, o'.dst = some d → es d = v, fun _ _ _ => False, fun _ _ _ => False⟩ (∀ d, o'.dst = some d → es d = undef) m L := by
      intro v hv
      obtain ⟨c1, c2⟩ := ih (k + 1) _ hrest hv
      have hval : ∀ d, o.dst = some d → es d = v := by
        intro d hd
        rw [c1 d ?_]
        · simp [hd, updo, up]
        · intro i hi hi2 hc
          have := hdis i k d hi2 hm hc (by rw [hdm, hd])
          omega
      refine ⟨hval, ?_, ?_⟩
      · intro t ht
        rw [c1 t (fun i hi hi2 => ht i (by omega) hi2)]
        have := ht k (Nat.le_refl _) hm
        rw [hdm] at this
        cases hd : o.dst with
        | none => simp [updo]
        | some d =>
          rw [hd] at this
          have hne : t ≠ d := fun hc => this (by rw [hc])
          simp [updo, up, hne]
      · intro i o' hi ho'
        obtain ⟨ep, p1, p2, p3⟩ := c2 i o' (by omega) ho'
        refine ⟨ep, ?_, ?_, p3⟩
        · intro t ht
          rw [p1 t (fun j hj hj2 => ht j (by omega) hj2)]
          have := ht k (Nat.le_refl _) hi
          rw [hdm] at this
          cases hd : o.dst with
          | none => simp [updo]
          | some d =>
            rw [hd] at this
            have hne : t ≠ d := fun hc => this (by rw [hc])
            simp [updo, up, hne]
        · intro j d hj hj2 hjd
          rcases Nat.eq_or_lt_of_le hj with hjm | hjm
          · subst hjm
            rw [hdm] at hjd
            rw [p1 d ?_, hval d hjd]
            · simp [updo, hjd, up]
            · intro j' hj' hj2' hc
              have hlt : i < all.length := (List.getElem?_eq_some_iff.1 ho').1
              have := hdis j' k d (by omega) hm hc (by rw [hdm, hjd])
              omega
          · exact p2 j d (by omega) hj2 hjd
    have hfirst : ∃ v, freeA P ro dl (fun e' => e' = es) rest (updo e o.dst v) m L := by
      unfold freeA stepA at h
      cases hg : o.guard with
      | none =>
        simp only [hg] at h
        rcases topC_some hI h with ⟨v, m', L', hv⟩ | ⟨d, m', L', hd⟩ | ⟨c, m', L', hc⟩
        · exact ⟨v, hv.2⟩
        · exact hd.elim
        · exact hc.elim
      | some g =>
        obtain ⟨j, want⟩ := g
        simp only [hg] at h
        by_cases hv : yld dl e j = .bool want
        · rw [hv] at h
          rcases topC_some hI (guardP_do h) with ⟨v, m', L', hv⟩ | ⟨d, m', L', hd⟩ | ⟨c, m', L', hc⟩
          · exact ⟨v, hv.2⟩
          · exact hd.elim
          · exact hc.elim
        · exact ⟨_, guardP_skip h hv⟩
    obtain ⟨v0, hv0⟩ := hfirst
    obtain ⟨k1, k2, k3⟩ := key v0 hv0
    refine ⟨k2, fun i o' hi ho' => ?_⟩
    rcases Nat.eq_or_lt_of_le hi with him | him
    · subst him
      obtain rfl : o' = o := by rw [hom] at ho'; exact (Option.some.inj ho').symm
      refine ⟨e, fun _ _ => rfl, fun j d hj hj2 => by omega, ?_⟩
      have hmono : ∀ {C C' : KA}, C = ⟨fun v m' L' => @gateA (m' = m ∧ L' = L) ⟨freeA P ro dl (fun e' => e' = es) rest (updo e o'.dst v) m L⟩, fun _ _ _ => False, fun _ _ _ => False⟩ →
          C' = ⟨fun v m' L' => (m' = m ∧ L' = L) ∧ ∀ d, o'.dst = some d → es d = v, fun _ _ _ => False, fun _ _ _ => False⟩ → @topC P ro o' e C m L → @topC P ro o' e C' m L := by
        rintro C C' rfl rfl hc
        refine topC_mono ?_ ?_ ?_ hc
        · intro v m' L' hv; exact ⟨hv.1, (key v hv.2).1⟩
        · exact fun _ _ _ h => h
        · exact fun _ _ _ h => h
      unfold freeA stepA at h
      unfold stepA
      cases hg : o'.guard with
      | none => simp only [hg] at h ⊢; exact hmono rfl rfl h
      | some g =>
        obtain ⟨j, want⟩ := g
        simp only [hg] at h ⊢
        unfold guardP at h ⊢
        split at h
        · exact ⟨fun hbw => hmono rfl rfl (h.1 hbw), fun hbw => (key _ (h.2 hbw)).1⟩
        · exact (key _ h).1
    · exact k3 i o' him ho'

/-- What an early variable's block holds. -/
def zobj (P : Program) (ops : List Oper) (i : Nat) : Obj := match (ops[i]?).map Oper.op with
  | some (Op.alloc T) => .cells ((zeroOf P T).getD []).toArray T (0, 0)
  | _ => default
/-- An operation that has been passed, and is still to be done. -/
def PT (P : Program) (sc : Bool) (o : Oper) (mi mk : Mem) (Li Lk : Lst) : Prop := pureOp P o.op = true ∨ (sc = false ∧ mi = mk ∧ ∃ X, Lk.Perm (X ++ Li)) ∨ (isLoad o.op = true ∧ mi.Le mk ∧ Li = [])
def sAt (cl : List Cls) (p : Nat) : Bool := match cl[p]? with | some .s => true | _ => false
def Pend (P : Program) (ro : Option Nat) (ops : List Oper) (ek : En) (mk : Mem) (Lk : Lst) (i : Nat) (sc : Bool) : Prop :=
  ∃ o ep mi Li, ops[i]? = some o ∧ (∀ t ∈ readsOf ops o, ep t = ek t) ∧
    stepA P ro (dsts ops) o ep ⟨fun v m' L' => (m' = mi ∧ L' = Li) ∧ ∀ d, o.dst = some d → ek d = v, fun _ _ _ => False, fun _ _ _ => False⟩ (∀ d, o.dst = some d → ek d = undef) mi Li ∧
    PT P sc o mi mk Li Lk
def early (P : Program) (ops : List Oper) (E : List (Nat × Nat)) : Lst := E.map fun x => (x.2, zobj P ops x.1)
structure St (P : Program) (ro : Option Nat) (ops : List Oper) (ord : List Nat) (os : List Oper) (cl : List Cls) (Q : QA) (L0 : Lst) (D : Array Bool) (e' : En) (ds : DS) (w1 : World)
    (k : Nat) (s : List Step) (ek : En) (mk : Mem) (Lk : Lst) (E : List (Nat × Nat)) : Prop where
  run : drunA P ro (dsts ops) Q s (os.drop k) ek ds mk Lk
  cls : cl = cl.take k ++ clsOf P s (os.drop k)
  hk : k ≤ ops.length
  lo : ∀ (p i : Nat), p < k → ord[p]? = some i → D.getD i false = true ∨ Pend P ro ops ek mk Lk i (sAt cl p)
  hi : ∀ (p i : Nat), k ≤ p → ord[p]? = some i → (D.getD i false = true ↔ i ∈ E.map (·.1))
  ear : ∀ x ∈ E, ∃ p o d T zs, k ≤ p ∧ ord[p]? = some x.1 ∧ cl[p]? = some .a ∧ ops[x.1]? = some o ∧ o.dst = some d ∧ o.op = .alloc T ∧ zeroOf P T = some zs ∧ e' d = .pointer (some ⟨x.2, 0, none⟩)
  env : ∀ t, (∀ (p i : Nat), p < k → ord[p]? = some i → D.getD i false = false → dstAt ops i ≠ some t) → (∀ x ∈ E, dstAt ops x.1 ≠ some t) → e' t = ek t
  inv : Inv mk (Lk ++ (early P ops E ++ L0)) w1
  nd : (E.map (·.1)).Nodup
structure Ok (P : Program) (n : Nat) (X : List (Nat × Nat)) (ops : List Oper) (ord : List Nat) (os : List Oper) (cl : List Cls) : Prop where
  fit : opsFit n ops = true
  ac0 : ∀ i, ∀ j ∈ direct ops i, j < i
  ac : ∀ i, posOf ord i < ord.length → ∀ j ∈ dirX X ops i, posOf ord j < posOf ord i
  len : ord.length = ops.length
  clen : cl.length = ops.length
  all : ∀ i, i < ops.length → ∃ p, p < ops.length ∧ ord[p]? = some i ∧ posOf ord i = p
  inj : ∀ (p q i : Nat), ord[p]? = some i → ord[q]? = some i → p = q
  ran : ∀ (p i : Nat), ord[p]? = some i → i < ops.length
  hos : ∀ p : Nat, os[p]? = (ord[p]?).bind (ops[·]?)
  dst : ∀ i j d, dstAt ops i = some d → dstAt ops j = some d → i = j
  rds : ∀ (i : Nat) (o : Oper) (j d : Nat), ops[i]? = some o → dstAt ops j = some d → d ∈ readsOf ops o → posOf ord j < posOf ord i ∧ ancO (masksO X ops ord) ord i j = true
  pair : ∀ (p q : Nat) (a b : Cls) (i j : Nat), p < q → cl[p]? = some a → cl[q]? = some b → ord[p]? = some i → ord[q]? = some j → mayPass a b = true ∨ ancO (masksO X ops ord) ord j i = true
  pp : ∀ (q : Nat) (o : Oper) (i : Nat), cl[q]? = some .p → ord[q]? = some i → ops[i]? = some o → pureOp P o.op = true
  ss : ∀ (q : Nat) (o : Oper) (i : Nat), cl[q]? = some .s → ord[q]? = some i → ops[i]? = some o → isLoad o.op = true
  alc : ∀ (q : Nat) (o : Oper) (i : Nat), cl[q]? = some .a → ord[q]? = some i → ops[i]? = some o → ∃ d T zs, o.dst = some d ∧ o.guard = none ∧ o.op = .alloc T ∧ zeroOf P T = some zs
section
variable {P : Program} {ro : Option Nat} {n : Nat} {X : List (Nat × Nat)} {ops : List Oper} {ord : List Nat} {os : List Oper} {cl : List Cls} {Q : QA} {L0 : Lst} {D : Array Bool} {e' : En} {ds : DS} {w1 : World}
variable {k : Nat} {s : List Step} {ek : En} {mk : Mem} {Lk : Lst} {E : List (Nat × Nat)}
theorem pos_eq (ok : Ok P n X ops ord os cl) {p i : Nat} (h : ord[p]? = some i) : posOf ord i = p := by
  obtain ⟨q, _, h2, h3⟩ := ok.all i (ok.ran p i h)
  rw [h3]; exact ok.inj q p i h2 h
theorem dst_at {o : Oper} {i : Nat} (h : ops[i]? = some o) : dstAt ops i = o.dst := by simp [dstAt, h]
theorem St.cl_at (st : St P ro ops ord os cl Q L0 D e' ds w1 k s ek mk Lk E) (ok : Ok P n X ops ord os cl) (p : Nat) : cl[k + p]? = (clsOf P s (os.drop k))[p]? := by
  have h := st.cls
  have hl : (cl.take k).length = k := by rw [List.length_take, ok.clen]; exact Nat.min_eq_left st.hk
  have h2 : cl[k + p]? = (cl.take k ++ clsOf P s (os.drop k))[k + p]? := congrArg (·[k + p]?) h
  rw [h2, List.getElem?_append_right (by omega), hl, Nat.add_sub_cancel_left]
theorem drop_cons_at {i : Nat} {o : Oper} {r : List Oper} (h : os.drop k = o :: r) : os[k]? = some o ∧ os.drop (k + 1) = r := by
  have h1 : os[k]? = (os.drop k)[0]? := by simp
  refine ⟨by rw [h1, h]; rfl, ?_⟩
  rw [← List.drop_drop, h]; rfl
/-- A free stretch is passed. -/
theorem adv_fr (ok : Ok P n X ops ord os cl) {kk : Nat} {s0 : Step} {sc : Bool} {Lf : Lst} (hcls : ∀ os, clsOf P (s0 :: s) os = (os.take kk).map (fun o => bif pureOp P o.op then .p else bif sc then .s else .r) ++ clsOf P s (os.drop kk)) (hLf : (sc = false ∧ Lf = Lk) ∨ (sc = true ∧ Lf = []))
    (st : St P ro ops ord os cl Q L0 D e' ds w1 k (s0 :: s) ek mk Lk E) (hrun : ∃ es, freeA P ro (dsts ops) (fun e' => e' = es) ((os.drop k).take kk) ek mk Lf ∧ drunA P ro (dsts ops) Q s ((os.drop k).drop kk) es ds mk Lk) : ∃ k' ek', St P ro ops ord os cl Q L0 D e' ds w1 k' s ek' mk Lk E := by
  obtain ⟨es, hf, hr⟩ := hrun
  obtain ⟨Lx, hIf⟩ : ∃ Lx, Inv mk (Lf ++ Lx) w1 := by
    rcases hLf with ⟨_, rfl⟩ | ⟨_, rfl⟩
    · exact ⟨_, st.inv⟩
    · exact ⟨_, st.inv⟩
  have hosl : os.length = ops.length := by
    rcases Nat.lt_trichotomy os.length ops.length with h | h | h
    · exfalso
      have h1 := ok.hos os.length
      rw [List.getElem?_eq_none (Nat.le_refl _)] at h1
      have h2 : ord[os.length]? = some ord[os.length]! := by
        rw [List.getElem?_eq_getElem (by rw [ok.len]; exact h)]; simp [ok.len, h]
      rw [h2] at h1
      have := ok.ran _ _ h2
      rw [Option.bind_some, List.getElem?_eq_getElem this] at h1; cases h1
    · exact h
    · exfalso
      have h1 := ok.hos ops.length
      rw [List.getElem?_eq_none (l := ord) (by rw [ok.len]; exact Nat.le_refl _), List.getElem?_eq_getElem h] at h1
      cases h1
  have hlen : ((os.drop k).take kk).length = min kk (ops.length - k) := by simp [hosl]
  have hat : ∀ j, j < ((os.drop k).take kk).length → ((os.drop k).take kk)[j]? = os[k + j]? := by
    intro j hj
    rw [List.getElem?_take_of_lt (by omega), List.getElem?_drop]
  have hord : ∀ j o, ((os.drop k).take kk)[j]? = some o → ∃ i, ord[k + j]? = some i ∧ ops[i]? = some o := by
    intro j o hj
    have hlt := (List.getElem?_eq_some_iff.1 hj).1
    rw [hat j hlt, ok.hos] at hj
    cases hi : ord[k + j]? with
    | none => rw [hi] at hj; cases hj
    | some i => rw [hi] at hj; exact ⟨i, rfl, hj⟩
  have hdis : ∀ i j d, i < ((os.drop k).take kk).length → j < ((os.drop k).take kk).length → dstAt ((os.drop k).take kk) i = some d → dstAt ((os.drop k).take kk) j = some d → i = j := by
    intro i j d hi hj h1 h2
    unfold dstAt at h1 h2
    cases h3 : ((os.drop k).take kk)[i]? with
    | none => rw [h3] at h1; cases h1
    | some o =>
      cases h4 : ((os.drop k).take kk)[j]? with
      | none => rw [h4] at h2; cases h2
      | some o' =>
        rw [h3] at h1; rw [h4] at h2
        obtain ⟨a, ha1, ha2⟩ := hord i o h3
        obtain ⟨b, hb1, hb2⟩ := hord j o' h4
        have : a = b := ok.dst a b d (by simpa [dstAt, ha2] using h1) (by simpa [dstAt, hb2] using h2)
        subst this
        have := ok.inj _ _ _ ha1 hb1
        omega
  obtain ⟨f1, f2⟩ := freeA_at hIf hdis _ 0 ek (by simp) hf
  have hcl : ∀ j o, ((os.drop k).take kk)[j]? = some o → cl[k + j]? = some (bif pureOp P o.op then .p else bif sc then .s else .r) := by
    intro j o hj
    rw [st.cl_at ok j]
    have hlt := (List.getElem?_eq_some_iff.1 hj).1
    rw [hcls]
    rw [List.getElem?_append_left (by simpa using hlt), List.getElem?_map, hj]; rfl
  -- registers that stay
  have hstay : ∀ p i d, p < k → ord[p]? = some i → dstAt ops i = some d → es d = ek d := by
    intro p i d hp hpi hd
    refine f1 d (fun j _ hj hc => ?_)
    unfold dstAt at hc
    cases h3 : ((os.drop k).take kk)[j]? with
    | none => rw [h3] at hc; cases hc
    | some o =>
      rw [h3] at hc
      obtain ⟨a, ha1, ha2⟩ := hord j o h3
      have : a = i := ok.dst a i d (by simpa [dstAt, ha2] using hc) hd
      subst this
      have := ok.inj _ _ _ ha1 hpi
      omega
  refine ⟨k + min kk (ops.length - k), es, ?_⟩
  have hdrop : os.drop (k + min kk (ops.length - k)) = (os.drop k).drop kk := by
    rw [List.drop_drop]
    rcases Nat.le_total kk (ops.length - k) with h | h
    · rw [Nat.min_eq_left h]
    · rw [Nat.min_eq_right h, List.drop_eq_nil_of_le (by have := st.hk; omega), List.drop_eq_nil_of_le (by omega)]
  refine ⟨by rw [hdrop]; exact hr, ?_, by have := st.hk; omega, ?_, ?_, ?_, ?_, st.inv, st.nd⟩
  · rw [hdrop]
    have h := st.cls
    have hl : (cl.take k).length = k := by rw [List.length_take, ok.clen]; exact Nat.min_eq_left st.hk
    have e1 := hcls (os.drop k)
    rw [e1, ← List.append_assoc] at h
    have e2 : cl.take (k + min kk (ops.length - k)) = cl.take k ++ ((os.drop k).take kk).map (fun o => bif pureOp P o.op then .p else bif sc then .s else .r) := by
      conv => lhs; rw [h]
      rw [List.take_append_of_le_length (by simp [hl, hosl]), List.take_of_length_le (by simp [hl, hosl])]
    rw [e2]; exact h
  · intro p i hp hpi
    rcases Nat.lt_or_ge p k with hpk | hpk
    · rcases st.lo p i hpk hpi with h | ⟨o, ep, mi, Li, h1, h2, h3, h4⟩
      · exact .inl h
      · refine .inr ⟨o, ep, mi, Li, h1, ?_, ?_, h4⟩
        · intro t ht
          rw [h2 t ht]
          refine (f1 t (fun j _ hj hc => ?_)).symm
          unfold dstAt at hc
          cases h5 : ((os.drop k).take kk)[j]? with
          | none => rw [h5] at hc; cases hc
          | some o' =>
            rw [h5] at hc
            obtain ⟨a, ha1, ha2⟩ := hord j o' h5
            have := (ok.rds i o a t h1 (by simpa [dstAt, ha2] using hc) ht).1
            rw [pos_eq ok ha1, pos_eq ok hpi] at this
            omega
        · have hd : ∀ d, o.dst = some d → es d = ek d := fun d hd => hstay p i d hpk hpi (by rw [dst_at h1, hd])
          have e1 : ∀ v, (∀ d, o.dst = some d → es d = v) = (∀ d, o.dst = some d → ek d = v) := fun v => propext ⟨fun h d hd' => by rw [← hd d hd']; exact h d hd', fun h d hd' => by rw [hd d hd']; exact h d hd'⟩
          simp only [e1]; exact h3
    · have hj : p - k < ((os.drop k).take kk).length := by rw [hlen]; omega
      obtain ⟨o, ho⟩ : ∃ o, ((os.drop k).take kk)[p - k]? = some o := ⟨_, List.getElem?_eq_getElem hj⟩
      obtain ⟨a, ha1, ha2⟩ := hord (p - k) o ho
      rw [Nat.add_sub_cancel' hpk, hpi] at ha1
      obtain rfl := Option.some.inj ha1
      obtain ⟨ep, g1, g2, g3⟩ := f2 (p - k) o (Nat.zero_le _) ho
      have hclp := hcl (p - k) o ho
      rw [Nat.add_sub_cancel' hpk] at hclp
      refine .inr ⟨o, ep, mk, Lf, ha2, ?_, g3, ?_⟩
      rotate_left
      · cases hpu : pureOp P o.op with
        | true => exact .inl hpu
        | false =>
          rw [hpu] at hclp
          rcases hLf with ⟨rfl, rfl⟩ | ⟨rfl, rfl⟩
          · exact .inr (.inl ⟨by unfold sAt; rw [hclp]; rfl, rfl, [], .refl _⟩)
          · exact .inr (.inr ⟨ok.ss p o i hclp hpi ha2, .refl _, rfl⟩)
      intro t ht
      by_cases hex : ∃ j, j < p - k ∧ dstAt ((os.drop k).take kk) j = some t
      · obtain ⟨j, hj1, hj2⟩ := hex
        exact g2 j t (Nat.zero_le _) hj1 hj2
      · rw [g1 t (fun j _ hj1 hj2 => hex ⟨j, hj1, hj2⟩)]
        refine (f1 t (fun j _ hj1 hc => ?_)).symm
        unfold dstAt at hc
        cases h5 : ((os.drop k).take kk)[j]? with
        | none => rw [h5] at hc; cases hc
        | some o' =>
          rw [h5] at hc
          obtain ⟨a, hb1, hb2⟩ := hord j o' h5
          have := (ok.rds i o a t ha2 (by simpa [dstAt, hb2] using hc) ht).1
          rw [pos_eq ok hb1, pos_eq ok hpi] at this
          exact hex ⟨j, by omega, by unfold dstAt; rw [h5]; exact hc⟩
  · intro p i hp hpi; exact st.hi p i (by omega) hpi
  · intro x hx
    obtain ⟨p, o, d, T, zs, q1, q2, q3, q4, q5, q6, q7, q8⟩ := st.ear x hx
    refine ⟨p, o, d, T, zs, ?_, q2, q3, q4, q5, q6, q7, q8⟩
    rcases Nat.lt_or_ge p (k + min kk (ops.length - k)) with hlt | hge
    · exfalso
      have hj : p - k < ((os.drop k).take kk).length := by rw [hlen]; omega
      have := hcl (p - k) _ (List.getElem?_eq_getElem hj)
      rw [Nat.add_sub_cancel' q1, q3] at this
      cases hpp : pureOp P ((os.drop k).take kk)[p - k].op <;> cases sc <;> rw [hpp] at this <;> simp at this
    · exact hge
  · intro t h1 h2
    have h3 : e' t = ek t := st.env t (fun p i hp hpi hD => h1 p i (by omega) hpi hD) h2
    rw [h3]
    refine (f1 t (fun j _ hj hc => ?_)).symm
    unfold dstAt at hc
    cases h5 : ((os.drop k).take kk)[j]? with
    | none => rw [h5] at hc; cases hc
    | some o' =>
      rw [h5] at hc
      obtain ⟨a, ha1, ha2⟩ := hord j o' h5
      have hlt : k + j < k + min kk (ops.length - k) := by rw [hlen] at hj; omega
      cases hDa : D.getD a false with
      | false => exact h1 (k + j) a hlt ha1 hDa (by simpa [dstAt, ha2] using hc)
      | true =>
        obtain ⟨x, hx, hxe⟩ := List.mem_map.1 ((st.hi (k + j) a (by omega) ha1).1 hDa)
        exact h2 x hx (by rw [hxe]; simpa [dstAt, ha2] using hc)
theorem adv_free (ok : Ok P n X ops ord os cl) {kk : Nat} (st : St P ro ops ord os cl Q L0 D e' ds w1 k (.free kk :: s) ek mk Lk E) : ∃ k' ek', St P ro ops ord os cl Q L0 D e' ds w1 k' s ek' mk Lk E :=
  adv_fr ok (sc := false) (fun _ => rfl) (.inl ⟨rfl, rfl⟩) st st.run
theorem adv_stab (ok : Ok P n X ops ord os cl) {kk : Nat} (st : St P ro ops ord os cl Q L0 D e' ds w1 k (.stab kk :: s) ek mk Lk E) : ∃ k' ek', St P ro ops ord os cl Q L0 D e' ds w1 k' s ek' mk Lk E :=
  adv_fr ok (sc := true) (fun _ => rfl) (.inr ⟨rfl, rfl⟩) st st.run
/-- A variable that has been made ahead takes its place. -/
theorem adv_al (ok : Ok P n X ops ord os cl) (st : St P ro ops ord os cl Q L0 D e' ds w1 k (.al :: s) ek mk Lk E) {i : Nat} (hi : ord[k]? = some i) (hD : D.getD i false = true) :
    ∃ k' ek' Lk' E', St P ro ops ord os cl Q L0 D e' ds w1 k' s ek' mk Lk' E' := by
  obtain ⟨x, hx, rfl⟩ := List.mem_map.1 ((st.hi k i (Nat.le_refl _) hi).1 hD)
  obtain ⟨p, o, d, T, zs, q1, q2, q3, q4, q5, q6, q7, q8⟩ := st.ear x hx
  have hpk := ok.inj _ _ _ q2 hi
  subst hpk
  have hosp : os[p]? = some o := by rw [ok.hos, hi]; exact q4
  have hlt := (List.getElem?_eq_some_iff.1 hosp).1
  have hdrop : os.drop p = o :: os.drop (p + 1) := by
    rw [List.drop_eq_getElem_cons hlt]; congr 1; exact (List.getElem?_eq_some_iff.1 hosp).2
  have hrun := st.run
  rw [hdrop] at hrun
  simp only [drunA, q6, allocA, q7] at hrun
  have hp := hrun x.2
  obtain ⟨E1, E2, rfl⟩ := List.append_of_mem hx
  have hnd := st.nd
  simp only [List.map_append, List.map_cons] at hnd
  have hx1 : x.1 ∉ (E1 ++ E2).map (·.1) := by
    simp only [List.map_append]
    exact (List.perm_middle.nodup_iff.1 hnd |> List.nodup_cons.1).1
  have hsub : ∀ y, y ∈ E1 ++ E2 → y ∈ E1 ++ x :: E2 := fun y hy => by
    rcases List.mem_append.1 hy with h | h
    · exact List.mem_append_left _ h
    · exact List.mem_append_right _ (List.mem_cons_of_mem _ h)
  have hz : zobj P ops x.1 = .cells zs.toArray T (0, 0) := by simp [zobj, q4, q6, q7]
  have hdat : dstAt ops x.1 = some d := by rw [dst_at q4, q5]
  refine ⟨p + 1, updo ek o.dst (.pointer (some ⟨x.2, 0, none⟩)), _, E1 ++ E2, hp, ?_, ?_, ?_, ?_, ?_, ?_, ?_, ?_⟩
  · have h := st.cls
    have hl : (cl.take p).length = p := by rw [List.length_take, ok.clen]; exact Nat.min_eq_left st.hk
    rw [hdrop] at h
    have e1 : clsOf P (.al :: s) (o :: os.drop (p + 1)) = .a :: clsOf P s (os.drop (p + 1)) := rfl
    rw [e1] at h
    have e2 : cl.take (p + 1) = cl.take p ++ [.a] := by rw [List.take_add_one, q3]; rfl
    rw [e2, List.append_assoc]; exact h
  · have := (List.getElem?_eq_some_iff.1 hi).1; rw [ok.len] at this; omega
  · intro p' i' hp' hi'
    rcases Nat.lt_or_ge p' p with hlt' | hge'
    · rcases st.lo p' i' hlt' hi' with h | ⟨o', ep, mi, Li, h1, h2, h3, h4⟩
      · exact .inl h
      · refine .inr ⟨o', ep, mi, Li, h1, ?_, ?_, ?_⟩
        · intro t ht
          rw [h2 t ht, q5]
          by_cases htd : t = d
          · subst htd
            have := (ok.rds i' o' x.1 t h1 hdat ht).1
            rw [pos_eq ok hi, pos_eq ok hi'] at this; omega
          · simp [updo, up, htd]
        · have hd' : ∀ d', o'.dst = some d' → updo ek o.dst (.pointer (some ⟨x.2, 0, none⟩)) d' = ek d' := by
            intro d' hd'
            rw [q5]
            by_cases hdd : d' = d
            · subst hdd
              have := ok.dst i' x.1 d' (by rw [dst_at h1, hd']) hdat
              subst this
              have := ok.inj _ _ _ hi' hi
              omega
            · simp [updo, up, hdd]
          have e1 : ∀ v, (∀ d', o'.dst = some d' → updo ek o.dst (.pointer (some ⟨x.2, 0, none⟩)) d' = v) = (∀ d', o'.dst = some d' → ek d' = v) :=
            fun v => propext ⟨fun h d' hh => by rw [← hd' d' hh]; exact h d' hh, fun h d' hh => by rw [hd' d' hh]; exact h d' hh⟩
          simp only [e1]; exact h3
        · rcases h4 with h4 | ⟨h5, h4, X, hX⟩ | h4
          · exact .inl h4
          · exact .inr (.inl ⟨h5, h4, _ :: X, List.Perm.cons _ hX⟩)
          · exact .inr (.inr h4)
    · have : p' = p := by omega
      subst this
      rw [hi] at hi'; obtain rfl := Option.some.inj hi'
      exact .inl hD
  · intro p' i' hp' hi'
    rw [st.hi p' i' (by omega) hi']
    have hne : i' ≠ x.1 := by rintro rfl; have := ok.inj _ _ _ hi' hi; omega
    simp only [List.map_append, List.map_cons, List.mem_append, List.mem_cons, hne, false_or]
  · intro y hy
    obtain ⟨p', o', d', T', zs', r1, r2, r3⟩ := st.ear y (hsub y hy)
    refine ⟨p', o', d', T', zs', ?_, r2, r3⟩
    have hne : y.1 ≠ x.1 := fun hc => hx1 (by rw [← hc]; exact List.mem_map.2 ⟨y, hy, rfl⟩)
    have : p' ≠ p := by rintro rfl; rw [hi] at r2; exact hne (Option.some.inj r2).symm
    omega
  · intro t h1 h2
    rw [q5]
    by_cases htd : t = d
    · subst htd; simp [updo, up, q8]
    · have : e' t = ek t := by
        refine st.env t (fun p' i' hp' hi' hD' => h1 p' i' (by omega) hi' hD') ?_
        intro y hy
        rcases List.mem_append.1 hy with h | h
        · exact h2 y (List.mem_append_left _ h)
        · rcases List.mem_cons.1 h with rfl | h
          · rw [hdat]; intro hc; exact htd (Option.some.inj hc).symm
          · exact h2 y (List.mem_append_right _ h)
      rw [this]; simp [updo, up, htd]
  · have h := st.inv
    refine h.perm ?_
    have e1 : early P ops (E1 ++ x :: E2) = early P ops E1 ++ (x.2, zobj P ops x.1) :: early P ops E2 := by simp [early]
    have e2 : early P ops (E1 ++ E2) = early P ops E1 ++ early P ops E2 := by simp [early]
    rw [e1, e2, hz]
    simp only [List.append_assoc, List.cons_append]
    have h3 : (early P ops E1 ++ (x.2, Obj.cells zs.toArray T (0, 0)) :: (early P ops E2 ++ L0)).Perm ((x.2, Obj.cells zs.toArray T (0, 0)) :: (early P ops E1 ++ (early P ops E2 ++ L0))) := List.perm_middle
    exact (h3.append_left Lk).trans List.perm_middle
  · simp only [List.map_append]
    exact (List.nodup_cons.1 (List.perm_middle.nodup_iff.1 hnd)).2

theorem ok_anc (ok : Ok P n X ops ord os cl) (hcl : ∀ i, D.getD i false = true → ∀ j ∈ dirX X ops i, D.getD j false = true) {i j : Nat} (hi : i < ops.length) (h : ancO (masksO X ops ord) ord i j = true) (hdir : ∀ j ∈ dirX X ops i, D.getD j false = true) : D.getD j false = true := by
  obtain ⟨p, h1, _, h3⟩ := ok.all i hi
  exact ancO_listed ok.ac hcl _ i j rfl (by rw [h3, ok.len]; exact h1) h hdir
theorem reads_agree (ok : Ok P n X ops ord os cl) (st : St P ro ops ord os cl Q L0 D e' ds w1 k s ek mk Lk E) {p i : Nat} {o : Oper} (hp : p ≤ k) (hpi : ord[p]? = some i) (ho : ops[i]? = some o)
    (hcl : ∀ i, D.getD i false = true → ∀ j ∈ dirX X ops i, D.getD j false = true) (hdir : ∀ j ∈ dirX X ops i, D.getD j false = true) : ∀ t ∈ readsOf ops o, ek t = e' t := by
  intro t ht
  refine (st.env t ?_ ?_).symm
  · intro p' i' hp' hi' hD' hc
    have := ok_anc ok hcl (List.getElem?_eq_some_iff.1 ho).1 (ok.rds i o i' t ho hc ht).2 hdir
    rw [hD'] at this; cases this
  · intro x hx hc
    obtain ⟨p', o', d, T, zs, q1, q2, _⟩ := st.ear x hx
    have := (ok.rds i o x.1 t ho hc ht).1
    rw [pos_eq ok q2, pos_eq ok hpi] at this
    omega
theorem st_done (ok : Ok P n X ops ord os cl) (st : St P ro ops ord os cl Q L0 D e' ds w1 k s ek mk Lk E) {p i : Nat} {o : Oper} {v : Value} {w2 : World} (hp : p < k) (hpi : ord[p]? = some i) (ho : ops[i]? = some o)
    (hsz : i < D.size) (hv : ∀ d, o.dst = some d → ek d = v) (hI : Inv mk (Lk ++ (early P ops E ++ L0)) w2) : St P ro ops ord os cl Q L0 (D.setIfInBounds i true) (updo e' o.dst v) ds w2 k s ek mk Lk E := by
  have hmono : ∀ j, D.getD j false = true → (D.setIfInBounds i true).getD j false = true := fun j hj => by rw [getD_set hsz, hj]; simp
  refine ⟨st.run, st.cls, st.hk, ?_, ?_, ?_, ?_, hI, st.nd⟩
  · intro p' i' hp' hi'
    exact (st.lo p' i' hp' hi').imp (hmono i') id
  · intro p' i' hp' hi'
    have hne : i' ≠ i := by rintro rfl; have := ok.inj _ _ _ hi' hpi; omega
    rw [getD_set hsz]; simp only [hne, decide_false, Bool.false_or]; exact st.hi p' i' hp' hi'
  · intro x hx
    obtain ⟨p', o', d, T, zs, q1, q2, q3, q4, q5, q6, q7, q8⟩ := st.ear x hx
    refine ⟨p', o', d, T, zs, q1, q2, q3, q4, q5, q6, q7, ?_⟩
    rw [← q8]
    cases hd : o.dst with
    | none => rfl
    | some d' =>
      have : d ≠ d' := by
        rintro rfl
        have := ok.dst x.1 i d (by rw [dst_at q4, q5]) (by rw [dst_at ho, hd])
        rw [this] at q2
        have := ok.inj _ _ _ q2 hpi; omega
      simp [updo, up, this]
  · intro t h1 h2
    cases hd : o.dst with
    | none =>
      refine st.env t (fun p' i' hp' hi' hD' => ?_) h2
      by_cases hii : i' = i
      · subst hii; rw [dst_at ho, hd]; simp
      · exact h1 p' i' hp' hi' (by rw [getD_set hsz]; simp [hii, hD'])
    | some d =>
      by_cases htd : t = d
      · subst htd; simp only [updo, up, if_true]; exact (hv t hd).symm
      · have : e' t = ek t := by
          refine st.env t (fun p' i' hp' hi' hD' => ?_) h2
          by_cases hii : i' = i
          · subst hii; rw [dst_at ho, hd]; intro hc; exact htd (Option.some.inj hc).symm
          · exact h1 p' i' hp' hi' (by rw [getD_set hsz]; simp [hii, hD'])
        simp [updo, up, htd, this]
theorem ex_pend (ok : Ok P n X ops ord os cl) (st : St P ro ops ord os cl Q L0 D e' ds w1 k s ek mk Lk E) {p i : Nat} (hp : p < k) (hpi : ord[p]? = some i) (hD : D.getD i false = false)
    (hcl : ∀ i, D.getD i false = true → ∀ j ∈ dirX X ops i, D.getD j false = true) (hdir : ∀ j ∈ dirX X ops i, D.getD j false = true) (hsz : i < D.size) {Ka : Act → World → Prop}
    (hKa : ∀ e2 w2, St P ro ops ord os cl Q L0 (D.setIfInBounds i true) e2 ds w2 k s ek mk Lk E → Ka (mkAct n e2 ds) w2) : wpOpIn (FW ro) 0 P ops.toArray (lift n (conc L0 Q)) i Ka (mkAct n e' ds) w1 := by
  rcases st.lo p i hp hpi with h | ⟨o, ep, mi, Li, ho, hr, hst, hcase⟩
  · rw [hD] at h; cases h
  · have hmem : o ∈ ops := List.mem_of_getElem? ho
    obtain ⟨hf, hg⟩ := opsFit_at ok.fit hmem
    have hag : ∀ t ∈ readsOf ops o, ep t = e' t := fun t ht => (hr t ht).trans (reads_agree ok st (Nat.le_of_lt hp) hpi ho hcl hdir t ht)
    have hoa : ops.toArray[i]? = some o := by simpa using ho
    have hdl : dsts ops = ops.toArray.toList.map (·.dst) := rfl
    have hskip : (∀ d, o.dst = some d → ek d = undef) → Ka (mkAct n (updo e' o.dst undef) ds) w1 := fun h => hKa _ _ (st_done ok st hp hpi ho hsz h st.inv)
    rcases hcase with hpu | ⟨_, rfl, X, hX⟩ | ⟨hlo, hle, rfl⟩
    · have h1 := stepP_ext (dl := dsts ops) (ops := ops) rfl (opFit_select hf) hag (stepA_pureP w1 hpu hst)
      rw [hdl] at h1
      refine step_sound hoa hf hg ?_ ?_ ?_ hskip h1
      · rintro v w ⟨rfl, h⟩; exact hKa _ _ (st_done ok st hp hpi ho hsz h.2 st.inv)
      · rintro v w ⟨rfl, h⟩; exact h.elim
      · rintro v w ⟨rfl, h⟩; exact h.elim
    · have hperm : (Lk ++ (early P ops E ++ L0)).Perm (Li ++ (X ++ (early P ops E ++ L0))) := by
        refine (hX.append_right _).trans ?_
        rw [← List.append_assoc Li X]
        exact List.perm_append_comm.append_right _
      have h1 := stepP_ext (dl := dsts ops) (ops := ops) rfl (opFit_select hf) hag (stepA_toP (st.inv.perm hperm) hst)
      rw [hdl] at h1
      refine step_sound hoa hf hg ?_ ?_ ?_ hskip h1
      · rintro v w ⟨m', L', hI, ⟨rfl, rfl⟩, h⟩; exact hKa _ _ (st_done ok st hp hpi ho hsz h (hI.perm hperm.symm))
      · rintro v w ⟨m', L', hI, h⟩; exact h.elim
      · rintro v w ⟨m', L', hI, h⟩; exact h.elim
    · have hIl : Inv mi ([] ++ (Lk ++ (early P ops E ++ L0))) w1 := st.inv.low hle
      have h1 := stepP_ext (dl := dsts ops) (ops := ops) rfl (opFit_select hf) hag (stepA_loadP hlo hIl hst)
      rw [hdl] at h1
      refine step_sound hoa hf hg ?_ ?_ ?_ hskip h1
      · rintro v w ⟨rfl, m', L', _, h⟩; exact hKa _ _ (st_done ok st hp hpi ho hsz h st.inv)
      · rintro v w h; exact h.elim
      · rintro v w h; exact h.elim
theorem ex_early (ok : Ok P n X ops ord os cl) (st : St P ro ops ord os cl Q L0 D e' ds w1 k s ek mk Lk E) {q i : Nat} (hq : k ≤ q) (hqi : ord[q]? = some i) (hc : cl[q]? = some .a) (hD : D.getD i false = false) (hsz : i < D.size) {Ka : Act → World → Prop}
    (hKa : ∀ e2 w2 E2, St P ro ops ord os cl Q L0 (D.setIfInBounds i true) e2 ds w2 k s ek mk Lk E2 → Ka (mkAct n e2 ds) w2) : wpOpIn (FW ro) 0 P ops.toArray (lift n (conc L0 Q)) i Ka (mkAct n e' ds) w1 := by
  have hi := ok.ran _ _ hqi
  have ho : ops[i]? = some ops[i] := List.getElem?_eq_getElem hi
  obtain ⟨d, T, zs, hd, hgu, hop, hz⟩ := ok.alc q _ i hc hqi ho
  obtain ⟨hf, hg⟩ := opsFit_at ok.fit (List.getElem_mem hi)
  generalize hoo : ops[i] = o at *
  have hoa : ops.toArray[i]? = some o := by simpa using ho
  obtain ⟨od, oop, oty, ops_, oaf, ogu⟩ := o
  dsimp only at hd hgu hop; subst hd hgu hop
  have hzo : zobj P ops i = .cells zs.toArray T (0, 0) := by simp [zobj, ho, hz]
  have hiE : i ∉ E.map (·.1) := fun h => by rw [(st.hi q i hq hqi).2 h] at hD; cases hD
  have h1 : stepP P ro (ops.toArray.toList.map (·.dst)) ⟨some d, .alloc T, oty, ops_, oaf, none⟩ e' (ck ⟨fun v m L => ∃ b, v = .pointer (some ⟨b, 0, none⟩) ∧ m = mk ∧ L = (b, .cells zs.toArray T (0, 0)) :: Lk, fun _ _ _ => False, fun _ _ _ => False⟩ (early P ops E ++ L0)) False w1 :=
    allocA_gen (by unfold allocA; rw [hz]; exact fun b => ⟨b, rfl, rfl, rfl⟩) _ _ st.inv
  refine step_sound hoa hf hg ?_ ?_ ?_ (fun h => h.elim) h1
  · rintro v w2 ⟨m', L', hI, b, rfl, rfl, rfl⟩
    refine hKa _ _ ((i, b) :: E) ⟨st.run, st.cls, st.hk, ?_, ?_, ?_, ?_, ?_, ?_⟩
    · intro p' i' hp' hi'
      refine (st.lo p' i' hp' hi').imp (fun h => by rw [getD_set hsz, h]; simp) id
    · intro p' i' hp' hi'
      rw [getD_set hsz]
      simp only [Bool.or_eq_true, decide_eq_true_eq, List.map_cons, List.mem_cons]
      rw [st.hi p' i' hp' hi']
    · intro x hx
      rcases List.mem_cons.1 hx with rfl | hx
      · exact ⟨q, _, d, T, zs, hq, hqi, hc, ho, rfl, rfl, hz, by simp [updo, up]⟩
      · obtain ⟨p', o', d', T', zs', q1, q2, q3, q4, q5, q6, q7, q8⟩ := st.ear x hx
        refine ⟨p', o', d', T', zs', q1, q2, q3, q4, q5, q6, q7, ?_⟩
        have : d' ≠ d := by
          rintro rfl
          have := ok.dst x.1 i d' (by rw [dst_at q4, q5]) (by rw [dst_at ho])
          exact hiE (by rw [← this]; exact List.mem_map.2 ⟨x, hx, rfl⟩)
        simp [updo, up, this, q8]
    · intro t h2 h3
      have hti : t ≠ d := by
        rintro rfl; exact h3 (i, b) (by simp) (by rw [dst_at ho])
      have : e' t = ek t := by
        refine st.env t (fun p' i' hp' hi' hD' => ?_) (fun x hx => h3 x (List.mem_cons_of_mem _ hx))
        by_cases hii : i' = i
        · subst hii; rw [dst_at ho]; intro hc'; exact hti (Option.some.inj hc').symm
        · exact h2 p' i' hp' hi' (by rw [getD_set hsz]; simp [hii, hD'])
      simp [updo, up, hti, this]
    · refine hI.perm ?_
      have e1 : early P ops ((i, b) :: E) = (b, .cells zs.toArray T (0, 0)) :: early P ops E := by simp [early, hzo]
      rw [e1]
      simp only [List.cons_append]
      exact List.perm_middle.symm
    · simp only [List.map_cons]; exact List.nodup_cons.2 ⟨hiE, st.nd⟩
  · rintro v w2 ⟨m', L', hI, h⟩; exact h.elim
  · rintro v w2 ⟨m', L', hI, h⟩; exact h.elim
/-- The state behind an operation that stood next. -/
theorem st_next (ok : Ok P n X ops ord os cl) {s0 : Step} {c : Cls} (st : St P ro ops ord os cl Q L0 D e' ds w1 k (s0 :: s) ek mk Lk E) {i : Nat} {o : Oper} {v : Value} {w2 : World} {ds2 : DS} {m2 : Mem} {L2 : Lst}
    (hs0 : ∀ os, clsOf P (s0 :: s) os = c :: clsOf P s (os.drop 1)) (hki : ord[k]? = some i) (ho : ops[i]? = some o) (hsz : i < D.size) (hD : D.getD i false = false) (hrun : drunA P ro (dsts ops) Q s (os.drop (k + 1)) (updo ek o.dst v) ds2 m2 L2)
    (hI : Inv m2 (L2 ++ (early P ops E ++ L0)) w2) (hpend : ∀ p j, p < k → ord[p]? = some j → D.getD j false = false → ∀ oj mi Li, ops[j]? = some oj → PT P (sAt cl p) oj mi mk Li Lk → PT P (sAt cl p) oj mi m2 Li L2) :
    St P ro ops ord os cl Q L0 (D.setIfInBounds i true) (updo e' o.dst v) ds2 w2 (k + 1) s (updo ek o.dst v) m2 L2 E := by
  have hmono : ∀ j, D.getD j false = true → (D.setIfInBounds i true).getD j false = true := fun j hj => by rw [getD_set hsz, hj]; simp
  have hiE : i ∉ E.map (·.1) := fun h => by rw [(st.hi k i (Nat.le_refl _) hki).2 h] at hD; cases hD
  have hosk : os[k]? = some o := by rw [ok.hos, hki]; exact ho
  have hkl := (List.getElem?_eq_some_iff.1 hosk).1
  refine ⟨hrun, ?_, ?_, ?_, ?_, ?_, ?_, hI, st.nd⟩
  · have h := st.cls
    rw [hs0, List.drop_drop] at h
    have hck : cl[k]? = some c := by
      have := st.cl_at ok 0
      rw [hs0] at this; simpa using this
    have e2 : cl.take (k + 1) = cl.take k ++ [c] := by rw [List.take_add_one, hck]; rfl
    rw [e2, List.append_assoc]; exact h
  · have := (List.getElem?_eq_some_iff.1 hki).1; rw [ok.len] at this; omega
  · intro p' i' hp' hi'
    rcases Nat.lt_or_ge p' k with hlt | hge
    · have hne : i' ≠ i := by rintro rfl; have := ok.inj _ _ _ hi' hki; omega
      cases hDi : D.getD i' false with
      | true => exact .inl (hmono i' hDi)
      | false =>
        rcases st.lo p' i' hlt hi' with h | ⟨o', ep, mi, Li, h1, h2, h3, h4⟩
        · rw [hDi] at h; cases h
        · refine .inr ⟨o', ep, mi, Li, h1, ?_, ?_, hpend p' i' hlt hi' hDi o' mi Li h1 h4⟩
          · intro t ht
            rw [h2 t ht]
            cases hd : o.dst with
            | none => rfl
            | some d =>
              by_cases htd : t = d
              · subst htd
                have := (ok.rds i' o' i t h1 (by rw [dst_at ho, hd]) ht).1
                rw [pos_eq ok hki, pos_eq ok hi'] at this; omega
              · simp [updo, up, htd]
          · have hd' : ∀ d', o'.dst = some d' → updo ek o.dst v d' = ek d' := by
              intro d' hd'
              cases hd : o.dst with
              | none => rfl
              | some d =>
                have : d' ≠ d := by
                  rintro rfl
                  exact hne (ok.dst i' i d' (by rw [dst_at h1, hd']) (by rw [dst_at ho, hd]))
                simp [updo, up, this]
            have e1 : ∀ u, (∀ d', o'.dst = some d' → updo ek o.dst v d' = u) = (∀ d', o'.dst = some d' → ek d' = u) :=
              fun u => propext ⟨fun h d' hh => by rw [← hd' d' hh]; exact h d' hh, fun h d' hh => by rw [hd' d' hh]; exact h d' hh⟩
            simp only [e1]; exact h3
    · have : p' = k := by omega
      subst this
      rw [hki] at hi'; obtain rfl := Option.some.inj hi'
      refine .inl ?_
      rw [getD_set hsz]; simp
  · intro p' i' hp' hi'
    have hne : i' ≠ i := by rintro rfl; have := ok.inj _ _ _ hi' hki; omega
    rw [getD_set hsz]; simp only [hne, decide_false, Bool.false_or]; exact st.hi p' i' (by omega) hi'
  · intro x hx
    obtain ⟨p', o', d, T, zs, q1, q2, q3, q4, q5, q6, q7, q8⟩ := st.ear x hx
    have hxi : x.1 ≠ i := fun hc => hiE (by rw [← hc]; exact List.mem_map.2 ⟨x, hx, rfl⟩)
    have hpk : p' ≠ k := by rintro rfl; rw [hki] at q2; exact hxi (Option.some.inj q2).symm
    refine ⟨p', o', d, T, zs, by omega, q2, q3, q4, q5, q6, q7, ?_⟩
    rw [← q8]
    cases hd : o.dst with
    | none => rfl
    | some d' =>
      have : d ≠ d' := by rintro rfl; exact hxi (ok.dst x.1 i d (by rw [dst_at q4, q5]) (by rw [dst_at ho, hd]))
      simp [updo, up, this]
  · intro t h1 h2
    have key : (∀ d, o.dst = some d → t ≠ d) → e' t = ek t := by
      intro hnd
      refine st.env t (fun p' i' hp' hi' hD' => ?_) h2
      have hne : i' ≠ i := by rintro rfl; have := ok.inj _ _ _ hi' hki; omega
      exact h1 p' i' (by omega) hi' (by rw [getD_set hsz]; simp [hne, hD'])
    cases hd : o.dst with
    | none => exact key (fun d hd' => by rw [hd] at hd'; cases hd')
    | some d =>
      by_cases htd : t = d
      · subst htd; simp [updo, up]
      · simp only [updo, up, htd, if_false]; exact key (fun d' hd' => by rw [hd] at hd'; rw [← Option.some.inj hd']; exact htd)

/-- One more operation, whichever the schedule takes. -/
theorem exec_any (ok : Ok P n X ops ord os cl) {Ka : Act → World → Prop} {i : Nat} (hi : i < ops.length) (hD : D.getD i false = false)
    (hcl : ∀ i, D.getD i false = true → ∀ j ∈ dirX X ops i, D.getD j false = true) (hdir : ∀ j ∈ dirX X ops i, D.getD j false = true) (hsz : i < D.size) :
    ∀ (s : List Step) (k : Nat) (ek : En) (mk : Mem) (Lk : Lst) (E : List (Nat × Nat)), St P ro ops ord os cl Q L0 D e' ds w1 k s ek mk Lk E →
    (∀ e2 ds2 w2 k s ek mk Lk E, St P ro ops ord os cl Q L0 (D.setIfInBounds i true) e2 ds2 w2 k s ek mk Lk E → Ka (mkAct n e2 ds2) w2) → wpOpIn (FW ro) 0 P ops.toArray (lift n (conc L0 Q)) i Ka (mkAct n e' ds) w1 := by
  obtain ⟨q, hq, hqi, _⟩ := ok.all i hi
  have hosl : ∀ p : Nat, p < ops.length → ∃ o, os[p]? = some o := by
    intro p hp
    have h2 : ord[p]? = some (ord[p]'(by rw [ok.len]; exact hp)) := List.getElem?_eq_getElem _
    have := ok.ran _ _ h2
    exact ⟨_, by rw [ok.hos, h2, Option.bind_some, List.getElem?_eq_getElem this]⟩
  intro s
  induction s with
  | nil =>
    intro k ek mk Lk E st hKa
    have h0 : cl[k + 0]? = none := by rw [st.cl_at ok 0]; rfl
    have hkl : ops.length ≤ k := by
      rw [← ok.clen]; simpa using h0
    exact ex_pend ok st (Nat.lt_of_lt_of_le hq hkl) hqi hD hcl hdir hsz (fun e2 w2 h => hKa _ _ _ _ _ _ _ _ _ h)
  | cons s0 s ih =>
    intro k ek mk Lk E st hKa
    rcases Nat.lt_or_ge q k with hqk | hqk
    · exact ex_pend ok st hqk hqi hD hcl hdir hsz (fun e2 w2 h => hKa _ _ _ _ _ _ _ _ _ h)
    · obtain ⟨c, hc⟩ : ∃ c, cl[q]? = some c := ⟨_, List.getElem?_eq_getElem (by rw [ok.clen]; exact hq)⟩
      by_cases hca : c = .a
      · subst hca
        exact ex_early ok st hqk hqi hc hD hsz (fun e2 w2 E2 h => hKa _ _ _ _ _ _ _ _ _ h)
      · -- the operation that stands next must have been done, or be this one
        have hdone : ∀ i0 c0, k < q → ord[k]? = some i0 → cl[k]? = some c0 → (∀ c, c ≠ .a → mayPass c0 c = false) → D.getD i0 false = true := by
          intro i0 c0 hlt h1 h2 h3
          rcases ok.pair k q c0 c i0 i hlt h2 hc h1 hqi with h | h
          · rw [h3 c hca] at h; cases h
          · exact ok_anc ok hcl (by first | exact hi | exact ok.ran _ _ hqi) h hdir
        have hkN : k < ops.length := Nat.lt_of_le_of_lt hqk hq
        have hok : ord[k]? = some (ord[k]'(by rw [ok.len]; exact hkN)) := List.getElem?_eq_getElem _
        obtain ⟨o, hoo⟩ := hosl k hkN
        have hopk : ops[ord[k]'(by rw [ok.len]; exact hkN)]? = some o := by
          have := ok.hos k; rw [hok, hoo] at this; exact this.symm
        have hdrop : os.drop k = o :: os.drop (k + 1) := by
          rw [List.drop_eq_getElem_cons (List.getElem?_eq_some_iff.1 hoo).1]; congr 1; exact (List.getElem?_eq_some_iff.1 hoo).2
        have hnoE : ∀ c0, cl[k]? = some c0 → c0 ≠ .a → k < q → (∀ c, c ≠ .a → mayPass c0 c = false) → False := by
          intro c0 h2 hca0 hlt h3
          have hDk := hdone _ c0 hlt hok h2 h3
          obtain ⟨x, hx, hxe⟩ := List.mem_map.1 ((st.hi k _ (Nat.le_refl _) hok).1 hDk)
          obtain ⟨p', o', d, T, zs, q1, q2, q3, _⟩ := st.ear x hx
          rw [hxe] at q2
          have := ok.inj _ _ _ q2 hok
          subst this
          rw [h2] at q3; exact hca0 (Option.some.inj q3)
        -- what is needed of the operation that is done now
        have hmem : o ∈ ops := List.mem_of_getElem? hopk
        obtain ⟨hf, hg⟩ := opsFit_at ok.fit hmem
        cases s0 with
        | free kk =>
          obtain ⟨k', ek', st'⟩ := adv_free ok st
          exact ih k' ek' mk Lk E st' hKa
        | al =>
          have hck : cl[k]? = some .a := by
            have := st.cl_at ok 0; rw [hdrop] at this; exact this
          have hlt : k < q := by
            rcases Nat.lt_or_ge k q with h | h
            · exact h
            · have : k = q := by omega
              subst this; rw [hc] at hck; exact absurd (Option.some.inj hck) hca
          obtain ⟨k', ek', Lk', E', st'⟩ := adv_al ok st hok (hdone _ .a hlt hok hck (by intro c hc; cases c <;> first | rfl | exact absurd rfl hc))
          exact ih k' ek' mk Lk' E' st' hKa
        | one =>
          have hck : cl[k]? = some .w := by
            have := st.cl_at ok 0; rw [hdrop] at this; exact this
          rcases Nat.lt_or_ge k q with h | h
          · exact (hnoE .w hck (by simp) h (by intro c hc; cases c <;> first | rfl | exact absurd rfl hc)).elim
          · obtain rfl : k = q := by omega
            have hii : ord[k]'(by rw [ok.len]; exact hkN) = i := by rw [hqi] at hok; exact (Option.some.inj hok).symm
            rw [hii] at hopk
            have hrun := st.run
            rw [hdrop] at hrun
            have hrun : stepA P ro (dsts ops) o ek ⟨fun v m' L' => drunA P ro (dsts ops) Q s (os.drop (k + 1)) (updo ek o.dst v) ds m' L', fun q m' L' => drunA P ro (dsts ops) Q s (os.drop (k + 1)) (updo ek o.dst undef) (q :: ds) m' L', fun ch m' L' => ∀ e, Q (.panic ch) e ds m' L'⟩
              (drunA P ro (dsts ops) Q s (os.drop (k + 1)) (updo ek o.dst undef) ds mk Lk) mk Lk := hrun
            have hag := reads_agree ok st (Nat.le_refl _) hqi hopk hcl hdir
            have h1 := stepP_ext (dl := dsts ops) (ops := ops) rfl (opFit_select hf) hag (stepA_toP st.inv hrun)
            have hpn : ∀ (m2 : Mem) (L2 : Lst) (p j : Nat), p < k → ord[p]? = some j → D.getD j false = false → ∀ oj mi Li, ops[j]? = some oj → PT P (sAt cl p) oj mi mk Li Lk → PT P (sAt cl p) oj mi m2 Li L2 := by
              intro m2 L2 p j hp hpj hDj oj mi Li hoj _
              obtain ⟨cp, hcp⟩ : ∃ c, cl[p]? = some c := ⟨_, List.getElem?_eq_getElem (by rw [ok.clen]; omega)⟩
              rcases ok.pair p k cp .w j i hp hcp hck hpj hqi with h | h
              · have : cp = .p := by cases cp <;> first | rfl | (simp [mayPass] at h)
                subst this
                exact .inl (ok.pp p oj j hcp hpj hoj)
              · have := ok_anc ok hcl (by first | exact hi | exact ok.ran _ _ hqi) h hdir
                rw [hDj] at this; cases this
            have hs0 : ∀ os, clsOf P (.one :: s) os = .w :: clsOf P s (os.drop 1) := fun _ => rfl
            refine step_sound (ops := ops.toArray) (by simpa using hopk) hf hg ?_ ?_ ?_ ?_ h1
            · rintro v w2 ⟨m', L', hI, hr⟩
              exact hKa _ _ _ _ _ _ _ _ _ (st_next ok st hs0 hqi hopk hsz hD hr hI (hpn m' L'))
            · rintro v w2 ⟨m', L', hI, hr⟩
              exact hKa _ _ _ _ _ _ _ _ _ (st_next ok st hs0 hqi hopk hsz hD hr hI (hpn m' L'))
            · rintro ch w2 ⟨m', L', hI, hr⟩
              exact ⟨_, _, rfl, m', L', Inv.dropL (L1 := early P ops E) (hI.perm (by rw [← List.append_assoc, ← List.append_assoc]; exact List.perm_append_comm.append_right _)), hr _⟩
            · intro hr
              exact hKa _ _ _ _ _ _ _ _ _ (st_next ok st hs0 hqi hopk hsz hD hr st.inv (hpn mk Lk))
        | stab kk =>
          obtain ⟨k', ek', st'⟩ := adv_stab ok st
          exact ih k' ek' mk Lk E st' hKa
        | oneK =>
          have hck : cl[k]? = some .k := by
            have := st.cl_at ok 0; rw [hdrop] at this; exact this
          rcases Nat.lt_or_ge k q with h | h
          · exact (hnoE .k hck (by simp) h (by intro c hc; cases c <;> first | rfl | exact absurd rfl hc)).elim
          · obtain rfl : k = q := by omega
            have hii : ord[k]'(by rw [ok.len]; exact hkN) = i := by rw [hqi] at hok; exact (Option.some.inj hok).symm
            rw [hii] at hopk
            have hrun := st.run
            rw [hdrop] at hrun
            have hrun : stepA P ro (dsts ops) o ek ⟨fun v m' L' => @gateA (mk.Le m') ⟨drunA P ro (dsts ops) Q s (os.drop (k + 1)) (updo ek o.dst v) ds m' L'⟩, fun _ _ _ => False, fun ch m' L' => ∀ e, Q (.panic ch) e ds m' L'⟩
              (drunA P ro (dsts ops) Q s (os.drop (k + 1)) (updo ek o.dst undef) ds mk Lk) mk Lk := hrun
            have hag := reads_agree ok st (Nat.le_refl _) hqi hopk hcl hdir
            have h1 := stepP_ext (dl := dsts ops) (ops := ops) rfl (opFit_select hf) hag (stepA_toP st.inv hrun)
            have hpn : ∀ (m2 : Mem) (L2 : Lst), mk.Le m2 → ∀ (p j : Nat), p < k → ord[p]? = some j → D.getD j false = false → ∀ oj mi Li, ops[j]? = some oj → PT P (sAt cl p) oj mi mk Li Lk → PT P (sAt cl p) oj mi m2 Li L2 := by
              intro m2 L2 hle p j hp hpj hDj oj mi Li hoj hpt
              obtain ⟨cp, hcp⟩ : ∃ c, cl[p]? = some c := ⟨_, List.getElem?_eq_getElem (by rw [ok.clen]; omega)⟩
              rcases ok.pair p k cp .k j i hp hcp hck hpj hqi with h | h
              · have : cp = .p ∨ cp = .s := by cases cp <;> first | exact .inl rfl | exact .inr rfl | (simp [mayPass] at h)
                rcases this with rfl | rfl
                · exact .inl (ok.pp p oj j hcp hpj hoj)
                · rcases hpt with h1 | ⟨h1, _⟩ | ⟨h1, h2, h3⟩
                  · exact .inl h1
                  · unfold sAt at h1; rw [hcp] at h1; cases h1
                  · exact .inr (.inr ⟨h1, h2.trans hle, h3⟩)
              · have := ok_anc ok hcl (by first | exact hi | exact ok.ran _ _ hqi) h hdir
                rw [hDj] at this; cases this
            have hs0 : ∀ os, clsOf P (.oneK :: s) os = .k :: clsOf P s (os.drop 1) := fun _ => rfl
            refine step_sound (ops := ops.toArray) (by simpa using hopk) hf hg ?_ ?_ ?_ ?_ h1
            · rintro v w2 ⟨m', L', hI, hle, hr⟩
              exact hKa _ _ _ _ _ _ _ _ _ (st_next ok st hs0 hqi hopk hsz hD hr hI (hpn m' L' hle))
            · rintro v w2 ⟨m', L', hI, h⟩; exact h.elim
            · rintro ch w2 ⟨m', L', hI, hr⟩
              exact ⟨_, _, rfl, m', L', Inv.dropL (L1 := early P ops E) (hI.perm (by rw [← List.append_assoc, ← List.append_assoc]; exact List.perm_append_comm.append_right _)), hr _⟩
            · intro hr
              exact hKa _ _ _ _ _ _ _ _ _ (st_next ok st hs0 hqi hopk hsz hD hr st.inv (hpn mk Lk (.refl _)))
        | grow =>
          have hck : cl[k]? = some .g := by
            have := st.cl_at ok 0; rw [hdrop] at this; exact this
          rcases Nat.lt_or_ge k q with h | h
          · exact (hnoE .g hck (by simp) h (by intro c hc; cases c <;> first | rfl | exact absurd rfl hc)).elim
          · obtain rfl : k = q := by omega
            have hii : ord[k]'(by rw [ok.len]; exact hkN) = i := by rw [hqi] at hok; exact (Option.some.inj hok).symm
            rw [hii] at hopk
            have hrun := st.run
            rw [hdrop] at hrun
            have hrun : stepA P ro (dsts ops) o ek ⟨fun v m' L' => m' = mk ∧ ∃ X, L' = X ++ Lk ∧ drunA P ro (dsts ops) Q s (os.drop (k + 1)) (updo ek o.dst v) ds m' L', fun _ _ _ => False, fun _ _ _ => False⟩
              (drunA P ro (dsts ops) Q s (os.drop (k + 1)) (updo ek o.dst undef) ds mk Lk) mk Lk := hrun
            have hag := reads_agree ok st (Nat.le_refl _) hqi hopk hcl hdir
            have h1 := stepP_ext (dl := dsts ops) (ops := ops) rfl (opFit_select hf) hag (stepA_toP st.inv hrun)
            have hs0 : ∀ os, clsOf P (.grow :: s) os = .g :: clsOf P s (os.drop 1) := fun _ => rfl
            refine step_sound (ops := ops.toArray) (by simpa using hopk) hf hg ?_ ?_ ?_ ?_ h1
            · rintro v w2 ⟨m', L', hI, rfl, X, rfl, hr⟩
              refine hKa _ _ _ _ _ _ _ _ _ (st_next ok st hs0 hqi hopk hsz hD hr hI ?_)
              rintro p j hp hpj hDj oj mi Li hoj (h | ⟨h5, h, X', hX'⟩ | h)
              · exact .inl h
              · exact .inr (.inl ⟨h5, h, X ++ X', by rw [List.append_assoc]; exact hX'.append_left X⟩)
              · exact .inr (.inr h)
            · rintro v w2 ⟨m', L', hI, h⟩; exact h.elim
            · rintro v w2 ⟨m', L', hI, h⟩; exact h.elim
            · intro hr
              exact hKa _ _ _ _ _ _ _ _ _ (st_next ok st hs0 hqi hopk hsz hD hr st.inv (fun p j _ _ _ oj mi Li _ h => h))
/-- All has been done. -/
theorem all_done (ok : Ok P n X ops ord os cl) (hall : ∀ i, i < ops.length → D.getD i false = true) : ∀ (s : List Step) (k : Nat) (ek : En) (mk : Mem) (Lk : Lst) (E : List (Nat × Nat)), St P ro ops ord os cl Q L0 D e' ds w1 k s ek mk Lk E →
    lift n (conc L0 Q) .normal (mkAct n e' ds) w1 := by
  intro s
  induction s with
  | nil =>
    intro k ek mk Lk E st
    have h0 : cl[k + 0]? = none := by rw [st.cl_at ok 0]; rfl
    have hkl : ops.length ≤ k := by rw [← ok.clen]; simpa using h0
    have hE : E = [] := by
      cases E with
      | nil => rfl
      | cons x E =>
        obtain ⟨p', o', d, T, zs, q1, q2, q3, _⟩ := st.ear x (by simp)
        have := (List.getElem?_eq_some_iff.1 q2).1
        rw [ok.len] at this; omega
    subst hE
    have he : e' = ek := by
      funext t
      refine st.env t (fun p i hp hpi hD => ?_) (by simp)
      rw [hall i (ok.ran _ _ hpi)] at hD; cases hD
    rw [he]
    exact ⟨_, _, rfl, mk, Lk, by simpa [early] using st.inv, st.run⟩
  | cons s0 s ih =>
    intro k ek mk Lk E st
    have hcase : ∀ c0, clsOf P (s0 :: s) (os.drop k) = c0 :: clsOf P s ((os.drop k).drop 1) → ∃ i, ord[k]? = some i ∧ cl[k]? = some c0 ∧ D.getD i false = true ∧ i ∈ E.map (·.1) := by
      intro c0 h
      have hck : cl[k]? = some c0 := by have := st.cl_at ok 0; rw [h] at this; simpa using this
      have hkN : k < ops.length := by rw [← ok.clen]; exact (List.getElem?_eq_some_iff.1 hck).1
      have hok : ord[k]? = some (ord[k]'(by rw [ok.len]; exact hkN)) := List.getElem?_eq_getElem _
      have hDk := hall _ (ok.ran _ _ hok)
      exact ⟨_, hok, hck, hDk, (st.hi k _ (Nat.le_refl _) hok).1 hDk⟩
    have hno : ∀ c0, c0 ≠ .a → clsOf P (s0 :: s) (os.drop k) = c0 :: clsOf P s ((os.drop k).drop 1) → False := by
      intro c0 hca h
      obtain ⟨i, h1, h2, h3, h4⟩ := hcase c0 h
      obtain ⟨x, hx, hxe⟩ := List.mem_map.1 h4
      obtain ⟨p', o', d, T, zs, q1, q2, q3, _⟩ := st.ear x hx
      rw [hxe] at q2
      have := ok.inj _ _ _ q2 h1
      subst this
      rw [h2] at q3; exact hca (Option.some.inj q3)
    cases s0 with
    | free kk => obtain ⟨k', ek', st'⟩ := adv_free ok st; exact ih k' ek' mk Lk E st'
    | al =>
      obtain ⟨i, h1, h2, h3, h4⟩ := hcase .a rfl
      obtain ⟨k', ek', Lk', E', st'⟩ := adv_al ok st h1 h3
      exact ih k' ek' mk Lk' E' st'
    | stab kk => obtain ⟨k', ek', st'⟩ := adv_stab ok st; exact ih k' ek' mk Lk E st'
    | oneK => exact (hno .k (by simp) rfl).elim
    | one => exact (hno .w (by simp) rfl).elim
    | grow => exact (hno .g (by simp) rfl).elim

theorem ok_of {plan : List Step} (hos : ord.map (fun i => ops[i]?) = os.map some) (h : planOk P n X ops plan ord os = true) : Ok P n X ops ord os (clsOf P plan os) := by
  simp only [planOk, Bool.and_eq_true, decide_eq_true_eq] at h
  obtain ⟨⟨⟨⟨⟨⟨⟨⟨⟨⟨hfit, hac0⟩, hac⟩, hlen⟩, hcl⟩, hall⟩, hdst⟩, hrd⟩, hpair⟩, hal⟩, hnd⟩ := h
  have hfind : ∀ i, i < ops.length → ∃ p, p < ops.length ∧ ord[p]? = some i ∧ posOf ord i = p := by
    intro i hi
    have hc := range_all hall hi
    have hmem : i ∈ ord := by simpa using hc
    have hlt : ord.idxOf i < ord.length := List.idxOf_lt_length_of_mem hmem
    exact ⟨ord.idxOf i, by omega, by rw [List.getElem?_eq_getElem hlt, List.getElem_idxOf hlt], rfl⟩
  -- every place holds another operation
  have hposlt : ∀ i, i < ops.length → posOf ord i < ops.length := fun i hi => by obtain ⟨p, h1, _, h3⟩ := hfind i hi; rw [h3]; exact h1
  have hran : ∀ (p i : Nat), ord[p]? = some i → i < ops.length := by
    intro p i hp
    have hlt : p < ord.length := (List.getElem?_eq_some_iff.1 hp).1
    have h1 : (ord.map (fun i => ops[i]?))[p]? = some (ops[i]?) := by rw [List.getElem?_map, hp]; rfl
    rw [hos, List.getElem?_map] at h1
    cases ho : os[p]? with
    | none => rw [ho] at h1; cases h1
    | some o =>
      rw [ho] at h1
      have h2 : ops[i]? = some o := (Option.some.inj h1).symm
      exact (List.getElem?_eq_some_iff.1 h2).1
  refine ⟨hfit, ?_, ?_, hlen, hcl, hfind, ?_, hran, ?_, ?_, ?_, ?_, ?_, ?_, ?_⟩
  · intro i j hj
    rcases Nat.lt_or_ge i ops.length with hi | hi
    · exact of_decide_eq_true (List.all_eq_true.1 (range_all hac0 hi) j hj)
    · unfold direct at hj; rw [List.getElem?_eq_none hi] at hj; simp at hj
  · intro i hi j hj
    have h1 : ord[posOf ord i]? = some i := by
      unfold posOf at hi ⊢
      rw [List.getElem?_eq_getElem hi, List.getElem_idxOf hi]
    exact of_decide_eq_true (List.all_eq_true.1 (range_all hac (hran _ _ h1)) j hj)
  · intro p q i hp hq
    obtain ⟨h1, e1⟩ := List.getElem?_eq_some_iff.1 hp
    obtain ⟨h2, e2⟩ := List.getElem?_eq_some_iff.1 hq
    exact (List.getElem_inj hnd).1 (e1.trans e2.symm)
  · intro p
    have h1 : (ord.map (fun i => ops[i]?))[p]? = (os.map some)[p]? := by rw [hos]
    rw [List.getElem?_map, List.getElem?_map] at h1
    cases ho : os[p]? with
    | none =>
      rw [ho] at h1
      cases hp : ord[p]? with
      | none => rfl
      | some i => rw [hp] at h1; cases h1
    | some o =>
      rw [ho] at h1
      cases hp : ord[p]? with
      | none => rw [hp] at h1; cases h1
      | some i => rw [hp] at h1; exact (Option.some.inj h1).symm
  · intro i j d h1 h2
    have hi : i < ops.length := by
      unfold dstAt at h1
      rcases Nat.lt_or_ge i ops.length with h | h
      · exact h
      · rw [List.getElem?_eq_none h] at h1; cases h1
    have hj : j < ops.length := by
      unfold dstAt at h2
      rcases Nat.lt_or_ge j ops.length with h | h
      · exact h
      · rw [List.getElem?_eq_none h] at h2; cases h2
    have := range_all (range_all hdst hi) hj
    rw [h1, h2] at this
    simpa using this
  · intro i o j d ho hd hmem
    have hi := (List.getElem?_eq_some_iff.1 ho).1
    have hj : j < ops.length := by
      unfold dstAt at hd
      rcases Nat.lt_or_ge j ops.length with h | h
      · exact h
      · rw [List.getElem?_eq_none h] at hd; cases hd
    have h1 := range_all hrd hi
    rw [ho] at h1
    have h2 := range_all h1 hj
    rw [hd] at h2
    have hc : (readsOf ops o).contains d = true := by simpa using hmem
    have h2 : (!(readsOf ops o).contains d || decide (posOf ord j < posOf ord i) && ancO (masksO X ops ord) ord i j) = true := h2
    rw [hc] at h2
    simp only [Bool.not_true, Bool.false_or, Bool.and_eq_true, decide_eq_true_eq] at h2
    exact h2
  · intro p q a b i j hpq ha hb hi hj
    have hq : q < ops.length := by rw [← hcl]; exact (List.getElem?_eq_some_iff.1 hb).1
    have h1 := range_all (range_all hpair hq) hpq
    rw [ha, hb, hi, hj] at h1
    simpa using h1
  · intro q o i hc hi ho
    have hq : q < ops.length := by rw [← hcl]; exact (List.getElem?_eq_some_iff.1 hc).1
    have h1 := range_all hal hq
    rw [hc, hi, Option.bind_some, ho] at h1
    exact h1
  · intro q o i hc hi ho
    have hq : q < ops.length := by rw [← hcl]; exact (List.getElem?_eq_some_iff.1 hc).1
    have h1 := range_all hal hq
    rw [hc, hi, Option.bind_some, ho] at h1
    exact h1
  · intro q o i hc hi ho
    have hq : q < ops.length := by rw [← hcl]; exact (List.getElem?_eq_some_iff.1 hc).1
    have h1 := range_all hal hq
    rw [hc, hi, Option.bind_some, ho] at h1
    simp only [Bool.and_eq_true] at h1
    obtain ⟨⟨h2, h3⟩, h4⟩ := h1
    obtain ⟨d, hd⟩ := Option.isSome_iff_exists.1 h2
    split at h4
    · rename_i T hT
      obtain ⟨zs, hz⟩ := Option.isSome_iff_exists.1 h4
      exact ⟨d, T, zs, hd, by simpa using h3, hT, hz⟩
    · cases h4
/-- All orders that keep what is told. -/
def wpAnyX (F : Fence) (n : Nat) (P : Program) (X : List (Nat × Nat)) (ops : Array Oper) (Q : Exit → Act → World → Prop) : Nat → Array Bool → Act → World → Prop
  | 0, D, a, w => Region.ready .any ops D = [] ∧ Q .normal a w
  | fuel + 1, D, a, w => (Region.ready .any ops D = [] → Q .normal a w) ∧
    ∀ i ∈ Region.ready .any ops D, (∀ p ∈ X, p.1 = i → D.getD p.2 false = true) → wpOpIn F n P ops Q i (wpAnyX F n P X ops Q fuel (D.setIfInBounds i true)) a w
def ordX (X : List (Nat × Nat)) : List Nat → (Nat → Bool) → Prop
  | [], _ => True
  | i :: r, D => (∀ p ∈ X, p.1 = i → D p.2 = true) ∧ ordX X r (fun j => D j || j == i)
theorem ordX_nil : ∀ (l : List Nat) (D : Nat → Bool), ordX [] l D
  | [], _ => trivial
  | i :: r, D => ⟨fun p hp => by simp at hp, ordX_nil r _⟩
theorem ordX_two {a b : Nat} (hab : a ≠ b) : ∀ (l : List Nat) (D : Nat → Bool), ordX [(b, a)] l D ∨ ordX [(a, b)] l D := by
  have done : ∀ {a b : Nat} (l : List Nat) (D : Nat → Bool), D a = true → ordX [(b, a)] l D := by
    intro a b l
    induction l with
    | nil => intro D _; trivial
    | cons i r ih =>
      intro D h
      refine ⟨fun p hp _ => ?_, ih _ (by simp [h])⟩
      rw [List.mem_singleton] at hp; subst hp; exact h
  intro l
  induction l with
  | nil => intro D; exact .inl trivial
  | cons i r ih =>
    intro D
    by_cases h1 : i = a
    · subst h1
      refine .inl ⟨fun p hp he => ?_, done r _ (by simp)⟩
      rw [List.mem_singleton] at hp; subst hp; exact absurd he.symm hab
    by_cases h2 : i = b
    · subst h2
      refine .inr ⟨fun p hp he => ?_, done r _ (by simp)⟩
      rw [List.mem_singleton] at hp; subst hp; exact absurd he.symm h1
    · rcases ih (fun j => D j || j == i) with h | h
      · refine .inl ⟨fun p hp he => ?_, h⟩
        rw [List.mem_singleton] at hp; subst hp; exact absurd he.symm h2
      · refine .inr ⟨fun p hp he => ?_, h⟩
        rw [List.mem_singleton] at hp; subst hp; exact absurd he.symm h1
theorem ordX_ext {X : List (Nat × Nat)} : ∀ (l : List Nat) {D D' : Nat → Bool}, (∀ j, D j = true → D' j = true) → ordX X l D → ordX X l D'
  | [], _, _, _, _ => trivial
  | i :: r, D, D', h, ⟨h1, h2⟩ => ⟨fun p hp he => h _ (h1 p hp he), ordX_ext r (fun j hj => by
      simp only [Bool.or_eq_true] at hj ⊢
      exact hj.imp (h j) id) h2⟩
theorem wpAnyX_sound {F : Fence} {n : Nat} {P : Program} {X : List (Nat × Nat)} {ops : Array Oper} {Q : Exit → Act → World → Prop} : ∀ (fuel t : Nat) (D : Array Bool) (a : Act) (w : World), D.size = ops.size → wpAnyX F n P X ops Q fuel D a w →
    ordX X (Region.linearise.go .any ops fuel t D []) (fun j => D.getD j false) → wpOpsIn F n P ops Q (Region.linearise.go .any ops fuel t D []) a w := by
  intro fuel
  induction fuel with
  | zero => intro t D a w _ h _; simpa [Region.linearise.go, wpOpsIn] using h.2
  | succ fuel ih =>
    intro t D a w hs h
    obtain ⟨h0, h1⟩ := h
    simp only [Region.linearise.go]
    change ordX X (match (Region.ready .any ops D)[t % (Region.ready .any ops D).length]? with
      | some i => Region.linearise.go .any ops fuel (t / (Region.ready .any ops D).length) (D.setIfInBounds i true) [i]
      | none => [].reverse) (fun j => D.getD j false) → wpOpsIn F n P ops Q (match (Region.ready .any ops D)[t % (Region.ready .any ops D).length]? with
      | some i => Region.linearise.go .any ops fuel (t / (Region.ready .any ops D).length) (D.setIfInBounds i true) [i]
      | none => [].reverse) a w
    cases hi : (Region.ready .any ops D)[t % (Region.ready .any ops D).length]? with
    | none =>
      have hnil : Region.ready .any ops D = [] := by
        cases hr : Region.ready .any ops D with
        | nil => rfl
        | cons x xs =>
          rw [hr] at hi
          have hlt : t % (x :: xs).length < (x :: xs).length := Nat.mod_lt _ (by simp)
          simp at hi
          simp at hlt
          omega
      intro _
      simpa [wpOpsIn] using h0 hnil
    | some i =>
      simp only []
      have hmem := List.mem_of_getElem? hi
      obtain ⟨r1, _, _⟩ := ready_spec hmem hs
      rw [linearise_go_acc, List.reverse_singleton, List.singleton_append, wpOpsIn_cons]
      rintro ⟨o1, o2⟩
      refine wpOpIn_mono (fun a w hh => ih _ _ a w (by simpa using hs) hh (ordX_ext _ (fun j hj => ?_) o2)) (h1 i hmem o1)
      rw [getD_set (by omega)]
      simp only [Bool.or_eq_true, decide_eq_true_eq, beq_iff_eq] at hj ⊢
      exact hj.symm
theorem drawX_of {e : En} {m : Mem} {L L0 : Lst} {w : World} (plan : List Step) (ord : List Nat) (os : List Oper) (hos : ord.map (fun i => ops[i]?) = os.map some) (hok : planOk P n X ops plan ord os = true)
    (h : drunA P ro (dsts ops) Q plan os e ds m L) (hI : Inv m (L ++ L0) w) : wpAnyX (FW ro) 0 P X ops.toArray (lift n (conc L0 Q)) ops.toArray.size (Array.replicate ops.toArray.size false) (mkAct n e ds) { w with drawn := w.drawn + 1 } := by
  have ok := ok_of hos hok
  have main : ∀ (fuel : Nat) (D : Array Bool) (e' : En) (ds' : DS) (w1 : World), D.size = ops.length → (∀ i, D.getD i false = true → ∀ j ∈ dirX X ops i, D.getD j false = true) →
      (List.range ops.length).countP (fun i => !D.getD i false) ≤ fuel → (∃ k s ek mk Lk E, St P ro ops ord os (clsOf P plan os) Q L0 D e' ds' w1 k s ek mk Lk E) →
      wpAnyX (FW ro) 0 P X ops.toArray (lift n (conc L0 Q)) fuel D (mkAct n e' ds') w1 := by
    intro fuel
    induction fuel with
    | zero =>
      rintro D e' ds' w1 hs hcl hc ⟨k, s, ek, mk, Lk, E, st⟩
      have hall : ∀ i, i < ops.length → D.getD i false = true := by
        intro i hi
        have h0 : (List.range ops.length).countP (fun i => !D.getD i false) = 0 := by omega
        have := List.countP_eq_zero.1 h0 i (List.mem_range.2 hi)
        simpa using this
      refine ⟨?_, all_done ok hall s k ek mk Lk E st⟩
      cases hr : Region.ready .any ops.toArray D with
      | nil => rfl
      | cons i r =>
        have := ready_spec (ops := ops.toArray) (L := D) (i := i) (by rw [hr]; simp) (by simpa using hs)
        rw [hall i (by simpa using this.1)] at this
        cases this.2.1
    | succ fuel ih =>
      rintro D e' ds' w1 hs hcl hc ⟨k, s, ek, mk, Lk, E, st⟩
      refine ⟨fun hr => all_done ok (fun i hi => ready_nil (ops := ops.toArray) (by simpa using hs) (by simpa using ok.ac0) hr i (by simpa using hi)) s k ek mk Lk E st, ?_⟩
      intro i hi hX
      obtain ⟨r1, r2, r3⟩ := ready_spec hi (by simpa using hs)
      have hi1 : i < ops.length := by simpa using r1
      have r3 : ∀ j ∈ dirX X ops i, D.getD j false = true := by
        intro j hj
        rcases List.mem_append.1 hj with hj | hj
        · exact r3 j hj
        · obtain ⟨p, hp, rfl⟩ := List.mem_map.1 hj
          rw [List.mem_filter] at hp
          exact hX p hp.1 (by simpa using hp.2)
      have hsz : i < D.size := by omega
      refine exec_any ok hi1 r2 hcl r3 hsz s k ek mk Lk E st ?_
      intro e2 ds2 w2 k s ek mk Lk E st'
      refine ih _ _ _ _ (by simpa using hs) ?_ ?_ ⟨k, s, ek, mk, Lk, E, st'⟩
      · intro j hj m hmem
        rw [getD_set hsz] at hj ⊢
        simp only [Bool.or_eq_true, decide_eq_true_eq] at hj ⊢
        rcases hj with rfl | hj
        · exact .inr (r3 m hmem)
        · exact .inr (hcl j hj m hmem)
      · have := countP_lt (p := fun j => !D.getD j false) (p' := fun j => !(D.setIfInBounds i true).getD j false) (i := i) (List.range ops.length)
          (fun x hx => by rw [getD_set hsz] at hx; simp at hx ⊢; exact hx.2) (List.mem_range.2 hi1) (by simp only [r2]; rfl) (by rw [getD_set hsz]; simp)
        omega
  have hnone : ∀ i, (Array.replicate ops.length false).getD i false = false := by
    intro i; simp only [Array.getD_eq_getD_getElem?, Array.getElem?_replicate]; split <;> rfl
  refine main _ _ e ds _ (by simp) ?_ ?_ ⟨0, plan, e, m, L, [], h, rfl, Nat.zero_le _, ?_, ?_, ?_, ?_, ?_, ?_⟩
  · intro i hi
    have := hnone i
    simp only [List.size_toArray] at hi
    rw [this] at hi; cases hi
  · refine Nat.le_trans List.countP_le_length ?_; simp
  · intro p i hp; omega
  · intro p i _ _
    have := hnone i
    simp only [List.size_toArray]
    rw [this]; simp
  · intro x hx; cases hx
  · intro t _ _; rfl
  · have : Inv m (L ++ L0) { w with drawn := w.drawn + 1 } := hI.dr
    simpa [early] using this
  · simp
/-- **A region that draws its order**, by one order and a plan. -/
theorem drawA_of {e : En} {m : Mem} {L : Lst} (plan : List Step) (ord : List Nat) (os : List Oper) (hos : ord.map (fun i => ops[i]?) = os.map some) (hm : P.follows .mixedOrders = true) (hok : planOk P n [] ops plan ord os = true)
    (h : drunA P ro (dsts ops) Q plan os e ds m L) : @drawCA ⟨P, ro, n, ops.toArray, Q⟩ e ds m L := by
  intro L0 w hI
  show ∀ t, wpOpsIn (FW ro) 0 P ops.toArray (lift n (conc L0 Q)) (Region.schedule (P.follows .mixedOrders) ops.toArray t) (mkAct n e ds) { w with drawn := w.drawn + 1 }
  intro t
  simp only [Region.schedule, hm, Bool.true_or, if_true]
  exact wpAnyX_sound ops.toArray.size t _ _ _ (by simp) (drawX_of plan ord os hos hok h hI) (ordX_nil _ _)
/-- A region in which two operations may come in either order: each order by itself. -/
theorem drawA_two {e : En} {m : Mem} {L : Lst} (a b : Nat) (hab : (a != b) = true) (plan1 plan2 : List Step) (ord1 ord2 : List Nat) (os1 os2 : List Oper) (hos1 : ord1.map (fun i => ops[i]?) = os1.map some) (hos2 : ord2.map (fun i => ops[i]?) = os2.map some) (hm : P.follows .mixedOrders = true) (hok1 : planOk P n [(b, a)] ops plan1 ord1 os1 = true) (hok2 : planOk P n [(a, b)] ops plan2 ord2 os2 = true)
    (h1 : drunA P ro (dsts ops) Q plan1 os1 e ds m L) (h2 : drunA P ro (dsts ops) Q plan2 os2 e ds m L) : @drawCA ⟨P, ro, n, ops.toArray, Q⟩ e ds m L := by
  intro L0 w hI
  show ∀ t, wpOpsIn (FW ro) 0 P ops.toArray (lift n (conc L0 Q)) (Region.schedule (P.follows .mixedOrders) ops.toArray t) (mkAct n e ds) { w with drawn := w.drawn + 1 }
  intro t
  simp only [Region.schedule, hm, Bool.true_or, if_true]
  rcases ordX_two (a := a) (b := b) (by simpa using hab) (Region.linearise.go .any ops.toArray ops.toArray.size t (Array.replicate ops.toArray.size false) []) (fun j => (Array.replicate ops.toArray.size false).getD j false) with h | h
  · exact wpAnyX_sound ops.toArray.size t _ _ _ (by simp) (drawX_of plan1 ord1 os1 hos1 hok1 h1 hI) h
  · exact wpAnyX_sound ops.toArray.size t _ _ _ (by simp) (drawX_of plan2 ord2 os2 hos2 hok2 h2 hI) h
end
end
end Go.Eng
namespace Go.Eng
open Go Go.RowKit
section
variable {P : Program} {ro : Option Nat} {dl : List (Option Nat)} {Q : QA} {K : En → Prop} {e : En} {ds : DS} {m : Mem} {L : Lst}
def freeN (P : Program) (ro : Option Nat) (dl : List (Option Nat)) (K : En → Prop) (k : Nat) (os : List Oper) (e : En) (m : Mem) (L : Lst) : Prop := freeA P ro dl K (os.take k) e m L
def drunD (P : Program) (ro : Option Nat) (dl : List (Option Nat)) (Q : QA) (s : List Step) (k : Nat) (os : List Oper) (e : En) (ds : DS) (m : Mem) (L : Lst) : Prop := drunA P ro dl Q s (os.drop k) e ds m L
theorem dr_free {k : Nat} {s : List Step} {os : List Oper} {es : En} (h1 : freeN P ro dl (fun e' => e' = es) k os e m L) (h2 : drunD P ro dl Q s k os es ds m L) : drunA P ro dl Q (.free k :: s) os e ds m L := ⟨es, h1, h2⟩
theorem dr_stab {k : Nat} {s : List Step} {os : List Oper} {es : En} (h1 : freeN P ro dl (fun e' => e' = es) k os e m []) (h2 : drunD P ro dl Q s k os es ds m L) : drunA P ro dl Q (.stab k :: s) os e ds m L := ⟨es, h1, h2⟩
theorem drunD_zero {s : List Step} {os : List Oper} : drunD P ro dl Q s 0 os e ds m L = drunA P ro dl Q s os e ds m L := Eq.trans rfl rfl
theorem drunD_succ {s : List Step} {k : Nat} {o : Oper} {os : List Oper} : drunD P ro dl Q s (k + 1) (o :: os) e ds m L = drunD P ro dl Q s k os e ds m L := Eq.trans rfl rfl
theorem drunD_nil {s : List Step} {k : Nat} : drunD P ro dl Q s k [] e ds m L = drunA P ro dl Q s [] e ds m L := by unfold drunD; simp
theorem drunA_nil {os : List Oper} : drunA P ro dl Q [] os e ds m L = Q .normal e ds m L := by cases os <;> exact Eq.trans rfl rfl
theorem freeN_nil {k : Nat} : freeN P ro dl K k [] e m L = K e := by unfold freeN; simp [freeA]
theorem freeN_zero {os : List Oper} : freeN P ro dl K 0 os e m L = K e := Eq.trans rfl rfl
section
variable {op : Op} {ty : TypeId} {ps : String} {af : Array Edge} {d j k : Nat} {want : Bool} {os : List Oper} {s : List Step}
theorem freeN_cons : freeN P ro dl K (k + 1) (⟨some d, op, ty, ps, af, none⟩ :: os) e m L = @topC P ro ⟨some d, op, ty, ps, af, none⟩ e ⟨fun v m' L' => @gateA (m' = m ∧ L' = L) ⟨freeN P ro dl K k os (up e d v) m L⟩, fun _ _ _ => False, fun _ _ _ => False⟩ m L := Eq.trans rfl rfl
theorem freeN_cons_n : freeN P ro dl K (k + 1) (⟨none, op, ty, ps, af, none⟩ :: os) e m L = @topC P ro ⟨none, op, ty, ps, af, none⟩ e ⟨fun v m' L' => @gateA (m' = m ∧ L' = L) ⟨freeN P ro dl K k os e m L⟩, fun _ _ _ => False, fun _ _ _ => False⟩ m L := Eq.trans rfl rfl
theorem freeN_guard : freeN P ro dl K (k + 1) (⟨some d, op, ty, ps, af, some (j, want)⟩ :: os) e m L = @guardC (yld dl e j) want ⟨@topC P ro ⟨some d, op, ty, ps, af, some (j, want)⟩ e ⟨fun v m' L' => @gateA (m' = m ∧ L' = L) ⟨freeN P ro dl K k os (up e d v) m L⟩, fun _ _ _ => False, fun _ _ _ => False⟩ m L, freeN P ro dl K k os (up e d undef) m L⟩ := Eq.trans rfl rfl
theorem freeN_guard_n : freeN P ro dl K (k + 1) (⟨none, op, ty, ps, af, some (j, want)⟩ :: os) e m L = @guardC (yld dl e j) want ⟨@topC P ro ⟨none, op, ty, ps, af, some (j, want)⟩ e ⟨fun v m' L' => @gateA (m' = m ∧ L' = L) ⟨freeN P ro dl K k os e m L⟩, fun _ _ _ => False, fun _ _ _ => False⟩ m L, freeN P ro dl K k os e m L⟩ := Eq.trans rfl rfl
theorem drunA_one : drunA P ro dl Q (.one :: s) (⟨some d, op, ty, ps, af, none⟩ :: os) e ds m L = @topC P ro ⟨some d, op, ty, ps, af, none⟩ e ⟨fun v m' L' => drunA P ro dl Q s os (up e d v) ds m' L', fun q m' L' => drunA P ro dl Q s os (up e d undef) (q :: ds) m' L', fun ch m' L' => ∀ e, Q (.panic ch) e ds m' L'⟩ m L := Eq.trans rfl rfl
theorem drunA_one_n : drunA P ro dl Q (.one :: s) (⟨none, op, ty, ps, af, none⟩ :: os) e ds m L = @topC P ro ⟨none, op, ty, ps, af, none⟩ e ⟨fun v m' L' => drunA P ro dl Q s os e ds m' L', fun q m' L' => drunA P ro dl Q s os e (q :: ds) m' L', fun ch m' L' => ∀ e, Q (.panic ch) e ds m' L'⟩ m L := Eq.trans rfl rfl
theorem drunA_one_g : drunA P ro dl Q (.one :: s) (⟨some d, op, ty, ps, af, some (j, want)⟩ :: os) e ds m L = @guardC (yld dl e j) want ⟨@topC P ro ⟨some d, op, ty, ps, af, some (j, want)⟩ e ⟨fun v m' L' => drunA P ro dl Q s os (up e d v) ds m' L', fun q m' L' => drunA P ro dl Q s os (up e d undef) (q :: ds) m' L', fun ch m' L' => ∀ e, Q (.panic ch) e ds m' L'⟩ m L, drunA P ro dl Q s os (up e d undef) ds m L⟩ := Eq.trans rfl rfl
theorem drunA_one_gn : drunA P ro dl Q (.one :: s) (⟨none, op, ty, ps, af, some (j, want)⟩ :: os) e ds m L = @guardC (yld dl e j) want ⟨@topC P ro ⟨none, op, ty, ps, af, some (j, want)⟩ e ⟨fun v m' L' => drunA P ro dl Q s os e ds m' L', fun q m' L' => drunA P ro dl Q s os e (q :: ds) m' L', fun ch m' L' => ∀ e, Q (.panic ch) e ds m' L'⟩ m L, drunA P ro dl Q s os e ds m L⟩ := Eq.trans rfl rfl
theorem drunA_oneK : drunA P ro dl Q (.oneK :: s) (⟨some d, op, ty, ps, af, none⟩ :: os) e ds m L = @topC P ro ⟨some d, op, ty, ps, af, none⟩ e ⟨fun v m' L' => @gateA (m.Le m') ⟨drunA P ro dl Q s os (up e d v) ds m' L'⟩, fun _ _ _ => False, fun ch m' L' => ∀ e, Q (.panic ch) e ds m' L'⟩ m L := Eq.trans rfl rfl
theorem drunA_oneK_n : drunA P ro dl Q (.oneK :: s) (⟨none, op, ty, ps, af, none⟩ :: os) e ds m L = @topC P ro ⟨none, op, ty, ps, af, none⟩ e ⟨fun v m' L' => @gateA (m.Le m') ⟨drunA P ro dl Q s os e ds m' L'⟩, fun _ _ _ => False, fun ch m' L' => ∀ e, Q (.panic ch) e ds m' L'⟩ m L := Eq.trans rfl rfl
theorem drunA_oneK_g : drunA P ro dl Q (.oneK :: s) (⟨some d, op, ty, ps, af, some (j, want)⟩ :: os) e ds m L = @guardC (yld dl e j) want ⟨@topC P ro ⟨some d, op, ty, ps, af, some (j, want)⟩ e ⟨fun v m' L' => @gateA (m.Le m') ⟨drunA P ro dl Q s os (up e d v) ds m' L'⟩, fun _ _ _ => False, fun ch m' L' => ∀ e, Q (.panic ch) e ds m' L'⟩ m L, drunA P ro dl Q s os (up e d undef) ds m L⟩ := Eq.trans rfl rfl
theorem drunA_al {T : TypeId} : drunA P ro dl Q (.al :: s) (⟨some d, .alloc T, ty, ps, af, none⟩ :: os) e ds m L = @allocA (zeroOf P T) T ⟨fun v m' L' => drunA P ro dl Q s os (up e d v) ds m' L', fun _ _ _ => False, fun _ _ _ => False⟩ m L := Eq.trans rfl rfl
/-- Goes on where something has been added. -/
class RA where
  k : Mem → Lst → Prop
def growA (m : Mem) (L : Lst) (m' : Mem) (L' : Lst) [C : RA] : Prop := m' = m ∧ ∃ X, L' = X ++ L ∧ C.k m' L'
theorem RA_k {k : Mem → Lst → Prop} : (RA.mk k).k m L = k m L := Eq.trans rfl rfl
theorem growA_one {p : Nat × Obj} {C : RA} : growA m L m (p :: L) = C.k m (p :: L) := propext ⟨fun ⟨_, X, _, h⟩ => h, fun h => ⟨rfl, [p], rfl, h⟩⟩
theorem growA_self {C : RA} : growA m L m L = C.k m L := propext ⟨fun ⟨_, X, _, h⟩ => h, fun h => ⟨rfl, [], rfl, h⟩⟩
theorem growA_app {X : Lst} {C : RA} : growA m L m (X ++ L) = C.k m (X ++ L) := propext ⟨fun ⟨_, X, _, h⟩ => h, fun h => ⟨rfl, X, rfl, h⟩⟩
theorem drunA_grow : drunA P ro dl Q (.grow :: s) (⟨some d, op, ty, ps, af, none⟩ :: os) e ds m L = @topC P ro ⟨some d, op, ty, ps, af, none⟩ e ⟨fun v m' L' => @growA m L m' L' ⟨fun m' L' => drunA P ro dl Q s os (up e d v) ds m' L'⟩, fun _ _ _ => False, fun _ _ _ => False⟩ m L := Eq.trans rfl rfl
theorem drunA_grow_g : drunA P ro dl Q (.grow :: s) (⟨some d, op, ty, ps, af, some (j, want)⟩ :: os) e ds m L = @guardC (yld dl e j) want ⟨@topC P ro ⟨some d, op, ty, ps, af, some (j, want)⟩ e ⟨fun v m' L' => @growA m L m' L' ⟨fun m' L' => drunA P ro dl Q s os (up e d v) ds m' L'⟩, fun _ _ _ => False, fun _ _ _ => False⟩ m L, drunA P ro dl Q s os (up e d undef) ds m L⟩ := Eq.trans rfl rfl
end
theorem GA_a {a : Prop} : (GA.mk a).a = a := Eq.trans rfl rfl
theorem gate_le {C : GA} : @gateA (m.Le m) C = C.a := by simp [gateA, Mem.Le.refl]
theorem gate_of {m' : Mem} {C : GA} (h : m.Le m') (hk : C.a) : @gateA (m.Le m') C := ⟨h, hk⟩
/-- A block stays for good from here on. -/
theorem draw_pub {P : Program} {ro : Option Nat} {n : Nat} {ops : Array Oper} {L' : Lst} {b : Nat} {o : Obj} (t : Take L b o L') (h : ∀ m', m.Le m' → m'.blk b = some o → @drawCA ⟨P, ro, n, ops, Q⟩ e ds m' L') : @drawCA ⟨P, ro, n, ops, Q⟩ e ds m L := by
  intro L0 w hI
  obtain ⟨h1, h2, h3⟩ := Inv.pub (hI.perm (t.perm.append_right L0))
  exact h _ h1 h2 L0 w h3
theorem gate_same {C : GA} : @gateA (m = m ∧ L = L) C = C.a := by simp [gateA]
def permL (ops : List Oper) (ord : List Nat) : List Oper := ord.map fun i => ops.getD i default
theorem drawA_id {n : Nat} {ops : List Oper} (sig : List (Option Nat)) (plan : List Step) (hsig : dsts ops = sig) (hm : P.follows .mixedOrders = true) (hok : planOk P n [] ops plan (List.range ops.length) ops = true) (h : drunA P ro (dsts ops) Q plan ops e ds m L) : @drawCA ⟨P, ro, n, ops.toArray, Q⟩ e ds m L := by
  refine drawA_of plan (List.range ops.length) ops ?_ hm hok h
  apply List.ext_getElem?
  intro i
  simp only [List.getElem?_map]
  by_cases hi : i < ops.length
  · simp [List.getElem?_range, hi]
  · have h1 : ops[i]? = none := List.getElem?_eq_none (Nat.le_of_not_lt hi)
    have h2 : (List.range ops.length)[i]? = none := List.getElem?_eq_none (by simp only [List.length_range]; omega)
    rw [h1, h2]; rfl
theorem drawA_pl {n : Nat} {ops : List Oper} (sig : List (Option Nat)) (plan : List Step) (ord : List Nat) (hsig : dsts ops = sig) (hord : ord.all (fun i => decide (i < ops.length)) = true) (hm : P.follows .mixedOrders = true) (hok : planOk P n [] ops plan ord (permL ops ord) = true) (h : drunA P ro (dsts ops) Q plan (permL ops ord) e ds m L) : @drawCA ⟨P, ro, n, ops.toArray, Q⟩ e ds m L := by
  refine drawA_of plan ord (permL ops ord) ?_ hm hok h
  unfold permL
  rw [List.map_map]
  apply List.map_congr_left
  intro i hi
  have : i < ops.length := of_decide_eq_true (List.all_eq_true.1 hord i hi)
  simp [this]
theorem permL_some {ops : List Oper} {ord : List Nat} (hord : ord.all (fun i => decide (i < ops.length)) = true) : ord.map (fun i => ops[i]?) = (permL ops ord).map some := by
  unfold permL
  rw [List.map_map]
  apply List.map_congr_left
  intro i hi
  have : i < ops.length := of_decide_eq_true (List.all_eq_true.1 hord i hi)
  simp [this]
theorem drawA_tw {n : Nat} {ops : List Oper} (sig : List (Option Nat)) (a b : Nat) (plan1 : List Step) (ord1 : List Nat) (plan2 : List Step) (ord2 : List Nat) (hsig : dsts ops = sig) (hab : (a != b) = true) (hord1 : ord1.all (fun i => decide (i < ops.length)) = true) (hord2 : ord2.all (fun i => decide (i < ops.length)) = true) (hm : P.follows .mixedOrders = true)
    (hok1 : planOk P n [(b, a)] ops plan1 ord1 (permL ops ord1) = true) (hok2 : planOk P n [(a, b)] ops plan2 ord2 (permL ops ord2) = true) (h1 : drunA P ro (dsts ops) Q plan1 (permL ops ord1) e ds m L) (h2 : drunA P ro (dsts ops) Q plan2 (permL ops ord2) e ds m L) : @drawCA ⟨P, ro, n, ops.toArray, Q⟩ e ds m L :=
  drawA_two a b hab plan1 plan2 ord1 ord2 _ _ (permL_some hord1) (permL_some hord2) hm hok1 hok2 h1 h2
/-- A read-only call: what is held stays as it stands. -/
def Obs (P : Program) (f : FuncId) (args : List Value) (m : Mem) (Lp : Lst) (φ : Value → Prop) : Prop := Cta P f args m Lp (fun v m' L' => φ v ∧ m' = m ∧ L' = Lp)
theorem obs_of {f : FuncId} {args : List Value} {Lp Lf : Lst} {φ : Value → Prop} {C : KA} (h : Obs P f args m Lp φ) (hp : Takes L Lp Lf) (hk : ∀ v, φ v → C.k v m L) : callA P (.func (.func f) #[] #[]) args m L := by
  intro L0 w hI
  have hI2 : Inv m (Lp ++ (Lf ++ L0)) w := by rw [← List.append_assoc]; exact hI.perm (hp.perm.append_right L0)
  refine c_of (Cta.run h (Lf ++ L0) w hI2) ?_
  rintro v w' ⟨m', L', h1, h2, rfl, rfl⟩
  exact ⟨m', L, (by rw [← List.append_assoc] at h1; exact h1.perm (hp.perm.symm.append_right L0)), hk v h2⟩
end
end Go.Eng
