/- The engine: a region that draws its order. Its first k operations read and call what changes nothing that was there; the others come behind all that stand ahead of them. -/
import Derived.Test.YthfbfigdgjhhaaaEngWorld
import Derived.OrdersIn
set_option linter.all false
set_option linter.unusedSimpArgs false
set_option linter.unusedVariables false
namespace Go.Eng
open Go Go.RowKit

/-- A world with another count of draws. -/
def dr (w : World) (d : Nat) : World := { w with drawn := d }
/-- The same world, but for the count of draws. -/
def SameW (w w' : World) : Prop := ∃ d, w' = dr w d
/-- Nothing that was there has changed. -/
def Ext (w w' : World) : Prop := Below w.heap.size w w'
theorem dr_cell {w : World} {d : Nat} {a : Addr} : (dr w d).cell? a = w.cell? a := Eq.trans rfl rfl
theorem dr_frozen {w : World} {d : Nat} {a : Addr} : (dr w d).frozen? a = w.frozen? a := Eq.trans rfl rfl
theorem dr_heap {w : World} {d : Nat} : (dr w d).heap = w.heap := Eq.trans rfl rfl
theorem dr_dr {w : World} {d d' : Nat} : dr (dr w d) d' = dr w d' := Eq.trans rfl rfl
theorem dr_alloc {w : World} {d : Nat} {o : Obj} : (dr w d).alloc o = dr (w.alloc o) d := Eq.trans rfl rfl
theorem dr_set {w : World} {d : Nat} {p : Addr} {v : Value} : (dr w d).setCell p v = dr (w.setCell p v) d := Eq.trans rfl rfl
theorem SameW.refl (w : World) : SameW w w := ⟨w.drawn, rfl⟩
theorem SameW.trans {a b c : World} (h : SameW a b) (k : SameW b c) : SameW a c := by
  obtain ⟨d, rfl⟩ := h; obtain ⟨d', rfl⟩ := k; exact ⟨d', rfl⟩
theorem same_dr {w : World} {d : Nat} : SameW w (dr w d) = True := eq_true ⟨d, rfl⟩
theorem same_self {w : World} : SameW w w = True := by simp [SameW.refl]
theorem same_dr_dr {w : World} {d d' : Nat} : SameW (dr w d) (dr w d') = True := eq_true ⟨d', rfl⟩
theorem SameW.ext {w w' : World} (h : SameW w w') : Ext w w' := by
  obtain ⟨d, rfl⟩ := h; exact ⟨rfl, rfl, rfl, Nat.le_refl _, fun _ _ => rfl⟩
theorem Ext.refl (w : World) : Ext w w := Below.refl _ _
theorem Ext.trans {a b c : World} (h : Ext a b) (k : Ext b c) : Ext a c := Below.trans h (k.mono h.size)
theorem ext_self {w : World} : Ext w w = True := by simp [Ext.refl]

class Grows (Rel : World → World → Prop) : Prop where
  refl : ∀ w, Rel w w
  trans : ∀ {a b c}, Rel a b → Rel b c → Rel a c
  drew : ∀ w : World, Rel w { w with drawn := w.drawn + 1 }
instance : Grows SameW := ⟨SameW.refl, SameW.trans, fun w => ⟨w.drawn + 1, rfl⟩⟩
instance : Grows Ext := ⟨Ext.refl, Ext.trans, fun w => (SameW.ext ⟨w.drawn + 1, rfl⟩)⟩

section
variable {P : Program} {ro : Option Nat} {n : Nat} {Rel : World → World → Prop}

def stepP (P : Program) (ro : Option Nat) (dl : List (Option Nat)) (o : Oper) (e : En) (C : KX) (skip : Prop) (w : World) : Prop :=
  match o.guard with
  | none => sopC P ro o e w
  | some (j, want) => guardP (yld dl e j) want (sopC P ro o e w) skip

/-- The operations in the text's order, each in the world in which the region begins. -/
def sopsQ (P : Program) (ro : Option Nat) (dl : List (Option Nat)) (Rel : World → World → Prop) (w : World) (K : En → Prop) : List Oper → En → Prop
  | [], e => K e
  | o :: rest, e => stepP P ro dl o e ⟨fun v w' => @gateC (Rel w w') ⟨sopsQ P ro dl Rel w K rest (updo e o.dst v), False⟩, fun _ _ => False, fun _ _ => False⟩ (sopsQ P ro dl Rel w K rest (updo e o.dst undef)) w

def guardFit (n : Nat) (ops : List Oper) (o : Oper) : Bool := match o.guard with | none => true | some (j, _) => match (ops[j]?).bind (·.dst) with | some d => decide (d < n) | none => false

theorem step_sound {ops : Array Oper} {i : Nat} {o : Oper} {e : En} {ds : DS} {C : KX} {skip : Prop} {w : World} {Ka : Act → World → Prop} {Q : Exit → Act → World → Prop}
    (hi : ops[i]? = some o) (hf : opFit n o = true) (hg : guardFit n ops.toList o = true)
    (hk : ∀ v w, C.k v w → Ka (mkAct n (updo e o.dst v) ds) w) (hd : ∀ d w, C.kd d w → Ka (mkAct n (updo e o.dst undef) (d :: ds)) w)
    (hx : ∀ ch w, C.x ch w → Q (.panic ch) (mkAct n e ds) w) (hs : skip → Ka (mkAct n (updo e o.dst undef) ds) w)
    (h : stepP P ro (ops.toList.map (·.dst)) o e C skip w) : wpOpIn (FW ro) 0 P ops Q i Ka (mkAct n e ds) w := by
  have hA : sopC P ro o e w → o.wpIn (FW ro) 0 P (mkAct n e ds) w Ka Q := by
    intro hA
    refine ⟨fun _ _ => trivial, ?_⟩
    rw [show (FW ro).round = ro from rfl, semAt_ext (opFit_select hf) (opFit_eval hf)]
    exact upE_sound hk hd hx (sopC_sound hA)
  unfold wpOpIn
  simp only [hi]
  unfold stepP at h
  cases hgu : o.guard with
  | none =>
    simp only [hgu] at h
    have hw : Region.wanted o (yielded ops (mkAct n e ds).tmps) = true := by simp [Region.wanted, hgu]
    rw [if_pos hw]; exact hA h
  | some g =>
    obtain ⟨j, want⟩ := g
    simp only [hgu] at h
    unfold guardFit at hg
    rw [hgu] at hg
    simp only [Array.getElem?_toList] at hg
    cases hd' : (ops[j]?).bind (·.dst) with
    | none => rw [hd'] at hg; simp at hg
    | some d =>
      rw [hd'] at hg
      simp only [decide_eq_true_eq] at hg
      have hd2 : ((ops.toList)[j]?).bind (·.dst) = some d := by rw [Array.getElem?_toList]; exact hd'
      have hy : yld (ops.toList.map (·.dst)) e j = e d := by
        unfold yld
        cases ho : (ops.toList)[j]? with
        | none => simp [ho] at hd2
        | some oj => simp only [ho, Option.bind_some] at hd2; rw [List.getElem?_map, ho]; simp [hd2]
      have hyy : yielded ops (mkAct n e ds).tmps j = match e d with | .bool b => some b | _ => none := by
        unfold yielded
        simp only [hd', Option.bind_some, mkAct, arr_get, if_pos hg]
        split <;> simp_all
      rw [hy] at h
      by_cases hw : e d = .bool want
      · have hw' : Region.wanted o (yielded ops (mkAct n e ds).tmps) = true := by simp [Region.wanted, hgu, hyy, hw]
        rw [if_pos hw']
        rw [hw] at h
        exact hA (guardP_do h)
      · have hw' : ¬ Region.wanted o (yielded ops (mkAct n e ds).tmps) = true := by
          simp only [Region.wanted, hgu, hyy]
          intro hc
          cases hed : e d <;> simp [hed] at hc
          subst hc; exact hw hed
        rw [if_neg hw']
        refine ⟨fun _ _ => trivial, ?_⟩
        rw [put_mk]
        exact hs (guardP_skip h hw)

/-- An operation looks at its operands alone. -/
theorem sopC_ext {o : Oper} {e e' : En} {C : KX} {w : World} (hsel : ∀ cs b, o.op ≠ .select cs b) (h : ∀ x ∈ o.op.operands, ev e x = ev e' x) (hc : sopC P ro o e w) : sopC P ro o e' w := by
  unfold sopC at *
  cases ho : o.op <;> simp only [ho] at hc ⊢
  case load T x => rw [← h x (by simp [ho, Op.operands])]; exact hc
  case store T x y => rw [← h x (by simp [ho, Op.operands]), ← h y (by simp [ho, Op.operands])]; exact hc
  all_goals (unfold sop at *; rw [← semAt_ext hsel h]; exact hc)

/-- The operations on which one waits, at once or through others. -/
def direct (ops : List Oper) (i : Nat) : List Nat := match ops[i]? with | some o => (o.after.toList.filter fun e => Region.binds .any e).map (·.on) | none => []
def anc (ops : List Oper) : Nat → Nat → Nat → Bool
  | 0, _, _ => false
  | f + 1, i, j => (direct ops i).any fun m => m == j || anc ops f m j
def tmpsOf (o : Oper) : List Nat := o.op.operands.toList.filterMap fun | .tmp t => some t | _ => none
def dstAt (ops : List Oper) (i : Nat) : Option Nat := (ops[i]?).bind (·.dst)
def readsOf (ops : List Oper) (o : Oper) : List Nat := tmpsOf o ++ (match o.guard with | some (j, _) => (dstAt ops j).toList | none => [])

def drawOk (n : Nat) (ops : List Oper) (k : Nat) : Bool :=
  opsFit n ops && decide (k ≤ ops.length) &&
  ((List.range ops.length).all fun i => (direct ops i).all fun j => decide (j < i)) &&
  ((List.range k).all fun i => (dstAt ops i).isSome && (List.range k).all fun j => i == j || dstAt ops i != dstAt ops j) &&
  ((List.range k).all fun i => match ops[i]? with
    | some o => (List.range k).all fun j => match dstAt ops j with | some d => !(readsOf ops o).contains d || (decide (j < i) && anc ops 4 i j) | none => true
    | none => true) &&
  ((List.range ops.length).all fun i => decide (i < k) || (List.range i).all fun j => anc ops 4 i j)

theorem opsFit_at {ops : List Oper} (h : opsFit n ops = true) {o : Oper} (ho : o ∈ ops) : opFit n o = true ∧ guardFit n ops o = true := by
  have := List.all_eq_true.1 h o ho
  simp only [Bool.and_eq_true] at this
  exact this

theorem anc_listed {ops : List Oper} {L : Array Bool} (hcl : ∀ i, L.getD i false = true → ∀ j ∈ direct ops i, L.getD j false = true) :
    ∀ f i j, anc ops f i j = true → (∀ m ∈ direct ops i, L.getD m false = true) → L.getD j false = true := by
  intro f
  induction f with
  | zero => intro i j h; simp [anc] at h
  | succ f ih =>
    intro i j h hd
    simp only [anc, List.any_eq_true, Bool.or_eq_true, beq_iff_eq] at h
    obtain ⟨m, hm, h | h⟩ := h
    · subst h; exact hd _ hm
    · exact ih m j h (hcl m (hd m hm))

theorem ready_spec {ops : Array Oper} {L : Array Bool} {i : Nat} (h : i ∈ Region.ready .any ops L) (hs : L.size = ops.size) :
    i < ops.size ∧ L.getD i false = false ∧ ∀ j ∈ direct ops.toList i, L.getD j false = true := by
  unfold Region.ready at h
  simp only [List.mem_filter, List.mem_range, Bool.and_eq_true, Bool.not_eq_true'] at h
  obtain ⟨h1, h2, h3⟩ := h
  refine ⟨h1, ?_, ?_⟩
  · have : i < L.size := by omega
    simp [Array.getD, this] at h2 ⊢; exact h2
  · intro j hj
    unfold direct at hj
    rw [Array.getElem?_toList] at hj
    cases ho : ops[i]? with
    | none => simp [ho] at hj
    | some o =>
      simp only [ho, List.mem_map, List.mem_filter] at hj
      obtain ⟨e, ⟨he, hb⟩, rfl⟩ := hj
      simp only [ho, Option.map_some, Option.getD_some, Array.all_eq_true_iff_forall_mem] at h3
      have := h3 e (by simpa using he)
      simpa [hb] using this

theorem ready_nil {ops : Array Oper} {L : Array Bool} (hs : L.size = ops.size) (hac : ∀ i, ∀ j ∈ direct ops.toList i, j < i) (h : Region.ready .any ops L = []) : ∀ i, i < ops.size → L.getD i false = true := by
  intro i
  induction i using Nat.strongRecOn with
  | _ i ih =>
    intro hi
    cases hL : L.getD i false with
    | true => rfl
    | false =>
      exfalso
      have : i ∈ Region.ready .any ops L := by
        unfold Region.ready
        simp only [List.mem_filter, List.mem_range, Bool.and_eq_true, Bool.not_eq_true']
        refine ⟨hi, ?_, ?_⟩
        · have : i < L.size := by omega
          simp [Array.getD, this] at hL ⊢; exact hL
        · have ho : ops[i]? = some ops[i] := Array.getElem?_eq_getElem hi
          simp only [ho, Option.map_some, Option.getD_some, Array.all_eq_true_iff_forall_mem]
          intro e he
          cases hb : Region.binds .any e with
          | false => simp
          | true =>
            have hmem : e.on ∈ direct ops.toList i := by
              unfold direct
              rw [Array.getElem?_toList, ho]
              simp only [List.mem_map, List.mem_filter]
              exact ⟨e, ⟨by simpa using he, hb⟩, rfl⟩
            have hlt := hac i _ hmem
            simp [ih _ hlt (by omega)]
      rw [h] at this; simp at this

theorem getD_set {L : Array Bool} {i j : Nat} (hi : i < L.size) : (L.setIfInBounds i true).getD j false = (decide (j = i) || L.getD j false) := by
  simp only [Array.getD_eq_getD_getElem?, Array.getElem?_setIfInBounds]
  by_cases h : i = j
  · subst h; simp [hi]
  · simp [h, Ne.symm h]

theorem upE_mono {K K' : Value → World → Prop} {D D' : Deferred → World → Prop} {X X' : List PanicEntry → World → Prop} (hk : ∀ v w, K v w → K' v w) (hd : ∀ d w, D d w → D' d w) (hx : ∀ c w, X c w → X' c w) {r : Result Next}
    (h : upE P K D X r) : upE P K' D' X' r := by
  unfold upE at *
  split at h
  · exact hk _ _ h
  · exact hk _ _ h
  · exact hd _ _ h
  · exact h.mono fun en w' q => by cases en <;> first | exact hk _ _ q | exact hx _ _ q | exact q
  · exact RoundIn.mono h fun en w' q => by cases en <;> first | exact hk _ _ q | exact hx _ _ q | exact q
  · exact hx _ _ h
  · exact h.elim
theorem upE_some {K : Value → World → Prop} {D : Deferred → World → Prop} {X : List PanicEntry → World → Prop} {r : Result Next} (h : upE P K D X r) : (∃ v w, K v w) ∨ (∃ d w, D d w) ∨ ∃ c w, X c w := by
  unfold upE at h
  split at h
  · exact .inl ⟨_, _, h⟩
  · exact .inl ⟨_, _, h⟩
  · exact .inr (.inl ⟨_, _, h⟩)
  · obtain ⟨e, w', fr, hR, _⟩ := h []
    cases e with
    | returned v => exact .inl ⟨_, _, hR⟩
    | panicked c => exact .inr (.inr ⟨_, _, hR⟩)
    | outgrown => exact hR.elim
  · obtain ⟨e, w', hR, _⟩ := h.2 default [] (room_wide _)
    cases e with
    | returned v => exact .inl ⟨_, _, hR⟩
    | panicked c => exact .inr (.inr ⟨_, _, hR⟩)
    | outgrown => exact hR.elim
  · exact .inr (.inr ⟨_, _, h⟩)
  · exact h.elim
theorem loadM_mono {s : Option (Option Nat)} {a : Value} {C C' : KX} {w : World} (hk : ∀ v w, C.k v w → C'.k v w) (h : @loadM s a C w) : @loadM s a C' w := by
  cases s with
  | none => exact h.elim
  | some s =>
    cases a <;> try (cases s <;> exact h.elim)
    rename_i p
    cases p with
    | none => cases s <;> exact h.elim
    | some p =>
      cases s with
      | none =>
        have h : @cellC (w.cell? p) C w := h
        show @cellC (w.cell? p) C' w
        unfold cellC at *
        cases hc : w.cell? p with
        | none => simp [hc] at h
        | some v => simp only [hc] at h; exact hk _ _ h
      | some n =>
        have h : @cellsC (cellsAt w p n 0) C w := h
        show @cellsC (cellsAt w p n 0) C' w
        unfold cellsC at *
        cases hc : cellsAt w p n 0 with
        | none => simp [hc] at h
        | some v => simp only [hc] at h; exact hk _ _ h
theorem storeM_mono {a v : Value} {ok : Bool} {C C' : KX} {w : World} (hk : ∀ v w, C.k v w → C'.k v w) (h : @storeM a v ok C w) : @storeM a v ok C' w := by
  cases a <;> try exact h.elim
  rename_i p
  cases p with
  | none => exact h.elim
  | some p => exact ⟨h.1, hk _ _ h.2⟩
theorem sopC_mono {o : Oper} {e : En} {C C' : KX} {w : World} (hk : ∀ v w, C.k v w → C'.k v w) (hd : ∀ d w, C.kd d w → C'.kd d w) (hx : ∀ c w, C.x c w → C'.x c w) (h : @sopC P ro o e C w) : @sopC P ro o e C' w := by
  unfold sopC at *
  cases ho : o.op <;> simp only [ho] at h ⊢
  case load T x => exact loadM_mono hk h
  case store T x y => exact storeM_mono hk h
  all_goals exact upE_mono hk hd hx h
theorem sopC_some {o : Oper} {e : En} {C : KX} {w : World} (h : @sopC P ro o e C w) : (∃ v w, C.k v w) ∨ (∃ d w, C.kd d w) ∨ ∃ c w, C.x c w := by
  unfold sopC at h
  cases ho : o.op <;> simp only [ho] at h
  case load T x =>
    have h2 : @loadM (shapeOf P T) (ev e x) ⟨fun _ _ => ∃ v w, C.k v w, fun _ _ => False, fun _ _ => False⟩ w := loadM_mono (fun v w hv => ⟨v, w, hv⟩) h
    unfold loadM at h2
    split at h2
    · unfold cellC at h2; split at h2 <;> first | exact .inl h2 | exact h2.elim
    · unfold cellsC at h2; split at h2 <;> first | exact .inl h2 | exact h2.elim
    · exact h2.elim
  case store T x y =>
    have h2 : @storeM (ev e x) (ev e y) (sizeIs P T (ev e y).cells.size) ⟨fun _ _ => ∃ v w, C.k v w, fun _ _ => False, fun _ _ => False⟩ w := storeM_mono (fun v w hv => ⟨v, w, hv⟩) h
    unfold storeM at h2
    split at h2
    · exact .inl h2.2
    · exact h2.elim
  all_goals exact upE_some h

/-- What the run in the text's order tells of each operation. -/
theorem sopsQ_at {dl : List (Option Nat)} {w : World} {es : En} {all : List Oper} (hdis : ∀ i j d, i < all.length → j < all.length → dstAt all i = some d → dstAt all j = some d → i = j) :
    ∀ (l : List Oper) (m : Nat) (e : En), l = all.drop m → sopsQ P ro dl Rel w (fun e' => e' = es) l e →
      (∀ t, (∀ i, m ≤ i → i < all.length → dstAt all i ≠ some t) → es t = e t) ∧
      ∀ i o, m ≤ i → all[i]? = some o → ∃ ep : En, (∀ t, (∀ j, m ≤ j → j < i → dstAt all j ≠ some t) → ep t = e t) ∧ (∀ j d, m ≤ j → j < i → dstAt all j = some d → ep d = es d) ∧
        stepP P ro dl o ep ⟨fun v w' => Rel w w' ∧ ∀ d, o.dst = some d → es d = v, fun _ _ => False, fun _ _ => False⟩ (∀ d, o.dst = some d → es d = undef) w := by
  intro l
  induction l with
  | nil =>
    intro m e hl h
    have hm : all.length ≤ m := by
      have := congrArg List.length hl; simp at this; omega
    refine ⟨fun t _ => by rw [show e = es from h], fun i o hi ho => ?_⟩
    have := (List.getElem?_eq_some_iff.1 ho).1
    omega
  | cons o rest ih =>
    intro m e hl h
    have hm : m < all.length := by
      rcases Nat.lt_or_ge m all.length with hlt | hge
      · exact hlt
      · rw [List.drop_eq_nil_of_le hge] at hl; cases hl
    have hcons := List.drop_eq_getElem_cons hm
    rw [hcons] at hl
    injection hl with ho hrest
    have hom : all[m]? = some o := by rw [List.getElem?_eq_getElem hm, ho]
    have hdm : dstAt all m = o.dst := by simp [dstAt, hom]
    -- the rest, for whatever value has come
    have key : ∀ v, sopsQ P ro dl Rel w (fun e' => e' = es) rest (updo e o.dst v) → (∀ d, o.dst = some d → es d = v) ∧
        (∀ t, (∀ i, m ≤ i → i < all.length → dstAt all i ≠ some t) → es t = e t) ∧
        ∀ i o', m < i → all[i]? = some o' → ∃ ep : En, (∀ t, (∀ j, m ≤ j → j < i → dstAt all j ≠ some t) → ep t = e t) ∧ (∀ j d, m ≤ j → j < i → dstAt all j = some d → ep d = es d) ∧
          stepP P ro dl o' ep ⟨fun v w' => Rel w w' ∧ ∀ d, o'.dst = some d → es d = v, fun _ _ => False, fun _ _ => False⟩ (∀ d, o'.dst = some d → es d = undef) w := by
      intro v hv
      obtain ⟨c1, c2⟩ := ih (m + 1) _ hrest hv
      have hval : ∀ d, o.dst = some d → es d = v := by
        intro d hd
        rw [c1 d ?_]
        · simp [hd, updo, up]
        · intro i hi hi2 hc
          have := hdis i m d hi2 hm hc (by rw [hdm, hd])
          omega
      refine ⟨hval, ?_, ?_⟩
      · intro t ht
        rw [c1 t (fun i hi hi2 => ht i (by omega) hi2)]
        have := ht m (Nat.le_refl _) hm
        rw [hdm] at this
        cases hd : o.dst with
        | none => simp [updo]
        | some d =>
          rw [hd] at this
          have hne : t ≠ d := fun hc => this (by rw [hc])
          simp [updo, up, hne]
      · intro i o' hi ho'
        obtain ⟨ep, p1, p2, p3⟩ := c2 i o' (by omega) ho'
        refine ⟨ep, ?_, ?_, p3⟩
        · intro t ht
          rw [p1 t (fun j hj hj2 => ht j (by omega) hj2)]
          have := ht m (Nat.le_refl _) hi
          rw [hdm] at this
          cases hd : o.dst with
          | none => simp [updo]
          | some d =>
            rw [hd] at this
            have hne : t ≠ d := fun hc => this (by rw [hc])
            simp [updo, up, hne]
        · intro j d hj hj2 hjd
          rcases Nat.eq_or_lt_of_le hj with hjm | hjm
          · subst hjm
            rw [hdm] at hjd
            rw [p1 d ?_, hval d hjd]
            · simp [updo, hjd, up]
            · intro j' hj' hj2' hc
              have hlt : i < all.length := (List.getElem?_eq_some_iff.1 ho').1
              have := hdis j' m d (by omega) hm hc (by rw [hdm, hjd])
              omega
          · exact p2 j d (by omega) hj2 hjd
    have hfirst : ∃ v, sopsQ P ro dl Rel w (fun e' => e' = es) rest (updo e o.dst v) := by
      unfold sopsQ stepP at h
      cases hg : o.guard with
      | none =>
        simp only [hg] at h
        rcases sopC_some h with ⟨v, w', hv⟩ | ⟨d, w', hd⟩ | ⟨c, w', hc⟩
        · exact ⟨v, hv.2⟩
        · exact hd.elim
        · exact hc.elim
      | some g =>
        obtain ⟨j, want⟩ := g
        simp only [hg] at h
        by_cases hv : yld dl e j = .bool want
        · rw [hv] at h
          rcases sopC_some (guardP_do h) with ⟨v, w', hv⟩ | ⟨d, w', hd⟩ | ⟨c, w', hc⟩
          · exact ⟨v, hv.2⟩
          · exact hd.elim
          · exact hc.elim
        · exact ⟨_, guardP_skip h hv⟩
    obtain ⟨v0, hv0⟩ := hfirst
    obtain ⟨k1, k2, k3⟩ := key v0 hv0
    refine ⟨k2, fun i o' hi ho' => ?_⟩
    rcases Nat.eq_or_lt_of_le hi with him | him
    · subst him
      obtain rfl : o' = o := by rw [hom] at ho'; exact (Option.some.inj ho').symm
      refine ⟨e, fun _ _ => rfl, fun j d hj hj2 => by omega, ?_⟩
      have hmono : ∀ C' : KX, C' = ⟨fun v w' => Rel w w' ∧ ∀ d, o'.dst = some d → es d = v, fun _ _ => False, fun _ _ => False⟩ →
          @sopC P ro o' e ⟨fun v w' => @gateC (Rel w w') ⟨sopsQ P ro dl Rel w (fun e' => e' = es) rest (updo e o'.dst v), False⟩, fun _ _ => False, fun _ _ => False⟩ w → @sopC P ro o' e C' w := by
        rintro C' rfl hc
        refine sopC_mono ?_ ?_ ?_ hc
        · intro v w' hv; exact ⟨hv.1, (key v hv.2).1⟩
        · exact fun _ _ h => h
        · exact fun _ _ h => h
      unfold sopsQ stepP at h
      unfold stepP
      cases hg : o'.guard with
      | none => simp only [hg] at h ⊢; exact hmono _ rfl h
      | some g =>
        obtain ⟨j, want⟩ := g
        simp only [hg] at h ⊢
        unfold guardP at h ⊢
        split at h
        · exact ⟨fun hbw => hmono _ rfl (h.1 hbw), fun hbw => (key _ (h.2 hbw)).1⟩
        · exact (key _ h).1
    · exact k3 i o' him ho'

theorem stepP_ext {dl : List (Option Nat)} {ops : List Oper} (hdl : dl = ops.map (·.dst)) {o : Oper} {e e' : En} {C : KX} {skip : Prop} {w : World} (hsel : ∀ cs b, o.op ≠ .select cs b)
    (h : ∀ t ∈ readsOf ops o, e t = e' t) (hc : stepP P ro dl o e C skip w) : stepP P ro dl o e' C skip w := by
  have hop : ∀ x ∈ o.op.operands, ev e x = ev e' x := by
    intro x hx
    cases x with
    | tmp t =>
      refine h t ?_
      unfold readsOf tmpsOf
      refine List.mem_append_left _ (List.mem_filterMap.2 ⟨.tmp t, by simpa using hx, rfl⟩)
    | _ => rfl
  unfold stepP at *
  cases hg : o.guard with
  | none => simp only [hg] at hc ⊢; exact sopC_ext hsel hop hc
  | some g =>
    obtain ⟨j, want⟩ := g
    simp only [hg] at hc ⊢
    have hy : yld dl e j = yld dl e' j := by
      unfold yld
      subst hdl
      rw [List.getElem?_map]
      cases ho : ops[j]? with
      | none => rfl
      | some oj =>
        cases hd : oj.dst with
        | none => simp [hd]
        | some d =>
          simp only [Option.map_some, hd]
          refine h d ?_
          unfold readsOf
          refine List.mem_append_right _ ?_
          simp [hg, dstAt, ho, hd]
    rw [hy] at hc
    unfold guardP at *
    split at hc
    · exact ⟨fun hb => sopC_ext hsel hop (hc.1 hb), hc.2⟩
    · exact hc

theorem range_all {n : Nat} {p : Nat → Bool} (h : (List.range n).all p = true) {i : Nat} (hi : i < n) : p i = true := List.all_eq_true.1 h i (List.mem_range.2 hi)

theorem countP_lt {p p' : Nat → Bool} {i : Nat} : ∀ l : List Nat, (∀ x, p' x = true → p x = true) → i ∈ l → p i = true → p' i = false → l.countP p' < l.countP p
  | [], _, h, _, _ => by simp at h
  | x :: l, hm, h, hp, hp' => by
    have hle : ∀ l : List Nat, l.countP p' ≤ l.countP p := fun l => List.countP_mono_left fun x _ hx => hm x hx
    rcases List.mem_cons.1 h with rfl | h
    · rw [List.countP_cons, List.countP_cons, hp, hp']
      have := hle l
      simp; omega
    · have ih := countP_lt l hm h hp hp'
      rw [List.countP_cons, List.countP_cons]
      have h2 : p' x = true → p x = true := hm x
      cases hx : p' x <;> cases hy : p x <;> simp_all <;> omega

/-- **A region that draws its order**: its first k operations in the text's order, each from the region's own first world; then the others, in any world that has grown out of it. -/
theorem draw_of [G : Grows Rel] {ops : List Oper} {Q : QT} {e es : En} {ds : DS} {w : World} (k : Nat) (hm : P.follows .mixedOrders = true) (hok : drawOk n ops k = true)
    (h1 : ∀ w', Rel w w' → sopsQ P ro (dsts ops) Rel w' (fun e' => e' = es) (ops.take k) e)
    (h2 : ∀ w', Rel w w' → sops P ro (dsts ops) (Q .normal) (fun ch => Q (.panic ch)) (ops.drop k) es ds w') :
    @drawC ⟨P, ro, n, ops.toArray, Q⟩ e ds w := by
  simp only [drawOk, Bool.and_eq_true, decide_eq_true_eq] at hok
  obtain ⟨⟨⟨⟨⟨hfit, hk⟩, hac⟩, hdst⟩, hreads⟩, hsuf⟩ := hok
  have hac' : ∀ i, ∀ j ∈ direct ops i, j < i := by
    intro i j hj
    rcases Nat.lt_or_ge i ops.length with hi | hi
    · exact of_decide_eq_true (List.all_eq_true.1 (range_all hac hi) j hj)
    · unfold direct at hj; rw [List.getElem?_eq_none hi] at hj; simp at hj
  have hdst' : ∀ i, i < k → ∃ d, dstAt ops i = some d := by
    intro i hi
    have := range_all hdst hi
    simp only [Bool.and_eq_true] at this
    exact Option.isSome_iff_exists.1 this.1
  have hdis : ∀ i j d, i < k → j < k → dstAt ops i = some d → dstAt ops j = some d → i = j := by
    intro i j d hi hj h1 h2
    have := range_all hdst hi
    simp only [Bool.and_eq_true] at this
    have := range_all this.2 hj
    simp only [Bool.or_eq_true, beq_iff_eq, bne_iff_ne] at this
    rcases this with h | h
    · exact h
    · rw [h1, h2] at h; exact absurd rfl h
  have hrd : ∀ i o, i < k → ops[i]? = some o → ∀ j d, j < k → dstAt ops j = some d → d ∈ readsOf ops o → j < i ∧ anc ops 4 i j = true := by
    intro i o hi ho j d hj hd hmem
    have := range_all hreads hi
    rw [ho] at this
    have := range_all this hj
    rw [hd] at this
    simp only [Bool.or_eq_true, Bool.not_eq_true', Bool.and_eq_true, decide_eq_true_eq] at this
    rcases this with h | h
    · simp at h; exact absurd hmem h
    · exact h
  have hsf : ∀ i, k ≤ i → i < ops.length → ∀ j, j < i → anc ops 4 i j = true := by
    intro i hi hi2 j hj
    have := range_all hsuf hi2
    simp only [Bool.or_eq_true, decide_eq_true_eq] at this
    rcases this with h | h
    · omega
    · exact range_all h hj
  have htk : ∀ i, i < k → dstAt (ops.take k) i = dstAt ops i := by
    intro i hi; unfold dstAt; rw [List.getElem?_take_of_lt hi]
  have hlen : (ops.take k).length = k := by simp; omega
  have hat : ∀ w', Rel w w' → _ := fun w' hr => sopsQ_at (P := P) (ro := ro) (Rel := Rel) (dl := dsts ops) (w := w') (es := es) (all := ops.take k)
    (fun i j d hi hj h1 h2 => by rw [hlen] at hi hj; rw [htk i hi] at h1; rw [htk j hj] at h2; exact hdis i j d hi hj h1 h2) (ops.take k) 0 e (by simp) (h1 w' hr)
  have hes : ∀ t, (∀ i, i < k → dstAt ops i ≠ some t) → es t = e t := fun t ht => (hat w (G.refl w)).1 t (fun i _ hi => by rw [hlen] at hi; rw [htk i hi]; exact ht i hi)
  have hops : ∀ i : Nat, ops.toArray[i]? = ops[i]? := fun i => by simp
  -- the whole
  have main : ∀ (fuel : Nat) (L : Array Bool) (e' : En) (ds' : DS) (w1 : World), L.size = ops.length → (∀ i, L.getD i false = true → ∀ j ∈ direct ops i, L.getD j false = true) →
      (List.range ops.length).countP (fun i => !L.getD i false) ≤ fuel →
      (((∀ i, k ≤ i → L.getD i false = false) ∧ (∀ i d, i < k → L.getD i false = true → dstAt ops i = some d → e' d = es d) ∧ (∀ t, (∀ i, i < k → L.getD i false = true → dstAt ops i ≠ some t) → e' t = e t) ∧ Rel w w1 ∧ ds' = ds) ∨
        ∃ m, k ≤ m ∧ m ≤ ops.length ∧ (∀ i, i < m → L.getD i false = true) ∧ (∀ i, m ≤ i → L.getD i false = false) ∧ sops P ro (dsts ops) (Q .normal) (fun ch => Q (.panic ch)) (ops.drop m) e' ds' w1) →
      wpAnyIn (FW ro) 0 P .any ops.toArray (lift n Q) fuel L (mkAct n e' ds') w1 := by
    have toB : ∀ (L : Array Bool) (e' : En) (w1 : World), (∀ i, i < k → L.getD i false = true) → (∀ i d, i < k → L.getD i false = true → dstAt ops i = some d → e' d = es d) →
        (∀ t, (∀ i, i < k → L.getD i false = true → dstAt ops i ≠ some t) → e' t = e t) → Rel w w1 → e' = es := by
      intro L e' w1 hL ha hb hr
      funext t
      by_cases ht : ∃ i, i < k ∧ dstAt ops i = some t
      · obtain ⟨i, hi, hd⟩ := ht; exact ha i t hi (hL i hi) hd
      · rw [hb t (fun i hi _ hd => ht ⟨i, hi, hd⟩), hes t (fun i hi hd => ht ⟨i, hi, hd⟩)]
    have fin : ∀ (L : Array Bool) (e' : En) (ds' : DS) (w1 : World), (∀ i, i < ops.length → L.getD i false = true) →
        (((∀ i, k ≤ i → L.getD i false = false) ∧ (∀ i d, i < k → L.getD i false = true → dstAt ops i = some d → e' d = es d) ∧ (∀ t, (∀ i, i < k → L.getD i false = true → dstAt ops i ≠ some t) → e' t = e t) ∧ Rel w w1 ∧ ds' = ds) ∨
          ∃ m, k ≤ m ∧ m ≤ ops.length ∧ (∀ i, i < m → L.getD i false = true) ∧ (∀ i, m ≤ i → L.getD i false = false) ∧ sops P ro (dsts ops) (Q .normal) (fun ch => Q (.panic ch)) (ops.drop m) e' ds' w1) →
        lift n Q .normal (mkAct n e' ds') w1 := by
      intro L e' ds' w1 hall hst
      refine ⟨e', ds', rfl, ?_⟩
      rcases hst with ⟨a1, a2, a3, a4, rfl⟩ | ⟨m, b1, b2, b3, b4, b5⟩
      · have hkl : k = ops.length := by
          rcases Nat.lt_or_ge k ops.length with h | h
          · have := a1 k (Nat.le_refl _); rw [hall k h] at this; cases this
          · omega
        rw [toB L e' w1 (fun i hi => hall i (by omega)) a2 a3 a4]
        have := h2 w1 a4
        rw [hkl, List.drop_length] at this
        exact this
      · have hml : m = ops.length := by
          rcases Nat.lt_or_ge m ops.length with h | h
          · have := b4 m (Nat.le_refl _); rw [hall m h] at this; cases this
          · omega
        rw [hml, List.drop_length] at b5
        exact b5
    intro fuel
    induction fuel with
    | zero =>
      intro L e' ds' w1 hs hcl hc hst
      have hall : ∀ i, i < ops.length → L.getD i false = true := by
        intro i hi
        have h0 : (List.range ops.length).countP (fun i => !L.getD i false) = 0 := by omega
        have := List.countP_eq_zero.1 h0 i (List.mem_range.2 hi)
        simpa using this
      refine ⟨?_, fin L e' ds' w1 hall hst⟩
      cases hr : Region.ready .any ops.toArray L with
      | nil => rfl
      | cons i r =>
        have := ready_spec (ops := ops.toArray) (L := L) (i := i) (by rw [hr]; simp) (by simpa using hs)
        rw [hall i (by simpa using this.1)] at this
        cases this.2.1
    | succ fuel ih =>
      intro L e' ds' w1 hs hcl hc hst
      refine ⟨fun hr => fin L e' ds' w1 (fun i hi => ready_nil (ops := ops.toArray) (by simpa using hs) (by simpa using hac') hr i (by simpa using hi)) hst, ?_⟩
      intro i hi
      obtain ⟨r1, r2, r3⟩ := ready_spec hi (by simpa using hs)
      have hi1 : i < ops.length := by simpa using r1
      have r3 : ∀ j ∈ direct ops i, L.getD j false = true := by simpa using r3
      have hsz : i < L.size := by omega
      have ho : ops[i]? = some ops[i] := List.getElem?_eq_getElem hi1
      have hoa : ops.toArray[i]? = some ops[i] := by rw [hops, ho]
      obtain ⟨hf, hg⟩ := opsFit_at hfit (List.getElem_mem hi1)
      have hs' : (L.setIfInBounds i true).size = ops.length := by simpa using hs
      have hcl' : ∀ j, (L.setIfInBounds i true).getD j false = true → ∀ m ∈ direct ops j, (L.setIfInBounds i true).getD m false = true := by
        intro j hj m hmem
        rw [getD_set hsz] at hj ⊢
        simp only [Bool.or_eq_true, decide_eq_true_eq] at hj ⊢
        rcases hj with rfl | hj
        · exact .inr (r3 m hmem)
        · exact .inr (hcl j hj m hmem)
      have hc' : (List.range ops.length).countP (fun j => !(L.setIfInBounds i true).getD j false) ≤ fuel := by
        have := countP_lt (p := fun j => !L.getD j false) (p' := fun j => !(L.setIfInBounds i true).getD j false) (i := i) (List.range ops.length)
          (fun x hx => by rw [getD_set hsz] at hx; simp at hx ⊢; exact hx.2) (List.mem_range.2 hi1) (by simp only [r2]; rfl) (by rw [getD_set hsz]; simp)
        omega
      have hdl : dsts ops = ops.toArray.toList.map (·.dst) := rfl
      -- the state in which the others begin
      have caseB : ∀ m, k ≤ m → m ≤ ops.length → (∀ i, i < m → L.getD i false = true) → (∀ i, m ≤ i → L.getD i false = false) → sops P ro (dsts ops) (Q .normal) (fun ch => Q (.panic ch)) (ops.drop m) e' ds' w1 → k ≤ i →
          wpOpIn (FW ro) 0 P ops.toArray (lift n Q) i (wpAnyIn (FW ro) 0 P .any ops.toArray (lift n Q) fuel (L.setIfInBounds i true)) (mkAct n e' ds') w1 := by
        intro m b1 b2 b3 b4 b5 hki
        have him : i = m := by
          rcases Nat.lt_trichotomy i m with h | h | h
          · rw [b3 i h] at r2; cases r2
          · exact h
          · have := anc_listed hcl 4 i m (hsf i hki hi1 m h) r3
            rw [b4 m (Nat.le_refl _)] at this; cases this
        subst him
        rw [List.drop_eq_getElem_cons hi1] at b5
        have b6 : stepP P ro (dsts ops) ops[i] e' ⟨fun v w' => sops P ro (dsts ops) (Q .normal) (fun ch => Q (.panic ch)) (ops.drop (i + 1)) (updo e' ops[i].dst v) ds' w',
            fun d w' => sops P ro (dsts ops) (Q .normal) (fun ch => Q (.panic ch)) (ops.drop (i + 1)) (updo e' ops[i].dst undef) (d :: ds') w', fun ch w' => Q (.panic ch) e' ds' w'⟩
            (sops P ro (dsts ops) (Q .normal) (fun ch => Q (.panic ch)) (ops.drop (i + 1)) (updo e' ops[i].dst undef) ds' w1) w1 := b5
        rw [hdl] at b6
        have nextB : ∀ e2 ds2 w2, sops P ro (ops.toArray.toList.map (·.dst)) (Q .normal) (fun ch => Q (.panic ch)) (ops.drop (i + 1)) e2 ds2 w2 →
            wpAnyIn (FW ro) 0 P .any ops.toArray (lift n Q) fuel (L.setIfInBounds i true) (mkAct n e2 ds2) w2 := by
          intro e2 ds2 w2 hsop
          refine ih _ _ _ _ hs' hcl' hc' (.inr ⟨i + 1, by omega, by omega, ?_, ?_, hsop⟩)
          · intro j hj; rw [getD_set hsz]; simp only [Bool.or_eq_true, decide_eq_true_eq]
            rcases Nat.eq_or_lt_of_le (Nat.le_of_lt_succ hj) with h | h
            · exact .inl h
            · exact .inr (b3 j h)
          · intro j hj; rw [getD_set hsz, b4 j (by omega)]; simp; omega
        exact step_sound hoa hf hg (fun v w2 q => nextB _ _ _ q) (fun d w2 q => nextB _ _ _ q) (fun ch w2 q => ⟨_, _, rfl, q⟩) (fun q => nextB _ _ _ q) b6
      rcases hst with ⟨a1, a2, a3, a4, rfl⟩ | ⟨m, b1, b2, b3, b4, b5⟩
      · rcases Nat.lt_or_ge i k with hik | hik
        · have hot : (ops.take k)[i]? = some ops[i] := by rw [List.getElem?_take_of_lt hik, ho]
          obtain ⟨ep, p1, p2, p3⟩ := (hat w1 a4).2 i ops[i] (Nat.zero_le _) hot
          have hstep : stepP P ro (dsts ops) ops[i] e' ⟨fun v w' => Rel w1 w' ∧ ∀ d, ops[i].dst = some d → es d = v, fun _ _ => False, fun _ _ => False⟩ (∀ d, ops[i].dst = some d → es d = undef) w1 := by
            refine stepP_ext (ops := ops) rfl (opFit_select hf) (fun t ht => ?_) p3
            by_cases hex : ∃ j, j < k ∧ dstAt ops j = some t
            · obtain ⟨j, hj, hd⟩ := hex
              obtain ⟨q1, q2⟩ := hrd i _ hik ho j t hj hd ht
              rw [p2 j t (Nat.zero_le _) q1 (by rw [htk j hj]; exact hd)]
              exact (a2 j t hj (anc_listed hcl 4 i j q2 r3) hd).symm
            · rw [p1 t (fun j _ hj hd => hex ⟨j, by omega, by rw [← htk j (by omega)]; exact hd⟩), a3 t (fun j hj _ hd => hex ⟨j, hj, hd⟩)]
          have nextA : ∀ v w2, Rel w1 w2 → (∀ d, ops[i].dst = some d → es d = v) → wpAnyIn (FW ro) 0 P .any ops.toArray (lift n Q) fuel (L.setIfInBounds i true) (mkAct n (updo e' ops[i].dst v) ds') w2 := by
            intro v w2 hrel hval
            have hdi : dstAt ops i = ops[i].dst := by simp [dstAt, ho]
            refine ih _ _ _ _ hs' hcl' hc' (.inl ⟨?_, ?_, ?_, G.trans a4 hrel, rfl⟩)
            · intro j hj; rw [getD_set hsz, a1 j hj]; simp; omega
            · intro j d hj hL hd
              by_cases hji : j = i
              · subst hji
                rw [hdi] at hd
                rw [hval d hd]
                simp [updo, hd, up]
              · rw [getD_set hsz] at hL
                simp only [Bool.or_eq_true, decide_eq_true_eq, hji, false_or] at hL
                have hne : ops[i].dst ≠ some d := fun hc => hji (hdis j i d hj hik hd (by rw [hdi, hc]))
                have : updo e' ops[i].dst v d = e' d := by
                  cases hdd : ops[i].dst with
                  | none => rfl
                  | some d2 =>
                    have : d ≠ d2 := fun hc => hne (by rw [hdd, hc])
                    simp [updo, up, this]
                rw [this]; exact a2 j d hj hL hd
            · intro t ht
              have hne : ops[i].dst ≠ some t := fun hc => ht i hik (by rw [getD_set hsz]; simp) (by rw [hdi, hc])
              have : updo e' ops[i].dst v t = e' t := by
                cases hdd : ops[i].dst with
                | none => rfl
                | some d2 =>
                  have : t ≠ d2 := fun hc => hne (by rw [hdd, hc])
                  simp [updo, up, this]
              rw [this]
              exact a3 t (fun j hj hL => ht j hj (by rw [getD_set hsz, hL]; simp))
          rw [hdl] at hstep
          exact step_sound (C := ⟨fun v w' => Rel w1 w' ∧ ∀ d, ops[i].dst = some d → es d = v, fun _ _ => False, fun _ _ => False⟩) hoa hf hg (fun v w2 q => nextA v w2 q.1 q.2) (fun _ _ q => q.elim) (fun _ _ q => q.elim) (fun q => nextA _ _ (G.refl _) q) hstep
        · have hallk : ∀ j, j < k → L.getD j false = true := fun j hj => anc_listed hcl 4 i j (hsf i hik hi1 j (by omega)) r3
          have hee := toB L e' w1 hallk a2 a3 a4
          refine caseB k (Nat.le_refl _) hk hallk a1 ?_ hik
          rw [hee]; exact h2 w1 a4
      · refine caseB m b1 b2 b3 b4 b5 ?_
        rcases Nat.lt_or_ge i k with hik | hik
        · rw [b3 i (by omega)] at r2; cases r2
        · exact hik
  -- its beginning
  show ∀ t, wpOpsIn (FW ro) 0 P ops.toArray (lift n Q) (Region.schedule (P.follows .mixedOrders) ops.toArray t) (mkAct n e ds) { w with drawn := w.drawn + 1 }
  intro t
  simp only [Region.schedule, hm, Bool.true_or, if_true]
  refine wpAnyIn_sound ops.toArray.size t _ _ _ (main _ _ e ds _ (by simp) ?_ ?_ (.inl ⟨?_, ?_, ?_, G.drew w, rfl⟩))
  · intro i hi; simp [Array.getD_eq_getD_getElem?, Array.getElem?_replicate] at hi
    split at hi <;> simp at hi
  · refine Nat.le_trans List.countP_le_length ?_; simp
  · intro i hi; simp [Array.getD_eq_getD_getElem?, Array.getElem?_replicate]; split <;> rfl
  · intro i d hi hL; simp [Array.getD_eq_getD_getElem?, Array.getElem?_replicate] at hL
    split at hL <;> simp at hL
  · intro t _; rfl
theorem sopsQ_nil {dl : List (Option Nat)} {w : World} {K : En → Prop} {e : En} : sopsQ P ro dl Rel w K [] e = K e := Eq.trans rfl rfl
theorem sopsQ_cons {dl : List (Option Nat)} {w : World} {K : En → Prop} {e : En} {d : Nat} {op : Op} {ty : TypeId} {ps : String} {af : Array Edge} {rest : List Oper} :
    sopsQ P ro dl Rel w K (⟨some d, op, ty, ps, af, none⟩ :: rest) e = @sopC P ro ⟨some d, op, ty, ps, af, none⟩ e ⟨fun v w' => @gateC (Rel w w') ⟨sopsQ P ro dl Rel w K rest (up e d v), False⟩, fun _ _ => False, fun _ _ => False⟩ w := Eq.trans rfl rfl
theorem sopsQ_guard {dl : List (Option Nat)} {w : World} {K : En → Prop} {e : En} {d : Nat} {op : Op} {ty : TypeId} {ps : String} {af : Array Edge} {rest : List Oper} {j : Nat} {want : Bool} :
    sopsQ P ro dl Rel w K (⟨some d, op, ty, ps, af, some (j, want)⟩ :: rest) e = @guardC (yld dl e j) want ⟨@sopC P ro ⟨some d, op, ty, ps, af, none⟩ e ⟨fun v w' => @gateC (Rel w w') ⟨sopsQ P ro dl Rel w K rest (up e d v), False⟩, fun _ _ => False, fun _ _ => False⟩ w, sopsQ P ro dl Rel w K rest (up e d undef)⟩ := Eq.trans rfl rfl
end

/-! ### what has grown -/
theorem ext_cell {w w1 : World} (h : Ext w w1) : ∀ b o, b < w.heap.size → w1.cell? ⟨b, o, none⟩ = w.cell? ⟨b, o, none⟩ := bel_cell h
theorem ext_frozen {w w1 : World} (h : Ext w w1) : ∀ b o, b < w.heap.size → w1.frozen? ⟨b, o, none⟩ = w.frozen? ⟨b, o, none⟩ := bel_frozen h
theorem ext_alloc {w0 w : World} {o : Obj} (h : Ext w0 w) : Ext w0 (w.alloc o) := h.alloc h.size o
theorem ext_dr {w0 w : World} {d : Nat} (h : Ext w0 w) : Ext w0 (dr w d) := ⟨h.os, h.tape, h.output, h.size, h.block⟩
theorem ext_set {w0 w : World} {p : Addr} {v : Value} (h : Ext w0 w) (hp : w0.heap.size ≤ p.block) : Ext w0 (w.setCell p v) := h.setCell hp v
theorem ext_setc {w0 w : World} {b o : Nat} {v : Value} (hp : w0.heap.size ≤ b) (h : Ext w0 w) : Ext w0 (w.setCell ⟨b, o, none⟩ v) := h.setCell hp v
theorem ext_trans {a b c : World} (h : Ext a b) (k : Ext b c) : Ext a c := h.trans k
theorem ext_same {a b c : World} (h : Ext a b) (k : SameW b c) : Ext a c := h.trans k.ext
end Go.Eng
