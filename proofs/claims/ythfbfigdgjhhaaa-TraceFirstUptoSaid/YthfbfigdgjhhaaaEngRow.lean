/- What a row hands to a law, opened: whole numbers, texts, slices, and records of these. -/
import Derived.Test.YthfbfigdgjhhaaaEngADraw
import Derived.ChangeArms
import Derived.DataReads
import Derived.WideShapes
set_option linter.all false
namespace Go.Eng
open Go Go.RowKit
structure Sh (α : Type) where
  enc : α → List Value
  ok : Mem → α → Prop
  wt : α → Nat
def opInt (k : IntKind) : Sh Int := ⟨fun n => [.int k n], fun _ n => (Lit.int k n).wf = true, fun _ => 1⟩
def opBool : Sh Bool := ⟨fun b => [.bool b], fun _ _ => True, fun _ => 1⟩
def opStr : Sh ByteArray := ⟨fun s => [.string s], fun _ s => s.size ≤ maxLen, fun s => s.size + 1⟩
def opPair {α β : Type} (A : Sh α) (B : Sh β) : Sh (α × β) := ⟨fun x => A.enc x.1 ++ B.enc x.2, fun m x => A.ok m x.1 ∧ B.ok m x.2, fun x => A.wt x.1 + B.wt x.2⟩
/-- A measure of how much is read. -/
structure Bulk {H : Type} (B : DataW H → Nat) : Prop where
  lit : ∀ l, 1 ≤ B (.lit l)
  str : ∀ bs, B (.lit (.string bs)) = bs.length + 1
  sl : ∀ es rs, (es.map B).sum + 1 ≤ B (.slice es rs)
  agg : ∀ ps, (ps.map B).sum ≤ B (.agg ps)
  nil : 1 ≤ B .nil
/-- A slice, with what its elements are. -/
structure Sl (α : Type) where
  v : Value
  xs : List α
structure SlOk {α : Type} (s : Nat) (E : Sh α) (m : Mem) (a : Sl α) : Prop where
  at_ : SlAt m [] a.v a.xs.length s (a.xs.flatMap E.enc)
  each : ∀ y ∈ a.xs, E.ok m y
  len : ∀ y ∈ a.xs, (E.enc y).length = s
  cap : ∃ p c, a.v = .slice p a.xs.length c ∧ a.xs.length ≤ c ∧ c ≤ maxLen
def opSl {α : Type} (s : Nat) (E : Sh α) : Sh (Sl α) := ⟨fun a => [a.v], SlOk s E, fun a => (a.xs.map E.wt).sum + 1⟩
section
variable {P : Program} {α β : Type}
def Opens (P : Program) {α : Type} (E : Sh α) (t : TypeId) (s : Nat) : Prop :=
  ∀ (H : Type) (enc : TypeId × Value → H) (w : World) (base : Nat) (spare : Nat → Bool) (held : Bool) (fuel : Nat) (cs : List Value) (x : DataW H × List MemPlace),
    DataW.trod enc P w base spare held fuel t cs = some x → ∃ a, cs = E.enc a ∧ E.ok (memOf w) a ∧ (E.enc a).length = s ∧ ∀ B : DataW H → Nat, Bulk B → E.wt a ≤ B x.1
theorem opens_int {k : IntKind} {t : TypeId} (ht : P.underlying t = some (.int k)) : Opens P (opInt k) t 1 := by
  intro H enc w base spare held fuel cs x h
  obtain ⟨n, rfl, rfl, hw⟩ := DataW.trod_int ht h
  exact ⟨n, rfl, hw, rfl, fun B hB => hB.lit _⟩
theorem opens_bool {t : TypeId} (ht : P.underlying t = some .bool) : Opens P opBool t 1 := by
  intro H enc w base spare held fuel cs x h
  obtain ⟨b, rfl, rfl⟩ := DataW.trod_bool ht h
  exact ⟨b, rfl, trivial, rfl, fun B hB => hB.lit _⟩
theorem opens_str {t : TypeId} (ht : P.underlying t = some .string) : Opens P opStr t 1 := by
  intro H enc w base spare held fuel cs x h
  obtain ⟨s, rfl, rfl, hs⟩ := DataW.trod_string ht h
  refine ⟨s, rfl, hs, rfl, fun B hB => ?_⟩
  rw [hB.str]; simp [opStr]
theorem list_of {Q : Nat → α → Prop} : ∀ n, (∀ i, i < n → ∃ a, Q i a) → ∃ xs : List α, xs.length = n ∧ ∀ i y, xs[i]? = some y → Q i y := by
  intro n
  induction n with
  | zero => intro _; exact ⟨[], rfl, fun i y h => by simp at h⟩
  | succ n ih =>
    intro h
    obtain ⟨xs, hl, hx⟩ := ih fun i hi => h i (by omega)
    obtain ⟨a, ha⟩ := h n (by omega)
    refine ⟨xs ++ [a], by simp [hl], fun i y hi => ?_⟩
    rcases Nat.lt_or_ge i n with hlt | hge
    · rw [List.getElem?_append_left (by omega)] at hi; exact hx i y hi
    · rw [List.getElem?_append_right (by omega)] at hi
      have : i = n := by
        have := (List.getElem?_eq_some_iff.1 hi).1
        simp at this; omega
      subst this
      simp [hl] at hi; subst hi; exact ha
theorem flat_get {f : α → List Value} {s : Nat} (hs : 0 < s) : ∀ (xs : List α) (j : Nat) (x : Value), (∀ y ∈ xs, (f y).length = s) → (xs.flatMap f)[j]? = some x → ∃ y, xs[j / s]? = some y ∧ (f y)[j % s]? = some x := by
  intro xs
  induction xs with
  | nil => intro j x _ h; simp at h
  | cons y xs ih =>
    intro j x hl h
    rw [List.flatMap_cons] at h
    have hy := hl y (by simp)
    rcases Nat.lt_or_ge j s with hlt | hge
    · rw [List.getElem?_append_left (by omega)] at h
      exact ⟨y, by simp [Nat.div_eq_of_lt hlt], by rw [Nat.mod_eq_of_lt hlt]; exact h⟩
    · rw [List.getElem?_append_right (by omega), hy] at h
      obtain ⟨z, h1, h2⟩ := ih (j - s) x (fun z hz => hl z (by simp [hz])) h
      refine ⟨z, ?_, ?_⟩
      · rw [Nat.div_eq_sub_div hs hge]; simpa using h1
      · rw [Nat.mod_eq_sub_mod hge]; exact h2
theorem flat_len {f : α → List Value} {s : Nat} : ∀ (xs : List α), (∀ y ∈ xs, (f y).length = s) → (xs.flatMap f).length = xs.length * s := by
  intro xs
  induction xs with
  | nil => intro _; simp
  | cons y xs ih =>
    intro hl
    rw [List.flatMap_cons, List.length_append, hl y (by simp), ih fun z hz => hl z (by simp [hz]), List.length_cons, Nat.add_mul, Nat.one_mul, Nat.add_comm]
theorem add_add (b o p r : Nat) : ((Addr.mk b o none).add p).add r = ⟨b, o + p + r, none⟩ := by
  unfold Addr.add
  by_cases h1 : p = 0 <;> by_cases h2 : r = 0 <;> simp [h1, h2]
theorem sl_open {w : World} {base s len cap : Nat} {a : Addr} {E : Sh α} {xs : List α} (hs : 0 < s) (hl : xs.length = len)
    (hx : ∀ i y, xs[i]? = some y → w.cells? base (a.add (i * s)) s = some (E.enc y) ∧ E.ok (memOf w) y ∧ (E.enc y).length = s) (hlc : len ≤ cap) (hcm : cap ≤ maxLen) : SlOk s E (memOf w) ⟨.slice (some a) len cap, xs⟩ := by
  have hm : ∀ y ∈ xs, E.ok (memOf w) y ∧ (E.enc y).length = s := by
    intro y hy
    obtain ⟨i, hi⟩ := List.getElem?_of_mem hy
    exact (hx i y hi).2
  refine ⟨?_, fun y hy => (hm y hy).1, fun y hy => (hm y hy).2, _, cap, by rw [hl], by simpa [hl] using hlc, hcm⟩
  subst hl
  cases xs with
  | nil => exact .inl ⟨rfl, rfl, _, _, rfl⟩
  | cons y0 ys =>
    right
    obtain ⟨h0, _, _⟩ := hx 0 y0 rfl
    obtain ⟨_, hl0, hc0⟩ := World.cells?_some h0
    have hc := hc0 0 hs
    have hlt : (0 : Nat) < (E.enc y0).length := by omega
    rw [List.getElem?_eq_getElem hlt] at hc
    simp only [Nat.zero_mul] at hc
    obtain ⟨b, o, sp⟩ := a
    have hz : ((Addr.mk b o sp).add 0).add 0 = ⟨b, o, sp⟩ := by simp [Addr.add]
    rw [hz] at hc
    unfold World.cell? at hc
    cases hb : w.heap[b]? with
    | none => simp [hb] at hc
    | some ob =>
      cases ob with
      | cells cs T f =>
        simp only [hb] at hc
        cases sp with
        | some _ => simp at hc
        | none =>
          refine ⟨b, o, cap, cs, rfl, flat_len _ fun y hy => (hm y hy).2, at_mem (m := memOf w) (T := T) (f := f) hb, fun j x hj => ?_⟩
          obtain ⟨y, h1, h2⟩ := flat_get hs _ j x (fun y hy => (hm y hy).2) hj
          obtain ⟨h3, _, h5⟩ := hx _ y h1
          obtain ⟨_, h6, h7⟩ := World.cells?_some h3
          have hr := h7 (j % s) (Nat.mod_lt _ hs)
          rw [h2, add_add] at hr
          rw [cell_at hb] at hr
          have : o + j / s * s + j % s = o + j := by rw [Nat.add_assoc, Nat.mul_comm, Nat.div_add_mod]
          rw [this] at hr; exact hr
      | _ => simp [hb] at hc
theorem sum_le {γ : Type} {f : α → Nat} {g : γ → Nat} : ∀ (xs : List α) (ys : List γ), xs.length = ys.length → (∀ (i : Nat) (x : α) (y : γ), xs[i]? = some x → ys[i]? = some y → f x ≤ g y) → (xs.map f).sum ≤ (ys.map g).sum := by
  intro xs
  induction xs with
  | nil => intro ys _ _; simp
  | cons x xs ih =>
    intro ys hl h
    cases ys with
    | nil => simp at hl
    | cons y ys =>
      have h0 := h 0 x y rfl rfl
      have h1 := ih ys (by simpa using hl) fun i a b ha hb => h (i + 1) a b (by simpa using ha) (by simpa using hb)
      simp only [List.map_cons, List.sum_cons]; omega
theorem opens_sl {t e : TypeId} {s : Nat} {E : Sh α} (ht : P.underlying t = some (.slice e)) (hE : Opens P E e s) (hc : P.cellsOf e = s) (hs : 0 < s) : Opens P (opSl s E) t 1 := by
  intro H enc w base spare held fuel cs x h
  rcases DataW.trod_slice ht h with ⟨rfl, rfl⟩ | ⟨a, len, cap, elems, rest, n, _, rfl, rfl, hb, hlc, hcm, hlen, hel, _, _⟩
  · exact ⟨⟨.slice none 0 0, []⟩, rfl, ⟨SlAt.nil, by simp, by simp, none, 0, rfl, by simp, by simp⟩, rfl, fun B hB => by simpa [opSl] using hB.nil⟩
  · have hq : ∀ i, i < len → ∃ y, w.cells? base (a.add (i * s)) s = some (E.enc y) ∧ E.ok (memOf w) y ∧ (E.enc y).length = s ∧ ∀ B : DataW H → Nat, Bulk B → ∀ z, elems[i]? = some z → E.wt y ≤ B z.1 := by
      intro i hi
      have h1 := hel i hi
      rw [hc, List.getElem?_eq_getElem (by omega)] at h1
      obtain ⟨cs, h2, h3⟩ := Option.bind_eq_some_iff.1 h1
      obtain ⟨y, rfl, h4, h5, h6⟩ := hE H enc w base spare held n cs _ h3
      refine ⟨y, h2, h4, h5, fun B hB z hz => ?_⟩
      rw [List.getElem?_eq_getElem (by omega)] at hz
      rw [← Option.some.inj hz]; exact h6 B hB
    obtain ⟨xs, hl, hx⟩ := list_of len hq
    refine ⟨⟨.slice (some a) len cap, xs⟩, rfl, sl_open hs hl (fun i y hi => ⟨(hx i y hi).1, (hx i y hi).2.1, (hx i y hi).2.2.1⟩) hlc hcm, rfl, fun B hB => ?_⟩
    have := hB.sl (elems.map (·.1)) (rest.map (·.1))
    have h2 : (xs.map E.wt).sum ≤ ((elems.map (·.1)).map B).sum := by
      rw [List.map_map]
      exact sum_le xs elems (by omega) fun i x y h1 h2 => (hx i x h1).2.2.2 B hB y h2
    simp only [opSl]; omega
/-! ### records -/
def OpensS (P : Program) {α : Type} (E : Sh α) (fl : List Field) (o tot : Nat) : Prop :=
  ∀ (H : Type) (enc : TypeId × Value → H) (w : World) (base : Nat) (spare : Nat → Bool) (held : Bool) (n : Nat) (cs : List Value) (xs : List (DataW H × List MemPlace)), cs.length = tot → xs.length = fl.length →
    (∀ (i : Nat) (f : Field), fl[i]? = some f → DataW.trod enc P w base spare held n f.type ((cs.drop f.offset).take (P.cellsOf f.type)) = xs[i]?) →
    ∃ a, cs.drop o = E.enc a ∧ E.ok (memOf w) a ∧ (E.enc a).length = tot - o ∧ ∀ B : DataW H → Nat, Bulk B → E.wt a ≤ (xs.map fun x => B x.1).sum
theorem opensS_last {E : Sh α} {f : Field} {o s tot : Nat} (hE : Opens P E f.type s) (hc : P.cellsOf f.type = s) (ho : f.offset = o) (ht : o + s = tot) : OpensS P E [f] o tot := by
  intro H enc w base spare held n cs xs hl hxl h
  match xs, hxl with
  | [x], _ =>
    obtain ⟨a, h1, h2, h3, h4⟩ := hE H enc w base spare held n _ x (h 0 f rfl)
    refine ⟨a, ?_, h2, by omega, fun B hB => by simpa using h4 B hB⟩
    rw [← h1, ho, hc, List.take_of_length_le (by simp; omega)]
theorem opensS_cons {A : Sh α} {B : Sh β} {f : Field} {r : List Field} {o s tot : Nat} (hA : Opens P A f.type s) (hc : P.cellsOf f.type = s) (ho : f.offset = o) (hB : OpensS P B r (o + s) tot) : OpensS P (opPair A B) (f :: r) o tot := by
  intro H enc w base spare held n cs xs hl hxl h
  match xs, hxl with
  | x :: xs, hxl =>
    obtain ⟨a, h1, h2, h3, h7⟩ := hA H enc w base spare held n _ x (h 0 f rfl)
    obtain ⟨b, h4, h5, h6, h8⟩ := hB H enc w base spare held n cs xs hl (by simpa using hxl) fun i g hg => by simpa using h (i + 1) g (by simpa using hg)
    have e : cs.drop o = (opPair A B).enc (a, b) := by
      show cs.drop o = A.enc a ++ B.enc b
      rw [← h1, ← h4, ho, hc, ← List.drop_drop, List.take_append_drop]
    refine ⟨(a, b), e, ⟨h2, h5⟩, by rw [← e]; simp [hl], fun D hD => ?_⟩
    have q1 := h7 D hD
    have q2 := h8 D hD
    simp only [opPair, List.map_cons, List.sum_cons]; omega
theorem opens_st {E : Sh α} {t : TypeId} {fs : Array Field} {tot : Nat} (ht : P.underlying t = some (.struct fs)) (hc : P.cellsOf t = tot) (h : OpensS P E fs.toList 0 tot) : Opens P E t tot := by
  intro H enc w base spare held fuel cs x hx
  obtain ⟨xs, n, _, rfl, hl, hxs, hf⟩ := DataW.trod_struct ht hx
  obtain ⟨a, h1, h2, h3, h4⟩ := h H enc w base spare held n cs xs (hl.trans hc) (by simpa using hxs) fun i f hi => hf i f (by simpa using hi)
  refine ⟨a, by simpa using h1, h2, by simpa using h3, fun B hB => Nat.le_trans (h4 B hB) ?_⟩
  have := hB.agg (xs.map (·.1))
  rw [List.map_map] at this
  exact this
/-! ### at the door -/
theorem open_slA {H : Type} {enc : TypeId × Value → H} {w : World} {base b0 : Nat} {spare : Nat → Bool} {held : Bool} {r : Reach} {t e : TypeId} {s : Nat} {E : Sh α} {v : Value} {d : DataW H} {p : List MemPlace} (ht : P.underlying t = some (.slice e)) (hE : Opens P (opSl s E) t 1)
    (hv : Value.okWide P w r b0 t v) (h : DataW.Trod enc P w base spare held t v d p) : ∃ a : Sl α, v = a.v ∧ SlOk s E (memOf w) a ∧ ∀ B : DataW H → Nat, Bulk B → (opSl s E).wt a ≤ B d := by
  obtain ⟨p, l, c, rfl⟩ := WideShapes.okWide_slice ht hv
  obtain ⟨fuel, hf⟩ := h
  obtain ⟨a, h1, h2, _, h4⟩ := hE H enc w base spare held fuel _ _ hf
  refine ⟨a, ?_, h2, h4⟩
  simp [Value.cells, opSl] at h1
  exact h1
theorem open_stA {H : Type} {enc : TypeId × Value → H} {w : World} {base b0 : Nat} {spare : Nat → Bool} {held : Bool} {r : Reach} {t : TypeId} {fs : Array Field} {s : Nat} {E : Sh α} {v : Value} {d : DataW H} {p : List MemPlace} (ht : P.underlying t = some (.struct fs)) (hE : Opens P E t s)
    (hv : Value.okWide P w r b0 t v) (h : DataW.Trod enc P w base spare held t v d p) : ∃ a : α, v = .agg (E.enc a).toArray ∧ E.ok (memOf w) a ∧ ∀ B : DataW H → Nat, Bulk B → E.wt a ≤ B d := by
  obtain ⟨cs, rfl, _⟩ := WideShapes.okWide_struct ht hv
  obtain ⟨fuel, hf⟩ := h
  obtain ⟨a, h1, h2, _, h4⟩ := hE H enc w base spare held fuel _ _ hf
  refine ⟨a, ?_, h2, h4⟩
  simp [Value.cells] at h1
  rw [← h1]
end
/-- A contract of the elder form, where what was handed over matters. -/
theorem Cta.ctM {P : Program} {f : FuncId} {args : List Value} {φ : Value → Prop} {w : World} (h : Cta P f args (memOf w) [] (fun v m' _ => φ v ∧ (memOf w).Le m')) : Ct P f args w (fun v w' => φ v ∧ Ext w w') := by
  refine (h.run [] w (inv_memOf w)).mono ?_
  rintro v w' ⟨m', L', h1, h2, h3⟩
  exact ⟨h2, ext_of_inv h1 h3⟩
theorem subL_some (cs : Array Value) : ∀ (l : List Value) (o : Nat), (∀ (j : Nat) (x : Value), l[j]? = some x → cs[o + j]? = some x) → subL cs o l.length = some l := by
  intro l
  induction l with
  | nil => intro o _; exact subL_zero
  | cons x l ih =>
    intro o h
    have h0 := h 0 x rfl
    have h1 := ih (o + 1) fun j y hj => by rw [Nat.add_assoc, Nat.add_comm 1 j]; exact h (j + 1) y (by simpa using hj)
    simp only [List.length_cons, subL_succ, (show cs[o]? = some x from h0), h1, consO_some]
theorem flat_at {α : Type} (f : α → List Value) (k : Nat) : ∀ (xs : List α) (i : Nat) (a : α), (∀ y ∈ xs, (f y).length = k) → xs[i]? = some a → ∀ (j : Nat) (x : Value), (f a)[j]? = some x → (xs.flatMap f)[i * k + j]? = some x := by
  intro xs
  induction xs with
  | nil => intro i a _ h; simp at h
  | cons y xs ih =>
    intro i a hl h j x hj
    rw [List.flatMap_cons]
    have hy := hl y (by simp)
    cases i with
    | zero =>
      simp at h; subst h
      have : j < (f y).length := (List.getElem?_eq_some_iff.1 hj).1
      rw [Nat.zero_mul, Nat.zero_add, List.getElem?_append_left this]; exact hj
    | succ i =>
      have := ih i a (fun z hz => hl z (by simp [hz])) (by simpa using h) j x hj
      rw [List.getElem?_append_right (by rw [hy, Nat.add_mul]; omega), hy, show (i + 1) * k + j - k = i * k + j by rw [Nat.add_mul, Nat.one_mul]; omega]
      exact this
/-- An element of a slice whose elements are rows of cells. -/
theorem SlAt.row {α : Type} {m : Mem} {L : Lst} {p : Option Addr} {xs : List α} {c k i : Nat} {f : α → List Value} {a : α} (h : SlAt m L (.slice p xs.length c) xs.length k (xs.flatMap f)) (hl : ∀ y ∈ xs, (f y).length = k) (ha : xs[i]? = some a) :
    ∃ b o cs, p = some ⟨b, o, none⟩ ∧ At m L b cs ∧ subL cs (o + i * k) k = some (f a) := by
  have hi := (List.getElem?_eq_some_iff.1 ha).1
  obtain ⟨b, o, cs, rfl, _, hat, hc⟩ := h.block (by omega)
  refine ⟨b, o, cs, rfl, hat, ?_⟩
  have hm := List.mem_of_getElem? ha
  have := subL_some cs (f a) (o + i * k) fun j x hj => by rw [Nat.add_assoc]; exact hc _ _ (flat_at f k xs i a hl ha j x hj)
  rwa [hl a hm] at this
end Go.Eng
