/- Layer 16: what a trace is in memory. -/
import Derived.Test.YthfbfigdgjhhaaaQPlain
import Derived.Test.YthfbfigdgjhhaaaEngPanic
import Derived.Test.YthfbfigdgjhhaaaEngRow
set_option linter.unusedSimpArgs false
set_option linter.unusedVariables false
set_option maxRecDepth 20000
set_option linter.all false
-- @FC
namespace Go.Tr
open Go Go.Eng
def srcC (s : Src) : List Value := [.int .i64 s.kind, .int .i64 s.vk, .int .i64 s.vn, .int .i64 s.n]
abbrev srcV (s : Src) : Value := .agg #[.int .i64 s.kind, .int .i64 s.vk, .int .i64 s.vn, .int .i64 s.n]
def srcsV (l : List Src) : List Value := l.flatMap srcC
def intsV (l : List Int) : List Value := l.map fun n => .int .i64 n
def boolsV (l : List Bool) : List Value := l.map fun b => .bool b
/-- An array whose elements are known one by one. -/
def RecsAt {α : Type} (m : Mem) (s : Nat) (E : α → List Value → Prop) (p : Option Addr) (c : Nat) (l : List α) : Prop :=
  l.length ≤ c ∧ ∃ rows : List (List Value), rows.length = l.length ∧ SlAt m [] (.slice p l.length c) l.length s rows.flatten ∧ (∀ r ∈ rows, r.length = s) ∧ ∀ (i : Nat) (a : α) (r : List Value), l[i]? = some a → rows[i]? = some r → E a r
theorem RecsAt.get {α : Type} {m : Mem} {s : Nat} {E : α → List Value → Prop} {p : Option Addr} {c : Nat} {l : List α} (h : RecsAt m s E p c l) {i : Nat} {a : α} (ha : l[i]? = some a) :
    ∃ b o cs r, p = some ⟨b, o, none⟩ ∧ At m [] b cs ∧ r.length = s ∧ E a r ∧ subL cs (o + i * s) s = some r ∧ ∀ j x, r[j]? = some x → cs[o + (i * s + j)]? = some x := by
  obtain ⟨hc, rows, hl, hs, hr, hE⟩ := h
  have hi : i < l.length := (List.getElem?_eq_some_iff.1 ha).1
  obtain ⟨r, hri⟩ : ∃ r, rows[i]? = some r := ⟨_, List.getElem?_eq_getElem (by omega)⟩
  have hrl := hr r (List.mem_of_getElem? hri)
  have hs' : SlAt m [] (.slice p rows.length c) rows.length s (rows.flatMap id) := by rw [List.flatMap_id, hl]; exact hs
  obtain ⟨b, o, cs, hp, hat, hsub⟩ := hs'.row (f := id) hr hri
  refine ⟨b, o, cs, r, hp, hat, hrl, hE i a r ha hri, hsub, ?_⟩
  have key : ∀ (n k : Nat) (l : List Value), subL cs k n = some l → ∀ j x, l[j]? = some x → cs[k + j]? = some x := by
    intro n
    induction n with
    | zero => intro k l h j x hx; unfold subL at h; cases h; cases hx
    | succ n ih =>
      intro k l h j x hx
      rw [subL_succ] at h
      cases hk : cs[k]? with
      | none => rw [hk] at h; cases h
      | some v =>
        rw [hk] at h
        cases hs : subL cs (k + 1) n with
        | none => rw [hs] at h; cases h
        | some l' =>
          rw [hs] at h
          rw [consO_some] at h
          cases h
          cases j with
          | zero => simp at hx; subst hx; simpa using hk
          | succ j =>
            have := ih (k + 1) l' hs j x (by simpa using hx)
            rw [← this]; congr 1; omega
  intro j x hx
  have := key s (o + i * s) r hsub j x hx
  rw [← Nat.add_assoc]; exact this
theorem RecsAt.le {α : Type} {m m' : Mem} {s : Nat} {E E' : α → List Value → Prop} {p : Option Addr} {c : Nat} {l : List α} (h : RecsAt m s E p c l) (hm : m.Le m') (hE : ∀ a r, E a r → E' a r) : RecsAt m' s E' p c l := by
  obtain ⟨hc, rows, hl, hs, hr, he⟩ := h
  exact ⟨hc, rows, hl, hs.le hm, hr, fun i a r h1 h2 => hE _ _ (he i a r h1 h2)⟩
abbrev R64 (n : Int) : Prop := -9223372036854775808 ≤ n ∧ n ≤ 9223372036854775807
def SrcR (s : Src) : Prop := R64 s.kind ∧ R64 s.vk ∧ R64 s.vn ∧ R64 s.n
/-- A list of sources. -/
structure SrcsAt (m : Mem) (p : Option Addr) (c : Nat) (l : List Src) : Prop where
  cap : l.length ≤ c
  at_ : SlAt m [] (.slice p l.length c) l.length 4 (srcsV l)
  len : l.length ≤ 1048576
  rng : ∀ s ∈ l, SrcR s
theorem SrcsAt.le {m m' : Mem} {p : Option Addr} {c : Nat} {l : List Src} (h : SrcsAt m p c l) (hm : m.Le m') : SrcsAt m' p c l := ⟨h.cap, h.at_.le hm, h.len, h.rng⟩
theorem SrcsAt.get {m : Mem} {p : Option Addr} {c : Nat} {l : List Src} (h : SrcsAt m p c l) {i : Nat} {s : Src} (hs : l[i]? = some s) :
    ∃ b o cs, p = some ⟨b, o, none⟩ ∧ At m [] b cs ∧ subL cs (o + i * 4) 4 = some [.int .i64 s.kind, .int .i64 s.vk, .int .i64 s.vn, .int .i64 s.n] := by
  obtain ⟨b, o, cs, hp, hat, hsub⟩ := h.at_.row (f := srcC) (fun y _ => rfl) hs
  exact ⟨b, o, cs, hp, hat, hsub⟩
def OpE (m : Mem) (o : OpR) (r : List Value) : Prop := ∃ p c, r = [.int .i64 o.op, .slice p o.args.length c, .int .i64 o.k, .int .i64 o.c, .int .i64 o.snap] ∧ SrcsAt m p c o.args ∧ R64 o.op ∧ R64 o.k ∧ R64 o.c ∧ R64 o.snap
def LinkE (m : Mem) (o : LinkR) (r : List Value) : Prop := ∃ p c, r = [.int .i64 o.up, .int .i64 o.fn, .int .i64 o.pc, .int .i64 o.into, .slice p o.regs.length c] ∧ SrcsAt m p c o.regs ∧ R64 o.up ∧ R64 o.fn ∧ R64 o.pc ∧ R64 o.into
def VirtE (m : Mem) (o : VirtR) (r : List Value) : Prop := ∃ p c, r = [.int .i64 o.rc, .slice p o.cells.length c] ∧ SrcsAt m p c o.cells ∧ R64 o.rc
theorem OpE.le {m m' : Mem} (hm : m.Le m') {o : OpR} {r : List Value} (h : OpE m o r) : OpE m' o r := by obtain ⟨p, c, h1, h2, h3⟩ := h; exact ⟨p, c, h1, h2.le hm, h3⟩
theorem LinkE.le {m m' : Mem} (hm : m.Le m') {o : LinkR} {r : List Value} (h : LinkE m o r) : LinkE m' o r := by obtain ⟨p, c, h1, h2, h3⟩ := h; exact ⟨p, c, h1, h2.le hm, h3⟩
theorem VirtE.le {m m' : Mem} (hm : m.Le m') {o : VirtR} {r : List Value} (h : VirtE m o r) : VirtE m' o r := by obtain ⟨p, c, h1, h2, h3⟩ := h; exact ⟨p, c, h1, h2.le hm, h3⟩
/-- Where a trace's lists lie. -/
structure TLoc where
  pi : Option Addr
  ci : Nat
  po : Option Addr
  co : Nat
  pl : Option Addr
  cl : Nat
  pv : Option Addr
  cv : Nat
  pb : Option Addr
  cb : Nat
/-- The lists of a trace lie there for good. -/
structure TrAt (m : Mem) (z : TLoc) (t : TrR) : Prop where
  insc : t.ins.length ≤ z.ci
  ins : SlAt m [] (.slice z.pi t.ins.length z.ci) t.ins.length 1 (intsV t.ins)
  ops : RecsAt m 5 (OpE m) z.po z.co t.ops
  links : RecsAt m 5 (LinkE m) z.pl z.cl t.links
  virts : RecsAt m 2 (VirtE m) z.pv z.cv t.virts
  back : SrcsAt m z.pb z.cb t.back
  li : t.ins.length ≤ 1048576
  lo : t.ops.length ≤ 1048576
  ll : t.links.length ≤ 1048576
  lv : t.virts.length ≤ 1048576
  ri : ∀ n ∈ t.ins, R64 n
  rf : R64 t.fn ∧ R64 t.pc
theorem TrAt.le {m m' : Mem} {z : TLoc} {t : TrR} (h : TrAt m z t) (hm : m.Le m') : TrAt m' z t :=
  ⟨h.insc, h.ins.le hm, h.ops.le hm fun _ _ => OpE.le hm, h.links.le hm fun _ _ => LinkE.le hm, h.virts.le hm fun _ _ => VirtE.le hm, h.back.le hm, h.li, h.lo, h.ll, h.lv, h.ri, h.rf⟩
abbrev ptr (b : Nat) : Value := .pointer (some ⟨b, 0, none⟩)
/-- A trace's value. -/
abbrev trV (k : KeyR) (fn pc : Int) (z : TLoc) (ni no nl nv nb : Nat) : Value := .agg #[.int .i64 k.mg, .int .i64 k.n, .int .i64 k.g0, .int .i64 k.g1, .int .i64 k.g2, .int .i64 k.g3, .int .i64 k.g4, .int .i64 k.g5, .int .i64 k.g6, .int .i64 k.g7, .int .i64 fn, .int .i64 pc,
  .slice z.pi ni z.ci, .slice z.po no z.co, .slice z.pl nl z.cl, .slice z.pv nv z.cv, .slice z.pb nb z.cb]
/-- A checker. -/
abbrev chkO (k : KeyR) (fn pc : Int) (z : TLoc) (ni no nl nv nb : Nat) (at_ : Int) (mk : Value) : Obj := .cells #[.int .i64 k.mg, .int .i64 k.n, .int .i64 k.g0, .int .i64 k.g1, .int .i64 k.g2, .int .i64 k.g3, .int .i64 k.g4, .int .i64 k.g5, .int .i64 k.g6, .int .i64 k.g7, .int .i64 fn, .int .i64 pc,
  .slice z.pi ni z.ci, .slice z.po no z.co, .slice z.pl nl z.cl, .slice z.pv nv z.cv, .slice z.pb nb z.cb, .int .i64 at_, mk] 73 (0, 0)
abbrev wrongE (at_ : Int) : List PanicEntry := [{ v := .iface 68 (.agg #[.int .i64 at_]), recovered := false }]
end Go.Tr
