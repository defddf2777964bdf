/- Layer 16: a trace at the door. -/
import Derived.Test.YthfbfigdgjhhaaaQFirst
set_option linter.unusedSimpArgs false
set_option linter.unusedVariables false
set_option maxRecDepth 20000
set_option linter.all false
-- @FC
namespace Go.Tr
open Go Go.Eng
abbrev opI : Sh Int := opInt .i64
abbrev opV : Sh (Int × Int) := opPair opI opI
abbrev SrcT := Int × (Int × Int) × Int
abbrev opSrc : Sh SrcT := opPair opI (opPair opV opI)
abbrev OpT := Int × Sl SrcT × Int × Int × Int
abbrev opOp : Sh OpT := opPair opI (opPair (opSl 4 opSrc) (opPair opI (opPair opI opI)))
abbrev LinkT := Int × Int × Int × Int × Sl SrcT
abbrev opLink : Sh LinkT := opPair opI (opPair opI (opPair opI (opPair opI (opSl 4 opSrc))))
abbrev VirtT := Int × Sl SrcT
abbrev opVirt : Sh VirtT := opPair opI (opSl 4 opSrc)
abbrev KeyT := Int × Int × (Int × Int) × (Int × Int) × (Int × Int) × (Int × Int)
abbrev opKey : Sh KeyT := opPair opI (opPair opI (opPair opV (opPair opV (opPair opV opV))))
abbrev TrT := KeyT × Int × Int × Sl Int × Sl OpT × Sl LinkT × Sl VirtT × Sl SrcT
abbrev opTr : Sh TrT := opPair opKey (opPair opI (opPair opI (opPair (opSl 1 opI) (opPair (opSl 5 opOp) (opPair (opSl 5 opLink) (opPair (opSl 2 opVirt) (opSl 4 opSrc)))))))
def srcO (x : SrcT) : Src := ⟨x.1, x.2.1.1, x.2.1.2, x.2.2⟩
def opO (x : OpT) : OpR := ⟨x.1, x.2.1.xs.map srcO, x.2.2.1, x.2.2.2.1, x.2.2.2.2⟩
def linkO (x : LinkT) : LinkR := ⟨x.1, x.2.1, x.2.2.1, x.2.2.2.1, x.2.2.2.2.xs.map srcO⟩
def virtO (x : VirtT) : VirtR := ⟨x.1, x.2.xs.map srcO⟩
def keyO (x : KeyT) : KeyR := ⟨x.1, x.2.1, x.2.2.1.1, x.2.2.1.2, x.2.2.2.1.1, x.2.2.2.1.2, x.2.2.2.2.1.1, x.2.2.2.2.1.2, x.2.2.2.2.2.1, x.2.2.2.2.2.2⟩
def trO' (x : TrT) : TrR := ⟨keyO x.1, x.2.1, x.2.2.1, x.2.2.2.1.xs, x.2.2.2.2.1.xs.map opO, x.2.2.2.2.2.1.xs.map linkO, x.2.2.2.2.2.2.1.xs.map virtO, x.2.2.2.2.2.2.2.xs.map srcO⟩
theorem r64_of {n : Int} (h : (Lit.int .i64 n).wf = true) : R64 n := by
  simp [Lit.wf, IntKind.min, IntKind.max, IntKind.signed, IntKind.bits] at h
  unfold R64
  omega
theorem wt_len {α : Type} {s : Nat} {E : Sh α} (h1 : ∀ x, 1 ≤ E.wt x) (a : Sl α) : a.xs.length ≤ (opSl s E).wt a := by
  have : ∀ l : List α, l.length ≤ (l.map E.wt).sum := by
    intro l
    induction l with
    | nil => exact Nat.le_refl _
    | cons x l ih => have := h1 x; rw [List.map_cons, List.sum_cons, List.length_cons]; omega
  have := this a.xs
  show a.xs.length ≤ (a.xs.map E.wt).sum + 1
  omega
theorem wt_mem {α : Type} {s : Nat} {E : Sh α} {a : Sl α} {x : α} (h : x ∈ a.xs) : E.wt x ≤ (opSl s E).wt a := by
  have : ∀ l : List α, x ∈ l → E.wt x ≤ (l.map E.wt).sum := by
    intro l
    induction l with
    | nil => intro h; cases h
    | cons y l ih =>
      intro h
      rw [List.map_cons, List.sum_cons]
      rcases List.mem_cons.1 h with rfl | h
      · omega
      · have := ih h; omega
  have := this a.xs h
  show E.wt x ≤ (a.xs.map E.wt).sum + 1
  omega
theorem src_open {m : Mem} {a : Sl SrcT} (h : SlOk 4 opSrc m a) (hw : (opSl 4 opSrc).wt a ≤ 1048576) : ∃ p c, a.v = .slice p (a.xs.map srcO).length c ∧ SrcsAt m p c (a.xs.map srcO) := by
  obtain ⟨p, c, hv, hc, hm⟩ := h.cap
  have hl := wt_len (s := 4) (E := opSrc) (fun x => by show 1 ≤ 1 + (1 + 1 + 1); omega) a
  refine ⟨p, c, by rw [List.length_map]; exact hv, by rw [List.length_map]; exact hc, ?_, by rw [List.length_map]; omega, ?_⟩
  · have h2 := h.at_
    rw [hv] at h2
    have e : srcsV (a.xs.map srcO) = a.xs.flatMap opSrc.enc := by unfold srcsV; rw [List.flatMap_map]; rfl
    rw [List.length_map, e]; exact h2
  · intro s hs
    obtain ⟨x, hx, rfl⟩ := List.mem_map.1 hs
    obtain ⟨h1, ⟨h2, h3⟩, h4⟩ := h.each x hx
    exact ⟨r64_of h1, r64_of h2, r64_of h3, r64_of h4⟩
/-- An array of records, at the door. -/
theorem recs_open {α β : Type} {m : Mem} {s : Nat} {E : Sh α} {F : β → List Value → Prop} {f : α → β} {a : Sl α} (h : SlOk s E m a) (hF : ∀ x ∈ a.xs, F (f x) (E.enc x)) : ∃ p c, a.v = .slice p (a.xs.map f).length c ∧ RecsAt m s F p c (a.xs.map f) := by
  obtain ⟨p, c, hv, hc, hm⟩ := h.cap
  refine ⟨p, c, by rw [List.length_map]; exact hv, by rw [List.length_map]; exact hc, a.xs.map E.enc, by rw [List.length_map, List.length_map], ?_, ?_, ?_⟩
  · have h2 := h.at_
    rw [hv] at h2
    rw [List.length_map, show (a.xs.map E.enc).flatten = a.xs.flatMap E.enc from (List.flatMap_def ..).symm]; exact h2
  · intro r hr
    obtain ⟨x, hx, rfl⟩ := List.mem_map.1 hr
    exact h.len x hx
  · intro i b r h1 h2
    rw [List.getElem?_map] at h1 h2
    cases hx : a.xs[i]? with
    | none => rw [hx] at h1; cases h1
    | some x =>
      rw [hx] at h1 h2
      cases h1; cases h2
      exact hF x (List.mem_of_getElem? hx)
theorem ints_eq (l : List Int) : intsV l = l.flatMap opI.enc := by
  unfold intsV
  induction l with
  | nil => rfl
  | cons a l ih => rw [List.map_cons, List.flatMap_cons, ih]; rfl
theorem tr_open {m : Mem} {a : TrT} (h : opTr.ok m a) (hw : opTr.wt a ≤ 1048576) : ∃ z, Value.agg (opTr.enc a).toArray = trV (trO' a).key (trO' a).fn (trO' a).pc z (trO' a).ins.length (trO' a).ops.length (trO' a).links.length (trO' a).virts.length (trO' a).back.length ∧ TrAt m z (trO' a) := by
  obtain ⟨key, fn, pc, ins, ops, links, virts, back⟩ := a
  obtain ⟨hk, hfn, hpc, hi, ho, hl, hv, hb⟩ := h
  have hw' : opKey.wt key + (1 + (1 + ((opSl 1 opI).wt ins + ((opSl 5 opOp).wt ops + ((opSl 5 opLink).wt links + ((opSl 2 opVirt).wt virts + (opSl 4 opSrc).wt back)))))) ≤ 1048576 := hw
  dsimp only at hk hfn hpc hi ho hl hv hb
  have li := wt_len (s := 1) (E := opI) (fun x => Nat.le_refl 1) ins
  have lo := wt_len (s := 5) (E := opOp) (fun x => by show 1 ≤ 1 + _; omega) ops
  have ll := wt_len (s := 5) (E := opLink) (fun x => by show 1 ≤ 1 + _; omega) links
  have lv := wt_len (s := 2) (E := opVirt) (fun x => by show 1 ≤ 1 + _; omega) virts
  obtain ⟨pi, ci, evi, hci, hcm⟩ := hi.cap
  obtain ⟨po, co, evo, hro⟩ := recs_open (F := OpE m) (f := opO) ho fun x hx => by
    obtain ⟨h1, h2, h3, h4, h5⟩ := ho.each x hx
    have q := wt_mem (s := 5) (E := opOp) hx
    have q2 : opOp.wt x = 1 + ((opSl 4 opSrc).wt x.2.1 + (1 + (1 + 1))) := rfl
    obtain ⟨p, c, e, hs⟩ := src_open h2 (by omega)
    exact ⟨p, c, by show [Value.int .i64 x.1] ++ ([x.2.1.v] ++ ([Value.int .i64 x.2.2.1] ++ ([Value.int .i64 x.2.2.2.1] ++ [Value.int .i64 x.2.2.2.2]))) = _; rw [e]; rfl, hs, r64_of h1, r64_of h3, r64_of h4, r64_of h5⟩
  obtain ⟨pl, cl, evl, hrl⟩ := recs_open (F := LinkE m) (f := linkO) hl fun x hx => by
    obtain ⟨h1, h2, h3, h4, h5⟩ := hl.each x hx
    have q := wt_mem (s := 5) (E := opLink) hx
    have q2 : opLink.wt x = 1 + (1 + (1 + (1 + (opSl 4 opSrc).wt x.2.2.2.2))) := rfl
    obtain ⟨p, c, e, hs⟩ := src_open h5 (by omega)
    exact ⟨p, c, by show [Value.int .i64 x.1] ++ ([Value.int .i64 x.2.1] ++ ([Value.int .i64 x.2.2.1] ++ ([Value.int .i64 x.2.2.2.1] ++ [x.2.2.2.2.v]))) = _; rw [e]; rfl, hs, r64_of h1, r64_of h2, r64_of h3, r64_of h4⟩
  obtain ⟨pv, cv, evv, hrv⟩ := recs_open (F := VirtE m) (f := virtO) hv fun x hx => by
    obtain ⟨h1, h2⟩ := hv.each x hx
    have q := wt_mem (s := 2) (E := opVirt) hx
    have q2 : opVirt.wt x = 1 + (opSl 4 opSrc).wt x.2 := rfl
    obtain ⟨p, c, e, hs⟩ := src_open h2 (by omega)
    exact ⟨p, c, by show [Value.int .i64 x.1] ++ [x.2.v] = _; rw [e]; rfl, hs, r64_of h1⟩
  obtain ⟨pb, cb, evb, hsb⟩ := src_open hb (by omega)
  refine ⟨⟨pi, ci, po, co, pl, cl, pv, cv, pb, cb⟩, ?_, ?_⟩
  · obtain ⟨mg, n, ⟨g0, g1⟩, ⟨g2, g3⟩, ⟨g4, g5⟩, g6, g7⟩ := key
    show Value.agg #[.int .i64 mg, .int .i64 n, .int .i64 g0, .int .i64 g1, .int .i64 g2, .int .i64 g3, .int .i64 g4, .int .i64 g5, .int .i64 g6, .int .i64 g7, .int .i64 fn, .int .i64 pc, ins.v, ops.v, links.v, virts.v, back.v] = _
    rw [evi, evo, evl, evv, evb]; rfl
  · refine ⟨hci, ?_, hro, hrl, hrv, hsb, by show ins.xs.length ≤ _; omega, by show (ops.xs.map opO).length ≤ _; rw [List.length_map]; omega, by show (links.xs.map linkO).length ≤ _; rw [List.length_map]; omega, by show (virts.xs.map virtO).length ≤ _; rw [List.length_map]; omega, ?_, r64_of hfn, r64_of hpc⟩
    · show SlAt m [] (.slice pi ins.xs.length ci) ins.xs.length 1 (intsV ins.xs)
      have h2 := hi.at_
      rw [evi] at h2
      rw [ints_eq]; exact h2
    · intro n hn
      exact r64_of (hi.each n hn)
end Go.Tr
namespace Go.Proofs.Ythfbfigdgjhhaaa
open Go Go.Eng Go.Tr
theorem first_row (a : TrT) (W : World) (ok : opTr.ok (memOf W) a) (hw : opTr.wt a ≤ 1048576) : Ct Try.prog 5 [.agg (opTr.enc a).toArray] W (fun v w' => v = .bool true ∧ Ext W w') := by
  refine Cta.ctM ?_
  obtain ⟨z, e, ht⟩ := tr_open ok hw
  rw [e]
  exact first_law z _ _ ht
end Go.Proofs.Ythfbfigdgjhhaaa
