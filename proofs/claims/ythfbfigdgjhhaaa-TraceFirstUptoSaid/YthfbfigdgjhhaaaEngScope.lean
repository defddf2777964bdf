/- The engine over abstract states: scopes; functions that hold ranges over functions. -/
import Derived.Test.YthfbfigdgjhhaaaEngRow
import Derived.RangeFuncRecord
set_option linter.all false
namespace Go.Eng
open Go Go.RowKit
theorem callV_mono {P : Program} {f : Value} {args : List Value} {C C' : KX} {w : World} (hk : ∀ v w, C.k v w → C'.k v w) (hd : ∀ v w, C.kd v w → C'.kd v w) (hx : ∀ v w, C.x v w → C'.x v w) (h : @callV P f args C w) : @callV P f args C' w := by
  unfold callV at *
  exact upE_mono hk hd hx h
def mark (D : Nat) : Deferred := { target := .collected D, args := #[] }
def setE (e : En) (ps : List Tmp) (args : List Value) : En := (ps.zip args).foldl (fun e x => up e x.1 x.2) e
theorem setE_arr (n : Nat) : ∀ (l : List (Tmp × Value)) (e : En), l.foldl (fun tmps (x : Tmp × Value) => tmps.setIfInBounds x.1 x.2) (arr n e) = arr n (l.foldl (fun e x => up e x.1 x.2) e) := by
  intro l
  induction l with
  | nil => intro e; rfl
  | cons x l ih => intro e; simp only [List.foldl_cons]; rw [set_arr, ih]
theorem setE_nil {e : En} {l : List Value} : setE e [] l = e := Eq.trans rfl rfl
theorem setE_cons {e : En} {t : Tmp} {ps : List Tmp} {v : Value} {vs : List Value} : setE e (t :: ps) (v :: vs) = setE (up e t v) ps vs := Eq.trans rfl rfl
theorem Inv.putObj {m : Mem} {L : Lst} {b : Nat} {o o' : Obj} {w : World} (h : Inv m ((b, o) :: L) w) : Inv m ((b, o') :: L) (w.putObj b o') := by
  have hb := (h.own (b, o) (by simp)).1
  have hlt := (Array.getElem?_eq_some_iff.1 hb).1
  exact h.setObj (World.putObj_heap_same hlt) (fun c hc => World.putObj_heap_other hc) rfl rfl rfl
section
variable {P : Program} {n : Nat}
theorem wpIn_jump {x : Exit} {c : Code} {Q : Exit → Act → World → Prop} {a : Act} {w : World} {F : Fence} (hc : (x = .ret ∧ c = .ret) ∨ (∃ i, x = .exit i ∧ c = .exit i) ∨ (∃ i, x = .goto i ∧ c = .goto i)) (h : Q x a w) : c.wpIn F 0 P Q a w := by
  rcases hc with ⟨rfl, rfl⟩ | ⟨i, rfl, rfl⟩ | ⟨i, rfl, rfl⟩
  · exact wpIn_ret h
  · exact wpIn_exit h
  · exact wpIn_goto h
def isJump : Exit → Code → Prop := fun x c => (x = .ret ∧ c = .ret) ∨ (∃ i, x = .exit i ∧ c = .exit i) ∨ (∃ i, x = .goto i ∧ c = .goto i)
/-- How the assignment to the loop's variables is left. -/
def asgQ (K : En → Mem → Lst → Prop) : QA
  | .normal, e, ds, m, L => ds = [] ∧ K e m L
  | _, _, _, _, _ => False
theorem asgQ_normal {K : En → Mem → Lst → Prop} {e : En} {m : Mem} {L : Lst} : asgQ K .normal e [] m L = K e m L := by simp [asgQ]
theorem FW_wide (l : Nat) : Fence.wide.inRound l = FW (some l) := rfl
theorem FW_none : Fence.wide = FW none := rfl
/-! ### rounds, of frames of functions that there are -/
/-- How a round is left, panics and all. -/
def roundPostP (P : Program) (l : Nat) (R : Ending → World → Prop) : Exit → Act → World → Prop
  | .panic ch, a, w => a.defers = [] ∧ R (.panicked ch) w
  | x, a, w => roundPost P l R x a w
theorem roundIn_of_wg {l : Nat} {f : FuncId} {tmps : Array Value} {assign body : Code} {w : World} {R : Ending → World → Prop} (hf : (P.funcs[f]?).isSome = true)
    (h : WG P (some l) assign (Exit.then (fun a₁ w₁ => ∃ w₂, (Instr.beginRound l).run P w₁ = .ok () w₂ ∧ WG P (some l) body (roundPostP P l R) a₁ w₂) (fun _ _ _ => False)) { tmps := tmps, defers := [] } w) :
    RoundIn Fence.wide 0 P l f tmps assign body w R := by
  refine ⟨trivial, fun c cs hr => ?_⟩
  let b : Frame := { (default : Frame) with fn := f, kind := .normal, roundOf := some l }
  have hb0 : Frame.round l f tmps assign body .normal = b.atR { tmps := tmps, defers := [] } [.code assign, .beginRound, .code body] := by
    simp [Frame.round, Frame.atR, b]
  obtain ⟨e, a₁, w₁, hq, harr⟩ := h b [.beginRound, .code body] (c :: cs) rfl hf
  rw [← hb0] at harr
  cases e with
  | normal =>
    obtain ⟨w₂, hbr, hbody⟩ := hq
    have s1 : StepsIn (Machine.fenced P (FW (some l))) P (lone (b.atR a₁ [.beginRound, .code body]) (c :: cs) w₁) (lone (b.atR a₁ [.code body]) (c :: cs) w₂) :=
      .one (calm_FW (fr := b.atR a₁ [.beginRound, .code body]) rfl) (stepR_beginRound rfl hbr)
    obtain ⟨e₂, a₂, w₃, hq₂, harr₂⟩ := hbody b [] (c :: cs) rfl hf
    cases e₂ with
    | normal =>
      obtain ⟨v, w₄, hend, hR⟩ := hq₂
      exact ⟨.returned v, w₄, hR, (StepsIn.trans harr s1).trans (StepsIn.trans harr₂ (.one (calm_FW (fr := b.atR a₂ []) rfl) (stepR_round_end rfl rfl hend)))⟩
    | ret =>
      obtain ⟨v, w₄, hend, hR⟩ := hq₂
      obtain ⟨k₁, hs⟩ := harr₂.2 rfl
      exact ⟨.returned v, w₄, hR, (StepsIn.trans harr s1).trans (StepsIn.trans hs (.one (calm_FW (fr := b.atR a₂ (.code .ret :: k₁)) rfl) (stepR_round_ret rfl rfl hend)))⟩
    | exit id =>
      obtain ⟨v, w₄, hend, hR⟩ := hq₂
      obtain ⟨k₁, hk, hs⟩ := harr₂.2 rfl rfl
      exact ⟨.returned v, w₄, hR, (StepsIn.trans harr s1).trans (StepsIn.trans hs (.one (calm_FW (fr := b.atR a₂ (.code (.exit id) :: k₁)) rfl) (stepR_round_exit rfl rfl hk hend)))⟩
    | goto t =>
      obtain ⟨v, w₄, hend, hR⟩ := hq₂
      obtain ⟨k₁, hk, hs⟩ := harr₂.2 rfl rfl
      exact ⟨.returned v, w₄, hR, (StepsIn.trans harr s1).trans (StepsIn.trans hs (.one (calm_FW (fr := b.atR a₂ (.code (.goto t) :: k₁)) rfl) (stepR_round_goto rfl rfl hk hend)))⟩
    | panic ch =>
      obtain ⟨hd, hR⟩ := hq₂
      obtain ⟨todo, hs⟩ := harr₂
      obtain ⟨fn, hfn⟩ := Option.isSome_iff_exists.1 hf
      have hl : Frame.leaving P { b.atR a₂ todo with mode := .panicking ch } w₃ (.panicked ch) := ⟨rfl, hd, fn, hfn⟩
      exact ⟨.panicked ch, w₃, hR, (StepsIn.trans harr s1).trans (StepsIn.trans hs (.one (fenced_leaving (n := 0) trivial (room_FW _ _) hl) (step_leave_panicked hl)))⟩
    | outgrown => exact hq₂.elim
  | exit id => exact hq.elim
  | goto t => exact hq.elim
  | ret => exact hq.elim
  | panic chain => exact hq.elim
  | outgrown => exact hq.elim
/-- What is asked when the function that was ranged over has ended. -/
def rangePostG (P : Program) (l : Nat) (Q : Exit → Act → World → Prop) (a' : Act) : Ending → World → Prop
  | .returned _, w₃ => ∃ jump w₄, (Instr.endLoop l).run P w₃ = .ok jump w₄ ∧ (match jump with | none => Q .normal a' w₄ | some c => WG P none c Q a' w₄)
  | .panicked chain, w₃ => Q (.panic chain) a' w₃
  | .outgrown, _ => False
theorem wg_rangeFunc {g : Operand} {ps : Array Tmp} {assign body : Code} {Q : Exit → Act → World → Prop} {a : Act} {w : World}
    (h : ∀ fn, (P.funcs[fn]?).isSome = true → ∃ (l : Nat) (mark : List Deferred) (w₁ : World) (d : Deferred) (w₁' : World) (f : FuncId) (args : Array Value) (w₂ : World),
      (Instr.enterLoop fn a.tmps ps assign body none).run P w = .ok (l, mark) w₁ ∧ (resolve a.eval (rangeCall g l) 0).run P w₁ = .ok d w₁' ∧
      (invoke d.target d.args).run P w₁' = .ok (.enter f args) w₂ ∧ Calls P f args w₂ (rangePostG P l Q { a with defers := mark ++ a.defers })) :
    WG P none (.rangeFunc g ps assign body) Q a w := by
  intro b k cs hro hb
  obtain ⟨l, mark, w₁, d, w₁', f, args, w₂, he, hres, hinv, hcall⟩ := h b.fn hb
  rw [← hro] at he
  have h0 : (lone (b.atR a (.code (.rangeFunc g ps assign body) :: k)) cs w).fenced P (FW none) := fenced_lone (.inl trivial) (fun f' _ => trivial) (room_FW _ _)
  have henter := stepR_rangeFunc (P := P) (b := b) (a := a) (k := k) (cs := cs) (w := w) he hres hinv
  obtain ⟨e, w₃, fr, hR, hsteps, hfn, hleave⟩ := (calls_FW (n := 0) (ro := none) hcall).2 (b.atR { a with defers := mark ++ a.defers } (.inRangeFunc l :: k) :: cs) (room_FW _ _)
  cases e with
  | outgrown => exact hR.elim
  | returned v =>
    have hl : (lone fr (b.atR { a with defers := mark ++ a.defers } (.inRangeFunc l :: k) :: cs) w₃).fenced P (FW none) := fenced_leaving (n := 0) trivial (room_FW _ _) hleave
    obtain ⟨jump, w₄, hend, hj⟩ := hR
    have sback : StepsIn (Machine.fenced P (FW none)) P (lone (b.atR a (.code (.rangeFunc g ps assign body) :: k)) cs w) (lone (b.atR { a with defers := mark ++ a.defers } ((jump.map Item.code).toList ++ k)) cs w₄) := by
      refine .head h0 henter (StepsIn.trans hsteps (.head hl ?_ (.one (calm_FW (fr := b.atR { a with defers := mark ++ a.defers } (.endRangeFunc l :: k)) rfl) (stepR_endRangeFunc hend))))
      rw [← finish_atR_inRangeFunc l v]; exact step_leave_returned hleave
    cases jump with
    | none => exact ⟨.normal, _, w₄, hj, sback⟩
    | some c =>
      obtain ⟨e', a'', w₅, hq, harr⟩ := hj b k cs hro hb
      exact ⟨e', a'', w₅, hq, .of_steps sback harr⟩
  | panicked chain =>
    have hl : (lone fr (b.atR { a with defers := mark ++ a.defers } (.inRangeFunc l :: k) :: cs) w₃).fenced P (FW none) := fenced_leaving (n := 0) trivial (room_FW _ _) hleave
    refine ⟨.panic chain, _, w₃, hR, .inRangeFunc l :: k, .head h0 henter (StepsIn.trans hsteps (.one hl ?_))⟩
    rw [← Frame.raise_atR]; exact step_leave_panicked hleave
/-- A call, out of its body's walk, marks and all. -/
theorem calls_of_wgM {f : FuncId} {fn : Func} {c : Code} {args : Array Value} {w : World} {R : Ending → World → Prop} (hf : P.funcs[f]? = some fn) (hb : fn.body = some c)
    (h : WG P none c (bodyPostM (FW none) 0 P fn R) { tmps := args ++ Array.replicate (fn.ntmps - args.size) undef, defers := [] } w) : Calls P f args w R := by
  refine (callsIn_wide (n := 0)).1 (show CallsIn (FW none) 0 P f args w R from ⟨trivial, fun cs hr => ?_⟩)
  let b : Frame := { (default : Frame) with fn := f, kind := .normal, roundOf := none }
  have henter : Frame.enter P f args .normal = b.atR { tmps := args ++ Array.replicate (fn.ntmps - args.size) undef, defers := [] } [.code c] := by
    simp [Frame.enter, Frame.atR, hf, hb, b]
  obtain ⟨e, a', w', hq, harr⟩ := h b [] cs rfl (by simp [b, hf])
  rw [← henter] at harr
  have hF : (FW none).fn f := trivial
  cases e with
  | normal =>
    obtain ⟨e', w'', fr', hR, hs, hfn, hl⟩ := leaves_stepsInM a'.defers .returning w' { b.atR a' [] with mode := .returning } cs rfl rfl rfl hf rfl hF hr hq
    exact ⟨e', w'', fr', hR, ComesIn.of_steps (StepsIn.trans harr (.one (calm_FW (fr := b.atR a' []) rfl) (stepR_end rfl))) hs, hfn, hl⟩
  | ret =>
    obtain ⟨todo, hs₀⟩ := harr.1 rfl
    obtain ⟨e', w'', fr', hR, hs, hfn, hl⟩ := leaves_stepsInM a'.defers .returning w' { b.atR a' todo with mode := .returning } cs rfl rfl rfl hf rfl hF hr hq
    exact ⟨e', w'', fr', hR, ComesIn.of_steps hs₀ hs, hfn, hl⟩
  | panic chain =>
    obtain ⟨todo, hs₀⟩ := harr
    obtain ⟨e', w'', fr', hR, hs, hfn, hl⟩ := leaves_stepsInM a'.defers (.panicking chain) w' { b.atR a' todo with mode := .panicking chain } cs rfl rfl rfl hf rfl hF hr hq
    exact ⟨e', w'', fr', hR, ComesIn.of_steps hs₀ hs, hfn, hl⟩
  | exit id => exact hq.elim
  | goto l => exact hq.elim
  | outgrown => exact ⟨.outgrown, w', b, hq, harr.resolve_left (by simp [b]), rfl, trivial⟩
/-! ### scopes and labels (no jump to a label) -/
section steps
variable {b : Frame} {a : Act} {k : List Item} {cs : List Frame} {w : World}
theorem stepR_scope {c : Code} : step P (lone (b.atR a (.code (.scope c) :: k)) cs w) = .next (lone (b.atR a (.code c :: .inScope c :: k)) cs w) :=
  step_lone_go (by simp [stepG, stepG.exec, Frame.atR])
theorem stepR_inScope {c : Code} : step P (lone (b.atR a (.inScope c :: k)) cs w) = .next (lone (b.atR a k) cs w) :=
  step_lone_go (by simp [stepG, stepG.exec, Frame.atR])
end steps
def noGotoQ (Q : Exit → Act → World → Prop) : Exit → Act → World → Prop
  | .goto _, _, _ => False
  | x, a, w => Q x a w
theorem wg_scope {ro : Option Nat} {Q : Exit → Act → World → Prop} {a : Act} {w : World} {c : Code} (h : WG P ro c (noGotoQ Q) a w) : WG P ro (.scope c) Q a w := by
  intro b k cs hro hb
  have h0 : (lone (b.atR a (.code (.scope c) :: k)) cs w).fenced P (FW ro) := calm_FW rfl
  obtain ⟨e, a₁, w₁, hq, harr⟩ := h b (.inScope c :: k) cs hro hb
  cases e with
  | normal => exact ⟨.normal, a₁, w₁, hq, .head h0 stepR_scope (StepsIn.trans harr (.one (calm_FW rfl) stepR_inScope))⟩
  | exit id =>
    have hx : exitTo id (.inScope c :: k) = exitTo id k := by simp [exitTo]
    exact ⟨.exit id, a₁, w₁, hq, fun k' hk => .head h0 stepR_scope (harr.1 k' (by rw [hx]; exact hk)),
      fun hr' hk => let ⟨k₁, h1, h2⟩ := harr.2 hr' (by rw [hx]; exact hk); ⟨k₁, h1, .head h0 stepR_scope h2⟩⟩
  | goto l => exact hq.elim
  | ret => exact ⟨_, a₁, w₁, hq, .of_steps (.one h0 stepR_scope) harr⟩
  | panic ch => exact ⟨_, a₁, w₁, hq, .of_steps (.one h0 stepR_scope) harr⟩
  | outgrown => exact ⟨_, a₁, w₁, hq, .of_steps (.one h0 stepR_scope) harr⟩
def scopeA (Q : QA) : QA
  | .goto _, _, _, _, _ => False
  | x, e, ds, m, L => Q x e ds m L
section
variable {Q : QA} {e : En} {ds : DS} {m : Mem} {L : Lst}
theorem scopeA_normal : scopeA Q .normal e ds m L = Q .normal e ds m L := Eq.trans rfl rfl
theorem scopeA_exit {i : Nat} : scopeA Q (.exit i) e ds m L = Q (.exit i) e ds m L := Eq.trans rfl rfl
theorem scopeA_ret : scopeA Q .ret e ds m L = Q .ret e ds m L := Eq.trans rfl rfl
theorem scopeA_panic {ch : List PanicEntry} : scopeA Q (.panic ch) e ds m L = Q (.panic ch) e ds m L := Eq.trans rfl rfl
theorem scope_of {ro : Option Nat} {c : Code} (hc : cfit n c = true) (h : T P ro n c (scopeA Q) e ds m L) : @rawCA ⟨P, ro, n, .scope c, Q⟩ e ds m L := by
  intro L0 w hI
  show WG P ro (.scope c) (lift n (conc L0 Q)) (mkAct n e ds) w
  refine wg_scope (wg_mono (S_sound c hc _ _ _ _ (T_sound c h hI)) ?_)
  rintro x a w' ⟨e', ds', rfl, m', L', h1, h2⟩
  cases x <;> first | exact h2.elim | exact ⟨e', ds', rfl, m', L', h1, h2⟩
theorem label_of {ro : Option Nat} {l : Nat} (h : Q .normal e ds m L) : @rawCA ⟨P, ro, n, .label l, Q⟩ e ds m L := by
  intro L0 w hI
  show WG P ro (.label l) (lift n (conc L0 Q)) (mkAct n e ds) w
  exact wg_of (wpIn_label ⟨e, ds, rfl, m, L, hI, h⟩)
end
/-! ### functions that hold a range over a function -/
def leaveM (P : Program) (rs : List ResultVar) (R : Value → Mem → Lst → Prop) : DS → En → Mem → Lst → Prop
  | [], e, m, L => resA P e m L R rs []
  | d :: ds, e, m, L => ∃ D L', d = mark D ∧ Take L D (.deferred (some [])) L' ∧ leaveM P rs R ds e m L'
/-- How a panic leaves. -/
def leaveX (X : Mem → Lst → Prop) : DS → Mem → Lst → Prop
  | [], m, L => endA X m L
  | d :: ds, m, L => ∃ D L', d = mark D ∧ Take L D (.deferred (some [])) L' ∧ leaveX X ds m L'
def bodyM (P : Program) (rs : List ResultVar) (R : Value → Mem → Lst → Prop) (X : List PanicEntry → Mem → Lst → Prop) : QA
  | .normal, e, ds, m, L => leaveM P rs R ds e m L
  | .ret, e, ds, m, L => leaveM P rs R ds e m L
  | .panic ch, _, ds, m, L => leaveX (X ch) ds m L
  | _, _, _, _, _ => False
section
variable {rs : List ResultVar} {R : Value → Mem → Lst → Prop} {X : List PanicEntry → Mem → Lst → Prop} {e : En} {ds : DS} {m : Mem} {L L' : Lst}
theorem bodyM_ret : bodyM P rs R X .ret e [] m L = resA P e m L R rs [] := Eq.trans rfl rfl
theorem bodyM_normal : bodyM P rs R X .normal e [] m L = resA P e m L R rs [] := Eq.trans rfl rfl
theorem bodyM_panic {ch : List PanicEntry} : bodyM P rs R X (.panic ch) e [] m L = endA (X ch) m L := Eq.trans rfl rfl
theorem bodyM_mark_p {D : Nat} {ch : List PanicEntry} (t : Take L D (.deferred (some [])) L') (h : bodyM P rs R X (.panic ch) e ds m L') : bodyM P rs R X (.panic ch) e (mark D :: ds) m L := ⟨D, L', rfl, t, h⟩
theorem bodyM_mark {D : Nat} (t : Take L D (.deferred (some [])) L') (h : bodyM P rs R X .ret e ds m L') : bodyM P rs R X .ret e (mark D :: ds) m L := ⟨D, L', rfl, t, h⟩
theorem bodyM_mark_n {D : Nat} (t : Take L D (.deferred (some [])) L') (h : bodyM P rs R X .normal e ds m L') : bodyM P rs R X .normal e (mark D :: ds) m L := ⟨D, L', rfl, t, h⟩
end
theorem leave_sound {fn : Func} {R : Value → Mem → Lst → Prop} {RE : Ending → World → Prop} {L0 : Lst} (hfit : resFit fn.ntmps fn.results = true) (hRE : ∀ v w', (∃ m' L', Inv m' (L' ++ L0) w' ∧ R v m' L') → RE (.returned v) w') : ∀ (ds : DS) {e : En} {m : Mem} {L : Lst} {w : World}, leaveM P fn.results.toList R ds e m L → Inv m (L ++ L0) w →
    LeavesInM (FW none) 0 P fn (arr fn.ntmps e) RE ds .returning w := by
  intro ds
  induction ds with
  | nil =>
    intro e m L w h hI
    obtain ⟨v, h1, h2⟩ := results_run hfit (resA_sound hI fn.results.toList [] h)
    exact ⟨v, h1, hRE _ _ h2⟩
  | cons d ds ih =>
    rintro e m L w ⟨D, L', rfl, ht, h⟩ hI
    have hp : Inv m ((D, .deferred (some [])) :: (L' ++ L0)) w := hI.perm (ht.perm.append_right L0)
    refine ⟨by simp, .inl ⟨D, _, rfl, run_takeDeferred (hp.own (D, .deferred (some [])) (by simp)).1, ih h ?_⟩⟩
    exact (Inv.putObj (o' := .deferred none) hp).drop
theorem leaveX_sound {fn : Func} {tmps : Array Value} {X : Mem → Lst → Prop} {RE : Ending → World → Prop} {L0 : Lst} {ch : List PanicEntry} (hRE : ∀ w', (∃ m' L', Inv m' (L' ++ L0) w' ∧ X m' L') → RE (.panicked ch) w') : ∀ (ds : DS) {m : Mem} {L : Lst} {w : World}, leaveX X ds m L → Inv m (L ++ L0) w →
    LeavesInM (FW none) 0 P fn tmps RE ds (.panicking ch) w := by
  intro ds
  induction ds with
  | nil => intro m L w h hI; exact hRE _ (h L0 w hI)
  | cons d ds ih =>
    rintro m L w ⟨D, L', rfl, ht, h⟩ hI
    have hp : Inv m ((D, .deferred (some [])) :: (L' ++ L0)) w := hI.perm (ht.perm.append_right L0)
    refine ⟨by simp, .inl ⟨D, _, rfl, run_takeDeferred (hp.own (D, .deferred (some [])) (by simp)).1, ih h ?_⟩⟩
    exact (Inv.putObj (o' := .deferred none) hp).drop
theorem ctap_of_TM {f : FuncId} {fn : Func} {c : Code} {rs : List ResultVar} {args : List Value} {m : Mem} {L : Lst} {R : Value → Mem → Lst → Prop} {X : List PanicEntry → Mem → Lst → Prop}
    (hf : P.funcs[f]? = some fn) (hb : fn.body = some c) (hrs : fn.results = rs.toArray) (hfit : entryFit fn c args.length = true) (hn : (fn.name == "runtime.NumGoroutine") = false)
    (h : T P none fn.ntmps c (bodyM P rs R X) (argE args) [] m L) : CtaP P f args m L R X := by
  obtain rfl : fn.results.toList = rs := by rw [hrs]
  refine ⟨fun L0 w hI => ⟨by simp [isGo, hf, hb, hn], ?_⟩⟩
  simp only [entryFit, Bool.and_eq_true, decide_eq_true_eq] at hfit
  refine calls_of_wgM hf hb ?_
  have hs := S_sound c hfit.1.1 _ _ _ _ (T_sound c h hI)
  rw [start_arr _ _ (by simpa using hfit.2)]
  refine wg_mono hs ?_
  rintro x a' w' ⟨e, ds, rfl, m', L', hI', hq⟩
  cases x with
  | normal => exact leave_sound (RE := _) hfit.1.2 (fun _ _ h => h) ds hq hI'
  | ret => exact leave_sound (RE := _) hfit.1.2 (fun _ _ h => h) ds hq hI'
  | panic ch => exact leaveX_sound (RE := _) (fun _ h => h) ds hq hI'
  | exit i => exact hq.elim
  | goto l => exact hq.elim
  | outgrown => exact hq.elim
theorem cta_of_TM {f : FuncId} {fn : Func} {c : Code} {rs : List ResultVar} {args : List Value} {m : Mem} {L : Lst} {R : Value → Mem → Lst → Prop}
    (hf : P.funcs[f]? = some fn) (hb : fn.body = some c) (hrs : fn.results = rs.toArray) (hfit : entryFit fn c args.length = true) (hn : (fn.name == "runtime.NumGoroutine") = false)
    (h : T P none fn.ntmps c (bodyM P rs R (fun _ _ _ => False)) (argE args) [] m L) : Cta P f args m L R := by
  refine ⟨fun L0 w hI => ?_⟩
  have := (ctap_of_TM (X := fun _ _ _ => False) hf hb hrs hfit hn h).run L0 w hI
  exact ⟨this.1, this.2.mono fun en w' q => by
    cases en with
    | returned v => exact q
    | panicked c => obtain ⟨_, _, _, q⟩ := q; exact q.elim
    | outgrown => exact q⟩
end
end Go.Eng
