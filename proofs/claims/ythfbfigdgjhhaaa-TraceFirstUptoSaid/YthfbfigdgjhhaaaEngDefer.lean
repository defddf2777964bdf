/- The engine over abstract states: a deferred call that may recover. -/
import Derived.Test.YthfbfigdgjhhaaaEngCode
import Derived.RecoverIn
set_option linter.all false
namespace Go.Eng
open Go Go.RowKit
/-- A deferred call: the mode below it before, and after. -/
structure CtD (P : Program) (f : FuncId) (args : List Value) (u : FrameMode) (m : Mem) (L : Lst) (R : FrameMode → Mem → Lst → Prop) : Prop where
  go : isGo P f = true
  run : ∀ L0 w, Inv m (L ++ L0) w → CallsDIn (FW none) 0 P f args.toArray u w (fun e u' w' => (∃ v, e = .returned v) ∧ ∃ m' L', Inv m' (L' ++ L0) w' ∧ R u' m' L')
/-- What recover hands over, and the mode that it leaves. -/
def recV : FrameMode → Value
  | .panicking ({ v, recovered := false, goexit := false } :: _) => v
  | _ => .nilIface
def recU : FrameMode → FrameMode
  | .panicking ({ v, recovered := false, goexit := false } :: older) => .panicking ({ v, recovered := true } :: older)
  | u => u
theorem recoverD_mode (c₀ : Frame) (cs : List Frame) (u : FrameMode) (h : c₀.mode = u) : (recoverD (c₀ :: cs) = none ∧ recV u = .nilIface ∧ recU u = u) ∨ recoverD (c₀ :: cs) = some (recV u, { c₀ with mode := recU u } :: cs) := by
  subst h
  simp only [recoverD]
  split
  · rename_i v older h; right; rw [h]; rfl
  · rename_i h
    refine .inl ⟨rfl, ?_, ?_⟩
    · unfold recV; split
      · rename_i v older h'; exact (h _ _ h').elim
      · rfl
    · unfold recU; split
      · rename_i v older h'; exact (h _ _ h').elim
      · rfl
section
variable {P : Program}
/-- How the rest of a deferred call's body is left. -/
def restD (rs : List ResultVar) (R : Mem → Lst → Prop) : QA
  | .normal, _, ds, m, L => ds = [] ∧ rs = [] ∧ endA R m L
  | .ret, _, ds, m, L => ds = [] ∧ rs = [] ∧ endA R m L
  | _, _, _, _, _ => False
theorem restD_normal {R : Mem → Lst → Prop} {e : En} {m : Mem} {L : Lst} : restD [] R .normal e [] m L = endA R m L := by simp [restD]
theorem restD_ret {R : Mem → Lst → Prop} {e : En} {m : Mem} {L : Lst} : restD [] R .ret e [] m L = endA R m L := by simp [restD]
theorem ctd_of {f : FuncId} {fn : Func} {c2 : Code} {id d1 d2 : Nat} {ty ty2 : TypeId} {ps ps2 : String} {af af2 : Array Edge} {args : List Value} {u : FrameMode} {m : Mem} {L : Lst} {R : FrameMode → Mem → Lst → Prop}
    (hf : P.funcs[f]? = some fn) (hb : fn.body = some (.seq (.region id #[⟨some d1, .call ⟨.builtin .recover, #[], #[]⟩, ty, ps, af, none⟩, ⟨some d2, .assign (.tmp d1), ty2, ps2, af2, none⟩] false) c2)) (hrs : fn.results = #[])
    (hfit : (cfit fn.ntmps c2 && decide (d1 < fn.ntmps) && decide (args.length ≤ fn.ntmps)) = true) (hn : (fn.name == "runtime.NumGoroutine") = false)
    (h : T P none fn.ntmps c2 (restD [] (R (recU u))) (up (up (argE args) d1 (recV u)) d2 (recV u)) [] m L) : CtD P f args u m L R := by
  simp only [Bool.and_eq_true, decide_eq_true_eq] at hfit
  refine ⟨by simp [isGo, hf, hb, hn], fun L0 w hI => ⟨trivial, fun c₀ cs hu hroom => ?_⟩⟩
  let b : Frame := { (default : Frame) with fn := f, kind := .deferred, roundOf := none }
  let ops : Array Oper := #[⟨some d1, .call ⟨.builtin .recover, #[], #[]⟩, ty, ps, af, none⟩, ⟨some d2, .assign (.tmp d1), ty2, ps2, af2, none⟩]
  have henter : Frame.enter P f args.toArray .deferred = b.atR (mkAct fn.ntmps (argE args) []) [.code (.seq (.region id ops false) c2)] := by
    have := start_arr args.toArray fn.ntmps (by simpa using hfit.2)
    simp [Frame.enter, Frame.atR, hf, hb, b, ops, mkAct]
    simpa using this
  rw [henter]
  obtain ⟨e1, he1⟩ : ∃ e1, e1 = up (up (argE args) d1 (recV u)) d2 (recV u) := ⟨_, rfl⟩
  rw [← he1] at h
  have hcs : ∀ (c : Frame), c.mode = u → ({ c with mode := u } : Frame) = c := by intro c hc; subst hc; rfl
  have hops : wpOpsSIn (FW none) 0 P ops (fun x a' cs' w' => x = .normal ∧ a' = mkAct fn.ntmps e1 [] ∧ cs' = { c₀ with mode := recU u } :: cs ∧ w' = w) [0, 1] (mkAct fn.ntmps (argE args) []) (c₀ :: cs) w := by
    have hw1 : ∀ a : Act, Region.wanted (⟨some d1, .call ⟨.builtin .recover, #[], #[]⟩, ty, ps, af, none⟩ : Oper) (yielded ops a.tmps) = true := fun a => rfl
    have hw2 : ∀ a : Act, Region.wanted (⟨some d2, .assign (.tmp d1), ty2, ps2, af2, none⟩ : Oper) (yielded ops a.tmps) = true := fun a => rfl
    have hx : ∀ ev : Operand → Value, (execOp ev (⟨some d1, .call ⟨.builtin .recover, #[], #[]⟩, ty, ps, af, none⟩ : Oper)).run P w = .ok .recover w := by
      intro ev
      simp [execOp, resolve, invoke, builtin]
    have hx2 : ∀ e : En, (execOp (mkAct fn.ntmps e []).eval (⟨some d2, .assign (.tmp d1), ty2, ps2, af2, none⟩ : Oper)).run P w = .ok (.value (e d1)) w := by
      intro e
      have := eval_mk (n := fn.ntmps) (e := e) (ds := []) (x := .tmp d1) (by simpa [Opfit] using hfit.1.2)
      simp [execOp, this, ev]
    have h0 : ops[0]? = some ⟨some d1, .call ⟨.builtin .recover, #[], #[]⟩, ty, ps, af, none⟩ := rfl
    have h1 : ops[1]? = some ⟨some d2, .assign (.tmp d1), ty2, ps2, af2, none⟩ := rfl
    have hlast : ∀ (c₁ : Frame) (e : En), c₁ = { c₀ with mode := recU u } → e d1 = recV u → updo e (some d2) (recV u) = e1 → wpOpsSIn (FW none) 0 P ops (fun x a' cs' w' => x = .normal ∧ a' = mkAct fn.ntmps e1 [] ∧ cs' = { c₀ with mode := recU u } :: cs ∧ w' = w) [1] (mkAct fn.ntmps e []) (c₁ :: cs) w := by
      rintro c₁ e rfl h2 h3
      unfold wpOpsSIn
      simp only [h1, hw2, if_true, hx2, put_mk]
      refine ⟨fun f _ => trivial, ?_⟩
      unfold wpOpsSIn
      rw [h2, h3]
      exact ⟨rfl, rfl, rfl, rfl⟩
    unfold wpOpsSIn
    simp only [h0, hw1, if_true, hx]
    refine ⟨fun f _ => trivial, ?_⟩
    have hfin := hlast { c₀ with mode := recU u } (updo (argE args) (some d1) (recV u)) rfl (by simp [updo, up]) (by rw [he1]; rfl)
    rcases recoverD_mode c₀ cs u hu with ⟨hr, hv, hu'⟩ | hr
    · rw [hr]
      dsimp only
      rw [put_mk]
      rw [hv, hu', hcs c₀ hu] at hfin
      rw [hu', hcs c₀ hu]
      exact hfin
    · rw [hr]
      dsimp only
      rw [put_mk]
      exact hfin
  obtain ⟨x, a1, cs1, w1, hl, ⟨rfl, rfl, rfl, rfl⟩, harr⟩ := wp_opsSIn [0, 1] _ _ _ hops b [.code c2] rfl rfl trivial (room_FW _ _)
  have hs := S_sound c2 hfit.1.1 _ _ _ _ (T_sound (L0 := L0) c2 h hI)
  obtain ⟨x, a2, w2, ⟨e2, ds2, rfl, m2, L2, hI2, hq⟩, harr2⟩ := hs b [] ({ c₀ with mode := recU u } :: cs) rfl (by simp [b, hf])
  have s0 : StepsIn (Machine.fenced P (FW none)) P (lone (b.atR (mkAct fn.ntmps (argE args) []) [.code (.seq (.region id ops false) c2)]) (c₀ :: cs) w1) (lone (b.atR (mkAct fn.ntmps e1 []) [.code c2]) ({ c₀ with mode := recU u } :: cs) w1) :=
    .head (calm_FW rfl) stepR_seq (.head (calm_FW rfl) stepR_region harr)
  have hres : ∀ e, (results fn (arr fn.ntmps e)).run P w2 = .ok (.tuple #[]) w2 := by
    intro e; unfold results; rw [hrs]; simp
  cases x with
  | normal =>
    obtain ⟨rfl, _, hq⟩ := hq
    obtain ⟨m3, L3, hI3, hR⟩ := hq L0 w2 hI2
    exact ⟨.returned (.tuple #[]), recU u, w2, _, ⟨⟨_, rfl⟩, m3, L3, hI3, hR⟩, s0.trans (StepsIn.trans harr2 (.one (calm_FW (fr := b.atR (mkAct fn.ntmps e2 []) []) rfl) (stepR_end rfl))), rfl, rfl, rfl, rfl, fn, hf, hres e2⟩
  | ret =>
    obtain ⟨rfl, _, hq⟩ := hq
    obtain ⟨m3, L3, hI3, hR⟩ := hq L0 w2 hI2
    obtain ⟨todo, hst⟩ := harr2.1 rfl
    exact ⟨.returned (.tuple #[]), recU u, w2, _, ⟨⟨_, rfl⟩, m3, L3, hI3, hR⟩, s0.trans hst, rfl, rfl, rfl, rfl, fn, hf, hres e2⟩
  | panic ch => exact hq.elim
  | exit i => exact hq.elim
  | goto i => exact hq.elim
  | outgrown => exact hq.elim
def defA (v : Value) [C : KA] (m : Mem) (L : Lst) : Prop := match v with
  | .func fn first cap => C.kd { target := .fn fn cap, args := first } m L
  | _ => False
theorem defA_func {C : KA} {fn : Fn} {first cap : Array Value} {m : Mem} {L : Lst} : defA (.func fn first cap) m L = C.kd { target := .fn fn cap, args := first } m L := Eq.trans rfl rfl
theorem p_defer {d : Option Nat} {x : Operand} {ty : TypeId} {ps : String} {af : Array Edge} {g : Option (Nat × Bool)} {e : En} {C : KA} {m : Mem} {L : Lst} (h : defA (ev e x) m L) : topC P none ⟨d, .defer ⟨.value x, #[], #[]⟩, ty, ps, af, g⟩ e m L := by
  show ∀ L0 w, Inv m (L ++ L0) w → @sopC P none _ e (ck C L0) w
  intro L0 w hI
  unfold defA at h
  split at h
  · rename_i fn first cap hv
    show sop P none _ e _ _ _ w
    unfold sop
    rw [Oper.semAt_none]
    simp only [execOp, resolve, hv, Deferred.ofValue, List.map_toArray, List.map_nil, Array.append_empty, Sem.run_bind, Sem.run_pure, Result.andThen, Array.map_empty]
    exact ⟨m, L, hI, h⟩
  · exact h.elim
/-! ### functions with one deferred call -/
def leaveD (P : Program) (rs : List ResultVar) (R : Value → Mem → Lst → Prop) (u : FrameMode) : DS → En → Mem → Lst → Prop
  | [d], e, m, L => ∃ g cap, d = { target := .fn (.func g) cap.toArray, args := #[] } ∧ CtD P g cap u m L (fun u' m' L' => settle u' = .returning ∧ resA P e m' L' R rs [])
  | _, _, _, _ => False
def bodyD (P : Program) (rs : List ResultVar) (R : Value → Mem → Lst → Prop) : QA
  | .normal, e, ds, m, L => leaveD P rs R .returning ds e m L
  | .ret, e, ds, m, L => leaveD P rs R .returning ds e m L
  | .panic ch, e, ds, m, L => leaveD P rs R (.panicking ch) ds e m L
  | _, _, _, _, _ => False
theorem leaveD_sound {fn : Func} {R : Value → Mem → Lst → Prop} {RE : Ending → World → Prop} {L0 : Lst} {u : FrameMode} (hu : u ≠ .run) (hfit : resFit fn.ntmps fn.results = true) (hRE : ∀ v w', (∃ m' L', Inv m' (L' ++ L0) w' ∧ R v m' L') → RE (.returned v) w') {ds : DS} {e : En} {m : Mem} {L : Lst} {w : World}
    (h : leaveD P fn.results.toList R u ds e m L) (hI : Inv m (L ++ L0) w) : LeavesInM (FW none) 0 P fn (arr fn.ntmps e) RE ds u w := by
  rcases ds with _ | ⟨d, _ | ⟨d2, ds⟩⟩
  · exact h.elim
  · obtain ⟨g, cap, rfl, h⟩ := h
    refine ⟨hu, .inr ⟨fun h => by simp [FW] at h, _, _, g, cap.toArray, rfl, ?_, fun _ _ => trivial, (h.run L0 w hI).mono ?_⟩⟩
    · have h1 := callFunc_go (P := P) (args := cap.toArray) (w := w) h.go
      show Sem.run P (callFunc g (#[] ++ cap.toArray)) w = _
      rw [Array.empty_append]; exact h1
    · rintro en u' w' ⟨⟨v, rfl⟩, m', L', hI', hs, hr⟩
      show LeavesInM (FW none) 0 P fn (arr fn.ntmps e) RE [] (settle u') w'
      rw [hs]
      obtain ⟨v, h1, h2⟩ := results_run hfit (resA_sound hI' fn.results.toList [] hr)
      exact ⟨v, h1, hRE _ _ h2⟩
  · exact h.elim
theorem cta_of_TD {f : FuncId} {fn : Func} {c : Code} {rs : List ResultVar} {args : List Value} {m : Mem} {L : Lst} {R : Value → Mem → Lst → Prop}
    (hf : P.funcs[f]? = some fn) (hb : fn.body = some c) (hrs : fn.results = rs.toArray) (hfit : entryFit fn c args.length = true) (hn : (fn.name == "runtime.NumGoroutine") = false)
    (h : T P none fn.ntmps c (bodyD P rs R) (argE args) [] m L) : Cta P f args m L R := by
  obtain rfl : fn.results.toList = rs := by rw [hrs]
  refine ⟨fun L0 w hI => ⟨by simp [isGo, hf, hb, hn], ?_⟩⟩
  simp only [entryFit, Bool.and_eq_true, decide_eq_true_eq] at hfit
  refine calls_of_wgM hf hb ?_
  have hs := S_sound c hfit.1.1 _ _ _ _ (T_sound c h hI)
  rw [start_arr _ _ (by simpa using hfit.2)]
  refine wg_mono hs ?_
  rintro x a' w' ⟨e, ds, rfl, m', L', hI', hq⟩
  cases x with
  | normal => exact leaveD_sound (RE := _) (by simp) hfit.1.2 (fun _ _ h => h) hq hI'
  | ret => exact leaveD_sound (RE := _) (by simp) hfit.1.2 (fun _ _ h => h) hq hI'
  | panic ch => exact leaveD_sound (RE := _) (by simp) hfit.1.2 (fun _ _ h => h) hq hI'
  | exit i => exact hq.elim
  | goto l => exact hq.elim
  | outgrown => exact hq.elim
end
end Go.Eng
