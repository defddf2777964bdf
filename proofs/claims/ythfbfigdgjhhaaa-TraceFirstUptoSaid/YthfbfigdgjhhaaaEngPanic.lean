/- The engine over abstract states: ranges over functions, with panics in the rounds. -/
import Derived.Test.YthfbfigdgjhhaaaEngScope
set_option linter.all false
namespace Go.Eng
open Go Go.RowKit
/-- A call of yield, for a loop's record l; the round may panic. -/
structure YAP (P : Program) (l : Nat) (args : List Value) (m : Mem) (L : Lst) (R : Value → Mem → Lst → Prop) (X : List PanicEntry → Mem → Lst → Prop) : Prop where
  run : ∀ L0 w, Inv m (L ++ L0) w → @callV P (.func (.yield l) #[] #[]) args ⟨fun v w' => ∃ m' L', Inv m' (L' ++ L0) w' ∧ R v m' L', fun _ _ => False, fun ch w' => ∃ m' L', Inv m' (L' ++ L0) w' ∧ X ch m' L'⟩ w
theorem yap_of {P : Program} {l : Nat} {args : List Value} {m : Mem} {L Lp Lf : Lst} {R : Value → Mem → Lst → Prop} {X : List PanicEntry → Mem → Lst → Prop} {C : KA} (h : YAP P l args m Lp R X) (hp : Takes L Lp Lf) (hk : ∀ v m' L', R v m' L' → C.k v m' (L' ++ Lf)) (hx : ∀ ch m' L', X ch m' L' → C.x ch m' (L' ++ Lf)) :
    callA P (.func (.yield l) #[] #[]) args m L := by
  intro L0 w hI
  have hI2 : Inv m (Lp ++ (Lf ++ L0)) w := by rw [← List.append_assoc]; exact hI.perm (hp.perm.append_right L0)
  refine callV_mono ?_ (fun _ _ h => False.elim h) ?_ (h.run (Lf ++ L0) w hI2)
  · rintro v w' ⟨m', L', h1, h2⟩
    exact ⟨m', L' ++ Lf, by rw [List.append_assoc]; exact h1, hk v m' L' h2⟩
  · rintro v w' ⟨m', L', h1, h2⟩
    exact ⟨m', L' ++ Lf, by rw [List.append_assoc]; exact h1, hx v m' L' h2⟩
/-- A call of a closure that may panic. -/
theorem ccap_of {P : Program} {C : KA} {m : Mem} {L : Lst} {f : FuncId} {args cap : List Value} {Lp Lf : Lst} {R : Value → Mem → Lst → Prop} {X : List PanicEntry → Mem → Lst → Prop} (h : CtaP P f (args ++ cap) m Lp R X) (hp : Takes L Lp Lf) (hk : ∀ v m' L', R v m' L' → C.k v m' (L' ++ Lf))
    (hx : ∀ c m' L', X c m' L' → C.x c m' (L' ++ Lf)) : callA P (.func (.func f) #[] cap.toArray) args m L :=
  cap_of (first := []) hp (by simpa using h) hk hx
def panA (v : Value) [C : KA] (m : Mem) (L : Lst) : Prop := match v with
  | .iface t x => C.x [{ v := .iface t x, recovered := false }] m L
  | _ => False
theorem panA_iface {C : KA} {t : TypeId} {x : Value} {m : Mem} {L : Lst} : panA (.iface t x) m L = C.x [{ v := .iface t x, recovered := false }] m L := Eq.trans rfl rfl
theorem p_panic {P : Program} {ro : Option Nat} {d : Option Nat} {x : Operand} {ty : TypeId} {ps : String} {af : Array Edge} {e : En} {C : KA} {m : Mem} {L : Lst} (h : panA (ev e x) m L) : topC P ro ⟨d, .panic x, ty, ps, af, none⟩ e m L := by
  show ∀ w, @sopC P ro _ e (pk C m L w) w
  intro w
  unfold panA at h
  split at h
  · rename_i t v hv
    rw [sop_exec (by intro c; simp)]
    simp only [execOp]
    rw [hv]
    have : (Instr.panic (.iface t v)).run P w = .halt (.panic (.iface t v)) w := by simp [Instr.panic, goPanic]
    simp only [Sem.run_bind, this, Result.andThen]
    exact ⟨rfl, h⟩
  · exact h.elim
/-- How a round is left. -/
def rndP (m0 : Mem) (I : Nat → Mem → Lst → Prop) (Ix : Exit → Mem → Lst → Prop) (Ip : List PanicEntry → Mem → Lst → Prop) (k : Nat) : QA
  | .normal, _, ds, m, L => ds = [] ∧ endA (fun m' L' => m0.Le m' ∧ I (k + 1) m' L') m L
  | .ret, _, ds, m, L => ds = [] ∧ endA (fun m' L' => m0.Le m' ∧ Ix .ret m' L') m L
  | .exit i, _, ds, m, L => ds = [] ∧ endA (fun m' L' => m0.Le m' ∧ Ix (.exit i) m' L') m L
  | .goto i, _, ds, m, L => ds = [] ∧ endA (fun m' L' => m0.Le m' ∧ Ix (.goto i) m' L') m L
  | .panic ch, _, ds, m, L => ds = [] ∧ endA (fun m' L' => m0.Le m' ∧ Ip ch m' L') m L
  | _, _, _, _, _ => False
section
variable {m0 : Mem} {I : Nat → Mem → Lst → Prop} {Ix : Exit → Mem → Lst → Prop} {Ip : List PanicEntry → Mem → Lst → Prop} {k : Nat} {e : En} {m : Mem} {L : Lst}
theorem rndP_normal : rndP m0 I Ix Ip k .normal e [] m L = endA (fun m' L' => m0.Le m' ∧ I (k + 1) m' L') m L := by simp [rndP]
theorem rndP_ret : rndP m0 I Ix Ip k .ret e [] m L = endA (fun m' L' => m0.Le m' ∧ Ix .ret m' L') m L := by simp [rndP]
theorem rndP_exit {i : Nat} : rndP m0 I Ix Ip k (.exit i) e [] m L = endA (fun m' L' => m0.Le m' ∧ Ix (.exit i) m' L') m L := by simp [rndP]
theorem rndP_panic {ch : List PanicEntry} : rndP m0 I Ix Ip k (.panic ch) e [] m L = endA (fun m' L' => m0.Le m' ∧ Ip ch m' L') m L := by simp [rndP]
end
/-- What an iterator does: it hands over cnt times what A says, in order, till it is told to stop. It holds Lf. -/
structure IterP (P : Program) (gf : FuncId) (lb : List Value) (m : Mem) (Lf : Lst) (A : Nat → List Value → Mem → Prop) (cnt : Nat) : Prop where
  go : isGo P gf = true
  run : ∀ (l : Nat) (J : Nat → Mem → Lst → Prop) (Jx : Mem → Lst → Prop) (Jp : List PanicEntry → Mem → Lst → Prop), (∀ k m' m2 L', m'.Le m2 → J k m' L' → J k m2 L') →
    (∀ k args m' L', A k args m' → m.Le m' → J k m' L' → YAP P l args m' L' (fun v m2 L2 => m'.Le m2 ∧ ((v = .bool true ∧ J (k + 1) m2 L2) ∨ (v = .bool false ∧ Jx m2 L2))) (fun ch m2 L2 => m'.Le m2 ∧ Jp ch m2 L2)) →
    ∀ m1 L1, m.Le m1 → J 0 m1 L1 → CtaP P gf (.func (.yield l) #[] #[] :: lb) m1 (L1 ++ Lf) (fun _ m' L' => ∃ L2, L' = L2 ++ Lf ∧ m1.Le m' ∧ (J cnt m' L2 ∨ Jx m' L2)) (fun ch m' L' => m1.Le m' ∧ Jp ch m' L')
section
variable {P : Program} {n : Nat}
/-- **A range over a function.** -/
theorem range_p {g : Operand} {ps : List Tmp} {assign body : Code} {Q : QA} {e : En} {ds : DS} {m : Mem} {L Lf Lo : Lst} {gf : FuncId} {lb : List Value} {A : Nat → List Value → Mem → Prop} {cnt : Nat}
    (hfit : (Opfit n g && cfit n assign && cfit n body) = true) (it : IterP P gf lb m Lf A cnt) (hg : ev e g = .func (.func gf) #[] lb.toArray) (hL : Takes L Lf Lo) (hps : ∀ k args m', A k args m' → args.length = ps.length)
    (I : Nat → Mem → Lst → Prop) (Ix : Exit → Mem → Lst → Prop) (Ip : List PanicEntry → Mem → Lst → Prop) (hIm : ∀ k m' m2 L', m'.Le m2 → I k m' L' → I k m2 L') (h0 : endA (fun m' L' => m.Le m' ∧ I 0 m' L') m Lo)
    (hbody : ∀ l k args m' L', A k args m' → m.Le m' → I k m' L' → T P (some l) n assign (asgQ fun e' m2 L2 => T P (some l) n body (rndP m' I Ix Ip k) e' [] m2 L2) (setE e ps args) [] m' L')
    (hdone : ∀ D m' L', m.Le m' → I cnt m' L' → Q .normal e (mark D :: ds) m' ((D, .deferred (some [])) :: (L' ++ Lf)))
    (hstop : ∀ D x m' L', m.Le m' → Ix x m' L' → (∃ c, isJump x c) → Q x e (mark D :: ds) m' ((D, .deferred (some [])) :: (L' ++ Lf)))
    (hpan : ∀ D ch m' L', m.Le m' → Ip ch m' L' → Q (.panic ch) e (mark D :: ds) m' ((D, .deferred (some [])) :: L')) :
    @rawCA ⟨P, none, n, .rangeFunc g ps.toArray assign body, Q⟩ e ds m L := by
  simp only [Bool.and_eq_true] at hfit
  obtain ⟨⟨hf1, hf2⟩, hf3⟩ := hfit
  intro L0 w hI
  show WG P none (.rangeFunc g ps.toArray assign body) (lift n (conc L0 Q)) (mkAct n e ds) w
  refine wg_rangeFunc ?_
  intro fn hfn
  obtain ⟨rec, hrec⟩ : ∃ rec : LoopState → Option Code → Loop, rec = fun st pe => { state := st, pending := pe, fn, tmps := arr n e, params := ps.toArray, assign, body, defers := w.heap.size } := ⟨_, rfl⟩
  obtain ⟨D, hD⟩ : ∃ D, D = w.heap.size := ⟨_, rfl⟩
  obtain ⟨l, hl⟩ : ∃ l, l = w.heap.size + 1 := ⟨_, rfl⟩
  obtain ⟨W1, hW1⟩ : ∃ W1, (w.alloc (.deferred (some []))).alloc (.loop (rec .ready none)) = W1 := ⟨_, rfl⟩
  have hI1 : Inv m ((l, .loop (rec .ready none)) :: (D, .deferred (some [])) :: (L ++ L0)) W1 := by
    have h1 := (hI.alloc (.deferred (some []))).alloc (.loop (rec .ready none))
    rw [hW1] at h1
    have e1 : (w.alloc (.deferred (some []))).heap.size = l := by rw [hl]; simp
    rw [e1] at h1; rw [hD]; exact h1
  have henter : (Instr.enterLoop fn (mkAct n e ds).tmps ps.toArray assign body none).run P w = .ok (l, [mark D]) W1 := by
    show (Instr.enterLoop fn (arr n e) ps.toArray assign body none).run P w = _
    rw [run_enterLoop_outer, ← hW1, hrec, hl, hD]; rfl
  clear hW1 hI
  refine ⟨l, [mark D], W1, { target := .fn (.func gf) lb.toArray, args := #[.func (.yield l) #[] #[]] }, W1, gf, (.func (.yield l) #[] #[] :: lb).toArray, W1, henter, ?_, ?_, ?_⟩
  · simp only [resolve, eval_mk hf1, hg]
    simp [Act.eval, Deferred.ofValue]
  · have h1 := callFunc_go (P := P) (args := (.func (.yield l) #[] #[] :: lb).toArray) (w := W1) it.go
    show Sem.run P (callFunc gf (#[Value.func (.yield l) #[] #[]] ++ lb.toArray)) W1 = _
    rw [show (#[Value.func (.yield l) #[] #[]] ++ lb.toArray) = (.func (.yield l) #[] #[] :: lb).toArray by simp]
    exact h1
  -- where the loop begins
  have hp1 : ((l, Obj.loop (rec .ready none)) :: (D, Obj.deferred (some [])) :: (L ++ L0)).Perm (Lo ++ ((l, Obj.loop (rec .ready none)) :: (D, Obj.deferred (some [])) :: (Lf ++ L0))) := by
    have q := hL.perm
    have q2 : (L ++ L0).Perm (Lo ++ (Lf ++ L0)) := by
      rw [← List.append_assoc]; exact (q.trans List.perm_append_comm).append_right L0
    exact ((q2.cons _).cons _).trans ((List.perm_middle.symm.cons _).trans List.perm_middle.symm)
  obtain ⟨m1, L1, hI2, hle1, hi0⟩ := h0 _ _ (hI1.perm hp1)
  clear hI1 hp1 h0 henter
  let J : Nat → Mem → Lst → Prop := fun k m' L' => ∃ Li, L' = (l, .loop (rec .ready none)) :: (D, .deferred (some [])) :: Li ∧ I k m' Li
  let Jx : Mem → Lst → Prop := fun m' L' => ∃ Li x c, isJump x c ∧ L' = (l, .loop (rec .done (some c))) :: (D, .deferred (some [])) :: Li ∧ Ix x m' Li
  let Jp : List PanicEntry → Mem → Lst → Prop := fun ch m' L' => ∃ Li r, L' = (l, .loop r) :: (D, .deferred (some [])) :: Li ∧ Ip ch m' Li
  have hround : ∀ k args m' L', A k args m' → m.Le m' → J k m' L' → YAP P l args m' L' (fun v m2 L2 => m'.Le m2 ∧ ((v = .bool true ∧ J (k + 1) m2 L2) ∨ (v = .bool false ∧ Jx m2 L2))) (fun ch m2 L2 => m'.Le m2 ∧ Jp ch m2 L2) := by
    rintro k args m2 L2 hx hle ⟨Li, rfl, hi⟩
    refine ⟨fun L0' w2 hIw => ?_⟩
    have hlw : w2.heap[l]? = some (.loop (rec .ready none)) := (hIw.own (l, .loop (rec .ready none)) (by simp)).1
    have hsz : args.length = ps.length := hps k args m2 hx
    have hy := run_yield (P := P) (args := args.toArray) hlw (by rw [hrec]; simpa using hsz)
    unfold callV
    have e1 : (do let q ← Deferred.ofValue (.func (.yield l) #[] #[]) args.toArray; invoke q.target q.args : Sem Next).run P w2 = (Instr.yield l args.toArray).run P w2 := by
      simp [Deferred.ofValue, invoke]
    rw [e1, hy]
    have etm : (rec .ready none).tmps = arr n e := by rw [hrec]
    have eps : (rec .ready none).params = ps.toArray := by rw [hrec]
    have eas : (rec .ready none).assign = assign := by rw [hrec]
    have ebo : (rec .ready none).body = body := by rw [hrec]
    rw [etm, eps, eas, ebo]
    have etmps : (ps.toArray.zip args.toArray).foldl (fun tmps (x : Tmp × Value) => match x with | (t, a) => tmps.setIfInBounds t a) (arr n e) = arr n (setE e ps args) := by
      have : ps.toArray.zip args.toArray = (ps.zip args).toArray := by simp
      rw [this]
      simp only [List.foldl_toArray']
      exact setE_arr n (ps.zip args) e
    rw [etmps]
    show RoundIn Fence.wide 0 P l _ _ _ _ w2 _
    refine roundIn_of_wg (by rw [hrec]; exact hfn) ?_
    have ht := hbody l k args m2 Li hx hle hi
    have hs := S_sound assign hf2 _ _ _ _ (T_sound (L0 := (l, .loop (rec .ready none)) :: (D, .deferred (some [])) :: L0') assign ht (hIw.perm (by
      have : ((l, Obj.loop (rec .ready none)) :: (D, Obj.deferred (some [])) :: Li ++ L0').Perm (Li ++ ((l, Obj.loop (rec .ready none)) :: (D, Obj.deferred (some [])) :: L0')) := by
        simp only [List.cons_append]
        exact (List.perm_middle.symm.cons _).trans List.perm_middle.symm
      exact this)))
    refine wg_mono hs ?_
    rintro x a' w3 ⟨e', ds', rfl, m3, L3, hI3, hq⟩
    cases x with
    | normal =>
      obtain ⟨rfl, hq⟩ := hq
      have hl3 : w3.heap[l]? = some (.loop (rec .ready none)) := (hI3.own (l, .loop (rec .ready none)) (by simp)).1
      refine ⟨_, run_beginRound hl3 (by rw [hrec]), ?_⟩
      have hI4 : Inv m3 (L3 ++ ((l, .loop { rec .ready none with state := .busy }) :: (D, .deferred (some [])) :: L0')) (w3.putObj l (.loop { rec .ready none with state := .busy })) :=
        (Inv.putObj (hI3.perm List.perm_middle)).perm List.perm_middle.symm
      have hs2 := S_sound body hf3 _ _ _ _ (T_sound (L0 := (l, .loop { rec .ready none with state := .busy }) :: (D, .deferred (some [])) :: L0') body hq hI4)
      refine wg_mono hs2 ?_
      have fin : ∀ (jump : Option Code) (m5 : Mem) (L5 : Lst) (w5 : World), Inv m5 (L5 ++ ((l, .loop { rec .ready none with state := .busy }) :: (D, .deferred (some [])) :: L0')) w5 →
          (Instr.endRound l jump).run P w5 = .ok (.bool jump.isNone) (w5.putObj l (.loop (rec (if jump.isNone then .ready else .done) jump))) ∧
          Inv m5 (((l, .loop (rec (if jump.isNone then .ready else .done) jump)) :: (D, .deferred (some [])) :: L5) ++ L0') (w5.putObj l (.loop (rec (if jump.isNone then .ready else .done) jump))) := by
        intro jump m5 L5 w5 h5
        have hl5 : w5.heap[l]? = some (.loop { rec .ready none with state := .busy }) := (h5.own (l, .loop { rec .ready none with state := .busy }) (by simp)).1
        have hr := run_endRound (P := P) jump hl5
        have eq : ({ ({ rec .ready none with state := .busy } : Loop) with state := if jump.isNone then .ready else .done, pending := jump } : Loop) = rec (if jump.isNone then .ready else .done) jump := by rw [hrec]
        rw [eq] at hr
        refine ⟨hr, ?_⟩
        have h6 := Inv.putObj (o' := .loop (rec (if jump.isNone then .ready else .done) jump)) (h5.perm List.perm_middle)
        refine h6.perm (List.Perm.cons _ ?_)
        exact List.perm_middle
      rintro y a5 w5 ⟨e5, ds5, rfl, m4, L4, hI5, hq5⟩
      cases y with
      | normal =>
        obtain ⟨_, hq5⟩ := hq5
        obtain ⟨m5, L5, hI6, hm5, hi5⟩ := hq5 _ _ hI5
        obtain ⟨hr, hI7⟩ := fin none m5 L5 w5 hI6
        exact ⟨_, _, hr, m5, _, hI7, hm5, .inl ⟨rfl, L5, rfl, hi5⟩⟩
      | ret =>
        obtain ⟨_, hq5⟩ := hq5
        obtain ⟨m5, L5, hI6, hm5, hi5⟩ := hq5 _ _ hI5
        obtain ⟨hr, hI7⟩ := fin (some .ret) m5 L5 w5 hI6
        exact ⟨_, _, hr, m5, _, hI7, hm5, .inr ⟨rfl, L5, .ret, .ret, .inl ⟨rfl, rfl⟩, rfl, hi5⟩⟩
      | exit i =>
        obtain ⟨_, hq5⟩ := hq5
        obtain ⟨m5, L5, hI6, hm5, hi5⟩ := hq5 _ _ hI5
        obtain ⟨hr, hI7⟩ := fin (some (.exit i)) m5 L5 w5 hI6
        exact ⟨_, _, hr, m5, _, hI7, hm5, .inr ⟨rfl, L5, .exit i, .exit i, .inr (.inl ⟨i, rfl, rfl⟩), rfl, hi5⟩⟩
      | goto i =>
        obtain ⟨_, hq5⟩ := hq5
        obtain ⟨m5, L5, hI6, hm5, hi5⟩ := hq5 _ _ hI5
        obtain ⟨hr, hI7⟩ := fin (some (.goto i)) m5 L5 w5 hI6
        exact ⟨_, _, hr, m5, _, hI7, hm5, .inr ⟨rfl, L5, .goto i, .goto i, .inr (.inr ⟨i, rfl, rfl⟩), rfl, hi5⟩⟩
      | panic ch =>
        obtain ⟨rfl, hq5⟩ := hq5
        obtain ⟨m5, L5, hI6, hm5, hi5⟩ := hq5 _ _ hI5
        refine ⟨rfl, m5, (l, .loop { rec .ready none with state := .busy }) :: (D, .deferred (some [])) :: L5, ?_, hm5, L5, _, rfl, hi5⟩
        refine hI6.perm ?_
        simp only [List.cons_append]
        exact List.perm_middle.trans (List.perm_middle.cons _)
      | outgrown => exact hq5.elim
    | ret => exact hq.elim
    | exit i => exact hq.elim
    | goto i => exact hq.elim
    | panic ch => exact hq.elim
    | outgrown => exact hq.elim
  have hcall := (it.run l J Jx Jp (fun k m' m2 L' hm ⟨Li, h1, h2⟩ => ⟨Li, h1, hIm _ _ _ _ hm h2⟩) hround m1 ((l, .loop (rec .ready none)) :: (D, .deferred (some [])) :: L1) hle1 ⟨L1, rfl, hi0⟩).run L0 W1 (hI2.perm (by
    have : (L1 ++ ((l, Obj.loop (rec .ready none)) :: (D, Obj.deferred (some [])) :: (Lf ++ L0))).Perm (((l, Obj.loop (rec .ready none)) :: (D, Obj.deferred (some [])) :: L1 ++ Lf) ++ L0) := by
      simp only [List.cons_append, List.append_assoc]
      exact List.perm_middle.trans (List.perm_middle.cons _)
    exact this))
  refine hcall.2.mono ?_
  rintro en w3 hq
  cases en with
  | returned v =>
    obtain ⟨m2, L2, hI3, L3, rfl, hle2, hJ | hJ⟩ := hq
    · obtain ⟨Li, rfl, hi⟩ := hJ
      have hl3 : w3.heap[l]? = some (.loop (rec .ready none)) := (hI3.own (l, .loop (rec .ready none)) (by simp)).1
      have hend := run_endLoop (P := P) hl3 (by rw [hrec]; simp)
      have ep : (rec .ready none).pending = none := by rw [hrec]
      rw [ep] at hend
      refine ⟨none, _, hend, ?_⟩
      have hI4 : Inv m2 (((D, .deferred (some [])) :: (Li ++ Lf)) ++ L0) (w3.putObj l (.loop { rec .ready none with state := .exhausted, pending := none })) := by
        have := (Inv.putObj (o' := .loop { rec .ready none with state := .exhausted, pending := none }) (L := ((D, .deferred (some [])) :: (Li ++ Lf)) ++ L0) (by simpa using hI3)).drop
        exact this
      exact ⟨e, mark D :: ds, rfl, m2, _, hI4, hdone D m2 Li (hle1.trans hle2) hi⟩
    · obtain ⟨Li, x, c, hj, rfl, hi⟩ := hJ
      have hl3 : w3.heap[l]? = some (.loop (rec .done (some c))) := (hI3.own (l, .loop (rec .done (some c))) (by simp)).1
      have hend := run_endLoop (P := P) hl3 (by rw [hrec]; simp)
      have ep : (rec .done (some c)).pending = some c := by rw [hrec]
      rw [ep] at hend
      refine ⟨some c, _, hend, ?_⟩
      have hI4 : Inv m2 (((D, .deferred (some [])) :: (Li ++ Lf)) ++ L0) (w3.putObj l (.loop { rec .done (some c) with state := .exhausted, pending := some c })) := by
        have := (Inv.putObj (o' := .loop { rec .done (some c) with state := .exhausted, pending := some c }) (L := ((D, .deferred (some [])) :: (Li ++ Lf)) ++ L0) (by simpa using hI3)).drop
        exact this
      exact wg_of (wpIn_jump hj ⟨e, mark D :: ds, rfl, m2, _, hI4, hstop D x m2 Li (hle1.trans hle2) hi ⟨c, hj⟩⟩)
  | panicked ch =>
    obtain ⟨m2, L2, hI3, hle2, Li, r, rfl, hi⟩ := hq
    exact ⟨e, mark D :: ds, rfl, m2, _, hI3.drop, hpan D ch m2 Li (hle1.trans hle2) hi⟩
  | outgrown => exact hq.elim
/-- The same, of registers that are known. -/
theorem range_pf {g : Operand} {ps : List Tmp} {assign body : Code} {Q : QA} {e : En} {ds : DS} {m : Mem} {L Lf Lo : Lst} {gf : FuncId} {lb : List Value} {A : Nat → List Value → Mem → Prop} {cnt : Nat} (ρ : List (Nat × Value))
    (hfit : (Opfit n g && cfit n assign && cfit n body) = true) (it : IterP P gf lb m Lf A cnt) (hg : ev e g = .func (.func gf) #[] lb.toArray) (hL : Takes L Lf Lo) (hps : ∀ k args m', A k args m' → args.length = ps.length)
    (I : Nat → Mem → Lst → Prop) (Ix : Exit → Mem → Lst → Prop) (Ip : List PanicEntry → Mem → Lst → Prop) (hIm : ∀ k m' m2 L', m'.Le m2 → I k m' L' → I k m2 L') (hρ : Fits e ρ) (h0 : endA (fun m' L' => m.Le m' ∧ I 0 m' L') m Lo)
    (hbody : ∀ e l k args m' L', Fits e ρ → A k args m' → m.Le m' → I k m' L' → T P (some l) n assign (asgQ fun e' m2 L2 => T P (some l) n body (rndP m' I Ix Ip k) e' [] m2 L2) (setE e ps args) [] m' L')
    (hdone : ∀ e D m' L', Fits e ρ → m.Le m' → I cnt m' L' → Q .normal e (mark D :: ds) m' ((D, .deferred (some [])) :: (L' ++ Lf)))
    (hstop : ∀ e D x m' L', Fits e ρ → m.Le m' → Ix x m' L' → (∃ c, isJump x c) → Q x e (mark D :: ds) m' ((D, .deferred (some [])) :: (L' ++ Lf)))
    (hpan : ∀ e D ch m' L', Fits e ρ → m.Le m' → Ip ch m' L' → Q (.panic ch) e (mark D :: ds) m' ((D, .deferred (some [])) :: L')) :
    @rawCA ⟨P, none, n, .rangeFunc g ps.toArray assign body, Q⟩ e ds m L :=
  range_p hfit it hg hL hps I Ix Ip hIm h0 (fun l k args m' L' => hbody e l k args m' L' hρ) (fun D m' L' => hdone e D m' L' hρ) (fun D x m' L' => hstop e D x m' L' hρ) (fun D ch m' L' => hpan e D ch m' L' hρ)
end
end Go.Eng
