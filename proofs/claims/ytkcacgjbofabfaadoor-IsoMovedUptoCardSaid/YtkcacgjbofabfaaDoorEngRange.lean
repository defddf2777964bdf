/- The engine over abstract states: ranges over functions. -/
import Derived.Test.YtkcacgjbofabfaaDoorEngRow
import Derived.RangeFuncRecord
set_option linter.all false
namespace Go.Eng
open Go Go.RowKit
/-- A call of yield, for a loop's record l. -/
structure YA (P : Program) (l : Nat) (args : List Value) (m : Mem) (L : Lst) (R : Value → Mem → Lst → Prop) : Prop where
  run : ∀ L0 w, Inv m (L ++ L0) w → @callV P (.func (.yield l) #[] #[]) args ⟨fun v w' => ∃ m' L', Inv m' (L' ++ L0) w' ∧ R v m' L', fun _ _ => False, fun _ _ => False⟩ w
theorem callV_mono {P : Program} {f : Value} {args : List Value} {C C' : KX} {w : World} (hk : ∀ v w, C.k v w → C'.k v w) (hd : ∀ v w, C.kd v w → C'.kd v w) (hx : ∀ v w, C.x v w → C'.x v w) (h : @callV P f args C w) : @callV P f args C' w := by
  unfold callV at *
  exact upE_mono hk hd hx h
theorem ya_of {P : Program} {l : Nat} {args : List Value} {m : Mem} {L Lp Lf : Lst} {R : Value → Mem → Lst → Prop} {C : KA} (h : YA P l args m Lp R) (hp : Takes L Lp Lf) (hk : ∀ v m' L', R v m' L' → C.k v m' (L' ++ Lf)) :
    callA P (.func (.yield l) #[] #[]) args m L := by
  intro L0 w hI
  have hI2 : Inv m (Lp ++ (Lf ++ L0)) w := by rw [← List.append_assoc]; exact hI.perm (hp.perm.append_right L0)
  refine callV_mono ?_ (fun _ _ h => False.elim h) (fun _ _ h => False.elim h) (h.run (Lf ++ L0) w hI2)
  rintro v w' ⟨m', L', h1, h2⟩
  exact ⟨m', L' ++ Lf, by rw [List.append_assoc]; exact h1, hk v m' L' h2⟩
/-- What an iterator does: it hands over xs, in order, till it is told to stop. It holds Lf. -/
structure IterA (P : Program) (gf : FuncId) (lb : List Value) (m : Mem) (Lf : Lst) (xs : List (List Value)) : Prop where
  go : isGo P gf = true
  run : ∀ (l : Nat) (J : Nat → Mem → Lst → Prop) (Jx : Mem → Lst → Prop),
    (∀ k args m' L', xs[k]? = some args → m.Le m' → J k m' L' → YA P l args m' L' (fun v m2 L2 => m'.Le m2 ∧ ((v = .bool true ∧ J (k + 1) m2 L2) ∨ (v = .bool false ∧ Jx m2 L2)))) →
    ∀ m1 L1, m.Le m1 → J 0 m1 L1 → Cta P gf (.func (.yield l) #[] #[] :: lb) m1 (L1 ++ Lf) (fun _ m' L' => ∃ L2, L' = L2 ++ Lf ∧ m1.Le m' ∧ (J xs.length m' L2 ∨ Jx m' L2))
def mark (D : Nat) : Deferred := { target := .collected D, args := #[] }
def setE (e : En) (ps : List Tmp) (args : List Value) : En := (ps.zip args).foldl (fun e x => up e x.1 x.2) e
theorem setE_arr (n : Nat) : ∀ (l : List (Tmp × Value)) (e : En), l.foldl (fun tmps (x : Tmp × Value) => tmps.setIfInBounds x.1 x.2) (arr n e) = arr n (l.foldl (fun e x => up e x.1 x.2) e) := by
  intro l
  induction l with
  | nil => intro e; rfl
  | cons x l ih => intro e; simp only [List.foldl_cons]; rw [set_arr, ih]
/-- How a round is left. -/
def rndQ (m0 : Mem) (I : Nat → Mem → Lst → Prop) (Ix : Exit → Mem → Lst → Prop) (k : Nat) : QA
  | .normal, _, ds, m, L => ds = [] ∧ endA (fun m' L' => m0.Le m' ∧ I (k + 1) m' L') m L
  | .ret, _, ds, m, L => ds = [] ∧ endA (fun m' L' => m0.Le m' ∧ Ix .ret m' L') m L
  | .exit i, _, ds, m, L => ds = [] ∧ endA (fun m' L' => m0.Le m' ∧ Ix (.exit i) m' L') m L
  | .goto i, _, ds, m, L => ds = [] ∧ endA (fun m' L' => m0.Le m' ∧ Ix (.goto i) m' L') m L
  | _, _, _, _, _ => False
theorem Inv.putObj {m : Mem} {L : Lst} {b : Nat} {o o' : Obj} {w : World} (h : Inv m ((b, o) :: L) w) : Inv m ((b, o') :: L) (w.putObj b o') := by
  have hb := (h.own (b, o) (by simp)).1
  have hlt := (Array.getElem?_eq_some_iff.1 hb).1
  exact h.setObj (World.putObj_heap_same hlt) (fun c hc => World.putObj_heap_other hc) rfl rfl rfl
section
variable {P : Program} {n : Nat}
theorem wpIn_jump {x : Exit} {c : Code} {Q : Exit → Act → World → Prop} {a : Act} {w : World} {F : Fence} (hc : (x = .ret ∧ c = .ret) ∨ (∃ i, x = .exit i ∧ c = .exit i) ∨ (∃ i, x = .goto i ∧ c = .goto i)) (h : Q x a w) : c.wpIn F 0 P Q a w := by
  rcases hc with ⟨rfl, rfl⟩ | ⟨i, rfl, rfl⟩ | ⟨i, rfl, rfl⟩
  · exact wpIn_ret h
  · exact wpIn_exit h
  · exact wpIn_goto h
def isJump : Exit → Code → Prop := fun x c => (x = .ret ∧ c = .ret) ∨ (∃ i, x = .exit i ∧ c = .exit i) ∨ (∃ i, x = .goto i ∧ c = .goto i)
/-- How the assignment to the loop's variables is left. -/
def asgQ (K : En → Mem → Lst → Prop) : QA
  | .normal, e, ds, m, L => ds = [] ∧ K e m L
  | _, _, _, _, _ => False
theorem asgQ_normal {K : En → Mem → Lst → Prop} {e : En} {m : Mem} {L : Lst} : asgQ K .normal e [] m L = K e m L := by simp [asgQ]
theorem FW_wide (l : Nat) : Fence.wide.inRound l = FW (some l) := rfl
theorem FW_none : Fence.wide = FW none := rfl
/-- **A range over a function.** -/
theorem range_of {g : Operand} {ps : List Tmp} {assign body : Code} {Q : QA} {e : En} {ds : DS} {m : Mem} {L Lf Lo : Lst} {gf : FuncId} {lb : List Value} {xs : List (List Value)}
    (hfit : (Opfit n g && cfit n assign && cfit n body) = true) (it : IterA P gf lb m Lf xs) (hg : ev e g = .func (.func gf) #[] lb.toArray) (hL : Takes L Lf Lo) (hps : ∀ args ∈ xs, args.length = ps.length)
    (I : Nat → Mem → Lst → Prop) (Ix : Exit → Mem → Lst → Prop) (h0 : endA (fun m' L' => m.Le m' ∧ I 0 m' L') m Lo)
    (hbody : ∀ l k args m' L', xs[k]? = some args → m.Le m' → I k m' L' → T P (some l) n assign (asgQ fun e' m2 L2 => T P (some l) n body (rndQ m' I Ix k) e' [] m2 L2) (setE e ps args) [] m' L')
    (hdone : ∀ D m' L', m.Le m' → I xs.length m' L' → Q .normal e (mark D :: ds) m' ((D, .deferred (some [])) :: (L' ++ Lf)))
    (hstop : ∀ D x m' L', m.Le m' → Ix x m' L' → (∃ c, isJump x c) → Q x e (mark D :: ds) m' ((D, .deferred (some [])) :: (L' ++ Lf))) :
    @rawCA ⟨P, none, n, .rangeFunc g ps.toArray assign body, Q⟩ e ds m L := by
  simp only [Bool.and_eq_true] at hfit
  obtain ⟨⟨hf1, hf2⟩, hf3⟩ := hfit
  intro L0 w hI
  show (Code.rangeFunc g ps.toArray assign body).wpIn (FW none) 0 P (lift n (conc L0 Q)) (mkAct n e ds) w
  refine wpIn_rangeFunc ?_
  intro fn _
  obtain ⟨rec, hrec⟩ : ∃ rec : LoopState → Option Code → Loop, rec = fun st pe => { state := st, pending := pe, fn, tmps := arr n e, params := ps.toArray, assign, body, defers := w.heap.size } := ⟨_, rfl⟩
  obtain ⟨D, hD⟩ : ∃ D, D = w.heap.size := ⟨_, rfl⟩
  obtain ⟨l, hl⟩ : ∃ l, l = w.heap.size + 1 := ⟨_, rfl⟩
  obtain ⟨W1, hW1⟩ : ∃ W1, (w.alloc (.deferred (some []))).alloc (.loop (rec .ready none)) = W1 := ⟨_, rfl⟩
  have hI1 : Inv m ((l, .loop (rec .ready none)) :: (D, .deferred (some [])) :: (L ++ L0)) W1 := by
    have h1 := (hI.alloc (.deferred (some []))).alloc (.loop (rec .ready none))
    rw [hW1] at h1
    have e1 : (w.alloc (.deferred (some []))).heap.size = l := by rw [hl]; simp
    rw [e1] at h1; rw [hD]; exact h1
  have henter : (Instr.enterLoop fn (mkAct n e ds).tmps ps.toArray assign body (FW none).round).run P w = .ok (l, [mark D]) W1 := by
    show (Instr.enterLoop fn (arr n e) ps.toArray assign body none).run P w = _
    rw [run_enterLoop_outer, ← hW1, hrec, hl, hD]; rfl
  clear hW1 hI
  refine ⟨l, [mark D], W1, { target := .fn (.func gf) lb.toArray, args := #[.func (.yield l) #[] #[]] }, W1, gf, (.func (.yield l) #[] #[] :: lb).toArray, W1, henter, ?_, ?_, ?_, ?_, ?_⟩
  · simp only [resolve, eval_mk hf1, hg]
    simp [Act.eval, Deferred.ofValue]
  · intro f' _; trivial
  · have h1 := callFunc_go (P := P) (args := (.func (.yield l) #[] #[] :: lb).toArray) (w := W1) it.go
    show Sem.run P (callFunc gf (#[Value.func (.yield l) #[] #[]] ++ lb.toArray)) W1 = _
    rw [show (#[Value.func (.yield l) #[] #[]] ++ lb.toArray) = (.func (.yield l) #[] #[] :: lb).toArray by simp]
    exact h1
  · intro h; simp [FW] at h
  -- where the loop begins
  have hp1 : ((l, Obj.loop (rec .ready none)) :: (D, Obj.deferred (some [])) :: (L ++ L0)).Perm (Lo ++ ((l, Obj.loop (rec .ready none)) :: (D, Obj.deferred (some [])) :: (Lf ++ L0))) := by
    have q := hL.perm
    have q2 : (L ++ L0).Perm (Lo ++ (Lf ++ L0)) := by
      rw [← List.append_assoc]; exact (q.trans List.perm_append_comm).append_right L0
    exact ((q2.cons _).cons _).trans ((List.perm_middle.symm.cons _).trans List.perm_middle.symm)
  obtain ⟨m1, L1, hI2, hle1, hi0⟩ := h0 _ _ (hI1.perm hp1)
  clear hI1 hp1 h0 henter
  let J : Nat → Mem → Lst → Prop := fun k m' L' => ∃ Li, L' = (l, .loop (rec .ready none)) :: (D, .deferred (some [])) :: Li ∧ I k m' Li
  let Jx : Mem → Lst → Prop := fun m' L' => ∃ Li x c, isJump x c ∧ L' = (l, .loop (rec .done (some c))) :: (D, .deferred (some [])) :: Li ∧ Ix x m' Li
  have hround : ∀ k args m' L', xs[k]? = some args → m.Le m' → J k m' L' → YA P l args m' L' (fun v m2 L2 => m'.Le m2 ∧ ((v = .bool true ∧ J (k + 1) m2 L2) ∨ (v = .bool false ∧ Jx m2 L2))) := by
    rintro k args m2 L2 hx hle ⟨Li, rfl, hi⟩
    refine ⟨fun L0' w2 hIw => ?_⟩
    have hlw : w2.heap[l]? = some (.loop (rec .ready none)) := (hIw.own (l, .loop (rec .ready none)) (by simp)).1
    have hsz : args.length = ps.length := hps args (List.mem_of_getElem? hx)
    have hy := run_yield (P := P) (args := args.toArray) hlw (by rw [hrec]; simpa using hsz)
    unfold callV
    have e1 : (do let q ← Deferred.ofValue (.func (.yield l) #[] #[]) args.toArray; invoke q.target q.args : Sem Next).run P w2 = (Instr.yield l args.toArray).run P w2 := by
      simp [Deferred.ofValue, invoke]
    rw [e1, hy]
    have etm : (rec .ready none).tmps = arr n e := by rw [hrec]
    have eps : (rec .ready none).params = ps.toArray := by rw [hrec]
    have eas : (rec .ready none).assign = assign := by rw [hrec]
    have ebo : (rec .ready none).body = body := by rw [hrec]
    rw [etm, eps, eas, ebo]
    have etmps : (ps.toArray.zip args.toArray).foldl (fun tmps (x : Tmp × Value) => match x with | (t, a) => tmps.setIfInBounds t a) (arr n e) = arr n (setE e ps args) := by
      have : ps.toArray.zip args.toArray = (ps.zip args).toArray := by simp
      rw [this]
      simp only [List.foldl_toArray']
      exact setE_arr n (ps.zip args) e
    rw [etmps]
    show RoundIn Fence.wide 0 P l _ _ _ _ w2 _
    refine roundIn_of_wpIn (F := Fence.wide) trivial ?_
    have ht := hbody l k args m2 Li hx hle hi
    have hs := S_sound assign hf2 _ _ _ _ (T_sound (L0 := (l, .loop (rec .ready none)) :: (D, .deferred (some [])) :: L0') assign ht (hIw.perm (by
      have : ((l, Obj.loop (rec .ready none)) :: (D, Obj.deferred (some [])) :: Li ++ L0').Perm (Li ++ ((l, Obj.loop (rec .ready none)) :: (D, Obj.deferred (some [])) :: L0')) := by
        simp only [List.cons_append]
        exact (List.perm_middle.symm.cons _).trans List.perm_middle.symm
      exact this)))
    refine wpIn_mono hs ?_
    rintro x a' w3 ⟨e', ds', rfl, m3, L3, hI3, hq⟩
    cases x with
    | normal =>
      obtain ⟨rfl, hq⟩ := hq
      have hl3 : w3.heap[l]? = some (.loop (rec .ready none)) := (hI3.own (l, .loop (rec .ready none)) (by simp)).1
      refine ⟨_, run_beginRound hl3 (by rw [hrec]), ?_⟩
      have hI4 : Inv m3 (L3 ++ ((l, .loop { rec .ready none with state := .busy }) :: (D, .deferred (some [])) :: L0')) (w3.putObj l (.loop { rec .ready none with state := .busy })) :=
        (Inv.putObj (hI3.perm List.perm_middle)).perm List.perm_middle.symm
      have hs2 := S_sound body hf3 _ _ _ _ (T_sound (L0 := (l, .loop { rec .ready none with state := .busy }) :: (D, .deferred (some [])) :: L0') body hq hI4)
      refine wpIn_mono hs2 ?_
      have fin : ∀ (jump : Option Code) (m5 : Mem) (L5 : Lst) (w5 : World), Inv m5 (L5 ++ ((l, .loop { rec .ready none with state := .busy }) :: (D, .deferred (some [])) :: L0')) w5 →
          (Instr.endRound l jump).run P w5 = .ok (.bool jump.isNone) (w5.putObj l (.loop (rec (if jump.isNone then .ready else .done) jump))) ∧
          Inv m5 (((l, .loop (rec (if jump.isNone then .ready else .done) jump)) :: (D, .deferred (some [])) :: L5) ++ L0') (w5.putObj l (.loop (rec (if jump.isNone then .ready else .done) jump))) := by
        intro jump m5 L5 w5 h5
        have hl5 : w5.heap[l]? = some (.loop { rec .ready none with state := .busy }) := (h5.own (l, .loop { rec .ready none with state := .busy }) (by simp)).1
        have hr := run_endRound (P := P) jump hl5
        have eq : ({ ({ rec .ready none with state := .busy } : Loop) with state := if jump.isNone then .ready else .done, pending := jump } : Loop) = rec (if jump.isNone then .ready else .done) jump := by rw [hrec]
        rw [eq] at hr
        refine ⟨hr, ?_⟩
        have h6 := Inv.putObj (o' := .loop (rec (if jump.isNone then .ready else .done) jump)) (h5.perm List.perm_middle)
        refine h6.perm (List.Perm.cons _ ?_)
        exact List.perm_middle
      rintro y a5 w5 ⟨e5, ds5, rfl, m4, L4, hI5, hq5⟩
      cases y with
      | normal =>
        obtain ⟨_, hq5⟩ := hq5
        obtain ⟨m5, L5, hI6, hm5, hi5⟩ := hq5 _ _ hI5
        obtain ⟨hr, hI7⟩ := fin none m5 L5 w5 hI6
        exact ⟨_, _, hr, m5, _, hI7, hm5, .inl ⟨rfl, L5, rfl, hi5⟩⟩
      | ret =>
        obtain ⟨_, hq5⟩ := hq5
        obtain ⟨m5, L5, hI6, hm5, hi5⟩ := hq5 _ _ hI5
        obtain ⟨hr, hI7⟩ := fin (some .ret) m5 L5 w5 hI6
        exact ⟨_, _, hr, m5, _, hI7, hm5, .inr ⟨rfl, L5, .ret, .ret, .inl ⟨rfl, rfl⟩, rfl, hi5⟩⟩
      | exit i =>
        obtain ⟨_, hq5⟩ := hq5
        obtain ⟨m5, L5, hI6, hm5, hi5⟩ := hq5 _ _ hI5
        obtain ⟨hr, hI7⟩ := fin (some (.exit i)) m5 L5 w5 hI6
        exact ⟨_, _, hr, m5, _, hI7, hm5, .inr ⟨rfl, L5, .exit i, .exit i, .inr (.inl ⟨i, rfl, rfl⟩), rfl, hi5⟩⟩
      | goto i =>
        obtain ⟨_, hq5⟩ := hq5
        obtain ⟨m5, L5, hI6, hm5, hi5⟩ := hq5 _ _ hI5
        obtain ⟨hr, hI7⟩ := fin (some (.goto i)) m5 L5 w5 hI6
        exact ⟨_, _, hr, m5, _, hI7, hm5, .inr ⟨rfl, L5, .goto i, .goto i, .inr (.inr ⟨i, rfl, rfl⟩), rfl, hi5⟩⟩
      | panic ch => exact hq5.elim
      | outgrown => exact hq5.elim
    | ret => exact hq.elim
    | exit i => exact hq.elim
    | goto i => exact hq.elim
    | panic ch => exact hq.elim
    | outgrown => exact hq.elim
  have hcall := (it.run l J Jx hround m1 ((l, .loop (rec .ready none)) :: (D, .deferred (some [])) :: L1) hle1 ⟨L1, rfl, hi0⟩).run L0 W1 (hI2.perm (by
    have : (L1 ++ ((l, Obj.loop (rec .ready none)) :: (D, Obj.deferred (some [])) :: (Lf ++ L0))).Perm (((l, Obj.loop (rec .ready none)) :: (D, Obj.deferred (some [])) :: L1 ++ Lf) ++ L0) := by
      simp only [List.cons_append, List.append_assoc]
      exact List.perm_middle.trans (List.perm_middle.cons _)
    exact this))
  refine (calls_FW (n := 0) (ro := none) hcall.2).mono ?_
  rintro en w3 hq
  cases en with
  | returned v =>
    obtain ⟨m2, L2, hI3, L3, rfl, hle2, hJ | hJ⟩ := hq
    · obtain ⟨Li, rfl, hi⟩ := hJ
      have hl3 : w3.heap[l]? = some (.loop (rec .ready none)) := (hI3.own (l, .loop (rec .ready none)) (by simp)).1
      have hend := run_endLoop (P := P) hl3 (by rw [hrec]; simp)
      have ep : (rec .ready none).pending = none := by rw [hrec]
      rw [ep] at hend
      refine ⟨none, _, hend, ?_⟩
      have hI4 : Inv m2 (((D, .deferred (some [])) :: (Li ++ Lf)) ++ L0) (w3.putObj l (.loop { rec .ready none with state := .exhausted, pending := none })) := by
        have := (Inv.putObj (o' := .loop { rec .ready none with state := .exhausted, pending := none }) (L := ((D, .deferred (some [])) :: (Li ++ Lf)) ++ L0) (by simpa using hI3)).drop
        exact this
      exact ⟨e, mark D :: ds, rfl, m2, _, hI4, hdone D m2 Li (hle1.trans hle2) hi⟩
    · obtain ⟨Li, x, c, hj, rfl, hi⟩ := hJ
      have hl3 : w3.heap[l]? = some (.loop (rec .done (some c))) := (hI3.own (l, .loop (rec .done (some c))) (by simp)).1
      have hend := run_endLoop (P := P) hl3 (by rw [hrec]; simp)
      have ep : (rec .done (some c)).pending = some c := by rw [hrec]
      rw [ep] at hend
      refine ⟨some c, _, hend, ?_⟩
      have hI4 : Inv m2 (((D, .deferred (some [])) :: (Li ++ Lf)) ++ L0) (w3.putObj l (.loop { rec .done (some c) with state := .exhausted, pending := some c })) := by
        have := (Inv.putObj (o' := .loop { rec .done (some c) with state := .exhausted, pending := some c }) (L := ((D, .deferred (some [])) :: (Li ++ Lf)) ++ L0) (by simpa using hI3)).drop
        exact this
      exact wpIn_jump hj ⟨e, mark D :: ds, rfl, m2, _, hI4, hstop D x m2 Li (hle1.trans hle2) hi ⟨c, hj⟩⟩
  | panicked c => exact hq.elim
  | outgrown => exact hq.elim
/-! ### scopes and labels (no jump to a label) -/
section steps
variable {b : Frame} {a : Act} {k : List Item} {cs : List Frame} {w : World}
theorem stepR_scope {c : Code} : step P (lone (b.atR a (.code (.scope c) :: k)) cs w) = .next (lone (b.atR a (.code c :: .inScope c :: k)) cs w) :=
  step_lone_go (by simp [stepG, stepG.exec, Frame.atR])
theorem stepR_inScope {c : Code} : step P (lone (b.atR a (.inScope c :: k)) cs w) = .next (lone (b.atR a k) cs w) :=
  step_lone_go (by simp [stepG, stepG.exec, Frame.atR])
end steps
def noGotoQ (Q : Exit → Act → World → Prop) : Exit → Act → World → Prop
  | .goto _, _, _ => False
  | x, a, w => Q x a w
theorem wpIn_scope {F : Fence} {nn : Nat} {Q : Exit → Act → World → Prop} {a : Act} {w : World} {c : Code} (h : c.wpIn F nn P (noGotoQ Q) a w) : (Code.scope c).wpIn F nn P Q a w := by
  intro b k cs hro hb hr
  have h0 : (lone (b.atR a (.code (.scope c) :: k)) cs w).fenced P F := fenced_calm hb hr rfl
  obtain ⟨e, a₁, w₁, hq, harr⟩ := h b (.inScope c :: k) cs hro hb hr
  cases e with
  | normal => exact ⟨.normal, a₁, w₁, hq, .head h0 stepR_scope (StepsIn.trans harr (.one (fenced_calm hb hr rfl) stepR_inScope))⟩
  | exit id =>
    have hx : exitTo id (.inScope c :: k) = exitTo id k := by simp [exitTo]
    exact ⟨.exit id, a₁, w₁, hq, fun k' hk => .head h0 stepR_scope (harr.1 k' (by rw [hx]; exact hk)),
      fun hr' hk => let ⟨k₁, h1, h2⟩ := harr.2 hr' (by rw [hx]; exact hk); ⟨k₁, h1, .head h0 stepR_scope h2⟩⟩
  | goto l => exact hq.elim
  | ret => exact ⟨_, a₁, w₁, hq, .of_steps (.one h0 stepR_scope) harr⟩
  | panic ch => exact ⟨_, a₁, w₁, hq, .of_steps (.one h0 stepR_scope) harr⟩
  | outgrown => exact ⟨_, a₁, w₁, hq, .of_steps (.one h0 stepR_scope) harr⟩
def scopeA (Q : QA) : QA
  | .goto _, _, _, _, _ => False
  | x, e, ds, m, L => Q x e ds m L
section
variable {Q : QA} {e : En} {ds : DS} {m : Mem} {L : Lst}
theorem scopeA_normal : scopeA Q .normal e ds m L = Q .normal e ds m L := Eq.trans rfl rfl
theorem scopeA_exit {i : Nat} : scopeA Q (.exit i) e ds m L = Q (.exit i) e ds m L := Eq.trans rfl rfl
theorem scopeA_ret : scopeA Q .ret e ds m L = Q .ret e ds m L := Eq.trans rfl rfl
theorem scopeA_panic {ch : List PanicEntry} : scopeA Q (.panic ch) e ds m L = Q (.panic ch) e ds m L := Eq.trans rfl rfl
theorem scope_of {ro : Option Nat} {c : Code} (hc : cfit n c = true) (h : T P ro n c (scopeA Q) e ds m L) : @rawCA ⟨P, ro, n, .scope c, Q⟩ e ds m L := by
  intro L0 w hI
  show (Code.scope c).wpIn (FW ro) 0 P (lift n (conc L0 Q)) (mkAct n e ds) w
  refine wpIn_scope (wpIn_mono (S_sound c hc _ _ _ _ (T_sound c h hI)) ?_)
  rintro x a w' ⟨e', ds', rfl, m', L', h1, h2⟩
  cases x <;> first | exact h2.elim | exact ⟨e', ds', rfl, m', L', h1, h2⟩
theorem label_of {ro : Option Nat} {l : Nat} (h : Q .normal e ds m L) : @rawCA ⟨P, ro, n, .label l, Q⟩ e ds m L := by
  intro L0 w hI
  show (Code.label l).wpIn (FW ro) 0 P (lift n (conc L0 Q)) (mkAct n e ds) w
  exact wpIn_label ⟨e, ds, rfl, m, L, hI, h⟩
end
/-! ### functions that hold a range over a function -/
def leaveM (P : Program) (rs : List ResultVar) (R : Value → Mem → Lst → Prop) : DS → En → Mem → Lst → Prop
  | [], e, m, L => resA P e m L R rs []
  | d :: ds, e, m, L => ∃ D L', d = mark D ∧ Take L D (.deferred (some [])) L' ∧ leaveM P rs R ds e m L'
def bodyM (P : Program) (rs : List ResultVar) (R : Value → Mem → Lst → Prop) (X : List PanicEntry → Mem → Lst → Prop) : QA
  | .normal, e, ds, m, L => leaveM P rs R ds e m L
  | .ret, e, ds, m, L => leaveM P rs R ds e m L
  | .panic ch, _, ds, m, L => ds = [] ∧ endA (X ch) m L
  | _, _, _, _, _ => False
section
variable {rs : List ResultVar} {R : Value → Mem → Lst → Prop} {X : List PanicEntry → Mem → Lst → Prop} {e : En} {ds : DS} {m : Mem} {L L' : Lst}
theorem bodyM_ret : bodyM P rs R X .ret e [] m L = resA P e m L R rs [] := Eq.trans rfl rfl
theorem bodyM_normal : bodyM P rs R X .normal e [] m L = resA P e m L R rs [] := Eq.trans rfl rfl
theorem bodyM_panic {ch : List PanicEntry} : bodyM P rs R X (.panic ch) e [] m L = endA (X ch) m L := by simp [bodyM]
theorem bodyM_mark {D : Nat} (t : Take L D (.deferred (some [])) L') (h : bodyM P rs R X .ret e ds m L') : bodyM P rs R X .ret e (mark D :: ds) m L := ⟨D, L', rfl, t, h⟩
theorem bodyM_mark_n {D : Nat} (t : Take L D (.deferred (some [])) L') (h : bodyM P rs R X .normal e ds m L') : bodyM P rs R X .normal e (mark D :: ds) m L := ⟨D, L', rfl, t, h⟩
end
theorem leave_sound {fn : Func} {R : Value → Mem → Lst → Prop} {RE : Ending → World → Prop} {L0 : Lst} (hfit : resFit fn.ntmps fn.results = true) (hRE : ∀ v w', (∃ m' L', Inv m' (L' ++ L0) w' ∧ R v m' L') → RE (.returned v) w') : ∀ (ds : DS) {e : En} {m : Mem} {L : Lst} {w : World}, leaveM P fn.results.toList R ds e m L → Inv m (L ++ L0) w →
    LeavesInM (FW none) 0 P fn (arr fn.ntmps e) RE ds .returning w := by
  intro ds
  induction ds with
  | nil =>
    intro e m L w h hI
    obtain ⟨v, h1, h2⟩ := results_run hfit (resA_sound hI fn.results.toList [] h)
    exact ⟨v, h1, hRE _ _ h2⟩
  | cons d ds ih =>
    rintro e m L w ⟨D, L', rfl, ht, h⟩ hI
    have hp : Inv m ((D, .deferred (some [])) :: (L' ++ L0)) w := hI.perm (ht.perm.append_right L0)
    refine ⟨by simp, .inl ⟨D, _, rfl, run_takeDeferred (hp.own (D, .deferred (some [])) (by simp)).1, ih h ?_⟩⟩
    exact (Inv.putObj (o' := .deferred none) hp).drop
theorem ctap_of_TM {f : FuncId} {fn : Func} {c : Code} {rs : List ResultVar} {args : List Value} {m : Mem} {L : Lst} {R : Value → Mem → Lst → Prop} {X : List PanicEntry → Mem → Lst → Prop}
    (hf : P.funcs[f]? = some fn) (hb : fn.body = some c) (hrs : fn.results = rs.toArray) (hfit : entryFit fn c args.length = true) (hn : (fn.name == "runtime.NumGoroutine") = false)
    (h : T P none fn.ntmps c (bodyM P rs R X) (argE args) [] m L) : CtaP P f args m L R X := by
  obtain rfl : fn.results.toList = rs := by rw [hrs]
  refine ⟨fun L0 w hI => ⟨by simp [isGo, hf, hb, hn], ?_⟩⟩
  simp only [entryFit, Bool.and_eq_true, decide_eq_true_eq] at hfit
  refine (callsIn_wide (n := 0)).1 (callsIn_of_wp_marks (F := Fence.wide) hf hb trivial ?_)
  have hs := S_sound c hfit.1.1 _ _ _ _ (T_sound c h hI)
  rw [start_arr _ _ (by simpa using hfit.2)]
  refine wpIn_mono hs ?_
  rintro x a' w' ⟨e, ds, rfl, m', L', hI', hq⟩
  cases x with
  | normal => exact leave_sound (RE := _) hfit.1.2 (fun _ _ h => h) ds hq hI'
  | ret => exact leave_sound (RE := _) hfit.1.2 (fun _ _ h => h) ds hq hI'
  | panic ch => obtain ⟨rfl, hq⟩ := hq; exact hq L0 w' hI'
  | exit i => exact hq.elim
  | goto l => exact hq.elim
  | outgrown => exact hq.elim
theorem cta_of_TM {f : FuncId} {fn : Func} {c : Code} {rs : List ResultVar} {args : List Value} {m : Mem} {L : Lst} {R : Value → Mem → Lst → Prop}
    (hf : P.funcs[f]? = some fn) (hb : fn.body = some c) (hrs : fn.results = rs.toArray) (hfit : entryFit fn c args.length = true) (hn : (fn.name == "runtime.NumGoroutine") = false)
    (h : T P none fn.ntmps c (bodyM P rs R (fun _ _ _ => False)) (argE args) [] m L) : Cta P f args m L R := by
  refine ⟨fun L0 w hI => ?_⟩
  have := (ctap_of_TM (X := fun _ _ _ => False) hf hb hrs hfit hn h).run L0 w hI
  exact ⟨this.1, this.2.mono fun en w' q => by
    cases en with
    | returned v => exact q
    | panicked c => obtain ⟨_, _, _, q⟩ := q; exact q.elim
    | outgrown => exact q⟩
theorem setE_nil {e : En} {l : List Value} : setE e [] l = e := Eq.trans rfl rfl
theorem setE_cons {e : En} {t : Tmp} {ps : List Tmp} {v : Value} {vs : List Value} : setE e (t :: ps) (v :: vs) = setE (up e t v) ps vs := Eq.trans rfl rfl
/-- The same, of registers that are known. -/
theorem range_f {g : Operand} {ps : List Tmp} {assign body : Code} {Q : QA} {e : En} {ds : DS} {m : Mem} {L Lf Lo : Lst} {gf : FuncId} {lb : List Value} {xs : List (List Value)} (ρ : List (Nat × Value))
    (hfit : (Opfit n g && cfit n assign && cfit n body) = true) (it : IterA P gf lb m Lf xs) (hg : ev e g = .func (.func gf) #[] lb.toArray) (hL : Takes L Lf Lo) (hps : ∀ args ∈ xs, args.length = ps.length)
    (I : Nat → Mem → Lst → Prop) (Ix : Exit → Mem → Lst → Prop) (hρ : Fits e ρ) (h0 : endA (fun m' L' => m.Le m' ∧ I 0 m' L') m Lo)
    (hbody : ∀ e l k args m' L', Fits e ρ → xs[k]? = some args → m.Le m' → I k m' L' → T P (some l) n assign (asgQ fun e' m2 L2 => T P (some l) n body (rndQ m' I Ix k) e' [] m2 L2) (setE e ps args) [] m' L')
    (hdone : ∀ e D m' L', Fits e ρ → m.Le m' → I xs.length m' L' → Q .normal e (mark D :: ds) m' ((D, .deferred (some [])) :: (L' ++ Lf)))
    (hstop : ∀ e D x m' L', Fits e ρ → m.Le m' → Ix x m' L' → (∃ c, isJump x c) → Q x e (mark D :: ds) m' ((D, .deferred (some [])) :: (L' ++ Lf))) :
    @rawCA ⟨P, none, n, .rangeFunc g ps.toArray assign body, Q⟩ e ds m L :=
  range_of hfit it hg hL hps I Ix h0 (fun l k args m' L' => hbody e l k args m' L' hρ) (fun D m' L' => hdone e D m' L' hρ) (fun D x m' L' => hstop e D x m' L' hρ)
section
variable {m0 : Mem} {I : Nat → Mem → Lst → Prop} {Ix : Exit → Mem → Lst → Prop} {k : Nat} {e : En} {m : Mem} {L : Lst}
theorem rndQ_normal : rndQ m0 I Ix k .normal e [] m L = endA (fun m' L' => m0.Le m' ∧ I (k + 1) m' L') m L := by simp [rndQ]
theorem rndQ_ret : rndQ m0 I Ix k .ret e [] m L = endA (fun m' L' => m0.Le m' ∧ Ix .ret m' L') m L := by simp [rndQ]
theorem rndQ_exit {i : Nat} : rndQ m0 I Ix k (.exit i) e [] m L = endA (fun m' L' => m0.Le m' ∧ Ix (.exit i) m' L') m L := by simp [rndQ]
end
end
end Go.Eng
