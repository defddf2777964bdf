/- The engine over abstract states: ranges over functions whose values are told by what is known of them. -/
import Derived.Test.YtkcacgjbofabfaaDoorEngMap
set_option linter.all false
namespace Go.Eng
open Go Go.RowKit
/-- What an iterator does: it hands over cnt times what A says, in order, till it is told to stop. It holds Lf. -/
structure IterR (P : Program) (gf : FuncId) (lb : List Value) (m : Mem) (Lf : Lst) (A : Nat → List Value → Mem → Prop) (cnt : Nat) : Prop where
  go : isGo P gf = true
  run : ∀ (l : Nat) (J : Nat → Mem → Lst → Prop) (Jx : Mem → Lst → Prop), (∀ k m' m2 L', m'.Le m2 → J k m' L' → J k m2 L') →
    (∀ k args m' L', A k args m' → m.Le m' → J k m' L' → YA P l args m' L' (fun v m2 L2 => m'.Le m2 ∧ ((v = .bool true ∧ J (k + 1) m2 L2) ∨ (v = .bool false ∧ Jx m2 L2)))) →
    ∀ m1 L1, m.Le m1 → J 0 m1 L1 → Cta P gf (.func (.yield l) #[] #[] :: lb) m1 (L1 ++ Lf) (fun _ m' L' => ∃ L2, L' = L2 ++ Lf ∧ m1.Le m' ∧ (J cnt m' L2 ∨ Jx m' L2))
section
variable {P : Program} {n : Nat}
/-- **A range over a function.** -/
theorem range_r {g : Operand} {ps : List Tmp} {assign body : Code} {Q : QA} {e : En} {ds : DS} {m : Mem} {L Lf Lo : Lst} {gf : FuncId} {lb : List Value} {A : Nat → List Value → Mem → Prop} {cnt : Nat}
    (hfit : (Opfit n g && cfit n assign && cfit n body) = true) (it : IterR P gf lb m Lf A cnt) (hg : ev e g = .func (.func gf) #[] lb.toArray) (hL : Takes L Lf Lo) (hps : ∀ k args m', A k args m' → args.length = ps.length)
    (I : Nat → Mem → Lst → Prop) (Ix : Exit → Mem → Lst → Prop) (hIm : ∀ k m' m2 L', m'.Le m2 → I k m' L' → I k m2 L') (h0 : endA (fun m' L' => m.Le m' ∧ I 0 m' L') m Lo)
    (hbody : ∀ l k args m' L', A k args m' → m.Le m' → I k m' L' → T P (some l) n assign (asgQ fun e' m2 L2 => T P (some l) n body (rndQ m' I Ix k) e' [] m2 L2) (setE e ps args) [] m' L')
    (hdone : ∀ D m' L', m.Le m' → I cnt m' L' → Q .normal e (mark D :: ds) m' ((D, .deferred (some [])) :: (L' ++ Lf)))
    (hstop : ∀ D x m' L', m.Le m' → Ix x m' L' → (∃ c, isJump x c) → Q x e (mark D :: ds) m' ((D, .deferred (some [])) :: (L' ++ Lf))) :
    @rawCA ⟨P, none, n, .rangeFunc g ps.toArray assign body, Q⟩ e ds m L := by
  simp only [Bool.and_eq_true] at hfit
  obtain ⟨⟨hf1, hf2⟩, hf3⟩ := hfit
  intro L0 w hI
  show (Code.rangeFunc g ps.toArray assign body).wpIn (FW none) 0 P (lift n (conc L0 Q)) (mkAct n e ds) w
  refine wpIn_rangeFunc ?_
  intro fn _
  obtain ⟨rec, hrec⟩ : ∃ rec : LoopState → Option Code → Loop, rec = fun st pe => { state := st, pending := pe, fn, tmps := arr n e, params := ps.toArray, assign, body, defers := w.heap.size } := ⟨_, rfl⟩
  obtain ⟨D, hD⟩ : ∃ D, D = w.heap.size := ⟨_, rfl⟩
  obtain ⟨l, hl⟩ : ∃ l, l = w.heap.size + 1 := ⟨_, rfl⟩
  obtain ⟨W1, hW1⟩ : ∃ W1, (w.alloc (.deferred (some []))).alloc (.loop (rec .ready none)) = W1 := ⟨_, rfl⟩
  have hI1 : Inv m ((l, .loop (rec .ready none)) :: (D, .deferred (some [])) :: (L ++ L0)) W1 := by
    have h1 := (hI.alloc (.deferred (some []))).alloc (.loop (rec .ready none))
    rw [hW1] at h1
    have e1 : (w.alloc (.deferred (some []))).heap.size = l := by rw [hl]; simp
    rw [e1] at h1; rw [hD]; exact h1
  have henter : (Instr.enterLoop fn (mkAct n e ds).tmps ps.toArray assign body (FW none).round).run P w = .ok (l, [mark D]) W1 := by
    show (Instr.enterLoop fn (arr n e) ps.toArray assign body none).run P w = _
    rw [run_enterLoop_outer, ← hW1, hrec, hl, hD]; rfl
  clear hW1 hI
  refine ⟨l, [mark D], W1, { target := .fn (.func gf) lb.toArray, args := #[.func (.yield l) #[] #[]] }, W1, gf, (.func (.yield l) #[] #[] :: lb).toArray, W1, henter, ?_, ?_, ?_, ?_, ?_⟩
  · simp only [resolve, eval_mk hf1, hg]
    simp [Act.eval, Deferred.ofValue]
  · intro f' _; trivial
  · have h1 := callFunc_go (P := P) (args := (.func (.yield l) #[] #[] :: lb).toArray) (w := W1) it.go
    show Sem.run P (callFunc gf (#[Value.func (.yield l) #[] #[]] ++ lb.toArray)) W1 = _
    rw [show (#[Value.func (.yield l) #[] #[]] ++ lb.toArray) = (.func (.yield l) #[] #[] :: lb).toArray by simp]
    exact h1
  · intro h; simp [FW] at h
  -- where the loop begins
  have hp1 : ((l, Obj.loop (rec .ready none)) :: (D, Obj.deferred (some [])) :: (L ++ L0)).Perm (Lo ++ ((l, Obj.loop (rec .ready none)) :: (D, Obj.deferred (some [])) :: (Lf ++ L0))) := by
    have q := hL.perm
    have q2 : (L ++ L0).Perm (Lo ++ (Lf ++ L0)) := by
      rw [← List.append_assoc]; exact (q.trans List.perm_append_comm).append_right L0
    exact ((q2.cons _).cons _).trans ((List.perm_middle.symm.cons _).trans List.perm_middle.symm)
  obtain ⟨m1, L1, hI2, hle1, hi0⟩ := h0 _ _ (hI1.perm hp1)
  clear hI1 hp1 h0 henter
  let J : Nat → Mem → Lst → Prop := fun k m' L' => ∃ Li, L' = (l, .loop (rec .ready none)) :: (D, .deferred (some [])) :: Li ∧ I k m' Li
  let Jx : Mem → Lst → Prop := fun m' L' => ∃ Li x c, isJump x c ∧ L' = (l, .loop (rec .done (some c))) :: (D, .deferred (some [])) :: Li ∧ Ix x m' Li
  have hround : ∀ k args m' L', A k args m' → m.Le m' → J k m' L' → YA P l args m' L' (fun v m2 L2 => m'.Le m2 ∧ ((v = .bool true ∧ J (k + 1) m2 L2) ∨ (v = .bool false ∧ Jx m2 L2))) := by
    rintro k args m2 L2 hx hle ⟨Li, rfl, hi⟩
    refine ⟨fun L0' w2 hIw => ?_⟩
    have hlw : w2.heap[l]? = some (.loop (rec .ready none)) := (hIw.own (l, .loop (rec .ready none)) (by simp)).1
    have hsz : args.length = ps.length := hps k args m2 hx
    have hy := run_yield (P := P) (args := args.toArray) hlw (by rw [hrec]; simpa using hsz)
    unfold callV
    have e1 : (do let q ← Deferred.ofValue (.func (.yield l) #[] #[]) args.toArray; invoke q.target q.args : Sem Next).run P w2 = (Instr.yield l args.toArray).run P w2 := by
      simp [Deferred.ofValue, invoke]
    rw [e1, hy]
    have etm : (rec .ready none).tmps = arr n e := by rw [hrec]
    have eps : (rec .ready none).params = ps.toArray := by rw [hrec]
    have eas : (rec .ready none).assign = assign := by rw [hrec]
    have ebo : (rec .ready none).body = body := by rw [hrec]
    rw [etm, eps, eas, ebo]
    have etmps : (ps.toArray.zip args.toArray).foldl (fun tmps (x : Tmp × Value) => match x with | (t, a) => tmps.setIfInBounds t a) (arr n e) = arr n (setE e ps args) := by
      have : ps.toArray.zip args.toArray = (ps.zip args).toArray := by simp
      rw [this]
      simp only [List.foldl_toArray']
      exact setE_arr n (ps.zip args) e
    rw [etmps]
    show RoundIn Fence.wide 0 P l _ _ _ _ w2 _
    refine roundIn_of_wpIn (F := Fence.wide) trivial ?_
    have ht := hbody l k args m2 Li hx hle hi
    have hs := S_sound assign hf2 _ _ _ _ (T_sound (L0 := (l, .loop (rec .ready none)) :: (D, .deferred (some [])) :: L0') assign ht (hIw.perm (by
      have : ((l, Obj.loop (rec .ready none)) :: (D, Obj.deferred (some [])) :: Li ++ L0').Perm (Li ++ ((l, Obj.loop (rec .ready none)) :: (D, Obj.deferred (some [])) :: L0')) := by
        simp only [List.cons_append]
        exact (List.perm_middle.symm.cons _).trans List.perm_middle.symm
      exact this)))
    refine wpIn_mono hs ?_
    rintro x a' w3 ⟨e', ds', rfl, m3, L3, hI3, hq⟩
    cases x with
    | normal =>
      obtain ⟨rfl, hq⟩ := hq
      have hl3 : w3.heap[l]? = some (.loop (rec .ready none)) := (hI3.own (l, .loop (rec .ready none)) (by simp)).1
      refine ⟨_, run_beginRound hl3 (by rw [hrec]), ?_⟩
      have hI4 : Inv m3 (L3 ++ ((l, .loop { rec .ready none with state := .busy }) :: (D, .deferred (some [])) :: L0')) (w3.putObj l (.loop { rec .ready none with state := .busy })) :=
        (Inv.putObj (hI3.perm List.perm_middle)).perm List.perm_middle.symm
      have hs2 := S_sound body hf3 _ _ _ _ (T_sound (L0 := (l, .loop { rec .ready none with state := .busy }) :: (D, .deferred (some [])) :: L0') body hq hI4)
      refine wpIn_mono hs2 ?_
      have fin : ∀ (jump : Option Code) (m5 : Mem) (L5 : Lst) (w5 : World), Inv m5 (L5 ++ ((l, .loop { rec .ready none with state := .busy }) :: (D, .deferred (some [])) :: L0')) w5 →
          (Instr.endRound l jump).run P w5 = .ok (.bool jump.isNone) (w5.putObj l (.loop (rec (if jump.isNone then .ready else .done) jump))) ∧
          Inv m5 (((l, .loop (rec (if jump.isNone then .ready else .done) jump)) :: (D, .deferred (some [])) :: L5) ++ L0') (w5.putObj l (.loop (rec (if jump.isNone then .ready else .done) jump))) := by
        intro jump m5 L5 w5 h5
        have hl5 : w5.heap[l]? = some (.loop { rec .ready none with state := .busy }) := (h5.own (l, .loop { rec .ready none with state := .busy }) (by simp)).1
        have hr := run_endRound (P := P) jump hl5
        have eq : ({ ({ rec .ready none with state := .busy } : Loop) with state := if jump.isNone then .ready else .done, pending := jump } : Loop) = rec (if jump.isNone then .ready else .done) jump := by rw [hrec]
        rw [eq] at hr
        refine ⟨hr, ?_⟩
        have h6 := Inv.putObj (o' := .loop (rec (if jump.isNone then .ready else .done) jump)) (h5.perm List.perm_middle)
        refine h6.perm (List.Perm.cons _ ?_)
        exact List.perm_middle
      rintro y a5 w5 ⟨e5, ds5, rfl, m4, L4, hI5, hq5⟩
      cases y with
      | normal =>
        obtain ⟨_, hq5⟩ := hq5
        obtain ⟨m5, L5, hI6, hm5, hi5⟩ := hq5 _ _ hI5
        obtain ⟨hr, hI7⟩ := fin none m5 L5 w5 hI6
        exact ⟨_, _, hr, m5, _, hI7, hm5, .inl ⟨rfl, L5, rfl, hi5⟩⟩
      | ret =>
        obtain ⟨_, hq5⟩ := hq5
        obtain ⟨m5, L5, hI6, hm5, hi5⟩ := hq5 _ _ hI5
        obtain ⟨hr, hI7⟩ := fin (some .ret) m5 L5 w5 hI6
        exact ⟨_, _, hr, m5, _, hI7, hm5, .inr ⟨rfl, L5, .ret, .ret, .inl ⟨rfl, rfl⟩, rfl, hi5⟩⟩
      | exit i =>
        obtain ⟨_, hq5⟩ := hq5
        obtain ⟨m5, L5, hI6, hm5, hi5⟩ := hq5 _ _ hI5
        obtain ⟨hr, hI7⟩ := fin (some (.exit i)) m5 L5 w5 hI6
        exact ⟨_, _, hr, m5, _, hI7, hm5, .inr ⟨rfl, L5, .exit i, .exit i, .inr (.inl ⟨i, rfl, rfl⟩), rfl, hi5⟩⟩
      | goto i =>
        obtain ⟨_, hq5⟩ := hq5
        obtain ⟨m5, L5, hI6, hm5, hi5⟩ := hq5 _ _ hI5
        obtain ⟨hr, hI7⟩ := fin (some (.goto i)) m5 L5 w5 hI6
        exact ⟨_, _, hr, m5, _, hI7, hm5, .inr ⟨rfl, L5, .goto i, .goto i, .inr (.inr ⟨i, rfl, rfl⟩), rfl, hi5⟩⟩
      | panic ch => exact hq5.elim
      | outgrown => exact hq5.elim
    | ret => exact hq.elim
    | exit i => exact hq.elim
    | goto i => exact hq.elim
    | panic ch => exact hq.elim
    | outgrown => exact hq.elim
  have hcall := (it.run l J Jx (fun k m' m2 L' hm ⟨Li, h1, h2⟩ => ⟨Li, h1, hIm _ _ _ _ hm h2⟩) hround m1 ((l, .loop (rec .ready none)) :: (D, .deferred (some [])) :: L1) hle1 ⟨L1, rfl, hi0⟩).run L0 W1 (hI2.perm (by
    have : (L1 ++ ((l, Obj.loop (rec .ready none)) :: (D, Obj.deferred (some [])) :: (Lf ++ L0))).Perm (((l, Obj.loop (rec .ready none)) :: (D, Obj.deferred (some [])) :: L1 ++ Lf) ++ L0) := by
      simp only [List.cons_append, List.append_assoc]
      exact List.perm_middle.trans (List.perm_middle.cons _)
    exact this))
  refine (calls_FW (n := 0) (ro := none) hcall.2).mono ?_
  rintro en w3 hq
  cases en with
  | returned v =>
    obtain ⟨m2, L2, hI3, L3, rfl, hle2, hJ | hJ⟩ := hq
    · obtain ⟨Li, rfl, hi⟩ := hJ
      have hl3 : w3.heap[l]? = some (.loop (rec .ready none)) := (hI3.own (l, .loop (rec .ready none)) (by simp)).1
      have hend := run_endLoop (P := P) hl3 (by rw [hrec]; simp)
      have ep : (rec .ready none).pending = none := by rw [hrec]
      rw [ep] at hend
      refine ⟨none, _, hend, ?_⟩
      have hI4 : Inv m2 (((D, .deferred (some [])) :: (Li ++ Lf)) ++ L0) (w3.putObj l (.loop { rec .ready none with state := .exhausted, pending := none })) := by
        have := (Inv.putObj (o' := .loop { rec .ready none with state := .exhausted, pending := none }) (L := ((D, .deferred (some [])) :: (Li ++ Lf)) ++ L0) (by simpa using hI3)).drop
        exact this
      exact ⟨e, mark D :: ds, rfl, m2, _, hI4, hdone D m2 Li (hle1.trans hle2) hi⟩
    · obtain ⟨Li, x, c, hj, rfl, hi⟩ := hJ
      have hl3 : w3.heap[l]? = some (.loop (rec .done (some c))) := (hI3.own (l, .loop (rec .done (some c))) (by simp)).1
      have hend := run_endLoop (P := P) hl3 (by rw [hrec]; simp)
      have ep : (rec .done (some c)).pending = some c := by rw [hrec]
      rw [ep] at hend
      refine ⟨some c, _, hend, ?_⟩
      have hI4 : Inv m2 (((D, .deferred (some [])) :: (Li ++ Lf)) ++ L0) (w3.putObj l (.loop { rec .done (some c) with state := .exhausted, pending := some c })) := by
        have := (Inv.putObj (o' := .loop { rec .done (some c) with state := .exhausted, pending := some c }) (L := ((D, .deferred (some [])) :: (Li ++ Lf)) ++ L0) (by simpa using hI3)).drop
        exact this
      exact wpIn_jump hj ⟨e, mark D :: ds, rfl, m2, _, hI4, hstop D x m2 Li (hle1.trans hle2) hi ⟨c, hj⟩⟩
  | panicked c => exact hq.elim
  | outgrown => exact hq.elim
/-- The same, of registers that are known. -/
theorem range_rf {g : Operand} {ps : List Tmp} {assign body : Code} {Q : QA} {e : En} {ds : DS} {m : Mem} {L Lf Lo : Lst} {gf : FuncId} {lb : List Value} {A : Nat → List Value → Mem → Prop} {cnt : Nat} (ρ : List (Nat × Value))
    (hfit : (Opfit n g && cfit n assign && cfit n body) = true) (it : IterR P gf lb m Lf A cnt) (hg : ev e g = .func (.func gf) #[] lb.toArray) (hL : Takes L Lf Lo) (hps : ∀ k args m', A k args m' → args.length = ps.length)
    (I : Nat → Mem → Lst → Prop) (Ix : Exit → Mem → Lst → Prop) (hIm : ∀ k m' m2 L', m'.Le m2 → I k m' L' → I k m2 L') (hρ : Fits e ρ) (h0 : endA (fun m' L' => m.Le m' ∧ I 0 m' L') m Lo)
    (hbody : ∀ e l k args m' L', Fits e ρ → A k args m' → m.Le m' → I k m' L' → T P (some l) n assign (asgQ fun e' m2 L2 => T P (some l) n body (rndQ m' I Ix k) e' [] m2 L2) (setE e ps args) [] m' L')
    (hdone : ∀ e D m' L', Fits e ρ → m.Le m' → I cnt m' L' → Q .normal e (mark D :: ds) m' ((D, .deferred (some [])) :: (L' ++ Lf)))
    (hstop : ∀ e D x m' L', Fits e ρ → m.Le m' → Ix x m' L' → (∃ c, isJump x c) → Q x e (mark D :: ds) m' ((D, .deferred (some [])) :: (L' ++ Lf))) :
    @rawCA ⟨P, none, n, .rangeFunc g ps.toArray assign body, Q⟩ e ds m L :=
  range_r hfit it hg hL hps I Ix hIm h0 (fun l k args m' L' => hbody e l k args m' L' hρ) (fun D m' L' => hdone e D m' L' hρ) (fun D x m' L' => hstop e D x m' L' hρ)
end
section
variable {P : Program} {C : KA} {m : Mem} {L : Lst}
/-- A slice that is made empty, with room. -/
theorem make_cap {T E : TypeId} {s by_ : Nat} {z : List Value} (h : slInfo P T = some (E, s, by_, z)) (hz : z.length = s) {kl kc : IntKind} {n : Nat} (hb : by_ * n ≤ 281474976710656) (h63 : n ≤ maxLen)
    (hk : ∀ v Lg, GS E s v 0 [] Lg → C.k v m (Lg ++ L)) : makeA P T (.int kl 0) (.int kc n) m L := by
  obtain ⟨hu, i, v, hi, hv, rfl, rfl, rfl⟩ := slInfo_parts h
  have hm : (n : Int) ≤ 9223372036854775807 := by simp only [maxLen] at h63; omega
  have hb2 : (i.bytes : Int) * (n : Int) ≤ 281474976710656 := by rw [← Int.natCast_mul]; omega
  intro L0 w hI
  unfold runV
  rw [run_make w T E i v hu hi hv kl kc 0 n (Int.le_refl _) (by omega) hb2 hm]
  have hs : i.size = v.cells.size := by rw [← hz]; simp
  rw [hs, Int.toNat_natCast, made_rep]
  have hg : GS E v.cells.size (.slice (some ⟨w.heap.size, 0, none⟩) 0 n) 0 [] [(w.heap.size, .cells ([] ++ rep n v.cells.toList).toArray E (0, 0))] :=
    ⟨by simp, .inr ⟨w.heap.size, n, rep n v.cells.toList, rfl, Nat.zero_le _, h63, by rw [rep_length]; simp, rfl⟩⟩
  rw [← hs] at hg
  exact ⟨m, (w.heap.size, _) :: L, hI.alloc _, hk _ _ hg⟩
end
end Go.Eng
