/- The engine of these proofs: the walk of a function's code as a plain recursion over an environment (slot -> value), sound for the kit's own 'Calls'. -/
import Derived.WalkKit
import Derived.CallsIn
import Derived.Laws.StructEq
import Derived.KernelRfl
set_option linter.all false
set_option linter.unusedSimpArgs false
set_option linter.unusedVariables false
namespace Go.Eng
open Go

abbrev En := Nat → Value
abbrev DS := List Deferred
def up (e : En) (d : Nat) (v : Value) : En := fun t => if t = d then v else e t
def updo (e : En) (d : Option Nat) (v : Value) : En :=
  match d with
  | some d => up e d v
  | none => e
def ev (e : En) : Operand → Value
  | .tmp t => e t
  | .const v => v
  | .global g => .pointer (some ⟨g, 0, none⟩)
  | .func f => .func (.func f) #[] #[]
def arr (n : Nat) (e : En) : Array Value := Array.ofFn (n := n) fun i => e i.val
def mkAct (n : Nat) (e : En) (ds : DS) : Act := { tmps := arr n e, defers := ds }

theorem arr_get (n : Nat) (e : En) (t : Nat) : (arr n e)[t]? = if t < n then some (e t) else none := by
  unfold arr
  split
  · rename_i h; rw [Array.getElem?_eq_getElem (by simpa using h)]; simp
  · rename_i h; rw [Array.getElem?_eq_none (by simp; omega)]

def Opfit (n : Nat) : Operand → Bool
  | .tmp t => decide (t < n)
  | _ => true

theorem eval_mk {n : Nat} {e : En} {ds : DS} {x : Operand} (h : Opfit n x = true) : (mkAct n e ds).eval x = ev e x := by
  cases x with
  | tmp t =>
    have ht : t < n := by simpa [Opfit] using h
    simp [Act.eval, ev, mkAct, Array.getD_eq_getD_getElem?, arr_get, ht]
  | const v => rfl
  | global g => rfl
  | func f => rfl

theorem set_arr (n : Nat) (e : En) (d : Nat) (v : Value) : (arr n e).setIfInBounds d v = arr n (up e d v) := by
  apply Array.ext
  · simp [arr]
  · intro i h1 h2
    have hi : i < n := by simpa [arr] using h2
    have e1 : ((arr n e).setIfInBounds d v)[i]? = (arr n (up e d v))[i]? := by
      rw [Array.getElem?_setIfInBounds, arr_get, arr_get]
      by_cases hd : d = i
      · subst hd; simp [up, hi, arr]
      · simp [hd, Ne.symm hd, up]
    rw [Array.getElem?_eq_getElem h1, Array.getElem?_eq_getElem h2] at e1
    exact Option.some.inj e1

theorem put_mk (n : Nat) (e : En) (ds : DS) (d : Option Nat) (v : Value) : (mkAct n e ds).put d v = mkAct n (updo e d v) ds := by
  cases d with
  | none => rfl
  | some d => simp [Act.put, mkAct, updo, set_arr]

/-- The environment with which a function begins. -/
def argE : List Value → En
  | [], _ => undef
  | a :: _, 0 => a
  | _ :: l, t + 1 => argE l t

theorem argE_eq (l : List Value) (t : Nat) : argE l t = (l[t]?).getD undef := by
  induction l generalizing t with
  | nil => simp [argE]
  | cons a l ih => cases t with
    | zero => simp [argE]
    | succ t => simp [argE, ih]

theorem start_arr (args : Array Value) (n : Nat) (h : args.size ≤ n) : args ++ Array.replicate (n - args.size) undef = arr n (argE args.toList) := by
  apply Array.ext
  · simp [arr]; omega
  · intro i h1 h2
    have hi : i < n := by simpa [arr] using h2
    simp only [arr, Array.getElem_ofFn, argE_eq]
    rw [Array.getElem_append]
    split
    · rename_i hlt; simp [Array.getElem?_toList, Array.getElem?_eq_getElem hlt]
    · rename_i hge; simp [Array.getElem?_toList, Array.getElem?_eq_none (Nat.le_of_not_lt hge)]

/-! ### Calls -/
/-- What a call comes to, if it returns. -/
def retR (R : Value → World → Prop) : Ending → World → Prop
  | .returned v, w => R v w
  | _, _ => False

/-- A function with a Go body. -/
def isGo (P : Program) (f : FuncId) : Bool :=
  match P.funcs[f]? with
  | some fn => fn.body.isSome && !(fn.name == "runtime.NumGoroutine")
  | none => false

/-- A contract: a call of f returns so. -/
def Ct (P : Program) (f : FuncId) (args : List Value) (w : World) (R : Value → World → Prop) : Prop :=
  isGo P f = true ∧ Calls P f args.toArray w (retR R)

/-- A contract that tells panics, too. -/
def CtP (P : Program) (f : FuncId) (args : List Value) (w : World) (R : Value → World → Prop) (X : List PanicEntry → World → Prop) : Prop :=
  isGo P f = true ∧ Calls P f args.toArray w fun
    | .returned v, w' => R v w'
    | .panicked ch, w' => X ch w'
    | .outgrown, _ => False

theorem Ct.mono {P : Program} {f : FuncId} {args : List Value} {w : World} {R R' : Value → World → Prop} (h : Ct P f args w R) (hr : ∀ v w', R v w' → R' v w') : Ct P f args w R' :=
  ⟨h.1, h.2.mono fun e w' q => by cases e <;> first | exact hr _ _ q | exact q⟩

theorem Ct.toP {P : Program} {f : FuncId} {args : List Value} {w : World} {R : Value → World → Prop} {X : List PanicEntry → World → Prop} (h : Ct P f args w R) : CtP P f args w R X :=
  ⟨h.1, h.2.mono fun e w' q => by cases e <;> first | exact q | exact q.elim⟩

theorem CtP.mono {P : Program} {f : FuncId} {args : List Value} {w : World} {R R' : Value → World → Prop} {X X' : List PanicEntry → World → Prop} (h : CtP P f args w R X)
    (hr : ∀ v w', R v w' → R' v w') (hx : ∀ c w', X c w' → X' c w') : CtP P f args w R' X' :=
  ⟨h.1, h.2.mono fun e w' q => by cases e <;> first | exact hr _ _ q | exact hx _ _ q | exact q⟩

/-! ### Operations -/
def runV (P : Program) (w : World) (s : Sem Value) (K : Value → World → Prop) (X : List PanicEntry → World → Prop) : Prop :=
  match s.run P w with
  | .ok v w' => K v w'
  | .halt (.panic v) w' => X [{ v, recovered := false }] w'
  | _ => False

def runU (P : Program) (w : World) (s : Sem Unit) (K : Value → World → Prop) (X : List PanicEntry → World → Prop) : Prop :=
  match s.run P w with
  | .ok _ w' => K undef w'
  | .halt (.panic v) w' => X [{ v, recovered := false }] w'
  | _ => False

/-- The round of a loop over a function. -/
def roundP (P : Program) (l : Nat) (f : FuncId) (tmps : Array Value) (assign body : Code) (w : World) (K : Value → World → Prop) (X : List PanicEntry → World → Prop) : Prop :=
  RoundIn Fence.wide 0 P l f tmps assign body w fun
    | .returned v, w' => K v w'
    | .panicked ch, w' => X ch w'
    | .outgrown, _ => False

/-- What an operation does next. -/
def upE (P : Program) (K : Value → World → Prop) (KD : Deferred → World → Prop) (X : List PanicEntry → World → Prop) : Result Next → Prop
  | .ok (.value v) w' => K v w'
  | .ok .skip w' => K undef w'
  | .ok (.defer d) w' => KD d w'
  | .ok (.enter f args) w' => Calls P f args w' fun
      | .returned v, w'' => K v w''
      | .panicked ch, w'' => X ch w''
      | .outgrown, _ => False
  | .ok (.round l f tmps assign body) w' => roundP P l f tmps assign body w' K X
  | .halt (.panic v) w' => X [{ v, recovered := false }] w'
  | _ => False

def sop (P : Program) (ro : Option Nat) (o : Oper) (e : En) (K : Value → World → Prop) (KD : Deferred → World → Prop) (X : List PanicEntry → World → Prop) (w : World) : Prop :=
  upE P K KD X ((o.semAt ro (ev e)).run P w)

def FW (ro : Option Nat) : Fence := { fn := fun _ => True, depth := none, alive := false, round := ro }

theorem calls_FW {n : Nat} {P : Program} {ro : Option Nat} {f : FuncId} {args : Array Value} {w : World} {R : Ending → World → Prop} (h : Calls P f args w R) : CallsIn (FW ro) n P f args w R :=
  (callsIn_wide (n := n)).2 h

theorem round_FW {n : Nat} {P : Program} {ro : Option Nat} {l : Nat} {f : FuncId} {tmps : Array Value} {a b : Code} {w : World} {R : Ending → World → Prop} (h : RoundIn Fence.wide 0 P l f tmps a b w R) : RoundIn (FW ro) n P l f tmps a b w R :=
  ⟨trivial, fun c cs _ => h.2 c cs (room_wide _)⟩

/-- The exits of a piece of code, over environments. -/
abbrev QT := Exit → En → DS → World → Prop
def lift (n : Nat) (Q : QT) : Exit → Act → World → Prop := fun x a w => ∃ e ds, a = mkAct n e ds ∧ Q x e ds w

theorem upE_sound {P : Program} {ro : Option Nat} {n : Nat} {o : Oper} {e : En} {ds : DS} {K : Value → World → Prop} {KD : Deferred → World → Prop} {X : List PanicEntry → World → Prop}
    {r : Result Next} {next : Act → World → Prop} {Q : Exit → Act → World → Prop}
    (hK : ∀ v w, K v w → next (mkAct n (updo e o.dst v) ds) w) (hD : ∀ d w, KD d w → next (mkAct n (updo e o.dst undef) (d :: ds)) w) (hX : ∀ ch w, X ch w → Q (.panic ch) (mkAct n e ds) w)
    (h : upE P K KD X r) : o.uponIn (FW ro) 0 P (mkAct n e ds) next Q r := by
  unfold upE at h
  unfold Oper.uponIn
  split at h
  · simp only [put_mk]; exact hK _ _ h
  · simp only [put_mk]; exact hK _ _ h
  · rename_i d w'
    show next ((mkAct n e (d :: ds)).put o.dst undef) w'
    rw [put_mk]; exact hD _ _ h
  · refine ⟨fun h => by simp [FW] at h, calls_FW (h.mono fun en w' q => ?_)⟩
    cases en with
    | returned v => simp only [put_mk]; exact hK _ _ q
    | panicked ch => exact hX _ _ q
    | outgrown => exact q.elim
  · refine ⟨fun h => by simp [FW] at h, round_FW (RoundIn.mono h fun en w' q => ?_)⟩
    cases en with
    | returned v => simp only [put_mk]; exact hK _ _ q
    | panicked ch => exact hX _ _ q
    | outgrown => exact q.elim
  · exact hX _ _ h
  · exact h.elim

/-- What comes next, kept where simp does not look. -/
class KX where
  k : Value → World → Prop
  kd : Deferred → World → Prop
  x : List PanicEntry → World → Prop
class PP where
  a : Prop
  b : Prop
theorem KX_k {k : Value → World → Prop} {kd : Deferred → World → Prop} {x : List PanicEntry → World → Prop} {v : Value} {w : World} : (KX.mk k kd x).k v w = k v w := rfl
theorem KX_kd {k : Value → World → Prop} {kd : Deferred → World → Prop} {x : List PanicEntry → World → Prop} {v : Deferred} {w : World} : (KX.mk k kd x).kd v w = kd v w := rfl
theorem KX_x {k : Value → World → Prop} {kd : Deferred → World → Prop} {x : List PanicEntry → World → Prop} {v : List PanicEntry} {w : World} : (KX.mk k kd x).x v w = x v w := rfl
theorem PP_a {a b : Prop} : (PP.mk a b).a = a := rfl
theorem PP_b {a b : Prop} : (PP.mk a b).b = b := rfl

section mem0
variable {P : Program} {w : World}
theorem upE_val {K : Value → World → Prop} {KD : Deferred → World → Prop} {X : List PanicEntry → World → Prop} (s : Sem Value) : upE P K KD X ((do pure (Next.value (← s)) : Sem Next).run P w) = runV P w s K X := by
  rw [Sem.run_bind]
  unfold runV
  cases s.run P w with
  | ok v w' => rfl
  | halt h w' => cases h <;> rfl

theorem upE_unit {K : Value → World → Prop} {KD : Deferred → World → Prop} {X : List PanicEntry → World → Prop} (s : Sem Unit) : upE P K KD X ((do s; pure Next.skip : Sem Next).run P w) = runU P w s K X := by
  rw [Sem.run_bind]
  unfold runU
  cases s.run P w with
  | ok v w' => rfl
  | halt h w' => cases h <;> rfl

/-- How many cells a variable of a type has: 'none' inside: it is read as one value; 'some n': as n cells taken together. -/
def shapeOf (P : Program) (T : TypeId) : Option (Option Nat) :=
  match P.underlying T, P.info? T with
  | some (.struct _), some i => some (some i.size)
  | some (.array _ _), some i => some (some i.size)
  | some _, some _ => some none
  | _, _ => none

theorem shapeOf_one {T : TypeId} (h : shapeOf P T = some none) : (isAgg T).run P w = .ok false w := by
  unfold shapeOf at h
  split at h
  · simp at h
  · simp at h
  · rename_i dd ii h3 h4 h1 h2
    unfold isAgg
    rw [Sem.run_bind, run_underlying h1]
    cases dd <;> first
      | rfl
      | (exfalso; exact h3 _ _ rfl h2)
      | (exfalso; exact h3 _ _ rfl rfl)
      | (exfalso; exact h4 _ _ _ rfl h2)
      | (exfalso; exact h4 _ _ _ rfl rfl)
      | (exfalso; simp_all; done)
  · simp at h

theorem shapeOf_agg {T : TypeId} {n : Nat} (h : shapeOf P T = some (some n)) : (isAgg T).run P w = .ok true w ∧ (sizeOf T).run P w = .ok n w := by
  unfold shapeOf at h
  split at h
  · rename_i fs i h1 h2
    simp only [Option.some.injEq] at h
    refine ⟨?_, ?_⟩
    · unfold isAgg; rw [Sem.run_bind, run_underlying h1]; rfl
    · simp [sizeOf, typeInfo, h2, h]
  · rename_i m el i h1 h2
    simp only [Option.some.injEq] at h
    refine ⟨?_, ?_⟩
    · unfold isAgg; rw [Sem.run_bind, run_underlying h1]; rfl
    · simp [sizeOf, typeInfo, h2, h]
  · simp at h
  · simp at h

/-- The n cells from an address on. -/
def cellsAt (w : World) (p : Addr) : Nat → Nat → Option (List Value)
  | 0, _ => some []
  | n + 1, i => match w.cell? (p.add i) with
    | some v => (cellsAt w p n (i + 1)).map (v :: ·)
    | none => none
theorem run_loadCellsFrom_at {p : Addr} (n i : Nat) (acc : Array Value) (cs : List Value) (h : cellsAt w p n i = some cs) : (loadCellsFrom p i n acc).run P w = .ok (acc ++ cs.toArray) w := by
  induction n generalizing i acc cs with
  | zero => simp only [cellsAt, Option.some.injEq] at h; subst h; simp [loadCellsFrom]
  | succ n ih =>
    unfold cellsAt at h
    split at h
    · rename_i v hv
      simp only [Option.map_eq_some_iff] at h
      obtain ⟨r, hr, rfl⟩ := h
      simp only [loadCellsFrom, Sem.run_bind, run_load, hv, Result.andThen_ok]
      rw [ih _ _ _ hr]
      congr 1
      simp
    · simp at h
/-- A store of cells, one behind the other. -/
def setCells (w : World) (p : Addr) : List Value → Nat → World
  | [], _ => w
  | v :: l, i => setCells (w.setCell (p.add i) v) p l (i + 1)
/-- The cells are there and may be written. -/
def wrOk (w : World) (p : Addr) : Nat → Nat → Bool
  | 0, _ => true
  | n + 1, i => (w.cell? (p.add i)).isSome && !w.frozen? (p.add i) && wrOk w p n (i + 1)
theorem setCell_isSome {p q : Addr} {v : Value} : ((w.setCell p v).cell? q).isSome = (w.cell? q).isSome := by
  by_cases h : p = q
  · subst h
    cases hc : w.cell? p with
    | some u => rw [World.cell?_setCell_same w p v hc]; rfl
    | none =>
      unfold World.cell? World.setCell at *
      simp only [Array.getElem?_modify, if_true]
      cases hb : w.heap[p.block]? with
      | none => simp
      | some o =>
        rw [hb] at hc
        cases o <;> simp_all
  · rw [World.cell?_setCell_other w p q v h]
theorem wrOk_setCell {p q : Addr} {v : Value} (n i : Nat) : wrOk (w.setCell q v) p n i = wrOk w p n i := by
  induction n generalizing i with
  | zero => rfl
  | succ n ih => simp only [wrOk, setCell_isSome, World.frozen?_setCell, ih]
theorem run_storeCells {p : Addr} (vs : List Value) (i : Nat) (hw : wrOk w p vs.length i = true) (h1 : ∀ v ∈ vs, v.oneCell' = true) : (storeCells p vs i).run P w = .ok () (setCells w p vs i) := by
  induction vs generalizing i w with
  | nil => rfl
  | cons v vs ih =>
    simp only [List.length_cons, wrOk, Bool.and_eq_true, Bool.not_eq_true'] at hw
    obtain ⟨⟨hc, hf⟩, hr⟩ := hw
    obtain ⟨u, hu⟩ := Option.isSome_iff_exists.1 hc
    simp only [storeCells, Sem.run_bind, run_store P w _ v _ (h1 v (by simp)), hu, hf, Bool.false_eq_true, if_false, Result.andThen_ok]
    rw [ih (i + 1) (by rw [wrOk_setCell]; exact hr) (fun x hx => h1 x (by simp [hx]))]
    rfl

def sizeIs (P : Program) (T : TypeId) (n : Nat) : Bool := match P.info? T with | some i => i.size == n | none => false
def oneAll (l : List Value) : Bool := l.all Value.oneCell'
/-- A load, where the cells are there. -/
def cellC (o : Option Value) [C : KX] (w : World) : Prop := match o with | some v => C.k v w | none => False
def cellsC (o : Option (List Value)) [C : KX] (w : World) : Prop := match o with | some l => C.k (.agg l.toArray) w | none => False
def loadM (s : Option (Option Nat)) (a : Value) [C : KX] (w : World) : Prop :=
  match s, a with
  | some none, .pointer (some p) => cellC (w.cell? p) w
  | some (some n), .pointer (some p) => cellsC (cellsAt w p n 0) w
  | _, _ => False
def loadS (P : Program) (T : TypeId) (a : Value) [C : KX] (w : World) : Prop := loadM (shapeOf P T) a w
theorem loadS_sound {T : TypeId} {a : Value} {C : KX} (h : loadS P T a w) : runV P w (Instr.loadAt T a) C.k C.x := by
  unfold loadS loadM at h
  split at h
  · rename_i p hs
    unfold cellC at h
    split at h
    · rename_i v hv
      simp only [runV, Instr.loadAt, Instr.sureAddr, Sem.run_bind, Sem.run_pure, Result.andThen_ok, loadVar, shapeOf_one hs, Bool.false_eq_true, if_false, run_load, hv]
      exact h
    · exact h.elim
  · rename_i n p hs
    unfold cellsC at h
    split at h
    · rename_i cs hcs
      obtain ⟨h1, h2⟩ := shapeOf_agg (w := w) hs
      simp only [runV, Instr.loadAt, Instr.sureAddr, Sem.run_bind, Sem.run_pure, Result.andThen_ok, loadVar, h1, if_true, h2, loadCells, run_loadCellsFrom_at n 0 #[] cs hcs]
      simpa using h
    · exact h.elim
  · exact h.elim
def gateC (p : Prop) [C : PP] : Prop := p ∧ C.a
/-- A store, where the cells are there and may be written. -/
def storeM (a v : Value) (ok : Bool) [C : KX] (w : World) : Prop :=
  match a with
  | .pointer (some p) => @gateC ((ok && oneAll v.cells.toList && wrOk w p v.cells.size 0) = true) ⟨C.k undef (setCells w p v.cells.toList 0), False⟩
  | _ => False
def storeS (P : Program) (T : TypeId) (a v : Value) [C : KX] (w : World) : Prop := storeM a v (sizeIs P T v.cells.size) w
theorem storeS_sound {T : TypeId} {a v : Value} {C : KX} (h : storeS P T a v w) : runU P w (Instr.storeAt T a v) C.k C.x := by
  unfold storeS storeM at h
  split at h
  · rename_i p
    obtain ⟨h, hk⟩ := h
    simp only [Bool.and_eq_true] at h
    obtain ⟨⟨hs, ho⟩, hw⟩ := h
    unfold sizeIs at hs
    cases hi : P.info? T with
    | none => simp [hi] at hs
    | some i =>
      have hsz : i.size = v.cells.size := by simpa [hi] using hs
      have h1 := run_storeCells (P := P) (w := w) (p := p) v.cells.toList 0 (by simpa using hw) (fun x hx => List.all_eq_true.1 ho x hx)
      simp only [runU, Instr.storeAt, Instr.sureAddr, Sem.run_bind, Sem.run_pure, Result.andThen_ok, storeVar, sizeOf, typeInfo, run_program, hi, Sem.run_map, hsz, ne_eq, not_true_eq_false, if_false, h1]
      exact hk
  · exact h.elim

/-- What an operation comes to; loads and stores just where they go through. -/
def sopC (P : Program) (ro : Option Nat) (o : Oper) (e : En) [C : KX] (w : World) : Prop :=
  match o.op with
  | .load T x => loadS P T (ev e x) w
  | .store T x y => storeS P T (ev e x) (ev e y) w
  | _ => sop P ro o e C.k C.kd C.x w
theorem sopC_sound {ro : Option Nat} {o : Oper} {e : En} {C : KX} (h : sopC P ro o e w) : sop P ro o e C.k C.kd C.x w := by
  unfold sopC at h
  split at h
  · rename_i T x ho
    unfold sop
    rw [Oper.semAt_eq _ _ _ (by intro c; simp [ho])]
    simp only [execOp, ho]
    rw [upE_val]; exact loadS_sound h
  · rename_i T x y ho
    unfold sop
    rw [Oper.semAt_eq _ _ _ (by intro c; simp [ho])]
    simp only [execOp, ho]
    rw [upE_unit]; exact storeS_sound h
  · exact h
end mem0

/-! ### Regions -/
def yld (dl : List (Option Nat)) (e : En) (j : Nat) : Value :=
  match dl[j]? with
  | some (some d) => e d
  | _ => undef

/-- A guarded operation: done just if the value is that bool. -/
def guardP (v : Value) (want : Bool) (A B : Prop) : Prop :=
  match v with
  | .bool b => (b = want → A) ∧ (b = !want → B)
  | _ => B

def sops (P : Program) (ro : Option Nat) (dl : List (Option Nat)) (K : En → DS → World → Prop) (X : List PanicEntry → En → DS → World → Prop) : List Oper → En → DS → World → Prop
  | [], e, ds, w => K e ds w
  | o :: rest, e, ds, w =>
    let A := @sopC P ro o e ⟨fun v w' => sops P ro dl K X rest (updo e o.dst v) ds w', fun d w' => sops P ro dl K X rest (updo e o.dst undef) (d :: ds) w', fun ch w' => X ch e ds w'⟩ w
    match o.guard with
    | none => A
    | some (j, want) => guardP (yld dl e j) want A (sops P ro dl K X rest (updo e o.dst undef) ds w)

def opFit (n : Nat) (o : Oper) : Bool := o.op.operands.all (Opfit n) && (match o.op with | .select .. => false | _ => true)
def opsFit (n : Nat) (ops : List Oper) : Bool := ops.all fun o => opFit n o && (match o.guard with | none => true | some (j, _) => match (ops[j]?).bind (·.dst) with | some d => decide (d < n) | none => false)

theorem map_ext_mem {α β : Type} (l : Array α) (f g : α → β) (h : ∀ x ∈ l, f x = g x) : l.map f = l.map g := by
  apply Array.ext
  · simp
  · intro i h1 h2; simp; exact h _ (by simp)

theorem execOp_ext {ρ σ : Operand → Value} {o : Oper} (hs : ∀ cs b, o.op ≠ .select cs b) (h : ∀ x ∈ o.op.operands, ρ x = σ x) : execOp ρ o = execOp σ o := by
  have hcall : ∀ c : Call, (∀ x ∈ c.operands, ρ x = σ x) → resolve ρ c o.type = resolve σ c o.type := by
    intro c hc
    have hargs : c.args.map ρ = c.args.map σ := map_ext_mem _ _ _ fun x hx => hc x (by simp [Call.operands, hx])
    unfold resolve
    cases hk : c.callee with
    | value f => simp only [hargs]; rw [hc f (by simp [Call.operands, hk])]
    | invoke r m => simp only [hargs]; rw [hc r (by simp [Call.operands, hk])]
    | builtin b => simp only [hargs]
  have hopt : ∀ (m : Option Operand), (∀ x, m = some x → ρ x = σ x) → m.map ρ = m.map σ := by
    intro m hm; cases m with
    | none => rfl
    | some x => simp [hm x rfl]
  have hparts : ∀ (ps : Array (Nat × Operand)), (∀ x ∈ (ps.toList.map (·.2)), ρ x = σ x) → (ps.map fun (i, x) => (i, ρ x)) = ps.map fun (i, x) => (i, σ x) := by
    intro ps hp
    refine map_ext_mem _ _ _ fun x hx => ?_
    have := hp x.2 (by simp; exact ⟨x.1, by simpa using hx⟩)
    simp [this]
  unfold execOp
  cases ho : o.op <;> simp only [ho, Op.operands] at h ⊢
  case move x => rw [h x (by simp)]
  case assign x => rw [h x (by simp)]
  case pick c a b => rw [h c (by simp), h a (by simp), h b (by simp)]
  case box t x => rw [h x (by simp)]
  case build t ps => rw [hparts ps (by simpa using h)]
  case buildSlice t l ps => rw [hparts ps (by simpa using h)]
  case insert t a b c => rw [h a (by simp), h b (by simp), h c (by simp)]
  case load t x => rw [h x (by simp)]
  case store t a b => rw [h a (by simp), h b (by simp)]
  case nilCheck x => rw [h x (by simp)]
  case binOp op t a b u => rw [h a (by simp), h b (by simp)]
  case unOp op t a => rw [h a (by simp)]
  case convert s d a => rw [h a (by simp)]
  case sliceToArrayPointer t a => rw [h a (by simp)]
  case makeInterface t a => rw [h a (by simp)]
  case makeFunc f a b => rw [map_ext_mem a ρ σ (fun x hx => h x (by simp [hx])), map_ext_mem b ρ σ (fun x hx => h x (by simp [hx]))]
  case makeMap t r => rw [hopt r (fun x hx => h x (by simp [hx]))]
  case makeChan t a => rw [h a (by simp)]
  case makeSlice t a b => rw [h a (by simp), h b (by simp)]
  case slice t x l hh m => rw [h x (by simp), hopt l (fun y hy => h y (by simp [hy])), hopt hh (fun y hy => h y (by simp [hy])), hopt m (fun y hy => h y (by simp [hy]))]
  case fieldAddr t x f => rw [h x (by simp)]
  case field t x f => rw [h x (by simp)]
  case indexAddr t a b => rw [h a (by simp), h b (by simp)]
  case index t a b => rw [h a (by simp), h b (by simp)]
  case lookup t a b ok => rw [h a (by simp), h b (by simp)]
  case mapUpdate t a b c => rw [h a (by simp), h b (by simp), h c (by simp)]
  case mapEntry t a b => rw [h a (by simp), h b (by simp)]
  case entryStore t a b c => rw [h a (by simp), h b (by simp), h c (by simp)]
  case range t a => rw [h a (by simp)]
  case next a b => rw [h a (by simp)]
  case entry a => rw [h a (by simp)]
  case typeAssert a t u ok => rw [h a (by simp)]
  case extract a i => rw [h a (by simp)]
  case call c => rw [hcall c h]
  case go c => rw [hcall c h]
  case defer c => rw [hcall c h]
  case panic a => rw [h a (by simp)]
  case send a b => rw [h a (by simp), h b (by simp)]
  case recv t a ok => rw [h a (by simp)]
  case select cs b => exact absurd ho (hs cs b)

theorem semAt_ext {ro : Option Nat} {ρ σ : Operand → Value} {o : Oper} (hs : ∀ cs b, o.op ≠ .select cs b) (h : ∀ x ∈ o.op.operands, ρ x = σ x) : o.semAt ro ρ = o.semAt ro σ := by
  unfold Oper.semAt
  rw [execOp_ext hs h]
  cases ro with
  | none => rfl
  | some l =>
    cases ho : o.op <;> simp only
    case defer c =>
      have hc : ∀ x ∈ c.operands, ρ x = σ x := by intro x hx; exact h x (by rw [ho]; exact hx)
      have hargs : c.args.map ρ = c.args.map σ := map_ext_mem _ _ _ fun x hx => hc x (by simp [Call.operands, hx])
      have : resolve ρ c o.type = resolve σ c o.type := by
        unfold resolve
        cases hk : c.callee with
        | value f => simp only [hargs]; rw [hc f (by simp [Call.operands, hk])]
        | invoke r m => simp only [hargs]; rw [hc r (by simp [Call.operands, hk])]
        | builtin b => simp only [hargs]
      rw [this]

theorem opFit_select {n : Nat} {o : Oper} (h : opFit n o = true) : ∀ cs b, o.op ≠ .select cs b := by
  intro cs b hc; simp [opFit, hc] at h

theorem opFit_eval {n : Nat} {o : Oper} {e : En} {ds : DS} (h : opFit n o = true) : ∀ x ∈ o.op.operands, (mkAct n e ds).eval x = ev e x := by
  intro x hx
  simp only [opFit, Bool.and_eq_true, Array.all_eq_true_iff_forall_mem] at h
  exact eval_mk (h.1 x hx)

theorem guardP_skip {v : Value} {want : Bool} {A B : Prop} (h : guardP v want A B) (hv : v ≠ .bool want) : B := by
  unfold guardP at h
  split at h
  · rename_i b
    exact h.2 (by cases b <;> cases want <;> simp_all)
  · exact h

theorem guardP_do {want : Bool} {A B : Prop} (h : guardP (.bool want) want A B) : A := h.1 rfl

theorem sops_sound {P : Program} {ro : Option Nat} {n : Nat} {ops : Array Oper} {K : En → DS → World → Prop} {X : List PanicEntry → En → DS → World → Prop} {Q : Exit → Act → World → Prop}
    (hfit : opsFit n ops.toList = true) (hK : ∀ e ds w, K e ds w → Q .normal (mkAct n e ds) w) (hX : ∀ ch e ds w, X ch e ds w → Q (.panic ch) (mkAct n e ds) w) :
    ∀ (l : List Nat) (os : List Oper) (e : En) (ds : DS) (w : World), l.map (fun i => ops[i]?) = os.map some → (∀ o ∈ os, o ∈ ops.toList) →
      sops P ro (ops.toList.map (·.dst)) K X os e ds w → wpOpsIn (FW ro) 0 P ops Q l (mkAct n e ds) w := by
  intro l
  induction l with
  | nil =>
    intro os e ds w hl hm h
    cases os with
    | nil => exact hK _ _ _ h
    | cons o os => simp at hl
  | cons i l ih =>
    intro os e ds w hl hm h
    cases os with
    | nil => simp at hl
    | cons o os =>
      simp only [List.map_cons, List.cons.injEq] at hl
      obtain ⟨hi, hl⟩ := hl
      have hmem : o ∈ ops.toList := hm o (by simp)
      have hm' : ∀ o ∈ os, o ∈ ops.toList := fun x hx => hm x (by simp [hx])
      have hof : opFit n o = true ∧ (match o.guard with | none => true | some (j, _) => match ((ops.toList)[j]?).bind (·.dst) with | some d => decide (d < n) | none => false) = true := by
        have := List.all_eq_true.1 hfit o hmem
        simpa only [Bool.and_eq_true] using this
      have hA : @sopC P ro o e ⟨fun v w' => sops P ro (ops.toList.map (·.dst)) K X os (updo e o.dst v) ds w', fun d w' => sops P ro (ops.toList.map (·.dst)) K X os (updo e o.dst undef) (d :: ds) w', fun ch w' => X ch e ds w'⟩ w →
          o.wpIn (FW ro) 0 P (mkAct n e ds) w (wpOpsIn (FW ro) 0 P ops Q l) Q := by
        intro hA
        refine ⟨fun _ _ => trivial, ?_⟩
        rw [show (FW ro).round = ro from rfl, semAt_ext (opFit_select hof.1) (opFit_eval hof.1)]
        exact upE_sound (fun v w q => ih _ _ _ _ hl hm' q) (fun d w q => ih _ _ _ _ hl hm' q) (fun ch w q => hX _ _ _ _ q) (sopC_sound hA)
      simp only [wpOpsIn, hi]
      simp only [sops] at h
      cases hg : o.guard with
      | none =>
        simp only [hg] at h
        have hw : Region.wanted o (yielded ops (mkAct n e ds).tmps) = true := by simp [Region.wanted, hg]
        rw [if_pos hw]; exact hA h
      | some g =>
        obtain ⟨j, want⟩ := g
        simp only [hg] at h
        have hfj := hof.2
        rw [hg] at hfj
        simp only [Array.getElem?_toList] at hfj
        cases hd' : (ops[j]?).bind (·.dst) with
        | none => rw [hd'] at hfj; simp at hfj
        | some d =>
          rw [hd'] at hfj
          simp only [decide_eq_true_eq] at hfj
          have hd : ((ops.toList)[j]?).bind (·.dst) = some d := by rw [Array.getElem?_toList]; exact hd'
          have hy : yld (ops.toList.map (·.dst)) e j = e d := by
            unfold yld
            cases ho : (ops.toList)[j]? with
            | none => simp [ho] at hd
            | some oj => simp only [ho, Option.bind_some] at hd; rw [List.getElem?_map, ho]; simp [hd]
          have hyy : yielded ops (mkAct n e ds).tmps j = match e d with | .bool b => some b | _ => none := by
            unfold yielded
            simp only [hd', Option.bind_some, mkAct, arr_get, if_pos hfj]
            split <;> simp_all
          rw [hy] at h
          by_cases hw : e d = .bool want
          · have hw' : Region.wanted o (yielded ops (mkAct n e ds).tmps) = true := by simp [Region.wanted, hg, hyy, hw]
            rw [if_pos hw']
            rw [hw] at h
            exact hA (guardP_do h)
          · have hw' : ¬ Region.wanted o (yielded ops (mkAct n e ds).tmps) = true := by
              simp only [Region.wanted, hg, hyy]
              intro hc
              cases hed : e d <;> simp [hed] at hc
              subst hc; exact hw hed
            rw [if_neg hw']
            refine ⟨fun _ _ => trivial, ?_⟩
            rw [put_mk]
            exact ih _ _ _ _ hl hm' (guardP_skip h hw)

/-! ### Code -/
def thenQ (K : En → DS → World → Prop) (Q : QT) : QT
  | .normal, e, ds, w => K e ds w
  | x, e, ds, w => Q x e ds w

def blockQ (id : Nat) (Q : QT) : QT
  | .exit i, e, ds, w => if i = id then Q .normal e ds w else Q (.exit i) e ds w
  | x, e, ds, w => Q x e ds w

def condP (v : Value) (A B : Prop) : Prop :=
  match v with
  | .bool b => (b = true → A) ∧ (b = false → B)
  | _ => False

def loopP (body : QT → En → DS → World → Prop) (Q : QT) (e : En) (ds : DS) (w : World) : Prop :=
  ∃ (γ : Type) (I : γ → En → DS → World → Prop) (μ : γ → Nat) (g : γ), I g e ds w ∧
    ∀ g e ds w, I g e ds w → body (thenQ (fun e' ds' w' => ∃ g', I g' e' ds' w' ∧ μ g' < μ g) Q) e ds w

/-- A region that draws its order. -/
def drawP (P : Program) (ro : Option Nat) (n : Nat) (ops : Array Oper) (Q : QT) (e : En) (ds : DS) (w : World) : Prop :=
  ∀ t, wpOpsIn (FW ro) 0 P ops (lift n Q) (Region.schedule (P.follows .mixedOrders) ops t) (mkAct n e ds) { w with drawn := w.drawn + 1 }

/-- A piece of code, in frames of functions that there are. -/
def WG (P : Program) (ro : Option Nat) (c : Code) (Q : Exit → Act → World → Prop) (a : Act) (w : World) : Prop :=
  ∀ (b : Frame) (k : List Item) (cs : List Frame), b.roundOf = ro → (P.funcs[b.fn]?).isSome = true →
    ∃ e a' w', Q e a' w' ∧ ArrivesIn (Machine.fenced P (FW ro)) P (lone (b.atR a (.code c :: k)) cs w) b k cs e a' w'
theorem room_FW (ro : Option Nat) (n : Nat) : (FW ro).room n := fun _ h => by simp [FW] at h
section wg
variable {P : Program} {ro : Option Nat} {Q : Exit → Act → World → Prop} {a : Act} {w : World}
theorem calm_FW {fr : Frame} {cs : List Frame} (h : fr.about P w = none) : (lone fr cs w).fenced P (FW ro) := fenced_calm (n := 0) trivial (room_FW ro _) h
theorem wg_of {c : Code} (h : c.wpIn (FW ro) 0 P Q a w) : WG P ro c Q a w := fun b k cs hro _ => h b k cs hro trivial (room_FW ro _)
theorem wg_mono {c : Code} {Q' : Exit → Act → World → Prop} (h : WG P ro c Q a w) (hq : ∀ e a w, Q e a w → Q' e a w) : WG P ro c Q' a w :=
  fun b k cs hro hb => let ⟨e, a', w', q, r⟩ := h b k cs hro hb; ⟨e, a', w', hq _ _ _ q, r⟩
theorem wg_seq {x y : Code} (h : WG P ro x (Exit.then (WG P ro y Q) Q) a w) : WG P ro (.seq x y) Q a w := by
  intro b k cs hro hb
  have h0 : (lone (b.atR a (.code (.seq x y) :: k)) cs w).fenced P (FW ro) := calm_FW rfl
  obtain ⟨e, a₁, w₁, hq, harr⟩ := h b (.code y :: k) cs hro hb
  cases e with
  | normal =>
    obtain ⟨e₂, a₂, w₂, hq₂, harr₂⟩ := hq b k cs hro hb
    exact ⟨e₂, a₂, w₂, hq₂, .of_steps (.head h0 stepR_seq harr) harr₂⟩
  | exit id => exact ⟨_, a₁, w₁, hq, .of_steps (.one h0 stepR_seq) (.pass (x := .code y) rfl (fun _ _ => .inl (by simp)) harr)⟩
  | goto l => exact ⟨_, a₁, w₁, hq, .of_steps (.one h0 stepR_seq) (.pass (x := .code y) rfl (fun _ _ => .inl (by simp)) harr)⟩
  | ret => exact ⟨_, a₁, w₁, hq, .of_steps (.one h0 stepR_seq) (.pass (x := .code y) rfl (fun _ _ => .inl (by simp)) harr)⟩
  | panic ch => exact ⟨_, a₁, w₁, hq, .of_steps (.one h0 stepR_seq) (.pass (x := .code y) rfl (fun _ _ => .inl (by simp)) harr)⟩
  | outgrown => exact ⟨_, a₁, w₁, hq, .of_steps (.one h0 stepR_seq) (.pass (x := .code y) rfl (fun _ _ => .inl (by simp)) harr)⟩
theorem wg_cond_split {c : Operand} {x y : Code} {t : Bool} (hc : a.eval c = .bool t) (ht : t = true → WG P ro x Q a w) (hf : t = false → WG P ro y Q a w) : WG P ro (.cond c x y) Q a w := by
  have hxy : WG P ro (if t then x else y) Q a w := by
    cases t
    · exact hf rfl
    · exact ht rfl
  exact fun b k cs hro hb => let ⟨e, a', w', q, r⟩ := hxy b k cs hro hb; ⟨e, a', w', q, .of_steps (.one (calm_FW rfl) (stepR_cond hc)) r⟩
theorem wg_block {id : Nat} {c : Code} (h : WG P ro c (Exit.inBlock id Q) a w) : WG P ro (.block id c) Q a w := by
  intro b k cs hro hb
  have h0 : (lone (b.atR a (.code (.block id c) :: k)) cs w).fenced P (FW ro) := calm_FW rfl
  obtain ⟨e, a₁, w₁, hq, harr⟩ := h b (.inBlock id :: k) cs hro hb
  cases e with
  | normal => exact ⟨.normal, a₁, w₁, hq, .head h0 stepR_block (StepsIn.trans harr (.one (calm_FW rfl) stepR_inBlock))⟩
  | exit id' =>
    by_cases hid : id' = id
    · simp only [Exit.inBlock, hid, if_true] at hq
      exact ⟨.normal, a₁, w₁, hq, .head h0 stepR_block (harr.1 k (by simp [exitTo, hid]))⟩
    · simp only [Exit.inBlock, hid, if_false] at hq
      have this : (id == id') = false := by simp; exact fun h => hid h.symm
      have hx : exitTo id' (.inBlock id :: k) = exitTo id' k := by simp [exitTo, this]
      exact ⟨.exit id', a₁, w₁, hq, fun k' hk => .head h0 stepR_block (harr.1 k' (by rw [hx]; exact hk)),
        fun hr' hk => let ⟨k₁, h1, h2⟩ := harr.2 hr' (by rw [hx]; exact hk); ⟨k₁, h1, .head h0 stepR_block h2⟩⟩
  | goto l =>
    have hx : gotoIn l (.inBlock id :: k) = gotoIn l k := by simp [gotoIn]
    exact ⟨.goto l, a₁, w₁, hq, fun k' hk => .head h0 stepR_block (harr.1 k' (by rw [hx]; exact hk)),
      fun hr' hk => let ⟨k₁, h1, h2⟩ := harr.2 hr' (by rw [hx]; exact hk); ⟨k₁, h1, .head h0 stepR_block h2⟩⟩
  | ret => exact ⟨_, a₁, w₁, hq, .of_steps (.one h0 stepR_block) harr⟩
  | panic ch => exact ⟨_, a₁, w₁, hq, .of_steps (.one h0 stepR_block) harr⟩
  | outgrown => exact ⟨_, a₁, w₁, hq, .of_steps (.one h0 stepR_block) harr⟩
/-- A call, out of its body's walk. -/
theorem calls_of_wg {f : FuncId} {fn : Func} {c : Code} {args : Array Value} {R : Ending → World → Prop} (hf : P.funcs[f]? = some fn) (hb : fn.body = some c)
    (h : WG P none c (bodyPost P fn R) { tmps := args ++ Array.replicate (fn.ntmps - args.size) undef, defers := [] } w) : Calls P f args w R := by
  refine (callsIn_wide (n := 0)).1 (show CallsIn (FW none) 0 P f args w R from ⟨trivial, fun cs hr => ?_⟩)
  let b : Frame := { (default : Frame) with fn := f, kind := .normal, roundOf := none }
  have henter : Frame.enter P f args .normal = b.atR { tmps := args ++ Array.replicate (fn.ntmps - args.size) undef, defers := [] } [.code c] := by
    simp [Frame.enter, Frame.atR, hf, hb, b]
  obtain ⟨e, a', w', hq, harr⟩ := h b [] cs rfl (by simp [b, hf])
  rw [← henter] at harr
  cases e with
  | normal =>
    obtain ⟨hd, v, hr', hR⟩ := hq
    exact ⟨.returned v, w', _, hR, StepsIn.trans harr (.one (calm_FW (fr := b.atR a' []) rfl) (stepR_end rfl)), rfl, rfl, hd, rfl, fn, hf, hr'⟩
  | ret =>
    obtain ⟨hd, v, hr', hR⟩ := hq
    obtain ⟨todo, hs⟩ := harr.1 rfl
    exact ⟨.returned v, w', _, hR, hs, rfl, rfl, hd, rfl, fn, hf, hr'⟩
  | panic chain =>
    obtain ⟨hd, hR⟩ := hq
    obtain ⟨todo, hs⟩ := harr
    exact ⟨.panicked chain, w', _, hR, hs, rfl, rfl, hd, fn, hf⟩
  | exit id => exact hq.elim
  | goto l => exact hq.elim
  | outgrown => exact ⟨.outgrown, w', b, hq, harr.resolve_left (by simp [b]), rfl, trivial⟩
end wg

def rawP (P : Program) (ro : Option Nat) (n : Nat) (c : Code) (Q : QT) (e : En) (ds : DS) (w : World) : Prop :=
  WG P ro c (lift n Q) (mkAct n e ds) w

def S (P : Program) (ro : Option Nat) (n : Nat) : Code → QT → En → DS → World → Prop
  | .skip, Q, e, ds, w => Q .normal e ds w
  | .seq a b, Q, e, ds, w => S P ro n a (thenQ (S P ro n b Q) Q) e ds w
  | .cond c t f, Q, e, ds, w => condP (ev e c) (S P ro n t Q e ds w) (S P ro n f Q e ds w)
  | .block id c, Q, e, ds, w => S P ro n c (blockQ id Q) e ds w
  | .loop c, Q, e, ds, w => loopP (S P ro n c) Q e ds w
  | .exit id, Q, e, ds, w => Q (.exit id) e ds w
  | .ret, Q, e, ds, w => Q .ret e ds w
  | .region _ ops draw, Q, e, ds, w =>
    bif draw then drawP P ro n ops Q e ds w
    else sops P ro (ops.toList.map (·.dst)) (Q .normal) (fun ch => Q (.panic ch)) ops.toList e ds w
  | c, Q, e, ds, w => rawP P ro n c Q e ds w

def cfit (n : Nat) : Code → Bool
  | .seq a b => cfit n a && cfit n b
  | .cond c t f => Opfit n c && cfit n t && cfit n f
  | .block _ c | .loop c | .scope c => cfit n c
  | .region _ ops _ => opsFit n ops.toList
  | _ => true

theorem S_sound {P : Program} {ro : Option Nat} {n : Nat} (c : Code) (hc : cfit n c = true) : ∀ (Q : QT) (e : En) (ds : DS) (w : World), S P ro n c Q e ds w → WG P ro c (lift n Q) (mkAct n e ds) w := by
  induction c with
  | skip => intro Q e ds w h; exact wg_of (wpIn_skip ⟨e, ds, rfl, h⟩)
  | seq a b iha ihb =>
    intro Q e ds w h
    simp only [cfit, Bool.and_eq_true] at hc
    refine wg_seq (wg_mono (iha hc.1 _ _ _ _ h) ?_)
    rintro x a' w' ⟨e', ds', rfl, hq⟩
    cases x <;> first
      | exact ihb hc.2 _ _ _ _ hq
      | exact ⟨_, _, rfl, hq⟩
  | cond c t f iht ihf =>
    intro Q e ds w h
    simp only [cfit, Bool.and_eq_true] at hc
    unfold S condP at h
    split at h
    · rename_i b hb
      have hb' : (mkAct n e ds).eval c = .bool b := by rw [eval_mk hc.1.1, hb]
      exact wg_cond_split hb' (fun hbt => iht hc.1.2 _ _ _ _ (h.1 hbt)) (fun hbf => ihf hc.2 _ _ _ _ (h.2 hbf))
    · exact h.elim
  | block id c ih =>
    intro Q e ds w h
    refine wg_block (wg_mono (ih hc _ _ _ _ h) ?_)
    rintro x a' w' ⟨e', ds', rfl, hq⟩
    cases x with
    | exit i =>
      simp only [Exit.inBlock]
      simp only [blockQ] at hq
      split <;> rename_i hi
      · rw [if_pos hi] at hq; exact ⟨_, _, rfl, hq⟩
      · rw [if_neg hi] at hq; exact ⟨_, _, rfl, hq⟩
    | _ => exact ⟨_, _, rfl, hq⟩
  | loop c ih =>
    intro Q e ds w h
    obtain ⟨γ, I, μ, g, h0, round⟩ := h
    intro b k cs hro hb
    have key : ∀ j g e ds w, μ g = j → I g e ds w →
        ∃ x a' w', lift n Q x a' w' ∧ ArrivesIn (Machine.fenced P (FW ro)) P (lone (b.atR (mkAct n e ds) (.code c :: .inLoop c :: k)) cs w) b k cs x a' w' := by
      intro j
      induction j using Nat.strongRecOn with
      | _ j ihj =>
        intro g e ds w hn hI
        obtain ⟨x, a₁, w₁, ⟨e₁, ds₁, rfl, hq⟩, harr⟩ := ih hc _ _ _ _ (round g e ds w hI) b (.inLoop c :: k) cs hro hb
        cases x with
        | normal =>
          obtain ⟨g', hI₁, hlt⟩ := hq
          obtain ⟨e₂, a₂, w₂, hq₂, harr₂⟩ := ihj (μ g') (hn ▸ hlt) g' e₁ ds₁ w₁ rfl hI₁
          exact ⟨e₂, a₂, w₂, hq₂, .of_steps (StepsIn.trans harr (.one (calm_FW rfl) stepR_inLoop)) harr₂⟩
        | exit id => exact ⟨_, _, w₁, ⟨_, _, rfl, hq⟩, .pass (x := .inLoop c) rfl (fun _ _ => .inl (by simp)) harr⟩
        | goto l => exact ⟨_, _, w₁, ⟨_, _, rfl, hq⟩, .pass (x := .inLoop c) rfl (fun _ _ => .inl (by simp)) harr⟩
        | ret => exact ⟨_, _, w₁, ⟨_, _, rfl, hq⟩, .pass (x := .inLoop c) rfl (fun _ _ => .inl (by simp)) harr⟩
        | panic ch => exact ⟨_, _, w₁, ⟨_, _, rfl, hq⟩, .pass (x := .inLoop c) rfl (fun _ _ => .inl (by simp)) harr⟩
        | outgrown => exact ⟨_, _, w₁, ⟨_, _, rfl, hq⟩, .pass (x := .inLoop c) rfl (fun _ _ => .inl (by simp)) harr⟩
    obtain ⟨x, a', w', hq, harr⟩ := key _ g e ds w rfl h0
    exact ⟨x, a', w', hq, .of_steps (.one (calm_FW rfl) stepR_loop) harr⟩
  | exit id => intro Q e ds w h; exact wg_of (wpIn_exit ⟨e, ds, rfl, h⟩)
  | ret => intro Q e ds w h; exact wg_of (wpIn_ret ⟨e, ds, rfl, h⟩)
  | region id ops draw =>
    intro Q e ds w h
    cases draw with
    | true => exact wg_of (wpIn_region_draw h)
    | false =>
      refine wg_of (wpIn_region (sops_sound (K := Q .normal) (X := fun ch => Q (.panic ch)) hc (fun e ds w q => ⟨e, ds, rfl, q⟩) (fun ch e ds w q => ⟨e, ds, rfl, q⟩) _ ops.toList _ _ _ ?_ (fun _ h => h) h))
      apply List.ext_getElem?
      intro i
      simp only [List.getElem?_map, List.getElem?_range]
      by_cases hi : i < ops.size <;> simp [hi, List.getElem?_range]
  | rangeFunc f ps a b iha ihb => intro Q e ds w h; exact h
  | scope c ih => intro Q e ds w h; exact h
  | label l => intro Q e ds w h; exact h
  | goto l => intro Q e ds w h; exact h
  | refuse s => intro Q e ds w h; exact h

/-! ### Functions -/
/-- What the result variables hold, taken together. -/
def resP (P : Program) (rs : Array ResultVar) (e : En) (w : World) (K : Value → Prop) : Prop :=
  match (rs.mapM fun | .tmp t => pure (e t) | .cell a t => do loadVar t (← asAddr (e a)) : Sem (Array Value)).run P w with
  | .ok vs _ => (match vs.toList with | [v] => K v | vs => K (.tuple vs.toArray))
  | _ => False

end Go.Eng
