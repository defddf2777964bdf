/- The engine over abstract states: what a function holds (L: blocks of its own), what stays for good (m); all else is frame. -/
import Derived.Test.YthfbfigdgjhhaaaEngLoop
set_option linter.all false
namespace Go.Eng
open Go Go.RowKit
abbrev Lst := List (Nat × Obj)
/-- What stays as it is: the outside, and blocks that nobody writes any more. -/
structure Mem where
  os : Os
  tape : Nat → Question → Nat
  output : Array (Nat × ByteArray)
  blk : Nat → Option Obj
structure Mem.Le (m m' : Mem) : Prop where
  os : m'.os = m.os
  tape : m'.tape = m.tape
  output : m'.output = m.output
  blk : ∀ b o, m.blk b = some o → m'.blk b = some o
theorem Mem.Le.refl (m : Mem) : m.Le m := ⟨rfl, rfl, rfl, fun _ _ h => h⟩
theorem Mem.Le.trans {a b c : Mem} (h : a.Le b) (k : b.Le c) : a.Le c :=
  ⟨k.os.trans h.os, k.tape.trans h.tape, k.output.trans h.output, fun b o q => k.blk b o (h.blk b o q)⟩
structure Inv (m : Mem) (L : Lst) (w : World) : Prop where
  os : w.os = m.os
  tape : w.tape = m.tape
  output : w.output = m.output
  blk : ∀ b o, m.blk b = some o → w.heap[b]? = some o
  own : ∀ p ∈ L, w.heap[p.1]? = some p.2 ∧ m.blk p.1 = none
  nodup : (L.map (·.1)).Nodup
theorem Inv.perm {m : Mem} {L L' : Lst} {w : World} (h : Inv m L w) (p : L.Perm L') : Inv m L' w :=
  ⟨h.os, h.tape, h.output, h.blk, fun q hq => h.own q (p.mem_iff.2 hq), (p.map (·.1)).nodup_iff.1 h.nodup⟩
theorem Inv.drop {m : Mem} {p : Nat × Obj} {L : Lst} {w : World} (h : Inv m (p :: L) w) : Inv m L w :=
  ⟨h.os, h.tape, h.output, h.blk, fun q hq => h.own q (List.mem_cons_of_mem _ hq), (List.nodup_cons.1 h.nodup).2⟩
theorem Inv.dropL {m : Mem} {L1 L2 : Lst} {w : World} (h : Inv m (L1 ++ L2) w) : Inv m L2 w := by
  induction L1 with
  | nil => exact h
  | cons p L ih => exact ih h.drop
theorem Inv.low {m m' : Mem} {L : Lst} {w : World} (h : Inv m' L w) (hm : m.Le m') : Inv m L w :=
  ⟨h.os.trans hm.os, h.tape.trans hm.tape, h.output.trans hm.output, fun b o q => h.blk b o (hm.blk b o q),
    fun p hp => ⟨(h.own p hp).1, by
      cases hc : m.blk p.1 with
      | none => rfl
      | some o => have := hm.blk _ _ hc; rw [(h.own p hp).2] at this; cases this⟩, h.nodup⟩
def Mem.pub (m : Mem) (b : Nat) (o : Obj) : Mem := { m with blk := fun x => if x = b then some o else m.blk x }
theorem Inv.pub {m : Mem} {b : Nat} {o : Obj} {L : Lst} {w : World} (h : Inv m ((b, o) :: L) w) : m.Le (m.pub b o) ∧ (m.pub b o).blk b = some o ∧ Inv (m.pub b o) L w := by
  have hb := h.own (b, o) (by simp)
  have hnd := List.nodup_cons.1 h.nodup
  refine ⟨⟨rfl, rfl, rfl, fun x q hq => ?_⟩, by simp [Mem.pub], h.os, h.tape, h.output, fun x q hq => ?_, fun p hp => ⟨(h.drop.own p hp).1, ?_⟩, hnd.2⟩
  · by_cases hx : x = b
    · subst hx; rw [hb.2] at hq; cases hq
    · simp [Mem.pub, hx, hq]
  · by_cases hx : x = b
    · subst hx; simp [Mem.pub] at hq; subst hq; exact hb.1
    · simp [Mem.pub, hx] at hq; exact h.blk _ _ hq
  · have : p.1 ≠ b := by
      intro hc; apply hnd.1; rw [← hc]; exact List.mem_map.2 ⟨p, hp, rfl⟩
    simp [Mem.pub, this, (h.drop.own p hp).2]
theorem Inv.alloc {m : Mem} {L : Lst} {w : World} (h : Inv m L w) (o : Obj) : Inv m ((w.heap.size, o) :: L) (w.alloc o) := by
  have hold : ∀ (b : Nat) (q : Obj), w.heap[b]? = some q → (w.alloc o).heap[b]? = some q := by
    intro b q hq
    have hb : b < w.heap.size := (Array.getElem?_eq_some_iff.1 hq).1
    simp only [World.alloc, Array.getElem?_push]
    rw [if_neg (by omega)]; exact hq
  refine ⟨h.os, h.tape, h.output, fun b q hq => hold b q (h.blk b q hq), ?_, ?_⟩
  · intro p hp
    rcases List.mem_cons.1 hp with rfl | hp
    · refine ⟨heap_alloc_new w o, ?_⟩
      cases hc : m.blk w.heap.size with
      | none => rfl
      | some q => have := (Array.getElem?_eq_some_iff.1 (h.blk _ _ hc)).1; omega
    · exact ⟨hold _ _ (h.own p hp).1, (h.own p hp).2⟩
  · refine List.nodup_cons.2 ⟨?_, h.nodup⟩
    intro hc
    obtain ⟨p, hp, he⟩ := List.mem_map.1 hc
    have := (Array.getElem?_eq_some_iff.1 (h.own p hp).1).1
    dsimp only at he; omega
theorem Inv.dr {m : Mem} {L : Lst} {w : World} {d : Nat} (h : Inv m L w) : Inv m L { w with drawn := d } := ⟨h.os, h.tape, h.output, h.blk, h.own, h.nodup⟩
theorem Inv.sameHeap {m : Mem} {L : Lst} {w w' : World} (h : Inv m L w) (h1 : w'.heap = w.heap) (h2 : w'.os = w.os) (h3 : w'.tape = w.tape) (h4 : w'.output = w.output) : Inv m L w' :=
  ⟨h2.trans h.os, h3.trans h.tape, h4.trans h.output, fun b o q => by rw [h1]; exact h.blk b o q, fun p hp => by rw [h1]; exact h.own p hp, h.nodup⟩
/-- The block's object is changed. -/
theorem Inv.setObj {m : Mem} {b : Nat} {o o' : Obj} {L : Lst} {w w' : World} (h : Inv m ((b, o) :: L) w) (hb : w'.heap[b]? = some o') (hr : ∀ c, c ≠ b → w'.heap[c]? = w.heap[c]?)
    (h2 : w'.os = w.os) (h3 : w'.tape = w.tape) (h4 : w'.output = w.output) : Inv m ((b, o') :: L) w' := by
  have hb0 := h.own (b, o) (by simp)
  have hnd := List.nodup_cons.1 h.nodup
  refine ⟨h2.trans h.os, h3.trans h.tape, h4.trans h.output, fun c q hq => ?_, ?_, h.nodup⟩
  · rw [hr c]; exact h.blk c q hq
    rintro rfl; rw [hb0.2] at hq; cases hq
  · intro p hp
    rcases List.mem_cons.1 hp with rfl | hp
    · exact ⟨hb, hb0.2⟩
    · have : p.1 ≠ b := by
        intro hc; apply hnd.1; rw [← hc]; exact List.mem_map.2 ⟨p, hp, rfl⟩
      rw [hr _ this]; exact h.drop.own p hp

/-! ### looking for a block -/
inductive Take : Lst → Nat → Obj → Lst → Prop
  | here {b o L} : Take ((b, o) :: L) b o L
  | there {p L b o L'} : Take L b o L' → Take (p :: L) b o (p :: L')
  | app {X L b o L'} : Take L b o L' → Take (X ++ L) b o (X ++ L')
  | inl {X L b o X'} : Take X b o X' → Take (X ++ L) b o (X' ++ L)
theorem Take.perm {L L' : Lst} {b : Nat} {o : Obj} (h : Take L b o L') : L.Perm ((b, o) :: L') := by
  induction h with
  | here => exact List.Perm.refl _
  | there _ ih => exact (List.Perm.cons _ ih).trans (List.Perm.swap _ _ _)
  | @app X L b o L' _ ih => exact (ih.append_left X).trans List.perm_middle
  | @inl X L b o X' _ ih => exact ih.append_right L
/-- A part of what is held. -/
inductive TakeL : Lst → Lst → Lst → Prop
  | here {X L} : TakeL (X ++ L) X L
  | all {X} : TakeL X X []
  | cons {p L X L'} : TakeL L X L' → TakeL (p :: L) X (p :: L')
  | app {Y L X L'} : TakeL L X L' → TakeL (Y ++ L) X (Y ++ L')
theorem TakeL.perm {L X L' : Lst} (h : TakeL L X L') : L.Perm (X ++ L') := by
  induction h with
  | here => exact .refl _
  | all => simp
  | @cons p L X L' _ ih => exact (List.Perm.cons _ ih).trans (List.perm_middle.symm)
  | @app Y L X L' _ ih => exact (ih.append_left Y).trans (by rw [← List.append_assoc, ← List.append_assoc]; exact List.perm_append_comm.append_right _)
inductive Takes : Lst → Lst → Lst → Prop
  | nil {L} : Takes L [] L
  | cons {L b o L1 Lp Lf} : Take L b o L1 → Takes L1 Lp Lf → Takes L ((b, o) :: Lp) Lf
  | lst {L X L1} : TakeL L X L1 → Takes L X L1
  | app {L X L1 Lp Lf} : TakeL L X L1 → Takes L1 Lp Lf → Takes L (X ++ Lp) Lf
theorem Takes.perm {L Lp Lf : Lst} (h : Takes L Lp Lf) : L.Perm (Lp ++ Lf) := by
  induction h with
  | nil => exact List.Perm.refl _
  | cons t _ ih => exact t.perm.trans (List.Perm.cons _ ih)
  | lst t => exact t.perm
  | @app L X L1 Lp Lf t _ ih => exact t.perm.trans (by rw [List.append_assoc]; exact ih.append_left X)
/-- A block's object is changed where it stands. -/
inductive Put : Lst → Nat → Obj → Obj → Lst → Prop
  | here {b o o' L} : Put ((b, o) :: L) b o o' ((b, o') :: L)
  | there {p L b o o' L'} : Put L b o o' L' → Put (p :: L) b o o' (p :: L')
  | app {X L b o o' L'} : Put L b o o' L' → Put (X ++ L) b o o' (X ++ L')
  | inl {X L b o o' X'} : Put X b o o' X' → Put (X ++ L) b o o' (X' ++ L)
theorem Put.perm {L L' : Lst} {b : Nat} {o o' : Obj} (h : Put L b o o' L') : ∃ R, L.Perm ((b, o) :: R) ∧ L'.Perm ((b, o') :: R) := by
  induction h with
  | here => exact ⟨_, .refl _, .refl _⟩
  | @there p L b o o' L' _ ih =>
    obtain ⟨R, h1, h2⟩ := ih
    exact ⟨p :: R, (List.Perm.cons _ h1).trans (.swap _ _ _), (List.Perm.cons _ h2).trans (.swap _ _ _)⟩
  | @app X L b o o' L' _ ih =>
    obtain ⟨R, h1, h2⟩ := ih
    exact ⟨X ++ R, (h1.append_left X).trans List.perm_middle, (h2.append_left X).trans List.perm_middle⟩
  | @inl X L b o o' X' _ ih =>
    obtain ⟨R, h1, h2⟩ := ih
    exact ⟨R ++ L, h1.append_right L, h2.append_right L⟩
theorem Inv.put {m : Mem} {L L' L0 : Lst} {b : Nat} {o o' : Obj} {w w' : World} (h : Inv m (L ++ L0) w) (p : Put L b o o' L') (hb : w'.heap[b]? = some o') (hr : ∀ c, c ≠ b → w'.heap[c]? = w.heap[c]?)
    (h2 : w'.os = w.os) (h3 : w'.tape = w.tape) (h4 : w'.output = w.output) : Inv m (L' ++ L0) w' := by
  obtain ⟨R, h1, h5⟩ := p.perm
  have := h.perm (h1.append_right L0)
  exact (Inv.setObj this hb hr h2 h3 h4).perm (h5.append_right L0).symm
theorem Inv.heap {m : Mem} {L L' L0 : Lst} {b : Nat} {o : Obj} {w : World} (h : Inv m (L ++ L0) w) (t : Take L b o L') : w.heap[b]? = some o :=
  (h.own (b, o) (List.mem_append_left _ (t.perm.mem_iff.2 (by simp)))).1

/-! ### what comes next -/
class KA where
  k : Value → Mem → Lst → Prop
  kd : Deferred → Mem → Lst → Prop
  x : List PanicEntry → Mem → Lst → Prop
theorem KA_k {k : Value → Mem → Lst → Prop} {kd : Deferred → Mem → Lst → Prop} {x : List PanicEntry → Mem → Lst → Prop} {v : Value} {m : Mem} {L : Lst} : (KA.mk k kd x).k v m L = k v m L := Eq.trans rfl rfl
theorem KA_kd {k : Value → Mem → Lst → Prop} {kd : Deferred → Mem → Lst → Prop} {x : List PanicEntry → Mem → Lst → Prop} {v : Deferred} {m : Mem} {L : Lst} : (KA.mk k kd x).kd v m L = kd v m L := Eq.trans rfl rfl
theorem KA_x {k : Value → Mem → Lst → Prop} {kd : Deferred → Mem → Lst → Prop} {x : List PanicEntry → Mem → Lst → Prop} {v : List PanicEntry} {m : Mem} {L : Lst} : (KA.mk k kd x).x v m L = x v m L := Eq.trans rfl rfl
/-- Goes on in the abstract, beside a frame. -/
@[reducible] def ck (C : KA) (L0 : Lst) : KX := ⟨fun v w => ∃ m L, Inv m (L ++ L0) w ∧ C.k v m L, fun d w => ∃ m L, Inv m (L ++ L0) w ∧ C.kd d m L, fun c w => ∃ m L, Inv m (L ++ L0) w ∧ C.x c m L⟩
/-- Goes on where nothing has changed. -/
@[reducible] def pk (C : KA) (m : Mem) (L : Lst) (w : World) : KX := ⟨fun v w' => w' = w ∧ C.k v m L, fun d w' => w' = w ∧ C.kd d m L, fun c w' => w' = w ∧ C.x c m L⟩
section
variable (P : Program) (ro : Option Nat)
def pureA (o : Oper) (e : En) [C : KA] (m : Mem) (L : Lst) : Prop := ∀ w, @sopC P ro o e (pk C m L w) w
def genA (o : Oper) (e : En) [C : KA] (m : Mem) (L : Lst) : Prop := ∀ L0 w, Inv m (L ++ L0) w → @sopC P ro o e (ck C L0) w
end
/-- Comparisons that look at memory. -/
def ptrish (P : Program) (T : TypeId) : Bool := match P.underlying T with | some (.pointer _) | some (.interface _) => true | _ => false
def pureOp (P : Program) : Op → Bool
  | .move _ | .assign _ | .pick _ _ _ | .unOp _ _ _ | .extract _ _ | .fieldAddr _ _ _ | .field _ _ _ | .indexAddr _ _ _ | .index _ _ _ | .build _ _ | .makeInterface _ _ | .makeFunc _ _ _ | .nilCheck _ | .slice _ _ _ _ _ | .typeAssert _ _ _ _ | .panic _ => true
  | .binOp .eql T _ _ _ | .binOp .neq T _ _ _ => !ptrish P T
  | .binOp _ _ _ _ _ => true
  | .convert s t _ => (intConv P s t).isSome
  | _ => false
def boxA (T : TypeId) (a : Value) [C : KA] (m : Mem) (L : Lst) : Prop := ∀ b, C.k (.pointer (some ⟨b, 0, none⟩)) m ((b, .cells a.cells T (0, 0)) :: L)
def allocA (z : Option (List Value)) (T : TypeId) [C : KA] (m : Mem) (L : Lst) : Prop := match z with
  | some cs => ∀ b, C.k (.pointer (some ⟨b, 0, none⟩)) m ((b, .cells cs.toArray T (0, 0)) :: L)
  | none => False
def topC (P : Program) (ro : Option Nat) (o : Oper) (e : En) [C : KA] (m : Mem) (L : Lst) : Prop :=
  match o.op with
  | .box T x => boxA T (ev e x) m L
  | .alloc T => allocA (zeroOf P T) T m L
  | op => bif pureOp P op then pureA P ro o e m L else genA P ro o e m L

theorem pureA_gen {P : Program} {ro : Option Nat} {o : Oper} {e : En} {C : KA} {m : Mem} {L : Lst} (h : pureA P ro o e m L) : genA P ro o e m L := by
  intro L0 w hI
  refine sopC_mono ?_ ?_ ?_ (h w)
  · rintro v w' ⟨rfl, h⟩; exact ⟨m, L, hI, h⟩
  · rintro v w' ⟨rfl, h⟩; exact ⟨m, L, hI, h⟩
  · rintro v w' ⟨rfl, h⟩; exact ⟨m, L, hI, h⟩
theorem boxA_gen {P : Program} {ro : Option Nat} {d : Option Nat} {T ty : TypeId} {x : Operand} {ps : String} {af : Array Edge} {g : Option (Nat × Bool)} {e : En} {C : KA} {m : Mem} {L : Lst}
    (h : boxA T (ev e x) m L) : genA P ro ⟨d, .box T x, ty, ps, af, g⟩ e m L := by
  intro L0 w hI
  rw [o_box]
  exact ⟨m, _, hI.alloc _, h w.heap.size⟩
theorem allocA_gen {P : Program} {ro : Option Nat} {d : Option Nat} {T ty : TypeId} {ps : String} {af : Array Edge} {g : Option (Nat × Bool)} {e : En} {C : KA} {m : Mem} {L : Lst}
    (h : allocA (zeroOf P T) T m L) : genA P ro ⟨d, .alloc T, ty, ps, af, g⟩ e m L := by
  intro L0 w hI
  rw [o_alloc]
  unfold allocA at h
  cases hz : zeroOf P T with
  | none => rw [hz] at h; exact h.elim
  | some cs =>
    rw [hz] at h
    rw [a_alloc hz]
    exact ⟨m, _, hI.alloc _, h w.heap.size⟩
theorem topC_gen {P : Program} {ro : Option Nat} {o : Oper} {e : En} {C : KA} {m : Mem} {L : Lst} (h : topC P ro o e m L) : genA P ro o e m L := by
  unfold topC at h
  split at h
  · rename_i T x ho
    obtain ⟨d, op, ty, ps, af, g⟩ := o
    obtain rfl : op = .box T x := ho
    exact boxA_gen h
  · rename_i T ho
    obtain ⟨d, op, ty, ps, af, g⟩ := o
    obtain rfl : op = .alloc T := ho
    exact allocA_gen h
  · cases hp : pureOp P o.op with
    | true => rw [hp] at h; exact pureA_gen h
    | false => rw [hp] at h; exact h

/-! ### code -/
abbrev QA := Exit → En → DS → Mem → Lst → Prop
def conc (L0 : Lst) (Q : QA) : QT := fun x e ds w => ∃ m L, Inv m (L ++ L0) w ∧ Q x e ds m L
def thenA (K : En → DS → Mem → Lst → Prop) (Q : QA) : QA
  | .normal, e, ds, m, L => K e ds m L
  | x, e, ds, m, L => Q x e ds m L
def blockA (id : Nat) (Q : QA) : QA
  | .exit i, e, ds, m, L => if i = id then Q .normal e ds m L else Q (.exit i) e ds m L
  | x, e, ds, m, L => Q x e ds m L
section
variable (P : Program) (ro : Option Nat)
def aops (dl : List (Option Nat)) (K : En → DS → Mem → Lst → Prop) (X : List PanicEntry → En → DS → Mem → Lst → Prop) : List Oper → En → DS → Mem → Lst → Prop
  | [], e, ds, m, L => K e ds m L
  | o :: rest, e, ds, m, L =>
    let A := @topC P ro o e ⟨fun v m L => aops dl K X rest (updo e o.dst v) ds m L, fun d m L => aops dl K X rest (updo e o.dst undef) (d :: ds) m L, fun ch m L => X ch e ds m L⟩ m L
    match o.guard with
    | none => A
    | some (j, want) => guardP (yld dl e j) want A (aops dl K X rest (updo e o.dst undef) ds m L)
end
/-- What is left of the state at the end: blocks may be let go, and may stay for good. -/
def endA (R : Mem → Lst → Prop) (m : Mem) (L : Lst) : Prop := ∀ L0 w, Inv m (L ++ L0) w → ∃ m' L', Inv m' (L' ++ L0) w ∧ R m' L'
class NXA where
  nx : En → DS → Mem → Lst → Prop
/-- A loop's next round. -/
def nextCA [C : NXA] (e : En) (ds : DS) (m : Mem) (L : Lst) : Prop := C.nx e ds m L
def loopPA (body : QA → En → DS → Mem → Lst → Prop) (Q : QA) (e : En) (ds : DS) (m : Mem) (L : Lst) : Prop :=
  ∃ (γ : Type) (I : γ → En → DS → Mem → Lst → Prop) (μ : γ → Nat) (g : γ), endA (I g e ds) m L ∧
    ∀ g e ds m L, I g e ds m L → body (thenA (fun e' ds' m' L' => @nextCA ⟨fun e ds m L => ∃ g', endA (I g' e ds) m L ∧ μ g' < μ g⟩ e' ds' m' L') Q) e ds m L
def T (P : Program) (ro : Option Nat) (n : Nat) : Code → QA → En → DS → Mem → Lst → Prop
  | .skip, Q, e, ds, m, L => Q .normal e ds m L
  | .seq a b, Q, e, ds, m, L => T P ro n a (thenA (T P ro n b Q) Q) e ds m L
  | .cond c t f, Q, e, ds, m, L => condP (ev e c) (T P ro n t Q e ds m L) (T P ro n f Q e ds m L)
  | .block id c, Q, e, ds, m, L => T P ro n c (blockA id Q) e ds m L
  | .loop c, Q, e, ds, m, L => loopPA (T P ro n c) Q e ds m L
  | .exit id, Q, e, ds, m, L => Q (.exit id) e ds m L
  | .ret, Q, e, ds, m, L => Q .ret e ds m L
  | .region _ ops draw, Q, e, ds, m, L =>
    bif draw then ∀ L0 w, Inv m (L ++ L0) w → drawP P ro n ops (conc L0 Q) e ds w
    else aops P ro (ops.toList.map (·.dst)) (Q .normal) (fun ch => Q (.panic ch)) ops.toList e ds m L
  | c, Q, e, ds, m, L => ∀ L0 w, Inv m (L ++ L0) w → rawP P ro n c (conc L0 Q) e ds w

theorem aops_sound {P : Program} {ro : Option Nat} {dl : List (Option Nat)} {Q : QA} {L0 : Lst} : ∀ (l : List Oper) {e : En} {ds : DS} {m : Mem} {L : Lst} {w : World},
    aops P ro dl (Q .normal) (fun ch => Q (.panic ch)) l e ds m L → Inv m (L ++ L0) w → sops P ro dl (conc L0 Q .normal) (fun ch => conc L0 Q (.panic ch)) l e ds w := by
  intro l
  induction l with
  | nil => intro e ds m L w h hI; exact ⟨m, L, hI, h⟩
  | cons o l ih =>
    intro e ds m L w h hI
    simp only [aops] at h
    simp only [sops]
    have hA : ∀ {C : KA} {C' : KX}, C = ⟨fun v m L => aops P ro dl (Q .normal) (fun ch => Q (.panic ch)) l (updo e o.dst v) ds m L, fun d m L => aops P ro dl (Q .normal) (fun ch => Q (.panic ch)) l (updo e o.dst undef) (d :: ds) m L, fun ch m L => Q (.panic ch) e ds m L⟩ →
        C' = ⟨fun v w' => sops P ro dl (conc L0 Q .normal) (fun ch => conc L0 Q (.panic ch)) l (updo e o.dst v) ds w', fun d w' => sops P ro dl (conc L0 Q .normal) (fun ch => conc L0 Q (.panic ch)) l (updo e o.dst undef) (d :: ds) w', fun ch w' => conc L0 Q (.panic ch) e ds w'⟩ →
        @topC P ro o e C m L → @sopC P ro o e C' w := by
      rintro C C' rfl rfl hc
      refine sopC_mono ?_ ?_ ?_ (topC_gen hc L0 w hI)
      · rintro v w' ⟨m', L', hI', h⟩; exact ih h hI'
      · rintro v w' ⟨m', L', hI', h⟩; exact ih h hI'
      · rintro v w' ⟨m', L', hI', h⟩; exact ⟨m', L', hI', h⟩
    cases hg : o.guard with
    | none => simp only [hg] at h ⊢; exact hA rfl rfl h
    | some g =>
      obtain ⟨j, want⟩ := g
      simp only [hg] at h ⊢
      unfold guardP at h ⊢
      split at h
      · exact ⟨fun hb => hA rfl rfl (h.1 hb), fun hb => ih (h.2 hb) hI⟩
      · exact ih h hI

theorem T_sound {P : Program} {ro : Option Nat} {n : Nat} {L0 : Lst} (c : Code) : ∀ {Q : QA} {e : En} {ds : DS} {m : Mem} {L : Lst} {w : World}, T P ro n c Q e ds m L → Inv m (L ++ L0) w → S P ro n c (conc L0 Q) e ds w := by
  induction c with
  | skip => intro Q e ds m L w h hI; exact ⟨m, L, hI, h⟩
  | seq a b iha ihb =>
    intro Q e ds m L w h hI
    refine S_mono a ?_ (iha h hI)
    rintro x e ds w ⟨m', L', hI', h⟩
    cases x <;> first | exact ihb h hI' | exact ⟨m', L', hI', h⟩
  | cond c t f iht ihf =>
    intro Q e ds m L w h hI
    unfold T condP at h
    unfold S condP
    split at h
    · exact ⟨fun hb => iht (h.1 hb) hI, fun hb => ihf (h.2 hb) hI⟩
    · exact h.elim
  | block id c ih =>
    intro Q e ds m L w h hI
    refine S_mono c ?_ (ih h hI)
    rintro x e ds w ⟨m', L', hI', h⟩
    cases x with
    | exit i =>
      simp only [blockA] at h
      simp only [blockQ]
      split at h <;> rename_i hi <;> simp only [hi, if_true, if_false] <;> exact ⟨m', L', hI', h⟩
    | _ => exact ⟨m', L', hI', h⟩
  | loop c ih =>
    intro Q e ds m L w h hI
    obtain ⟨γ, I, μ, g, h0, hr⟩ := h
    refine ⟨γ, fun g e ds w => ∃ m L, Inv m (L ++ L0) w ∧ I g e ds m L, μ, g, h0 L0 w hI, ?_⟩
    rintro g e ds w ⟨m', L', hI', hi⟩
    refine S_mono c ?_ (ih (hr g e ds m' L' hi) hI')
    rintro x e ds w ⟨m2, L2, hI2, h⟩
    cases x with
    | normal => obtain ⟨g', h1, h2⟩ := h; exact ⟨g', h1 L0 _ hI2, h2⟩
    | _ => exact ⟨m2, L2, hI2, h⟩
  | exit id => intro Q e ds m L w h hI; exact ⟨m, L, hI, h⟩
  | ret => intro Q e ds m L w h hI; exact ⟨m, L, hI, h⟩
  | region id ops draw =>
    intro Q e ds m L w h hI
    cases draw with
    | true => exact h L0 w hI
    | false => exact aops_sound _ h hI
  | rangeFunc f ps a b iha ihb => intro Q e ds m L w h hI; exact h L0 w hI
  | scope c ih => intro Q e ds m L w h hI; exact h L0 w hI
  | label l => intro Q e ds m L w h hI; exact h L0 w hI
  | goto l => intro Q e ds m L w h hI; exact h L0 w hI
  | refuse s => intro Q e ds m L w h hI; exact h L0 w hI

/-! ### contracts -/
structure Cta (P : Program) (f : FuncId) (args : List Value) (m : Mem) (L : Lst) (R : Value → Mem → Lst → Prop) : Prop where
  run : ∀ L0 w, Inv m (L ++ L0) w → Ct P f args w fun v w' => ∃ m' L', Inv m' (L' ++ L0) w' ∧ R v m' L'
structure CtaP (P : Program) (f : FuncId) (args : List Value) (m : Mem) (L : Lst) (R : Value → Mem → Lst → Prop) (X : List PanicEntry → Mem → Lst → Prop) : Prop where
  run : ∀ L0 w, Inv m (L ++ L0) w → CtP P f args w (fun v w' => ∃ m' L', Inv m' (L' ++ L0) w' ∧ R v m' L') (fun c w' => ∃ m' L', Inv m' (L' ++ L0) w' ∧ X c m' L')
section
variable {R : Mem → Lst → Prop} {m : Mem} {L L' Lp Lf : Lst}
theorem end_here (h : R m L) : endA R m L := fun L0 w hI => ⟨m, L, hI, h⟩
theorem end_drop {p : Nat × Obj} (h : endA R m L) : endA R m (p :: L) := fun L0 w hI => h L0 w hI.drop
theorem end_clear (h : R m []) : endA R m L := fun L0 w hI => ⟨m, [], hI.dropL, h⟩
theorem end_perm (p : L.Perm L') (h : endA R m L') : endA R m L := fun L0 w hI => h L0 w (hI.perm (p.append_right L0))
theorem end_take (p : Takes L Lp Lf) (h : endA R m Lp) : endA R m L := fun L0 w hI =>
  h L0 w (Inv.dropL (L1 := Lf) (hI.perm (((p.perm.trans List.perm_append_comm).append_right L0).trans (by rw [List.append_assoc]))))
theorem end_pub {b : Nat} {o : Obj} (h : ∀ m', m.Le m' → m'.blk b = some o → endA R m' L) : endA R m ((b, o) :: L) := fun L0 w hI => by
  obtain ⟨h1, h2, h3⟩ := Inv.pub hI
  exact h _ h1 h2 L0 w h3
end
def resA (P : Program) (e : En) (m : Mem) (L : Lst) (K : Value → Mem → Lst → Prop) : List ResultVar → List Value → Prop
  | [], acc => (match acc with | [v] => endA (K v) m L | l => endA (K (.tuple l.reverse.toArray)) m L)
  | .tmp t :: r, acc => resA P e m L K r (e t :: acc)
  | .cell a t :: r, acc => ∀ L0 w, Inv m (L ++ L0) w → @loadM (shapeOf P t) (e a) ⟨fun v w' => w' = w ∧ resA P e m L K r (v :: acc), fun _ _ => False, fun _ _ => False⟩ w
theorem resA_sound {P : Program} {e : En} {m : Mem} {L L0 : Lst} {w : World} {K : Value → Mem → Lst → Prop} (hI : Inv m (L ++ L0) w) : ∀ (rs : List ResultVar) (acc : List Value), resA P e m L K rs acc → resL P e w (fun v => ∃ m' L', Inv m' (L' ++ L0) w ∧ K v m' L') rs acc := by
  intro rs
  induction rs with
  | nil =>
    intro acc h
    unfold resA at h; unfold resL
    split at h
    · exact h L0 w hI
    · rename_i hne
      split
      · rename_i v; exact absurd rfl (hne v)
      · exact h L0 w hI
  | cons r rs ih =>
    intro acc h
    cases r with
    | tmp t => exact ih _ h
    | cell a t =>
      refine loadM_mono ?_ (h L0 w hI)
      rintro v w' ⟨rfl, hq⟩
      exact ⟨rfl, ih _ hq⟩
def bodyA (P : Program) (rs : List ResultVar) (R : Value → Mem → Lst → Prop) (X : List PanicEntry → Mem → Lst → Prop) : QA
  | .normal, e, ds, m, L => ds = [] ∧ resA P e m L R rs []
  | .ret, e, ds, m, L => ds = [] ∧ resA P e m L R rs []
  | .panic ch, _, ds, m, L => ds = [] ∧ endA (X ch) m L
  | _, _, _, _, _ => False
theorem ctap_of_T {P : Program} {f : FuncId} {fn : Func} {c : Code} {rs : List ResultVar} {args : List Value} {m : Mem} {L : Lst} {R : Value → Mem → Lst → Prop} {X : List PanicEntry → Mem → Lst → Prop}
    (hf : P.funcs[f]? = some fn) (hb : fn.body = some c) (hrs : fn.results = rs.toArray) (hfit : entryFit fn c args.length = true) (hn : (fn.name == "runtime.NumGoroutine") = false)
    (h : T P none fn.ntmps c (bodyA P rs R X) (argE args) [] m L) : CtaP P f args m L R X := by
  refine ⟨fun L0 w hI => ?_⟩
  refine ctp_of_S hf hb hrs hfit hn (S_mono c ?_ (T_sound c h hI))
  rintro x e ds w' ⟨m', L', hI', h⟩
  cases x with
  | normal => exact ⟨h.1, resA_sound hI' _ _ h.2⟩
  | ret => exact ⟨h.1, resA_sound hI' _ _ h.2⟩
  | panic ch => exact ⟨h.1, h.2 L0 w' hI'⟩
  | exit i => exact h
  | goto l => exact h
  | outgrown => exact h
theorem cta_of_T {P : Program} {f : FuncId} {fn : Func} {c : Code} {rs : List ResultVar} {args : List Value} {m : Mem} {L : Lst} {R : Value → Mem → Lst → Prop}
    (hf : P.funcs[f]? = some fn) (hb : fn.body = some c) (hrs : fn.results = rs.toArray) (hfit : entryFit fn c args.length = true) (hn : (fn.name == "runtime.NumGoroutine") = false)
    (h : T P none fn.ntmps c (bodyA P rs R (fun _ _ _ => False)) (argE args) [] m L) : Cta P f args m L R := by
  refine ⟨fun L0 w hI => ?_⟩
  have := (ctap_of_T (X := fun _ _ _ => False) hf hb hrs hfit hn h).run L0 w hI
  exact ⟨this.1, this.2.mono fun en w' q => by
    cases en with
    | returned v => exact q
    | panicked c => obtain ⟨_, _, _, q⟩ := q; exact q.elim
    | outgrown => exact q⟩
theorem Cta.mono {P : Program} {f : FuncId} {args : List Value} {m : Mem} {L : Lst} {R R' : Value → Mem → Lst → Prop} (h : Cta P f args m L R) (hr : ∀ v m' L', R v m' L' → R' v m' L') : Cta P f args m L R' :=
  ⟨fun L0 w hI => (h.run L0 w hI).mono fun v w' ⟨m', L', h1, h2⟩ => ⟨m', L', h1, hr _ _ _ h2⟩⟩
theorem Cta.toP {P : Program} {f : FuncId} {args : List Value} {m : Mem} {L : Lst} {R : Value → Mem → Lst → Prop} {X : List PanicEntry → Mem → Lst → Prop} (h : Cta P f args m L R) : CtaP P f args m L R X :=
  ⟨fun L0 w hI => (h.run L0 w hI).toP⟩
theorem Cta.frame {P : Program} {f : FuncId} {args : List Value} {m : Mem} {L Lf : Lst} {R : Value → Mem → Lst → Prop} (h : Cta P f args m L R) : Cta P f args m (L ++ Lf) (fun v m' L' => ∃ Lp, L' = Lp ++ Lf ∧ R v m' Lp) := by
  refine ⟨fun L0 w hI => ?_⟩
  refine (h.run (Lf ++ L0) w (by rw [← List.append_assoc]; exact hI)).mono ?_
  rintro v w' ⟨m', L', h1, h2⟩
  exact ⟨m', L' ++ Lf, by rw [List.append_assoc]; exact h1, L', rfl, h2⟩
/-- What was there is as it was, at a function's end. -/
def memOf (w : World) : Mem := ⟨w.os, w.tape, w.output, fun b => w.heap[b]?⟩
theorem inv_memOf (w : World) : Inv (memOf w) [] w := ⟨rfl, rfl, rfl, fun _ _ h => h, by simp, by simp⟩
theorem ext_of_inv {w w' : World} {m : Mem} {L : Lst} (h : Inv m L w') (hm : (memOf w).Le m) : Ext w w' := by
  have h := h.low hm
  have hb : ∀ i, i < w.heap.size → w'.heap[i]? = w.heap[i]? := by
    intro i hi
    have : w.heap[i]? = some w.heap[i] := Array.getElem?_eq_getElem hi
    rw [this]; exact h.blk i _ this
  refine ⟨h.os, h.tape, h.output, ?_, fun b hlt => hb b hlt⟩
  rcases Nat.lt_or_ge w'.heap.size w.heap.size with hlt | hge
  · exfalso
    have := hb _ hlt
    rw [Array.getElem?_eq_none (Nat.le_refl _), Array.getElem?_eq_getElem hlt] at this
    cases this
  · exact hge
/-- A contract of the elder form. -/
theorem Cta.ct {P : Program} {f : FuncId} {args : List Value} {φ : Value → Prop} {w : World} (h : ∀ m, Cta P f args m [] (fun v m' _ => φ v ∧ m.Le m')) : Ct P f args w (fun v w' => φ v ∧ Ext w w') := by
  refine ((h (memOf w)).run [] w (inv_memOf w)).mono ?_
  rintro v w' ⟨m', L', h1, h2, h3⟩
  exact ⟨h2, ext_of_inv h1 h3⟩
end Go.Eng
