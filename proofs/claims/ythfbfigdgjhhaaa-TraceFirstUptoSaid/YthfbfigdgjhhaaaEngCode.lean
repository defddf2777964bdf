/- The engine over abstract states: code under names, so that a walk need not look through what comes later. -/
import Derived.Test.YthfbfigdgjhhaaaEngMap
set_option linter.all false
namespace Go.Eng
open Go Go.RowKit
def lft : Code → Code
  | .seq a _ => a
  | .cond _ t _ => t
  | .block _ c => c
  | .loop c => c
  | .scope c => c
  | .rangeFunc _ _ a _ => a
  | c => c
def rgt : Code → Code
  | .seq _ b => b
  | .cond _ _ f => f
  | .rangeFunc _ _ _ b => b
  | c => c
def bodyC (f : Func) : Code := f.body.getD .skip
theorem o_skip (k : Code) (h : k = .skip) {P : Program} {ro : Option Nat} {n : Nat} {Q : QA} {e : En} {ds : DS} {m : Mem} {L : Lst} : T P ro n k Q e ds m L = Q .normal e ds m L := by subst h; exact A_skip
theorem o_ret (k : Code) (h : k = .ret) {P : Program} {ro : Option Nat} {n : Nat} {Q : QA} {e : En} {ds : DS} {m : Mem} {L : Lst} : T P ro n k Q e ds m L = Q .ret e ds m L := by subst h; exact A_ret
theorem o_exit (k : Code) (i : Nat) (h : k = .exit i) {P : Program} {ro : Option Nat} {n : Nat} {Q : QA} {e : En} {ds : DS} {m : Mem} {L : Lst} : T P ro n k Q e ds m L = Q (.exit i) e ds m L := by subst h; exact A_exit
theorem o_seq (k a b : Code) (h : k = .seq a b) {P : Program} {ro : Option Nat} {n : Nat} {Q : QA} {e : En} {ds : DS} {m : Mem} {L : Lst} : T P ro n k Q e ds m L = T P ro n a (thenA (T P ro n b Q) Q) e ds m L := by subst h; exact A_seq
theorem o_cond (k : Code) (c : Operand) (a b : Code) (h : k = .cond c a b) {P : Program} {ro : Option Nat} {n : Nat} {Q : QA} {e : En} {ds : DS} {m : Mem} {L : Lst} : T P ro n k Q e ds m L = @condC (ev e c) ⟨T P ro n a Q e ds m L, T P ro n b Q e ds m L⟩ := by subst h; exact A_cond
theorem o_block (k : Code) (i : Nat) (a : Code) (h : k = .block i a) {P : Program} {ro : Option Nat} {n : Nat} {Q : QA} {e : En} {ds : DS} {m : Mem} {L : Lst} : T P ro n k Q e ds m L = T P ro n a (blockA i Q) e ds m L := by subst h; exact A_block
theorem o_loop (k a : Code) (h : k = .loop a) {P : Program} {ro : Option Nat} {n : Nat} {Q : QA} {e : En} {ds : DS} {m : Mem} {L : Lst} : T P ro n k Q e ds m L = @loopCA ⟨T P ro n a, Q⟩ e ds m L := by subst h; exact A_loop
theorem o_region (k : Code) (i : Nat) (l : List Oper) (h : k = .region i l.toArray false) {P : Program} {ro : Option Nat} {n : Nat} {Q : QA} {e : En} {ds : DS} {m : Mem} {L : Lst} : T P ro n k Q e ds m L = aops P ro (dsts l) (Q .normal) (fun ch => Q (.panic ch)) l e ds m L := by subst h; exact A_region
theorem o_draw (k : Code) (i : Nat) (l : List Oper) (h : k = .region i l.toArray true) {P : Program} {ro : Option Nat} {n : Nat} {Q : QA} {e : En} {ds : DS} {m : Mem} {L : Lst} : T P ro n k Q e ds m L = @drawCA ⟨P, ro, n, l.toArray, Q⟩ e ds m L := by subst h; exact A_draw
theorem o_range (k : Code) (f : Operand) (ps : List Tmp) (a b : Code) (h : k = .rangeFunc f ps.toArray a b) {P : Program} {ro : Option Nat} {n : Nat} {Q : QA} {e : En} {ds : DS} {m : Mem} {L : Lst} : T P ro n k Q e ds m L = @rawCA ⟨P, ro, n, .rangeFunc f ps.toArray a b, Q⟩ e ds m L := by subst h; exact A_rangeFunc
theorem o_label (k : Code) (l : Nat) (h : k = .label l) {P : Program} {ro : Option Nat} {n : Nat} {Q : QA} {e : En} {ds : DS} {m : Mem} {L : Lst} : T P ro n k Q e ds m L = @rawCA ⟨P, ro, n, .label l, Q⟩ e ds m L := by subst h; exact A_label
theorem o_scope (k a : Code) (h : k = .scope a) {P : Program} {ro : Option Nat} {n : Nat} {Q : QA} {e : En} {ds : DS} {m : Mem} {L : Lst} : T P ro n k Q e ds m L = @rawCA ⟨P, ro, n, .scope a, Q⟩ e ds m L := by subst h; exact A_scope
theorem TakeL.hd {b : Nat} {o : Obj} {L : Lst} : TakeL ((b, o) :: L) [(b, o)] L := TakeL.here (X := [(b, o)])
/-! ### what a goal is of -/
section
variable {P : Program} {C : KA} {m : Mem} {L : Lst} {a b c : Value}
theorem gd_new {v : Nat → Value} {o : Obj} (h : newA v o m L) : newA v o m L := h
theorem gd_load {s : Option (Option Nat)} (h : loadA s a m L) : loadA s a m L := h
theorem gd_rload {s : Option (Option Nat)} {C : RSA} (h : rloadA s a m L) : rloadA s a m L := h
theorem gd_store {ok : Bool} (h : storeA a b ok m L) : storeA a b ok m L := h
theorem gd_bi {f : Builtin} {ts : Array TypeId} {ty : TypeId} {cs : Array Bool} {l : List Value} (h : biA P f ts ty cs l m L) : biA P f ts ty cs l m L := h
theorem gd_slice {T : TypeId} {x y z : Option Value} (h : sliceA P T a x y z m L) : sliceA P T a x y z m L := h
theorem gd_eq {p : Bool} {op : BinOp} {T : TypeId} {x y : Operand} (h : eqA p P op T x y a b m L) : eqA p P op T x y a b m L := h
theorem gd_conv {k : Option IntKind} {s t : TypeId} (h : convA k P s t a m L) : convA k P s t a m L := h
theorem gd_look {T : TypeId} {ok : Bool} (h : lookA P T a b ok m L) : lookA P T a b ok m L := h
theorem gd_mupd {T : TypeId} (h : mupdA P T a b c m L) : mupdA P T a b c m L := h
theorem gd_make {T : TypeId} (h : makeA P T a b m L) : makeA P T a b m L := h
theorem gd_call {l : List Value} (h : callA P a l m L) : callA P a l m L := h
theorem gd_top {ro : Option Nat} {o : Oper} {e : En} (h : topC P ro o e m L) : topC P ro o e m L := h
theorem gd_raw {C : RPA} {e : En} {ds : DS} (h : rawCA e ds m L) : rawCA e ds m L := h
theorem gd_draw {C : DPA} {e : En} {ds : DS} (h : drawCA e ds m L) : drawCA e ds m L := h
theorem gd_gate {p : Prop} {C : GA} (h : gateA p) : gateA p := h
theorem gd_cond {C : PP} (h : condC a) : condC a := h
theorem gd_guard {w : Bool} {C : PP} (h : guardC a w) : guardC a w := h
/-! ### a region that reads what is one's own -/
theorem Inv.pubs {m : Mem} : ∀ {B L : Lst} {w : World}, Inv m (B ++ L) w → ∃ m', m.Le m' ∧ (∀ p ∈ B, m'.blk p.1 = some p.2) ∧ Inv m' L w
  | [], L, w, h => ⟨m, .refl _, fun p hp => (by cases hp), h⟩
  | q :: B, L, w, h => by
    obtain ⟨h1, h2, h3⟩ := Inv.pub (b := q.1) (o := q.2) h
    obtain ⟨m', k1, k2, k3⟩ := Inv.pubs h3
    refine ⟨m', h1.trans k1, fun p hp => ?_, k3⟩
    rcases List.mem_cons.1 hp with rfl | hp
    · exact k1.blk _ _ h2
    · exact k2 p hp
/-- What is lent can be had back. -/
theorem Inv.back {m m1 : Mem} {B L : Lst} {w : World} (h : Inv m1 L w) (k1 : m.Le m1) (k2 : ∀ p ∈ B, m1.blk p.1 = some p.2) (k3 : ∀ p ∈ B, m.blk p.1 = none) (k4 : (B.map (·.1)).Nodup) : Inv m (B ++ L) w := by
  have hlow := h.low k1
  refine ⟨hlow.os, hlow.tape, hlow.output, hlow.blk, fun q hq => ?_, ?_⟩
  · rcases List.mem_append.1 hq with hb | hl
    · exact ⟨h.blk _ _ (k2 q hb), k3 q hb⟩
    · exact hlow.own q hl
  · rw [List.map_append, List.nodup_append]
    refine ⟨k4, h.nodup, fun a ha b hb hab => ?_⟩
    subst hab
    obtain ⟨q, hq1, hq2⟩ := List.mem_map.1 ha
    obtain ⟨r, hr1, hr2⟩ := List.mem_map.1 hb
    have h1 := k2 q hq1
    have h2 := (h.own r hr1).2
    rw [hr2, ← hq2, h1] at h2; cases h2
/-- Blocks of one's own stay as they are while a region draws its order. -/
theorem draw_borrow {ro : Option Nat} {n : Nat} {ops : Array Oper} {Q : QA} {e : En} {ds : DS} {B L1 : Lst} (p : L.Perm (B ++ L1))
    (h : ∀ m1, m.Le m1 → (∀ L' w, Inv m1 L' w → Inv m (B ++ L') w) → @drawCA ⟨P, ro, n, ops, fun x e ds m' L' => m' = m1 ∧ Q x e ds m (B ++ L')⟩ e ds m1 L1) : @drawCA ⟨P, ro, n, ops, Q⟩ e ds m L := by
  intro L0 w hI
  have hI2 : Inv m (B ++ (L1 ++ L0)) w := by rw [← List.append_assoc]; exact hI.perm (p.append_right L0)
  obtain ⟨m1, k1, k2, k3⟩ := Inv.pubs hI2
  have hnd := hI2.nodup
  rw [List.map_append, List.nodup_append] at hnd
  have hbk : ∀ L' w, Inv m1 L' w → Inv m (B ++ L') w := fun L' w hI' => hI'.back k1 k2 (fun q hq => (hI2.own q (List.mem_append_left _ hq)).2) hnd.1
  have hd := h m1 k1 hbk L0 w k3
  refine S_mono (.region 0 ops true) ?_ (show S P ro n (.region 0 ops true) _ e ds w from hd)
  rintro x e' ds' w' ⟨m', L', hI', rfl, hq⟩
  exact ⟨m, B ++ L', by rw [List.append_assoc]; exact hbk _ _ hI', hq⟩
theorem At.lent {m1 : Mem} {B : Lst} {b : Nat} {cs : Array Value} (h : At m B b cs) (hb : ∀ L' w, Inv m1 L' w → Inv m (B ++ L') w) : At m1 [] b cs := fun L0 w hI => h L0 w (hb _ _ hI)
/-! ### loads in two steps -/
def loadB (s : Option (Option Nat)) (cs : Array Value) (o : Nat) [C : KA] (m : Mem) (L : Lst) : Prop := match s with
  | some none => ∃ v, cs[o]? = some v ∧ C.k v m L
  | some (some n) => ∃ l, subL cs o n = some l ∧ C.k (.agg l.toArray) m L
  | none => False
theorem ld_by {s : Option (Option Nat)} {b o : Nat} {cs : Array Value} (h : At m L b cs) (hk : loadB s cs o m L) : loadA s (.pointer (some ⟨b, o, none⟩)) m L := by
  unfold loadB at hk
  split at hk
  · obtain ⟨v, hv, hk⟩ := hk; exact ld_one h hv hk
  · obtain ⟨l, hl, hk⟩ := hk; exact ld_agg h hl hk
  · exact hk.elim
theorem lb_one {cs : Array Value} {o : Nat} {v : Value} (hv : cs[o]? = some v) (hk : C.k v m L) : loadB (some none) cs o m L := ⟨v, hv, hk⟩
theorem lb_agg {cs : Array Value} {o n : Nat} {l : List Value} (hv : subL cs o n = some l) (hk : C.k (.agg l.toArray) m L) : loadB (some (some n)) cs o m L := ⟨l, hv, hk⟩
def rloadB (s : Option (Option Nat)) (cs : Array Value) (o : Nat) [C : RSA] : Prop := match s with
  | some none => ∃ v, cs[o]? = some v ∧ C.k v
  | some (some n) => ∃ l, subL cs o n = some l ∧ C.k (.agg l.toArray)
  | none => False
theorem rl_by {s : Option (Option Nat)} {b o : Nat} {cs : Array Value} {C : RSA} (h : At m L b cs) (hk : rloadB s cs o) : rloadA s (.pointer (some ⟨b, o, none⟩)) m L := by
  unfold rloadB at hk
  split at hk
  · obtain ⟨v, hv, hk⟩ := hk; exact rl_one h hv hk
  · obtain ⟨l, hl, hk⟩ := hk; exact rl_agg h hl hk
  · exact hk.elim
theorem rb_one {C : RSA} {cs : Array Value} {o : Nat} {v : Value} (hv : cs[o]? = some v) (hk : C.k v) : rloadB (some none) cs o := ⟨v, hv, hk⟩
theorem rb_agg {C : RSA} {cs : Array Value} {o n : Nat} {l : List Value} (hv : subL cs o n = some l) (hk : C.k (.agg l.toArray)) : rloadB (some (some n)) cs o := ⟨l, hv, hk⟩
end
end Go.Eng
