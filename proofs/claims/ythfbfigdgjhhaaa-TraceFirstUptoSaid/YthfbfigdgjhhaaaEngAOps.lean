/- The engine over abstract states: code and operations as equations for simp, and rules for memory. -/
import Derived.Test.YthfbfigdgjhhaaaEngA
set_option linter.all false
set_option linter.unusedSimpArgs false
set_option linter.unusedVariables false
namespace Go.Eng
open Go Go.RowKit
class LPA where
  body : QA → En → DS → Mem → Lst → Prop
  q : QA
def loopCA [C : LPA] (e : En) (ds : DS) (m : Mem) (L : Lst) : Prop := loopPA C.body C.q e ds m L
class DPA where
  P : Program
  ro : Option Nat
  n : Nat
  ops : Array Oper
  q : QA
def drawCA [C : DPA] (e : En) (ds : DS) (m : Mem) (L : Lst) : Prop := ∀ L0 w, Inv m (L ++ L0) w → drawP C.P C.ro C.n C.ops (conc L0 C.q) e ds w
class RPA where
  P : Program
  ro : Option Nat
  n : Nat
  c : Code
  q : QA
def rawCA [C : RPA] (e : En) (ds : DS) (m : Mem) (L : Lst) : Prop := ∀ L0 w, Inv m (L ++ L0) w → rawP C.P C.ro C.n C.c (conc L0 C.q) e ds w
section code
variable {P : Program} {ro : Option Nat} {n : Nat} {Q : QA} {e : En} {ds : DS} {m : Mem} {L : Lst}
theorem A_skip : T P ro n .skip Q e ds m L = Q .normal e ds m L := Eq.trans rfl rfl
theorem A_seq {a b : Code} : T P ro n (.seq a b) Q e ds m L = T P ro n a (thenA (T P ro n b Q) Q) e ds m L := Eq.trans rfl rfl
theorem A_cond {c : Operand} {t f : Code} : T P ro n (.cond c t f) Q e ds m L = @condC (ev e c) ⟨T P ro n t Q e ds m L, T P ro n f Q e ds m L⟩ := Eq.trans rfl rfl
theorem A_block {id : Nat} {c : Code} : T P ro n (.block id c) Q e ds m L = T P ro n c (blockA id Q) e ds m L := Eq.trans rfl rfl
theorem A_loop {c : Code} : T P ro n (.loop c) Q e ds m L = @loopCA ⟨T P ro n c, Q⟩ e ds m L := Eq.trans rfl rfl
theorem A_exit {id : Nat} : T P ro n (.exit id) Q e ds m L = Q (.exit id) e ds m L := Eq.trans rfl rfl
theorem A_ret : T P ro n .ret Q e ds m L = Q .ret e ds m L := Eq.trans rfl rfl
theorem A_region {id : Nat} {l : List Oper} : T P ro n (.region id l.toArray false) Q e ds m L = aops P ro (dsts l) (Q .normal) (fun ch => Q (.panic ch)) l e ds m L := Eq.trans rfl rfl
theorem A_draw {id : Nat} {ops : Array Oper} : T P ro n (.region id ops true) Q e ds m L = @drawCA ⟨P, ro, n, ops, Q⟩ e ds m L := Eq.trans rfl rfl
theorem A_rangeFunc {f : Operand} {ps : Array Tmp} {a b : Code} : T P ro n (.rangeFunc f ps a b) Q e ds m L = @rawCA ⟨P, ro, n, .rangeFunc f ps a b, Q⟩ e ds m L := Eq.trans rfl rfl
theorem A_label {l : Nat} : T P ro n (.label l) Q e ds m L = @rawCA ⟨P, ro, n, .label l, Q⟩ e ds m L := Eq.trans rfl rfl
theorem A_scope {c : Code} : T P ro n (.scope c) Q e ds m L = @rawCA ⟨P, ro, n, .scope c, Q⟩ e ds m L := Eq.trans rfl rfl
variable {K : En → DS → Mem → Lst → Prop}
theorem thenA_normal : thenA K Q .normal e ds m L = K e ds m L := Eq.trans rfl rfl
theorem thenA_exit {i : Nat} : thenA K Q (.exit i) e ds m L = Q (.exit i) e ds m L := Eq.trans rfl rfl
theorem thenA_ret : thenA K Q .ret e ds m L = Q .ret e ds m L := Eq.trans rfl rfl
theorem thenA_panic {ch : List PanicEntry} : thenA K Q (.panic ch) e ds m L = Q (.panic ch) e ds m L := Eq.trans rfl rfl
theorem blockA_normal {id : Nat} : blockA id Q .normal e ds m L = Q .normal e ds m L := Eq.trans rfl rfl
theorem blockA_exit {id i : Nat} : blockA id Q (.exit i) e ds m L = @ifC (i == id) ⟨Q .normal e ds m L, Q (.exit i) e ds m L⟩ := by
  unfold blockA ifC; by_cases h : i = id <;> simp [h]
theorem blockA_ret {id : Nat} : blockA id Q .ret e ds m L = Q .ret e ds m L := Eq.trans rfl rfl
theorem blockA_panic {id : Nat} {ch : List PanicEntry} : blockA id Q (.panic ch) e ds m L = Q (.panic ch) e ds m L := Eq.trans rfl rfl
theorem guardC_un {want : Bool} {C : PP} : guardC undef want = C.b := by simp [guardC, guardP, undef]
/-- What registers hold. -/
def Fits (e : En) : List (Nat × Value) → Prop
  | [] => True
  | (k, v) :: r => e k = v ∧ Fits e r
theorem fits_nil {e : En} : Fits e [] = True := Eq.trans rfl rfl
theorem fits_cons {e : En} {k : Nat} {v : Value} {r : List (Nat × Value)} : Fits e ((k, v) :: r) = (e k = v ∧ Fits e r) := Eq.trans rfl rfl
/-- A loop with an invariant over a ghost. -/
theorem loopA_of {c : Code} {γ : Type} (ρ : γ → List (Nat × Value)) (J : γ → Mem → Lst → Prop) (μ : γ → Nat) (g : γ) (h0 : Fits e (ρ g)) (hj : endA (J g) m L)
    (hr : ∀ g e m L, Fits e (ρ g) → J g m L → T P ro n c (thenA (fun e' ds' m' L' => @nextCA ⟨fun e ds m L => ∃ g', endA (fun m L => ds = [] ∧ Fits e (ρ g') ∧ J g' m L) m L ∧ μ g' < μ g⟩ e' ds' m' L') Q) e [] m L) : @loopCA ⟨T P ro n c, Q⟩ e [] m L := by
  refine ⟨γ, fun g e ds m L => ds = [] ∧ Fits e (ρ g) ∧ J g m L, μ, g, ?_, ?_⟩
  · intro L0 w hI
    obtain ⟨m', L', h1, h2⟩ := hj L0 w hI
    exact ⟨m', L', h1, rfl, h0, h2⟩
  · rintro g e ds m L ⟨rfl, h1, h2⟩
    exact hr g e m L h1 h2
theorem next_of {γ : Type} {ρ : γ → List (Nat × Value)} {J : γ → Mem → Lst → Prop} {μ : γ → Nat} {g : γ} (g' : γ) (hf : Fits e (ρ g')) (hj : endA (J g') m L) (hμ : μ g' < μ g) :
    @nextCA ⟨fun e ds m L => ∃ g', endA (fun m L => ds = [] ∧ Fits e (ρ g') ∧ J g' m L) m L ∧ μ g' < μ g⟩ e [] m L := by
  refine ⟨g', ?_, hμ⟩
  intro L0 w hI
  obtain ⟨m', L', h1, h2⟩ := hj L0 w hI
  exact ⟨m', L', h1, rfl, hf, h2⟩
variable {R : Value → Mem → Lst → Prop} {X : List PanicEntry → Mem → Lst → Prop} {rs : List ResultVar}
theorem bodyA_ret : bodyA P rs R X .ret e [] m L = resA P e m L R rs [] := by simp [bodyA]
theorem bodyA_normal : bodyA P rs R X .normal e [] m L = resA P e m L R rs [] := by simp [bodyA]
theorem bodyA_panic {ch : List PanicEntry} : bodyA P rs R X (.panic ch) e [] m L = endA (X ch) m L := by simp [bodyA]
theorem resA_one {v : Value} : resA P e m L R [] [v] = endA (R v) m L := Eq.trans rfl rfl
theorem resA_none : resA P e m L R [] [] = endA (R (.tuple #[])) m L := Eq.trans rfl rfl
theorem resA_two {u v : Value} : resA P e m L R [] [v, u] = endA (R (.tuple #[u, v])) m L := Eq.trans rfl rfl
theorem resA_three {u v x : Value} : resA P e m L R [] [x, v, u] = endA (R (.tuple #[u, v, x])) m L := Eq.trans rfl rfl
theorem resA_four {u v x y : Value} : resA P e m L R [] [y, x, v, u] = endA (R (.tuple #[u, v, x, y])) m L := Eq.trans rfl rfl
theorem resA_tmp {t : Nat} {r : List ResultVar} {acc : List Value} : resA P e m L R (.tmp t :: r) acc = resA P e m L R r (e t :: acc) := Eq.trans rfl rfl
class RSA where
  k : Value → Prop
def rloadA (s : Option (Option Nat)) (a : Value) (m : Mem) (L : Lst) [C : RSA] : Prop := ∀ L0 w, Inv m (L ++ L0) w → @loadM s a ⟨fun v w' => w' = w ∧ C.k v, fun _ _ => False, fun _ _ => False⟩ w
theorem resA_cell {a : Nat} {t : TypeId} {r : List ResultVar} {acc : List Value} : resA P e m L R (.cell a t :: r) acc = @rloadA (shapeOf P t) (e a) m L ⟨fun v => resA P e m L R r (v :: acc)⟩ := Eq.trans rfl rfl
theorem RSA_k {k : Value → Prop} {v : Value} : (RSA.mk k).k v = k v := Eq.trans rfl rfl
end code
section ops
variable {P : Program} {ro : Option Nat} {dl : List (Option Nat)} {K : En → DS → Mem → Lst → Prop} {X : List PanicEntry → En → DS → Mem → Lst → Prop} {e : En} {ds : DS} {m : Mem} {L : Lst}
theorem aops_nil : aops P ro dl K X [] e ds m L = K e ds m L := Eq.trans rfl rfl
theorem aops_cons {d : Nat} {op : Op} {ty : TypeId} {ps : String} {af : Array Edge} {rest : List Oper} :
    aops P ro dl K X (⟨some d, op, ty, ps, af, none⟩ :: rest) e ds m L = @topC P ro ⟨some d, op, ty, ps, af, none⟩ e ⟨fun v m L => aops P ro dl K X rest (up e d v) ds m L,
      fun q m L => aops P ro dl K X rest (up e d undef) (q :: ds) m L, fun ch m L => X ch e ds m L⟩ m L := Eq.trans rfl rfl
theorem aops_cons_n {op : Op} {ty : TypeId} {ps : String} {af : Array Edge} {rest : List Oper} :
    aops P ro dl K X (⟨none, op, ty, ps, af, none⟩ :: rest) e ds m L = @topC P ro ⟨none, op, ty, ps, af, none⟩ e ⟨fun v m L => aops P ro dl K X rest e ds m L,
      fun q m L => aops P ro dl K X rest e (q :: ds) m L, fun ch m L => X ch e ds m L⟩ m L := Eq.trans rfl rfl
theorem aops_guard {d : Nat} {op : Op} {ty : TypeId} {ps : String} {af : Array Edge} {rest : List Oper} {j : Nat} {want : Bool} :
    aops P ro dl K X (⟨some d, op, ty, ps, af, some (j, want)⟩ :: rest) e ds m L = @guardC (yld dl e j) want ⟨@topC P ro ⟨some d, op, ty, ps, af, none⟩ e ⟨fun v m L => aops P ro dl K X rest (up e d v) ds m L,
      fun q m L => aops P ro dl K X rest (up e d undef) (q :: ds) m L, fun ch m L => X ch e ds m L⟩ m L, aops P ro dl K X rest (up e d undef) ds m L⟩ := by
  unfold guardC; simp only [aops]; rfl
theorem aops_guard_n {op : Op} {ty : TypeId} {ps : String} {af : Array Edge} {rest : List Oper} {j : Nat} {want : Bool} :
    aops P ro dl K X (⟨none, op, ty, ps, af, some (j, want)⟩ :: rest) e ds m L = @guardC (yld dl e j) want ⟨@topC P ro ⟨none, op, ty, ps, af, none⟩ e ⟨fun v m L => aops P ro dl K X rest e ds m L,
      fun q m L => aops P ro dl K X rest e (q :: ds) m L, fun ch m L => X ch e ds m L⟩ m L, aops P ro dl K X rest e ds m L⟩ := by
  unfold guardC; simp only [aops]; rfl
end ops
section single
variable {P : Program} {ro : Option Nat} {e : En} {C : KA} {m : Mem} {L : Lst}
variable {d : Option Nat} {ty : TypeId} {ps : String} {af : Array Edge} {g : Option (Nat × Bool)}
theorem pu {X : Prop} : (∀ w : World, w = w ∧ X) = X := propext ⟨fun h => (h default).2, fun h w => ⟨rfl, h⟩⟩
/-- Goes on with a value, once it has been looked up. -/
def valA (v : Value) [C : KA] (m : Mem) (L : Lst) : Prop := C.k v m L
theorem valA_eq {v : Value} : valA v m L = C.k v m L := Eq.trans rfl rfl
theorem p_move {x : Operand} : topC P ro ⟨d, .move x, ty, ps, af, g⟩ e m L = valA (ev e x) m L := by
  show (∀ w, @sopC P ro _ e (pk C m L w) w) = _
  simp only [o_move, valC_eq]; exact pu
theorem p_assign {x : Operand} : topC P ro ⟨d, .assign x, ty, ps, af, g⟩ e m L = valA (ev e x) m L := by
  show (∀ w, @sopC P ro _ e (pk C m L w) w) = _
  simp only [o_assign, valC_eq]; exact pu
def pickA (c a b : Value) [C : KA] (m : Mem) (L : Lst) : Prop := ∀ w, @pickP c a b (pk C m L w) w
theorem p_pick {c a b : Operand} : topC P ro ⟨d, .pick c a b, ty, ps, af, g⟩ e m L = pickA (ev e c) (ev e a) (ev e b) m L := by
  show (∀ w, @sopC P ro _ e (pk C m L w) w) = _
  simp only [o_pick]; rfl
theorem pickA_true {a b : Value} : pickA (.bool true) a b m L = C.k a m L := by unfold pickA; simp only [pickP_true]; exact pu
theorem pickA_false {a b : Value} : pickA (.bool false) a b m L = C.k b m L := by unfold pickA; simp only [pickP_false]; exact pu
theorem pickA_and {p q : Bool} : pickA (.bool p) (.bool q) (.bool false) m L = C.k (.bool (p && q)) m L := by unfold pickA; simp only [pickP_and]; exact pu
theorem pickA_or {p q : Bool} : pickA (.bool p) (.bool true) (.bool q) m L = C.k (.bool (p || q)) m L := by unfold pickA; simp only [pickP_or]; exact pu
def binA (P : Program) (op : BinOp) (T : TypeId) (x y : Operand) (a b : Value) [C : KA] (m : Mem) (L : Lst) : Prop := ∀ w, @binP P op T x y a b (pk C m L w) w
def eqA (p : Bool) (P : Program) (op : BinOp) (T : TypeId) (x y : Operand) (a b : Value) [C : KA] (m : Mem) (L : Lst) : Prop :=
  bif p then ∀ L0 w, Inv m (L ++ L0) w → @binP P op T x y a b (ck C L0) w else binA P op T x y a b m L
section
variable {T U : TypeId} {x y : Operand}
theorem p_bin {op : BinOp} (h : pureOp P (.binOp op T x y U) = true) : topC P ro ⟨d, .binOp op T x y U, ty, ps, af, g⟩ e m L = binA P op T x y (ev e x) (ev e y) m L := by
  show (bif pureOp P (.binOp op T x y U) then pureA P ro _ e m L else genA P ro _ e m L) = _
  rw [h]
  show (∀ w, @sopC P ro _ e (pk C m L w) w) = _
  simp only [o_bin]; rfl
theorem p_add : topC P ro ⟨d, .binOp .add T x y U, ty, ps, af, g⟩ e m L = binA P .add T x y (ev e x) (ev e y) m L := p_bin rfl
theorem p_sub : topC P ro ⟨d, .binOp .sub T x y U, ty, ps, af, g⟩ e m L = binA P .sub T x y (ev e x) (ev e y) m L := p_bin rfl
theorem p_mul : topC P ro ⟨d, .binOp .mul T x y U, ty, ps, af, g⟩ e m L = binA P .mul T x y (ev e x) (ev e y) m L := p_bin rfl
theorem p_quo : topC P ro ⟨d, .binOp .quo T x y U, ty, ps, af, g⟩ e m L = binA P .quo T x y (ev e x) (ev e y) m L := p_bin rfl
theorem p_rem : topC P ro ⟨d, .binOp .rem T x y U, ty, ps, af, g⟩ e m L = binA P .rem T x y (ev e x) (ev e y) m L := p_bin rfl
theorem p_and : topC P ro ⟨d, .binOp .and T x y U, ty, ps, af, g⟩ e m L = binA P .and T x y (ev e x) (ev e y) m L := p_bin rfl
theorem p_or : topC P ro ⟨d, .binOp .or T x y U, ty, ps, af, g⟩ e m L = binA P .or T x y (ev e x) (ev e y) m L := p_bin rfl
theorem p_xor : topC P ro ⟨d, .binOp .xor T x y U, ty, ps, af, g⟩ e m L = binA P .xor T x y (ev e x) (ev e y) m L := p_bin rfl
theorem p_andNot : topC P ro ⟨d, .binOp .andNot T x y U, ty, ps, af, g⟩ e m L = binA P .andNot T x y (ev e x) (ev e y) m L := p_bin rfl
theorem p_shl : topC P ro ⟨d, .binOp .shl T x y U, ty, ps, af, g⟩ e m L = binA P .shl T x y (ev e x) (ev e y) m L := p_bin rfl
theorem p_shr : topC P ro ⟨d, .binOp .shr T x y U, ty, ps, af, g⟩ e m L = binA P .shr T x y (ev e x) (ev e y) m L := p_bin rfl
theorem p_lss : topC P ro ⟨d, .binOp .lss T x y U, ty, ps, af, g⟩ e m L = binA P .lss T x y (ev e x) (ev e y) m L := p_bin rfl
theorem p_leq : topC P ro ⟨d, .binOp .leq T x y U, ty, ps, af, g⟩ e m L = binA P .leq T x y (ev e x) (ev e y) m L := p_bin rfl
theorem p_gtr : topC P ro ⟨d, .binOp .gtr T x y U, ty, ps, af, g⟩ e m L = binA P .gtr T x y (ev e x) (ev e y) m L := p_bin rfl
theorem p_geq : topC P ro ⟨d, .binOp .geq T x y U, ty, ps, af, g⟩ e m L = binA P .geq T x y (ev e x) (ev e y) m L := p_bin rfl
theorem p_eql : topC P ro ⟨d, .binOp .eql T x y U, ty, ps, af, g⟩ e m L = eqA (ptrish P T) P .eql T x y (ev e x) (ev e y) m L := by
  show (bif !ptrish P T then pureA P ro _ e m L else genA P ro _ e m L) = _
  unfold eqA; cases ptrish P T
  · show (∀ w, @sopC P ro _ e (pk C m L w) w) = _; simp only [o_bin]; rfl
  · show (∀ L0 w, Inv m (L ++ L0) w → @sopC P ro _ e (ck C L0) w) = _; simp only [o_bin]; rfl
theorem p_neq : topC P ro ⟨d, .binOp .neq T x y U, ty, ps, af, g⟩ e m L = eqA (ptrish P T) P .neq T x y (ev e x) (ev e y) m L := by
  show (bif !ptrish P T then pureA P ro _ e m L else genA P ro _ e m L) = _
  unfold eqA; cases ptrish P T
  · show (∀ w, @sopC P ro _ e (pk C m L w) w) = _; simp only [o_bin]; rfl
  · show (∀ L0 w, Inv m (L ++ L0) w → @sopC P ro _ e (ck C L0) w) = _; simp only [o_bin]; rfl
theorem eqA_false {op : BinOp} {a b : Value} : eqA false P op T x y a b m L = binA P op T x y a b m L := Eq.trans rfl rfl
variable {k : IntKind} {a b : Int}
theorem ab_add : binA P .add T x y (.int k a) (.int k b) m L = C.k (.int k (k.wrap (a + b))) m L := by unfold binA; simp only [b_add]; exact pu
theorem ab_sub : binA P .sub T x y (.int k a) (.int k b) m L = C.k (.int k (k.wrap (a - b))) m L := by unfold binA; simp only [b_sub]; exact pu
theorem ab_mul : binA P .mul T x y (.int k a) (.int k b) m L = C.k (.int k (k.wrap (a * b))) m L := by unfold binA; simp only [b_mul]; exact pu
theorem ab_quo (h : b ≠ 0) : binA P .quo T x y (.int k a) (.int k b) m L = C.k (.int k (k.wrap (a.tdiv b))) m L := by unfold binA; simp only [b_quo h]; exact pu
theorem ab_rem (h : b ≠ 0) : binA P .rem T x y (.int k a) (.int k b) m L = C.k (.int k (a.tmod b)) m L := by unfold binA; simp only [b_rem h]; exact pu
theorem ab_and : binA P .and T x y (.int k a) (.int k b) m L = C.k (.int k (bitsK .and k a b)) m L := by unfold binA; simp only [b_and]; exact pu
theorem ab_or : binA P .or T x y (.int k a) (.int k b) m L = C.k (.int k (bitsK .or k a b)) m L := by unfold binA; simp only [b_or]; exact pu
theorem ab_xor : binA P .xor T x y (.int k a) (.int k b) m L = C.k (.int k (bitsK .xor k a b)) m L := by unfold binA; simp only [b_xor]; exact pu
theorem ab_shl {yk : IntKind} (h : 0 ≤ b) : binA P .shl T x y (.int k a) (.int yk b) m L = C.k (.int k (k.wrap (a * 2 ^ min b.toNat k.bits))) m L := by unfold binA; simp only [b_shl h]; exact pu
theorem ab_shr {yk : IntKind} (h : 0 ≤ b) : binA P .shr T x y (.int k a) (.int yk b) m L = C.k (.int k (a.fdiv (2 ^ min b.toNat k.bits))) m L := by unfold binA; simp only [b_shr h]; exact pu
theorem ab_eql : binA P .eql T x y (.int k a) (.int k b) m L = C.k (.bool (decide (a = b))) m L := by unfold binA; simp only [b_eql]; exact pu
theorem ab_neq : binA P .neq T x y (.int k a) (.int k b) m L = C.k (.bool (decide (a ≠ b))) m L := by unfold binA; simp only [b_neq]; exact pu
theorem ab_lss : binA P .lss T x y (.int k a) (.int k b) m L = C.k (.bool (decide (a < b))) m L := by unfold binA; simp only [b_lss]; exact pu
theorem ab_leq : binA P .leq T x y (.int k a) (.int k b) m L = C.k (.bool (decide (a ≤ b))) m L := by unfold binA; simp only [b_leq]; exact pu
theorem ab_gtr : binA P .gtr T x y (.int k a) (.int k b) m L = C.k (.bool (decide (b < a))) m L := by unfold binA; simp only [b_gtr]; exact pu
theorem ab_geq : binA P .geq T x y (.int k a) (.int k b) m L = C.k (.bool (decide (b ≤ a))) m L := by unfold binA; simp only [b_geq]; exact pu
theorem ab_eql_str {s t : ByteArray} : binA P .eql T x y (.string s) (.string t) m L = C.k (.bool (decide (s = t))) m L := by unfold binA; simp only [b_eql_str]; exact pu
theorem ab_neq_str {s t : ByteArray} : binA P .neq T x y (.string s) (.string t) m L = C.k (.bool (decide (s ≠ t))) m L := by unfold binA; simp only [b_neq_str]; exact pu
/-- A fact of the elder engine on a comparison, for this one. -/
theorem ab_of {op : BinOp} {a b v : Value} (h : ∀ (C : KX) (w : World), @binP P op T x y a b C w = C.k v w) : binA P op T x y a b m L = C.k v m L := by unfold binA; simp only [h]; exact pu
end
section
variable {P : Program}
def unA (P : Program) (op : UnOp) (a : Value) [C : KA] (m : Mem) (L : Lst) : Prop := ∀ w, @unP P op a (pk C m L w) w
theorem p_un {op : UnOp} {T : TypeId} {x : Operand} : topC P ro ⟨d, .unOp op T x, ty, ps, af, g⟩ e m L = unA P op (ev e x) m L := by
  show (∀ w, @sopC P ro _ e (pk C m L w) w) = _
  simp only [o_un]; rfl
theorem au_not {b : Bool} : unA P .not (.bool b) m L = C.k (.bool (!b)) m L := by unfold unA; simp only [u_not]; exact pu
theorem au_neg {k : IntKind} {a : Int} : unA P .neg (.int k a) m L = C.k (.int k (k.wrap (-a))) m L := by unfold unA; simp only [u_neg]; exact pu
theorem au_xor {k : IntKind} {a : Int} : unA P .xor (.int k a) m L = C.k (.int k (bitsK .xor k (if k.signed then -1 else k.max) a)) m L := by unfold unA; simp only [u_xor]; exact pu
def convA (c : Option IntKind) (P : Program) (s t : TypeId) (a : Value) [C : KA] (m : Mem) (L : Lst) : Prop := match c, a with
  | some k, .int _ n => C.k (.int k (k.wrap n)) m L
  | some _, _ => False
  | none, a => ∀ L0 w, Inv m (L ++ L0) w → @convP P s t a (ck C L0) w
theorem convA_int {s t : TypeId} {k k' : IntKind} {n : Int} : convA (some k) P s t (.int k' n) m L = C.k (.int k (k.wrap n)) m L := Eq.trans rfl rfl
theorem p_conv {s t : TypeId} {x : Operand} (hx : ∀ k, intConv P s t = some k → ∃ k' n, ev e x = .int k' n) : topC P ro ⟨d, .convert s t x, ty, ps, af, g⟩ e m L = convA (intConv P s t) P s t (ev e x) m L := by
  show (bif (intConv P s t).isSome then pureA P ro _ e m L else genA P ro _ e m L) = _
  cases hc : intConv P s t with
  | none => show (∀ L0 w, Inv m (L ++ L0) w → @sopC P ro _ e (ck C L0) w) = _; simp only [o_conv]; rfl
  | some k =>
    obtain ⟨k', n, hn⟩ := hx k hc
    show (∀ w, @sopC P ro _ e (pk C m L w) w) = _
    simp only [o_conv, hn, c_int hc]; exact pu
theorem p_conv_none {s t : TypeId} {x : Operand} (hc : intConv P s t = none) : topC P ro ⟨d, .convert s t x, ty, ps, af, g⟩ e m L = convA none P s t (ev e x) m L := by
  show (bif (intConv P s t).isSome then pureA P ro _ e m L else genA P ro _ e m L) = _
  rw [hc]
  show (∀ L0 w, Inv m (L ++ L0) w → @sopC P ro _ e (ck C L0) w) = _; simp only [o_conv]; rfl
/-- A conversion between integers, of what has been looked up. -/
def iconvA (P : Program) (s t : TypeId) (a : Value) [C : KA] (m : Mem) (L : Lst) : Prop := ∀ w, @convP P s t a (pk C m L w) w
theorem p_iconv {s t : TypeId} {x : Operand} (h : (intConv P s t).isSome = true) : topC P ro ⟨d, .convert s t x, ty, ps, af, g⟩ e m L = iconvA P s t (ev e x) m L := by
  show (bif (intConv P s t).isSome then pureA P ro _ e m L else genA P ro _ e m L) = _
  rw [h]
  show (∀ w, @sopC P ro _ e (pk C m L w) w) = _
  simp only [o_conv]; rfl
theorem iconvA_int {s t : TypeId} {k k' : IntKind} {n : Int} (h : intConv P s t = some k') : iconvA P s t (.int k n) m L = C.k (.int k' (k'.wrap n)) m L := by unfold iconvA; simp only [c_int h]; exact pu
def extA (a : Value) (i : Nat) [C : KA] (m : Mem) (L : Lst) : Prop := ∀ w, @extP a i (pk C m L w) w
theorem p_ext {x : Operand} {i : Nat} : topC P ro ⟨d, .extract x i, ty, ps, af, g⟩ e m L = extA (ev e x) i m L := by
  show (∀ w, @sopC P ro _ e (pk C m L w) w) = _
  simp only [o_ext]; rfl
theorem extA_0 {a : Value} {l : List Value} : extA (.tuple (a :: l).toArray) 0 m L = C.k a m L := by unfold extA; simp only [ext_0]; exact pu
theorem extA_1 {a b : Value} {l : List Value} : extA (.tuple (a :: b :: l).toArray) 1 m L = C.k b m L := by unfold extA; simp only [ext_1]; exact pu
theorem extA_2 {a b c : Value} {l : List Value} : extA (.tuple (a :: b :: c :: l).toArray) 2 m L = C.k c m L := by unfold extA; simp only [ext_2]; exact pu
theorem extA_3 {a b c q : Value} {l : List Value} : extA (.tuple (a :: b :: c :: q :: l).toArray) 3 m L = C.k q m L := by unfold extA; simp only [ext_3]; exact pu
def fldA (P : Program) (T : TypeId) (a : Value) (i : Nat) [C : KA] (m : Mem) (L : Lst) : Prop := ∀ w, @fldP P T a i (pk C m L w) w
theorem p_fldAddr {T : TypeId} {x : Operand} {i : Nat} : topC P ro ⟨d, .fieldAddr T x i, ty, ps, af, g⟩ e m L = fldA P T (ev e x) i m L := by
  show (∀ w, @sopC P ro _ e (pk C m L w) w) = _
  simp only [o_fldAddr]; rfl
theorem fldA_eq {T : TypeId} {p : Addr} {i off : Nat} (h : fldOff P T i = some off) : fldA P T (.pointer (some p)) i m L = C.k (.pointer (some (p.add off))) m L := by unfold fldA; simp only [f_addr h]; exact pu
def ixaA (P : Program) (T : TypeId) (a i : Value) [C : KA] (m : Mem) (L : Lst) : Prop := ∀ w, @ixaP P T a i (pk C m L w) w
theorem p_ixa {T : TypeId} {x y : Operand} : topC P ro ⟨d, .indexAddr T x y, ty, ps, af, g⟩ e m L = ixaA P T (ev e x) (ev e y) m L := by
  show (∀ w, @sopC P ro _ e (pk C m L w) w) = _
  simp only [o_ixa]; rfl
theorem ixaA_slice {T : TypeId} {p : Addr} {n c s : Nat} {k : IntKind} {i : Int} (hT : isSlice P T = true) (hs : elemSize P T = some s) (hi : 0 ≤ i ∧ i < n) :
    ixaA P T (.slice (some p) n c) (.int k i) m L = C.k (.pointer (some (p.add (i.toNat * s)))) m L := by unfold ixaA; simp only [i_slice hT hs hi]; exact pu
theorem ixaA_array {T : TypeId} {p : Addr} {n s : Nat} {k : IntKind} {i : Int} (hn : arrLen P T = some n) (hs : elemSize P T = some s) (hi : 0 ≤ i ∧ i < n) :
    ixaA P T (.pointer (some p)) (.int k i) m L = C.k (.pointer (some (p.add (i.toNat * s)))) m L := by unfold ixaA; simp only [i_array hn hs hi]; exact pu
def idxA (P : Program) (T : TypeId) (a i : Value) [C : KA] (m : Mem) (L : Lst) : Prop := ∀ w, @idxP P T a i (pk C m L w) w
theorem p_idx {T : TypeId} {x y : Operand} : topC P ro ⟨d, .index T x y, ty, ps, af, g⟩ e m L = idxA P T (ev e x) (ev e y) m L := by
  show (∀ w, @sopC P ro _ e (pk C m L w) w) = _
  simp only [o_idx]; rfl
theorem idxA_str {T : TypeId} {s : ByteArray} {k : IntKind} {i : Int} (hT : isStr P T = true) (hi : 0 ≤ i ∧ i < s.size) :
    idxA P T (.string s) (.int k i) m L = C.k (.int .u8 (byteAt s i)) m L := by unfold idxA; simp only [i_str hT hi]; exact pu
def cellCA (o : Option Value) [C : KA] (m : Mem) (L : Lst) : Prop := match o with | some v => C.k v m L | none => False
theorem cellCA_some {v : Value} : cellCA (some v) m L = C.k v m L := Eq.trans rfl rfl
theorem cellC_pk {o : Option Value} : (∀ w, @cellC o (pk C m L w) w) = cellCA o m L := by
  cases o with
  | none => exact propext ⟨fun h => h default, fun h => h.elim⟩
  | some v => exact pu
theorem idxA_arr1 {T E : TypeId} {n : Nat} {cs : Array Value} {k : IntKind} {i : Int} (hn : P.underlying T = some (.array n E)) (hs : elemSize P T = some 1) (ho : shapeOf P E = some none) (hi : 0 ≤ i ∧ i < n) :
    idxA P T (.agg cs) (.int k i) m L = cellCA (cs[i.toNat]?) m L := by unfold idxA; simp only [i_arr1 hn hs ho hi]; exact cellC_pk
def fieldA (P : Program) (T : TypeId) (a : Value) (i : Nat) [C : KA] (m : Mem) (L : Lst) : Prop := ∀ w, @fieldP P T a i (pk C m L w) w
theorem p_field {T : TypeId} {x : Operand} {i : Nat} : topC P ro ⟨d, .field T x i, ty, ps, af, g⟩ e m L = fieldA P T (ev e x) i m L := by
  show (∀ w, @sopC P ro _ e (pk C m L w) w) = _
  simp only [o_field]; rfl
theorem fieldA_one {T : TypeId} {cs : Array Value} {i off : Nat} (h : fldShape P T i = some (off, none)) : fieldA P T (.agg cs) i m L = cellCA (cs[off]?) m L := by unfold fieldA; simp only [f_one h]; exact cellC_pk
theorem fieldA_agg {T : TypeId} {cs : Array Value} {i off n : Nat} (h : fldShape P T i = some (off, some n)) : fieldA P T (.agg cs) i m L = C.k (.agg (cs.extract off (off + n))) m L := by unfold fieldA; simp only [f_agg h]; exact pu
def buildA (P : Program) (T : TypeId) (l : List (Nat × Value)) [C : KA] (m : Mem) (L : Lst) : Prop := ∀ w, @buildP P T l (pk C m L w) w
theorem p_build {T : TypeId} {l : List (Nat × Operand)} : topC P ro ⟨d, .build T l.toArray, ty, ps, af, g⟩ e m L = buildA P T (evParts e l) m L := by
  show (∀ w, @sopC P ro _ e (pk C m L w) w) = _
  simp only [o_build]; rfl
theorem buildA_eq {T : TypeId} {l : List (Nat × Value)} {cs : Array Value} (h : P.built T l = some cs) : buildA P T l m L = C.k (.agg cs) m L := by unfold buildA; simp only [d_build h]; exact pu
end
/-! ### memory -/
theorem p_box {T : TypeId} {x : Operand} : topC P ro ⟨d, .box T x, ty, ps, af, g⟩ e m L = boxA T (ev e x) m L := Eq.trans rfl rfl
theorem p_alloc {T : TypeId} : topC P ro ⟨d, .alloc T, ty, ps, af, g⟩ e m L = allocA (zeroOf P T) T m L := Eq.trans rfl rfl
/-- Goes on with a new block. -/
def newA (v : Nat → Value) (o : Obj) [C : KA] (m : Mem) (L : Lst) : Prop := ∀ b, C.k (v b) m ((b, o) :: L)
theorem newA_of {v : Nat → Value} {o : Obj} (h : ∀ b, C.k (v b) m ((b, o) :: L)) : newA v o m L := h
section
variable {T : TypeId} {cs : Array Value}
theorem boxA_agg : boxA T (.agg cs) m L = newA (fun b => .pointer (some ⟨b, 0, none⟩)) (.cells cs T (0, 0)) m L := Eq.trans rfl rfl
theorem boxA_int {k : IntKind} {a : Int} : boxA T (.int k a) m L = newA (fun b => .pointer (some ⟨b, 0, none⟩)) (.cells #[.int k a] T (0, 0)) m L := Eq.trans rfl rfl
theorem boxA_bool {a : Bool} : boxA T (.bool a) m L = newA (fun b => .pointer (some ⟨b, 0, none⟩)) (.cells #[.bool a] T (0, 0)) m L := Eq.trans rfl rfl
theorem boxA_str {a : ByteArray} : boxA T (.string a) m L = newA (fun b => .pointer (some ⟨b, 0, none⟩)) (.cells #[.string a] T (0, 0)) m L := Eq.trans rfl rfl
theorem boxA_ptr {a : Option Addr} : boxA T (.pointer a) m L = newA (fun b => .pointer (some ⟨b, 0, none⟩)) (.cells #[.pointer a] T (0, 0)) m L := Eq.trans rfl rfl
theorem boxA_slice {a : Option Addr} {n c : Nat} : boxA T (.slice a n c) m L = newA (fun b => .pointer (some ⟨b, 0, none⟩)) (.cells #[.slice a n c] T (0, 0)) m L := Eq.trans rfl rfl
theorem boxA_func {f : Fn} {a c : Array Value} : boxA T (.func f a c) m L = newA (fun b => .pointer (some ⟨b, 0, none⟩)) (.cells #[.func f a c] T (0, 0)) m L := Eq.trans rfl rfl
theorem boxA_nilFunc : boxA T .nilFunc m L = newA (fun b => .pointer (some ⟨b, 0, none⟩)) (.cells #[.nilFunc] T (0, 0)) m L := Eq.trans rfl rfl
theorem boxA_iface {u : TypeId} {v : Value} : boxA T (.iface u v) m L = newA (fun b => .pointer (some ⟨b, 0, none⟩)) (.cells #[.iface u v] T (0, 0)) m L := Eq.trans rfl rfl
theorem boxA_map {r : Option Nat} : boxA T (.map r) m L = newA (fun b => .pointer (some ⟨b, 0, none⟩)) (.cells #[.map r] T (0, 0)) m L := Eq.trans rfl rfl
theorem allocA_some {l : List Value} : allocA (some l) T m L = newA (fun b => .pointer (some ⟨b, 0, none⟩)) (.cells l.toArray T (0, 0)) m L := Eq.trans rfl rfl
end
def loadA (s : Option (Option Nat)) (a : Value) [C : KA] (m : Mem) (L : Lst) : Prop := ∀ L0 w, Inv m (L ++ L0) w → @loadM s a (ck C L0) w
theorem p_load {T : TypeId} {x : Operand} : topC P ro ⟨d, .load T x, ty, ps, af, g⟩ e m L = loadA (shapeOf P T) (ev e x) m L := Eq.trans rfl rfl
def storeA (a v : Value) (ok : Bool) [C : KA] (m : Mem) (L : Lst) : Prop := ∀ L0 w, Inv m (L ++ L0) w → @storeM a v ok (ck C L0) w
theorem p_store {T : TypeId} {x y : Operand} : topC P ro ⟨d, .store T x y, ty, ps, af, g⟩ e m L = storeA (ev e x) (ev e y) (sizeIs P T (ev e y).cells.size) m L := Eq.trans rfl rfl
/-- Where a block's cells are known. -/
def At (m : Mem) (L : Lst) (b : Nat) (cs : Array Value) : Prop := ∀ L0 w, Inv m (L ++ L0) w → ∃ T f, w.heap[b]? = some (.cells cs T f)
theorem at_own {L' : Lst} {b : Nat} {cs : Array Value} {T : TypeId} {f : Nat × Nat} (h : Take L b (.cells cs T f) L') : At m L b cs := fun L0 w hI => ⟨T, f, hI.heap h⟩
theorem at_mem {b : Nat} {cs : Array Value} {T : TypeId} {f : Nat × Nat} (h : m.blk b = some (.cells cs T f)) : At m L b cs := fun L0 w hI => ⟨T, f, hI.blk _ _ h⟩
theorem At.up {b : Nat} {cs : Array Value} (h : At m [] b cs) : At m L b cs := fun L0 w hI => h (L ++ L0) w hI
theorem At.le {m' : Mem} {b : Nat} {cs : Array Value} (h : At m L b cs) (hm : m.Le m') : At m' L b cs := fun L0 w hI => h L0 w (hI.low hm)
theorem cell_at {w : World} {b o : Nat} {cs : Array Value} {T : TypeId} {f : Nat × Nat} (h : w.heap[b]? = some (.cells cs T f)) : w.cell? ⟨b, o, none⟩ = cs[o]? := by simp [World.cell?, h]
theorem ld_one {b o : Nat} {cs : Array Value} {v : Value} (h : At m L b cs) (hv : cs[o]? = some v) (hk : C.k v m L) : loadA (some none) (.pointer (some ⟨b, o, none⟩)) m L := by
  intro L0 w hI
  obtain ⟨T, f, hb⟩ := h L0 w hI
  rw [loadM_one, cell_at hb, hv]
  exact ⟨m, L, hI, hk⟩
/-- n elements of an array, from a place on. -/
def subL (cs : Array Value) : Nat → Nat → Option (List Value)
  | _, 0 => some []
  | o, n + 1 => consO cs[o]? (subL cs (o + 1) n)
theorem cellsAt_sub {w : World} {b o : Nat} {cs : Array Value} {T : TypeId} {f : Nat × Nat} (hb : w.heap[b]? = some (.cells cs T f)) (n i : Nat) : cellsAt w ⟨b, o, none⟩ n i = subL cs (o + i) n := by
  induction n generalizing i with
  | zero => rfl
  | succ n ih =>
    rw [cellsAt_succ, ih, add_at, cell_at hb]; rfl
theorem ld_agg {b o n : Nat} {cs : Array Value} {l : List Value} (h : At m L b cs) (hv : subL cs o n = some l) (hk : C.k (.agg l.toArray) m L) : loadA (some (some n)) (.pointer (some ⟨b, o, none⟩)) m L := by
  intro L0 w hI
  obtain ⟨T, f, hb⟩ := h L0 w hI
  rw [loadM_agg, cellsAt_sub hb, Nat.add_zero, hv]
  exact ⟨m, L, hI, hk⟩
theorem rl_one {b o : Nat} {cs : Array Value} {v : Value} {C : RSA} (h : At m L b cs) (hv : cs[o]? = some v) (hk : C.k v) : rloadA (some none) (.pointer (some ⟨b, o, none⟩)) m L := by
  intro L0 w hI
  obtain ⟨T, f, hb⟩ := h L0 w hI
  rw [loadM_one, cell_at hb, hv]
  exact ⟨rfl, hk⟩
theorem rl_agg {b o n : Nat} {cs : Array Value} {l : List Value} {C : RSA} (h : At m L b cs) (hv : subL cs o n = some l) (hk : C.k (.agg l.toArray)) : rloadA (some (some n)) (.pointer (some ⟨b, o, none⟩)) m L := by
  intro L0 w hI
  obtain ⟨T, f, hb⟩ := h L0 w hI
  rw [loadM_agg, cellsAt_sub hb, Nat.add_zero, hv]
  exact ⟨rfl, hk⟩
theorem subL_zero {cs : Array Value} {o : Nat} : subL cs o 0 = some [] := Eq.trans rfl rfl
theorem subL_succ {cs : Array Value} {o n : Nat} : subL cs o (n + 1) = consO cs[o]? (subL cs (o + 1) n) := Eq.trans rfl rfl
theorem get_l {l : List Value} {i : Nat} : l.toArray[i]? = l[i]? := by simp
/-- Stores of cells, one behind the other, in a block. -/
def setL (l : List Value) : Nat → List Value → List Value
  | _, [] => l
  | o, v :: vs => setL (l.set o v) (o + 1) vs
theorem setL_nil {l : List Value} {o : Nat} : setL l o [] = l := Eq.trans rfl rfl
theorem setL_cons {l vs : List Value} {o : Nat} {v : Value} : setL l o (v :: vs) = setL (l.set o v) (o + 1) vs := Eq.trans rfl rfl
theorem wrOk_at {w : World} {b o : Nat} {cs : Array Value} {T : TypeId} (hb : w.heap[b]? = some (.cells cs T (0, 0))) (n i : Nat) (hn : o + i + n ≤ cs.size) : wrOk w ⟨b, o, none⟩ n i = true := by
  induction n generalizing i with
  | zero => rfl
  | succ n ih =>
    rw [wrOk_succ, ih (i + 1) (by omega), add_at, cell_at hb, Array.getElem?_eq_getElem (by omega)]
    simp [World.frozen?, hb]
theorem setCells_at {w : World} {b o : Nat} {l : List Value} {T : TypeId} (vs : List Value) (i : Nat) (hb : w.heap[b]? = some (.cells l.toArray T (0, 0))) :
    (setCells w ⟨b, o, none⟩ vs i).heap[b]? = some (.cells (setL l (o + i) vs).toArray T (0, 0)) ∧ (∀ c, c ≠ b → (setCells w ⟨b, o, none⟩ vs i).heap[c]? = w.heap[c]?) ∧
      (setCells w ⟨b, o, none⟩ vs i).os = w.os ∧ (setCells w ⟨b, o, none⟩ vs i).tape = w.tape ∧ (setCells w ⟨b, o, none⟩ vs i).output = w.output := by
  induction vs generalizing w l i with
  | nil => exact ⟨hb, fun _ _ => rfl, rfl, rfl, rfl⟩
  | cons v vs ih =>
    have hb' : (w.setCell (Addr.add ⟨b, o, none⟩ i) v).heap[b]? = some (.cells (l.set (o + i) v).toArray T (0, 0)) := by
      rw [add_at]; simp [World.setCell, Array.getElem?_modify, hb]
    obtain ⟨h1, h2, h3, h4, h5⟩ := ih (w := w.setCell (Addr.add ⟨b, o, none⟩ i) v) (i + 1) hb'
    refine ⟨h1, fun c hc => ?_, h3, h4, h5⟩
    refine (h2 c hc).trans ?_
    rw [add_at]; simp [World.setCell, Array.getElem?_modify, Ne.symm hc]
theorem st_own {L' : Lst} {b o : Nat} {l : List Value} {T : TypeId} {v : Value} (hp : Put L b (.cells l.toArray T (0, 0)) (.cells (setL l o v.cells.toList).toArray T (0, 0)) L') (h1 : oneAll v.cells.toList = true)
    (hn : o + v.cells.toList.length ≤ l.length) (hk : C.k undef m L') : storeA (.pointer (some ⟨b, o, none⟩)) v true m L := by
  intro L0 w hI
  rw [storeM_ptr]
  obtain ⟨R, q1, q2⟩ := hp.perm
  have hb : w.heap[b]? = some (.cells l.toArray T (0, 0)) := (hI.own (b, _) (List.mem_append_left _ (q1.mem_iff.2 (by simp)))).1
  have hw := wrOk_at (o := o) hb v.cells.size 0 (by simp at hn ⊢; omega)
  refine ⟨by rw [h1, hw]; rfl, ?_⟩
  obtain ⟨k1, k2, k3, k4, k5⟩ := setCells_at (o := o) v.cells.toList 0 hb
  exact ⟨m, L', hI.put hp k1 k2 k3 k4 k5, hk⟩
/-! ### slices of literals -/
/-! ### calls -/
def callA (P : Program) (f : Value) (args : List Value) [C : KA] (m : Mem) (L : Lst) : Prop := ∀ L0 w, Inv m (L ++ L0) w → @callV P f args (ck C L0) w
theorem p_call {f : Operand} {l : List Operand} {ts : Array TypeId} : topC P ro ⟨d, .call ⟨.value f, l.toArray, ts⟩, ty, ps, af, g⟩ e m L = callA P (ev e f) (evs e l) m L := by
  show (∀ L0 w, Inv m (L ++ L0) w → @sopC P ro _ e (ck C L0) w) = _
  simp only [o_call]; rfl
theorem cap_of {f : FuncId} {args first cap : List Value} {Lp Lf : Lst} {R : Value → Mem → Lst → Prop} {X : List PanicEntry → Mem → Lst → Prop} (hp : Takes L Lp Lf) (h : CtaP P f (first ++ args ++ cap) m Lp R X)
    (hk : ∀ v m' L', R v m' L' → C.k v m' (L' ++ Lf)) (hx : ∀ c m' L', X c m' L' → C.x c m' (L' ++ Lf)) : callA P (.func (.func f) first.toArray cap.toArray) args m L := by
  intro L0 w hI
  have hI2 : Inv m (Lp ++ (Lf ++ L0)) w := by rw [← List.append_assoc]; exact hI.perm (hp.perm.append_right L0)
  refine call_of (h.run (Lf ++ L0) w hI2) ?_ ?_
  · rintro v w' ⟨m', L', h1, h2⟩
    exact ⟨m', L' ++ Lf, by rw [List.append_assoc]; exact h1, hk _ _ _ h2⟩
  · rintro v w' ⟨m', L', h1, h2⟩
    exact ⟨m', L' ++ Lf, by rw [List.append_assoc]; exact h1, hx _ _ _ h2⟩
theorem ca_of {f : FuncId} {args : List Value} {Lp Lf : Lst} {R : Value → Mem → Lst → Prop} (h : Cta P f args m Lp R) (hp : Takes L Lp Lf) (hk : ∀ v m' L', R v m' L' → C.k v m' (L' ++ Lf)) :
    callA P (.func (.func f) #[] #[]) args m L :=
  cap_of (first := []) (cap := []) (X := fun _ _ _ => False) hp (by simpa using h.toP) hk (fun _ _ _ h => h.elim)
theorem cap1_of {f : FuncId} {args : List Value} {Lp Lf : Lst} {R : Value → Mem → Lst → Prop} {X : List PanicEntry → Mem → Lst → Prop} (h : CtaP P f args m Lp R X) (hp : Takes L Lp Lf) (hk : ∀ v m' L', R v m' L' → C.k v m' (L' ++ Lf))
    (hx : ∀ c m' L', X c m' L' → C.x c m' (L' ++ Lf)) : callA P (.func (.func f) #[] #[]) args m L :=
  cap_of (first := []) (cap := []) hp (by simpa using h) hk hx
/-- A call of a closure. -/
theorem cca_of {f : FuncId} {args cap : List Value} {Lp Lf : Lst} {R : Value → Mem → Lst → Prop} (h : Cta P f (args ++ cap) m Lp R) (hp : Takes L Lp Lf) (hk : ∀ v m' L', R v m' L' → C.k v m' (L' ++ Lf)) :
    callA P (.func (.func f) #[] cap.toArray) args m L :=
  cap_of (first := []) (X := fun _ _ _ => False) hp (by simpa using h.toP) hk (fun _ _ _ h => h.elim)
/-- A function that leaves all as it is. -/
def Pur (P : Program) (f : FuncId) (args : List Value) (φ : Value → Prop) : Prop := ∀ m, Cta P f args m [] (fun v m' L' => m' = m ∧ L' = [] ∧ φ v)
theorem pur_of {f : FuncId} {args : List Value} {φ : Value → Prop} (h : Pur P f args φ) (hk : ∀ v, φ v → C.k v m L) : callA P (.func (.func f) #[] #[]) args m L :=
  ca_of (h m) .nil (by rintro v m' L' ⟨rfl, rfl, h⟩; exact hk v h)
/-- A function that makes blocks which stay for good. -/
def Mak (P : Program) (f : FuncId) (args : List Value) (m : Mem) (φ : Value → Mem → Prop) : Prop := Cta P f args m [] (fun v m' L' => m.Le m' ∧ L' = [] ∧ φ v m')
theorem mak_of {f : FuncId} {args : List Value} {φ : Value → Mem → Prop} (h : Mak P f args m φ) (hk : ∀ v m', m.Le m' → φ v m' → C.k v m' L) : callA P (.func (.func f) #[] #[]) args m L :=
  ca_of h .nil (by rintro v m' L' ⟨hm, rfl, h⟩; exact hk v m' hm h)
def biA (P : Program) (b : Builtin) (ts : Array TypeId) (ty : TypeId) (cs : Array Bool) (args : List Value) [C : KA] (m : Mem) (L : Lst) : Prop := ∀ L0 w, Inv m (L ++ L0) w → @biP P b ts ty cs args (ck C L0) w
theorem p_bi {b : Builtin} {l : List Operand} {ts : Array TypeId} : topC P ro ⟨d, .call ⟨.builtin b, l.toArray, ts⟩, ty, ps, af, g⟩ e m L = biA P b ts ty (l.toArray.map fun | .const _ => true | _ => false) (evs e l) m L := by
  show (∀ L0 w, Inv m (L ++ L0) w → @sopC P ro _ e (ck C L0) w) = _
  simp only [o_bi]; rfl
/-- A built-in function that looks at no memory. -/
theorem bi_of {b : Builtin} {ts : Array TypeId} {cs : Array Bool} {args : List Value} {v : Value} (h : ∀ (C : KX) (w : World), @biP P b ts ty cs args C w = C.k v w) (hk : C.k v m L) : biA P b ts ty cs args m L := by
  intro L0 w hI; rw [h]; exact ⟨m, L, hI, hk⟩
theorem bi_min {ts : Array TypeId} {cs : Array Bool} {k : IntKind} {a b : Int} (hk : C.k (.int k (mnI a b)) m L) : biA P .min ts ty cs [.int k a, .int k b] m L := bi_of (fun _ _ => m_min) hk
theorem bi_max {ts : Array TypeId} {cs : Array Bool} {k : IntKind} {a b : Int} (hk : C.k (.int k (mxI a b)) m L) : biA P .max ts ty cs [.int k a, .int k b] m L := bi_of (fun _ _ => m_max) hk
theorem bi_len {T : TypeId} {cs : Array Bool} {p : Option Addr} {n c : Nat} (h : isSlice P T = true) (hk : C.k (.int .i64 n) m L) : biA P .len #[T] ty cs [.slice p n c] m L := bi_of (fun _ _ => n_slice h) hk
theorem bi_lens {T : TypeId} {cs : Array Bool} {s : ByteArray} (h : isStr P T = true) (hk : C.k (.int .i64 s.size) m L) : biA P .len #[T] ty cs [.string s] m L := bi_of (fun _ _ => n_str h) hk
end single
end Go.Eng
