/- The engine's operations: what each operation of a region comes to, as equations for simp. -/
import Derived.Test.YthfbfigdgjhhaaaEng
import Derived.Laws.StructEq
set_option linter.all false
set_option linter.unusedSimpArgs false
set_option linter.unusedVariables false
namespace Go.Eng
open Go

/-! ### numbers -/
def w64 (n : Int) : Int := (n + 9223372036854775808) % 18446744073709551616 - 9223372036854775808
theorem wrap_i64 (n : Int) : IntKind.i64.wrap n = w64 n := by
  unfold IntKind.wrap w64 IntKind.bits IntKind.signed
  simp only [Bool.true_and]
  split <;> simp_all <;> omega
theorem wrap_u64 (n : Int) : IntKind.u64.wrap n = n % 18446744073709551616 := by
  simp [IntKind.wrap, IntKind.bits, IntKind.signed]
theorem wrap_u8 (n : Int) : IntKind.u8.wrap n = n % 256 := by
  simp [IntKind.wrap, IntKind.bits, IntKind.signed]
theorem w64_id {n : Int} (h : -9223372036854775808 ≤ n ∧ n ≤ 9223372036854775807) : w64 n = n := by unfold w64; omega
theorem w64_range (n : Int) : -9223372036854775808 ≤ w64 n ∧ w64 n ≤ 9223372036854775807 := by unfold w64; omega
def bitsK (op : BinOp) (k : IntKind) (x y : Int) : Int :=
  let a := BitVec.ofInt k.bits x
  let b := BitVec.ofInt k.bits y
  k.wrap (match op with
    | .and => a &&& b
    | .or => a ||| b
    | .xor => a ^^^ b
    | _ => a &&& ~~~b).toNat

def condC (v : Value) [C : PP] : Prop := condP v C.a C.b
def guardC (v : Value) (want : Bool) [C : PP] : Prop := guardP v want C.a C.b
class LP where
  body : QT → En → DS → World → Prop
  q : QT
def loopC [C : LP] (e : En) (ds : DS) (w : World) : Prop := loopP C.body C.q e ds w
class DP where
  P : Program
  ro : Option Nat
  n : Nat
  ops : Array Oper
  q : QT
def drawC [C : DP] (e : En) (ds : DS) (w : World) : Prop := drawP C.P C.ro C.n C.ops C.q e ds w
class RP where
  P : Program
  ro : Option Nat
  n : Nat
  c : Code
  q : QT
def rawC [C : RP] (e : En) (ds : DS) (w : World) : Prop := rawP C.P C.ro C.n C.c C.q e ds w

/-! ### code -/
section code
variable {P : Program} {ro : Option Nat} {n : Nat} {Q : QT} {e : En} {ds : DS} {w : World}
theorem S_skip : S P ro n .skip Q e ds w = Q .normal e ds w := Eq.trans rfl rfl
theorem S_seq {a b : Code} : S P ro n (.seq a b) Q e ds w = S P ro n a (thenQ (S P ro n b Q) Q) e ds w := Eq.trans rfl rfl
theorem S_cond {c : Operand} {t f : Code} : S P ro n (.cond c t f) Q e ds w = @condC (ev e c) ⟨S P ro n t Q e ds w, S P ro n f Q e ds w⟩ := Eq.trans rfl rfl
theorem S_block {id : Nat} {c : Code} : S P ro n (.block id c) Q e ds w = S P ro n c (blockQ id Q) e ds w := Eq.trans rfl rfl
theorem S_loop {c : Code} : S P ro n (.loop c) Q e ds w = @loopC ⟨S P ro n c, Q⟩ e ds w := Eq.trans rfl rfl
theorem S_exit {id : Nat} : S P ro n (.exit id) Q e ds w = Q (.exit id) e ds w := Eq.trans rfl rfl
theorem S_ret : S P ro n .ret Q e ds w = Q .ret e ds w := Eq.trans rfl rfl
def dsts (l : List Oper) : List (Option Nat) := l.map (·.dst)
theorem S_region {id : Nat} {l : List Oper} : S P ro n (.region id l.toArray false) Q e ds w = sops P ro (dsts l) (Q .normal) (fun ch => Q (.panic ch)) l e ds w := Eq.trans rfl rfl
theorem S_draw {id : Nat} {ops : Array Oper} : S P ro n (.region id ops true) Q e ds w = @drawC ⟨P, ro, n, ops, Q⟩ e ds w := Eq.trans rfl rfl
theorem S_rangeFunc {f : Operand} {ps : Array Tmp} {a b : Code} : S P ro n (.rangeFunc f ps a b) Q e ds w = @rawC ⟨P, ro, n, .rangeFunc f ps a b, Q⟩ e ds w := Eq.trans rfl rfl
theorem S_scope {c : Code} : S P ro n (.scope c) Q e ds w = @rawC ⟨P, ro, n, .scope c, Q⟩ e ds w := Eq.trans rfl rfl
variable {K : En → DS → World → Prop}
theorem thenQ_normal : thenQ K Q .normal e ds w = K e ds w := Eq.trans rfl rfl
theorem thenQ_exit {i : Nat} : thenQ K Q (.exit i) e ds w = Q (.exit i) e ds w := Eq.trans rfl rfl
theorem thenQ_ret : thenQ K Q .ret e ds w = Q .ret e ds w := Eq.trans rfl rfl
theorem thenQ_panic {ch : List PanicEntry} : thenQ K Q (.panic ch) e ds w = Q (.panic ch) e ds w := Eq.trans rfl rfl
theorem thenQ_normal' : thenQ K Q .normal = K := Eq.trans rfl rfl
theorem blockQ_normal {id : Nat} : blockQ id Q .normal e ds w = Q .normal e ds w := Eq.trans rfl rfl
def ifC (c : Bool) [C : PP] : Prop := if c then C.a else C.b
theorem ifC_true {a b : Prop} : @ifC true ⟨a, b⟩ = a := Eq.trans rfl rfl
theorem ifC_false {a b : Prop} : @ifC false ⟨a, b⟩ = b := Eq.trans rfl rfl
theorem blockQ_exit {id i : Nat} : blockQ id Q (.exit i) e ds w = @ifC (i == id) ⟨Q .normal e ds w, Q (.exit i) e ds w⟩ := by
  unfold blockQ ifC; by_cases h : i = id <;> simp [h]
theorem blockQ_ret {id : Nat} : blockQ id Q .ret e ds w = Q .ret e ds w := Eq.trans rfl rfl
theorem blockQ_panic {id : Nat} {ch : List PanicEntry} : blockQ id Q (.panic ch) e ds w = Q (.panic ch) e ds w := Eq.trans rfl rfl
theorem condC_true {C : PP} : condC (.bool true) = C.a := by simp [condC, condP]
theorem condC_false {C : PP} : condC (.bool false) = C.b := by simp [condC, condP]
theorem cond_split {b : Bool} {C : PP} (ha : b = true → C.a) (hb : b = false → C.b) : condC (.bool b) := ⟨ha, hb⟩
theorem cond_if {p : Prop} [Decidable p] {C : PP} (ha : p → C.a) (hb : ¬ p → C.b) : condC (.bool (decide p)) := ⟨fun h => ha (of_decide_eq_true h), fun h => hb (of_decide_eq_false h)⟩
theorem cond_nif {p : Prop} [Decidable p] {C : PP} (ha : ¬ p → C.a) (hb : p → C.b) : condC (.bool (!decide p)) := ⟨fun h => ha (of_decide_eq_false (by simpa using h)), fun h => hb (of_decide_eq_true (by simpa using h))⟩
theorem cond_nsplit {b : Bool} {C : PP} (ha : b = false → C.a) (hb : b = true → C.b) : condC (.bool (!b)) := ⟨fun h => ha (by simpa using h), fun h => hb (by simpa using h)⟩
theorem cond_yes {b : Bool} {C : PP} (h : b = true) (ha : C.a) : condC (.bool b) := by subst h; rw [condC_true]; exact ha
theorem cond_no {b : Bool} {C : PP} (h : b = false) (ha : C.b) : condC (.bool b) := by subst h; rw [condC_false]; exact ha
end code

/-! ### the environment -/
theorem ev_tmp (e : En) (t : Nat) : ev e (.tmp t) = e t := Eq.trans rfl rfl
theorem ev_const (e : En) (v : Value) : ev e (.const v) = v := Eq.trans rfl rfl
theorem ev_global (e : En) (g : Nat) : ev e (.global g) = .pointer (some ⟨g, 0, none⟩) := Eq.trans rfl rfl
theorem ev_func (e : En) (f : FuncId) : ev e (.func f) = .func (.func f) #[] #[] := Eq.trans rfl rfl
class EB where
  v : Value
  e : En
  t : Nat
/-- A look-up, one step of it: neither way is looked at ahead of the test. -/
def lk (c : Bool) [E : EB] : Value := if c then E.v else E.e E.t
theorem up_at (e : En) (d : Nat) (v : Value) (t : Nat) : up e d v t = @lk (t == d) ⟨v, e, t⟩ := by
  unfold up lk; by_cases h : t = d <;> simp [h]
theorem lk_true {v : Value} {e : En} {t : Nat} : @lk true ⟨v, e, t⟩ = v := Eq.trans rfl rfl
theorem lk_false {v : Value} {e : En} {t : Nat} : @lk false ⟨v, e, t⟩ = e t := Eq.trans rfl rfl
theorem updo_some (e : En) (d : Nat) (v : Value) : updo e (some d) v = up e d v := Eq.trans rfl rfl
theorem updo_none (e : En) (v : Value) : updo e none v = e := Eq.trans rfl rfl
theorem argE_zero (a : Value) (l : List Value) : argE (a :: l) 0 = a := Eq.trans rfl rfl
theorem argE_succ (a : Value) (l : List Value) (t : Nat) : argE (a :: l) (t + 1) = argE l t := Eq.trans rfl rfl

/-! ### regions -/
section ops
variable {P : Program} {ro : Option Nat} {dl : List (Option Nat)} {K : En → DS → World → Prop} {X : List PanicEntry → En → DS → World → Prop} {e : En} {ds : DS} {w : World}
theorem sops_nil : sops P ro dl K X [] e ds w = K e ds w := Eq.trans rfl rfl
theorem sops_cons {d : Nat} {op : Op} {ty : TypeId} {ps : String} {af : Array Edge} {rest : List Oper} :
    sops P ro dl K X (⟨some d, op, ty, ps, af, none⟩ :: rest) e ds w = @sopC P ro ⟨some d, op, ty, ps, af, none⟩ e ⟨fun v w' => sops P ro dl K X rest (up e d v) ds w',
      fun q w' => sops P ro dl K X rest (up e d undef) (q :: ds) w', fun ch w' => X ch e ds w'⟩ w := Eq.trans rfl rfl
theorem sops_cons_n {op : Op} {ty : TypeId} {ps : String} {af : Array Edge} {rest : List Oper} :
    sops P ro dl K X (⟨none, op, ty, ps, af, none⟩ :: rest) e ds w = @sopC P ro ⟨none, op, ty, ps, af, none⟩ e ⟨fun v w' => sops P ro dl K X rest e ds w',
      fun q w' => sops P ro dl K X rest e (q :: ds) w', fun ch w' => X ch e ds w'⟩ w := Eq.trans rfl rfl
theorem sops_guard {d : Nat} {op : Op} {ty : TypeId} {ps : String} {af : Array Edge} {rest : List Oper} {j : Nat} {want : Bool} :
    sops P ro dl K X (⟨some d, op, ty, ps, af, some (j, want)⟩ :: rest) e ds w = @guardC (yld dl e j) want ⟨@sopC P ro ⟨some d, op, ty, ps, af, none⟩ e ⟨fun v w' => sops P ro dl K X rest (up e d v) ds w',
      fun q w' => sops P ro dl K X rest (up e d undef) (q :: ds) w', fun ch w' => X ch e ds w'⟩ w, sops P ro dl K X rest (up e d undef) ds w⟩ := Eq.trans rfl rfl
theorem sops_guard_n {op : Op} {ty : TypeId} {ps : String} {af : Array Edge} {rest : List Oper} {j : Nat} {want : Bool} :
    sops P ro dl K X (⟨none, op, ty, ps, af, some (j, want)⟩ :: rest) e ds w = @guardC (yld dl e j) want ⟨@sopC P ro ⟨none, op, ty, ps, af, none⟩ e ⟨fun v w' => sops P ro dl K X rest e ds w',
      fun q w' => sops P ro dl K X rest e (q :: ds) w', fun ch w' => X ch e ds w'⟩ w, sops P ro dl K X rest e ds w⟩ := Eq.trans rfl rfl
theorem yld_zero {d : Nat} {op : Op} {ty : TypeId} {ps : String} {af : Array Edge} {g : Option (Nat × Bool)} {l : List Oper} : yld (dsts (⟨some d, op, ty, ps, af, g⟩ :: l)) e 0 = e d := Eq.trans rfl rfl
theorem yld_succ {o : Oper} {l : List Oper} {j : Nat} : yld (dsts (o :: l)) e (j + 1) = yld (dsts l) e j := Eq.trans rfl rfl
theorem guardC_tt {C : PP} : guardC (.bool true) true = C.a := by simp [guardC, guardP]
theorem guardC_tf {C : PP} : guardC (.bool true) false = C.b := by simp [guardC, guardP]
theorem guardC_ft {C : PP} : guardC (.bool false) true = C.b := by simp [guardC, guardP]
theorem guardC_ff {C : PP} : guardC (.bool false) false = C.a := by simp [guardC, guardP]
theorem guard_split {b want : Bool} {C : PP} (ha : b = want → C.a) (hb : b = !want → C.b) : guardC (.bool b) want := ⟨ha, hb⟩
theorem guard_t {p : Prop} [Decidable p] {C : PP} (ha : p → C.a) (hb : ¬ p → C.b) : guardC (.bool (decide p)) true := ⟨fun h => ha (of_decide_eq_true h), fun h => hb (of_decide_eq_false h)⟩
theorem guard_f {p : Prop} [Decidable p] {C : PP} (ha : ¬ p → C.a) (hb : p → C.b) : guardC (.bool (decide p)) false := ⟨fun h => ha (of_decide_eq_false h), fun h => hb (of_decide_eq_true h)⟩
end ops

/-! ### single operations -/
section single
variable {P : Program} {ro : Option Nat} {e : En} {C : KX} {w : World}
variable {d : Option Nat} {ty : TypeId} {ps : String} {af : Array Edge} {g : Option (Nat × Bool)}

theorem sop_exec {o : Oper} (h : ∀ c, o.op ≠ .defer c) (hl : ∀ T x, o.op ≠ .load T x := by intro T x; simp) (hs : ∀ T x y, o.op ≠ .store T x y := by intro T x y; simp) : sopC P ro o e w = upE P C.k C.kd C.x ((execOp (ev e) o).run P w) := by
  unfold sopC sop
  split
  · rename_i ho; exact absurd ho (hl _ _)
  · rename_i ho; exact absurd ho (hs _ _ _)
  · rw [Oper.semAt_eq _ _ _ h]

/-- Goes on with a value, once it has been looked up. -/
def valC (v : Value) [C : KX] (w : World) : Prop := C.k v w
theorem valC_eq {v : Value} : valC v w = C.k v w := Eq.trans rfl rfl
theorem o_move {x : Operand} : sopC P ro ⟨d, .move x, ty, ps, af, g⟩ e w = valC (ev e x) w := by
  rw [sop_exec (by intro c; simp)]; rfl
theorem o_assign {x : Operand} : sopC P ro ⟨d, .assign x, ty, ps, af, g⟩ e w = valC (ev e x) w := by
  rw [sop_exec (by intro c; simp)]; rfl

def pickP (c a b : Value) [C : KX] (w : World) : Prop :=
  match c with
  | .bool t => C.k (if t then a else b) w
  | _ => False
theorem o_pick {c a b : Operand} : sopC P ro ⟨d, .pick c a b, ty, ps, af, g⟩ e w = pickP (ev e c) (ev e a) (ev e b) w := by
  rw [sop_exec (by intro c; simp)]
  simp only [execOp, pickP]
  cases ev e c <;> simp [asBool, upE]
theorem pickP_true {a b : Value} : pickP (.bool true) a b w = C.k a w := Eq.trans rfl rfl
theorem pickP_false {a b : Value} : pickP (.bool false) a b w = C.k b w := Eq.trans rfl rfl
theorem pickP_and {p q : Bool} : pickP (.bool p) (.bool q) (.bool false) w = C.k (.bool (p && q)) w := by cases p <;> rfl
theorem pickP_or {p q : Bool} : pickP (.bool p) (.bool true) (.bool q) w = C.k (.bool (p || q)) w := by cases p <;> rfl
theorem pickP_congr {c a b c' a' b' : Value} (h1 : c = c') (h2 : a = a') (h3 : b = b') : pickP c a b w = pickP c' a' b' w := by rw [h1, h2, h3]

def binP (P : Program) (op : BinOp) (T : TypeId) (x y : Operand) (a b : Value) [C : KX] (w : World) : Prop :=
  runV P w (do eqGuard op T x y a b; binOp op T a b) C.k C.x
theorem o_bin {op : BinOp} {T U : TypeId} {x y : Operand} : sopC P ro ⟨d, .binOp op T x y U, ty, ps, af, g⟩ e w = binP P op T x y (ev e x) (ev e y) w := by
  rw [sop_exec (by intro c; simp)]
  exact upE_val _
theorem binP_congr {op : BinOp} {T : TypeId} {x y : Operand} {a b a' b' : Value} (h1 : a = a') (h2 : b = b') : binP P op T x y a b w = binP P op T x y a' b' w := by rw [h1, h2]
section
variable {T : TypeId} {x y : Operand} {k : IntKind} {a b : Int}
theorem b_add : binP P .add T x y (.int k a) (.int k b) w = C.k (.int k (k.wrap (a + b))) w := by simp [binP, runV, binOp_add, Op.intArith, eqGuard_at_int]
theorem b_sub : binP P .sub T x y (.int k a) (.int k b) w = C.k (.int k (k.wrap (a - b))) w := by simp [binP, runV, binOp_sub, Op.intArith, eqGuard_at_int]
theorem b_mul : binP P .mul T x y (.int k a) (.int k b) w = C.k (.int k (k.wrap (a * b))) w := by simp [binP, runV, binOp_mul, Op.intArith, eqGuard_at_int]
theorem b_quo (h : b ≠ 0) : binP P .quo T x y (.int k a) (.int k b) w = C.k (.int k (k.wrap (a.tdiv b))) w := by simp [binP, runV, binOp_quo, Op.intDiv, h, eqGuard_at_int]
theorem b_rem (h : b ≠ 0) : binP P .rem T x y (.int k a) (.int k b) w = C.k (.int k (a.tmod b)) w := by simp [binP, runV, binOp_rem, Op.intDiv, h, eqGuard_at_int]
theorem b_and : binP P .and T x y (.int k a) (.int k b) w = C.k (.int k (bitsK .and k a b)) w := by simp [binP, runV, binOp_and, intBits_and, eqGuard_at_int]; rfl
theorem b_or : binP P .or T x y (.int k a) (.int k b) w = C.k (.int k (bitsK .or k a b)) w := by simp [binP, runV, binOp_or, intBits_or, eqGuard_at_int]; rfl
theorem b_xor : binP P .xor T x y (.int k a) (.int k b) w = C.k (.int k (bitsK .xor k a b)) w := by simp [binP, runV, binOp_xor, intBits_xor, eqGuard_at_int]; rfl
theorem b_shl {yk : IntKind} (h : 0 ≤ b) : binP P .shl T x y (.int k a) (.int yk b) w = C.k (.int k (k.wrap (a * 2 ^ min b.toNat k.bits))) w := by
  simp [binP, runV, binOp_shl, Op.shift, eqGuard_at_int, show ¬ b < 0 by omega]
theorem b_shr {yk : IntKind} (h : 0 ≤ b) : binP P .shr T x y (.int k a) (.int yk b) w = C.k (.int k (a.fdiv (2 ^ min b.toNat k.bits))) w := by
  simp [binP, runV, binOp_shr, Op.shift, eqGuard_at_int, show ¬ b < 0 by omega]
theorem b_eql : binP P .eql T x y (.int k a) (.int k b) w = C.k (.bool (decide (a = b))) w := by
  simp only [binP, runV, binOp_eql, eqGuard_at_int, Sem.run_bind, Sem.run_pure, Result.andThen_ok]; rfl
theorem b_neq : binP P .neq T x y (.int k a) (.int k b) w = C.k (.bool (decide (a ≠ b))) w := by
  simp only [binP, runV, binOp_neq, eqGuard_at_int, Sem.run_bind, Sem.run_pure, Result.andThen_ok]
  congr 2; by_cases h : a = b <;> simp [h]
theorem b_lss : binP P .lss T x y (.int k a) (.int k b) w = C.k (.bool (decide (a < b))) w := by simp [binP, runV, binOp_lss, eqGuard_at_int]
theorem b_leq : binP P .leq T x y (.int k a) (.int k b) w = C.k (.bool (decide (a ≤ b))) w := by simp [binP, runV, binOp_leq, eqGuard_at_int]
theorem b_gtr : binP P .gtr T x y (.int k a) (.int k b) w = C.k (.bool (decide (b < a))) w := by simp [binP, runV, binOp_gtr, eqGuard_at_int]
theorem b_geq : binP P .geq T x y (.int k a) (.int k b) w = C.k (.bool (decide (b ≤ a))) w := by simp [binP, runV, binOp_geq, eqGuard_at_int]
end
theorem run_eqBool {T : TypeId} {p q : Bool} (h : P.underlying T = some .bool) : (binOp .eql T (.bool p) (.bool q)).run P w = .ok (.bool (p == q)) w := by
  simp only [binOp]; simp [Op.equal, Op.maxDepth, run_equalIn_bool w 9999 T p q h]
theorem b_eql_bool {T : TypeId} {x y : Operand} {p q : Bool} (h : P.underlying T = some .bool) : binP P .eql T x y (.bool p) (.bool q) w = C.k (.bool (p == q)) w := by
  simp only [binP, runV, eqGuard_at_bool, Sem.run_bind, Sem.run_pure, Result.andThen_ok, run_eqBool h]
theorem b_neq_bool {T : TypeId} {x y : Operand} {p q : Bool} (h : P.underlying T = some .bool) : binP P .neq T x y (.bool p) (.bool q) w = C.k (.bool (p != q)) w := by
  have h1 : (binOp .neq T (.bool p) (.bool q)).run P w = .ok (.bool (p != q)) w := by
    simp only [binOp]; simp [Op.equal, Op.maxDepth, run_equalIn_bool w 9999 T p q h, bne]
  simp only [binP, runV, eqGuard_at_bool, Sem.run_bind, Sem.run_pure, Result.andThen_ok, h1]
theorem bytes_eq (a b : ByteArray) : (a.toList == b.toList) = decide (a = b) := by
  by_cases h : a = b
  · subst h; simp
  · have : ¬ a.toList = b.toList := by
      rw [ByteArray.toList_eq, ByteArray.toList_eq]
      intro hc; apply h
      obtain ⟨⟨x⟩⟩ := a; obtain ⟨⟨y⟩⟩ := b
      simp at hc; simp [hc]
    simp [h, this]
section
variable {T : TypeId} {x y : Operand} {s t : ByteArray}
theorem b_eql_str : binP P .eql T x y (.string s) (.string t) w = C.k (.bool (decide (s = t))) w := by
  simp [binP, runV, eqGuard_at_string, binOp, Op.stringOp, bytes_eq]
theorem b_neq_str : binP P .neq T x y (.string s) (.string t) w = C.k (.bool (decide (s ≠ t))) w := by
  simp [binP, runV, eqGuard_at_string, binOp, Op.stringOp, bytes_eq]
end
/-- Two values of a struct, by the fact on their type. -/
theorem b_eql_agg {T : TypeId} {x y : Operand} {xs ys : Array Value} {b : Bool} (hm : P.eqGuardType P.depth T = false) (h : ∀ w, (Op.equalIn 10000 T (.agg xs) (.agg ys)).run P w = .ok b w) :
    binP P .eql T x y (.agg xs) (.agg ys) w = C.k (.bool b) w := by
  simp only [binP, runV, Sem.run_bind, run_eqGuard_agg w .eql T x y xs ys hm, Result.andThen_ok, run_eql_struct, h]
theorem b_neq_agg {T : TypeId} {x y : Operand} {xs ys : Array Value} {b : Bool} (hm : P.eqGuardType P.depth T = false) (h : ∀ w, (Op.equalIn 10000 T (.agg xs) (.agg ys)).run P w = .ok b w) :
    binP P .neq T x y (.agg xs) (.agg ys) w = C.k (.bool (!b)) w := by
  simp only [binP, runV, Sem.run_bind, run_eqGuard_agg w .neq T x y xs ys hm, Result.andThen_ok, run_neq_struct, h]

def unP (P : Program) (op : UnOp) (a : Value) [C : KX] (w : World) : Prop := runV P w (Op.unary op a) C.k C.x
theorem o_un {op : UnOp} {T : TypeId} {x : Operand} : sopC P ro ⟨d, .unOp op T x, ty, ps, af, g⟩ e w = unP P op (ev e x) w := by
  rw [sop_exec (by intro c; simp)]; exact upE_val _
theorem unP_congr {op : UnOp} {a a' : Value} (h : a = a') : unP P op a w = unP P op a' w := by rw [h]
theorem u_not {b : Bool} : unP P .not (.bool b) w = C.k (.bool (!b)) w := Eq.trans rfl rfl
theorem u_neg {k : IntKind} {a : Int} : unP P .neg (.int k a) w = C.k (.int k (k.wrap (-a))) w := by simp [unP, runV, Op.unary, Op.intArith]
theorem u_xor {k : IntKind} {a : Int} : unP P .xor (.int k a) w = C.k (.int k (bitsK .xor k (if k.signed then -1 else k.max) a)) w := by
  simp [unP, runV, Op.unary, intBits_xor]; rfl

def convP (P : Program) (s t : TypeId) (a : Value) [C : KX] (w : World) : Prop := runV P w (convert s t a) C.k C.x
theorem o_conv {s t : TypeId} {x : Operand} : sopC P ro ⟨d, .convert s t x, ty, ps, af, g⟩ e w = convP P s t (ev e x) w := by
  rw [sop_exec (by intro c; simp)]; exact upE_val _
theorem convP_congr {s t : TypeId} {a a' : Value} (h : a = a') : convP P s t a w = convP P s t a' w := by rw [h]
/-- A conversion between integers. -/
def intConv (P : Program) (s t : TypeId) : Option IntKind :=
  match P.underlying s, P.underlying t with
  | some (.int _), some (.int k) => some k
  | _, _ => none
theorem c_int {s t : TypeId} {k k' : IntKind} {a : Int} (h : intConv P s t = some k') : convP P s t (.int k a) w = C.k (.int k' (k'.wrap a)) w := by
  unfold intConv at h
  split at h
  · rename_i k1 k2 h1 h2
    simp only [Option.some.injEq] at h; subst h
    simp [convP, runV, convert, run_underlying h1, run_underlying h2, Conv.intToInt]
  · simp at h

def extP (a : Value) (i : Nat) [C : KX] (w : World) : Prop :=
  match a with
  | .tuple vs => (match vs[i]? with | some v => C.k v w | none => False)
  | _ => False
theorem o_ext {x : Operand} {i : Nat} : sopC P ro ⟨d, .extract x i, ty, ps, af, g⟩ e w = extP (ev e x) i w := by
  rw [sop_exec (by intro c; simp)]
  show upE P C.k C.kd C.x ((do pure (Next.value (← Instr.extract (ev e x) i)) : Sem Next).run P w) = _
  rw [upE_val]
  unfold runV extP Instr.extract
  cases ev e x <;> try rfl
  rename_i vs
  cases h : vs[i]? <;> simp [h]
theorem ext_0 {a : Value} {l : List Value} : extP (.tuple (a :: l).toArray) 0 w = C.k a w := Eq.trans rfl rfl
theorem ext_1 {a b : Value} {l : List Value} : extP (.tuple (a :: b :: l).toArray) 1 w = C.k b w := Eq.trans rfl rfl
theorem ext_2 {a b c : Value} {l : List Value} : extP (.tuple (a :: b :: c :: l).toArray) 2 w = C.k c w := Eq.trans rfl rfl
theorem ext_3 {a b c q : Value} {l : List Value} : extP (.tuple (a :: b :: c :: q :: l).toArray) 3 w = C.k q w := Eq.trans rfl rfl
theorem extP_congr {a a' : Value} {i : Nat} (h : a = a') : extP a i w = extP a' i w := by rw [h]
end single

/-! ### memory -/
def optP (o : Option Value) (K : Value → Prop) : Prop := match o with | some v => K v | none => False
theorem optP_some {v : Value} {K : Value → Prop} : optP (some v) K = K v := Eq.trans rfl rfl
theorem optP_congr {o o' : Option Value} {K : Value → Prop} (h : o = o') : optP o K = optP o' K := by rw [h]

section mem
variable {P : Program} {ro : Option Nat} {e : En} {C : KX} {w : World}
variable {d : Option Nat} {ty : TypeId} {ps : String} {af : Array Edge} {g : Option (Nat × Bool)}

theorem cellsAt_zero {p : Addr} {i : Nat} : cellsAt w p 0 i = some [] := Eq.trans rfl rfl
def consO (o : Option Value) (l : Option (List Value)) : Option (List Value) := match o with | some v => l.map (v :: ·) | none => none
theorem cellsAt_succ {p : Addr} {n i : Nat} : cellsAt w p (n + 1) i = consO (w.cell? (p.add i)) (cellsAt w p n (i + 1)) := by
  unfold consO; rfl
theorem consO_some {v : Value} {l : List Value} : consO (some v) (some l) = some (v :: l) := Eq.trans rfl rfl
theorem loadS_eq {T : TypeId} {a : Value} : loadS P T a w = loadM (shapeOf P T) a w := Eq.trans rfl rfl
theorem loadM_one {p : Addr} : loadM (some none) (.pointer (some p)) w = cellC (w.cell? p) w := Eq.trans rfl rfl
theorem loadM_agg {n : Nat} {p : Addr} : loadM (some (some n)) (.pointer (some p)) w = cellsC (cellsAt w p n 0) w := Eq.trans rfl rfl
theorem cellC_some {v : Value} : cellC (some v) w = C.k v w := Eq.trans rfl rfl
theorem cellsC_some {l : List Value} : cellsC (some l) w = C.k (.agg l.toArray) w := Eq.trans rfl rfl
theorem o_load {T : TypeId} {x : Operand} : sopC P ro ⟨d, .load T x, ty, ps, af, g⟩ e w = loadS P T (ev e x) w := Eq.trans rfl rfl
theorem o_store {T : TypeId} {x y : Operand} : sopC P ro ⟨d, .store T x y, ty, ps, af, g⟩ e w = storeS P T (ev e x) (ev e y) w := Eq.trans rfl rfl
theorem storeS_eq {T : TypeId} {a v : Value} : storeS P T a v w = storeM a v (sizeIs P T v.cells.size) w := Eq.trans rfl rfl
theorem storeM_ptr {p : Addr} {v : Value} {ok : Bool} : storeM (.pointer (some p)) v ok w = @gateC ((ok && oneAll v.cells.toList && wrOk w p v.cells.size 0) = true) ⟨C.k undef (setCells w p v.cells.toList 0), False⟩ := Eq.trans rfl rfl
theorem gateC_true {C : PP} : gateC True = C.a := by simp [gateC]
theorem oneAll_nil : oneAll [] = true := Eq.trans rfl rfl
theorem oneAll_cons {v : Value} {l : List Value} : oneAll (v :: l) = (v.oneCell' && oneAll l) := Eq.trans rfl rfl

/-- What a type's variable holds at first. -/
def zeroOf (P : Program) (T : TypeId) : Option (List Value) := ((P.info? T).bind (·.zero)).map fun z => z.cells.toList
def allocP (P : Program) (T : TypeId) [C : KX] (w : World) : Prop := runV P w (Instr.alloc T true (.tuple #[])) C.k C.x
theorem o_alloc {T : TypeId} : sopC P ro ⟨d, .alloc T, ty, ps, af, g⟩ e w = allocP P T w := by
  rw [sop_exec (by intro c; simp)]; exact upE_val _
theorem a_alloc {T : TypeId} {cs : List Value} (h : zeroOf P T = some cs) : allocP P T w = C.k (.pointer (some ⟨w.heap.size, 0, none⟩)) (w.alloc (.cells cs.toArray T)) := by
  unfold zeroOf at h
  cases hi : P.info? T with
  | none => simp [hi] at h
  | some i =>
    cases hz : i.zero with
    | none => simp [hi, hz] at h
    | some z =>
      simp only [hi, hz, Option.bind_some, Option.map_some, Option.some.injEq] at h
      subst h
      simp [allocP, runV, Instr.alloc, zeroValue, typeInfo, hi, hz, newVar, newRow]
def boxP (P : Program) (T : TypeId) (a : Value) [C : KX] (w : World) : Prop := C.k (.pointer (some ⟨w.heap.size, 0, none⟩)) (w.alloc (.cells a.cells T))
theorem o_box {T : TypeId} {x : Operand} : sopC P ro ⟨d, .box T x, ty, ps, af, g⟩ e w = boxP P T (ev e x) w := by
  rw [sop_exec (by intro c; simp)]
  show upE P C.k C.kd C.x ((do pure (Next.value (← Instr.box T (ev e x))) : Sem Next).run P w) = _
  rw [upE_val]
  simp [runV, Instr.box, newVar, newRow, boxP]
theorem boxP_congr {T : TypeId} {a a' : Value} (h : a = a') : boxP P T a w = boxP P T a' w := by rw [h]
theorem x_agg {T : TypeId} {cs : Array Value} : boxP P T (.agg cs) w = C.k (.pointer (some ⟨w.heap.size, 0, none⟩)) (w.alloc (.cells cs T)) := Eq.trans rfl rfl
theorem x_int {T : TypeId} {k : IntKind} {a : Int} : boxP P T (.int k a) w = C.k (.pointer (some ⟨w.heap.size, 0, none⟩)) (w.alloc (.cells #[.int k a] T)) := Eq.trans rfl rfl
theorem x_bool {T : TypeId} {a : Bool} : boxP P T (.bool a) w = C.k (.pointer (some ⟨w.heap.size, 0, none⟩)) (w.alloc (.cells #[.bool a] T)) := Eq.trans rfl rfl
theorem x_str {T : TypeId} {a : ByteArray} : boxP P T (.string a) w = C.k (.pointer (some ⟨w.heap.size, 0, none⟩)) (w.alloc (.cells #[.string a] T)) := Eq.trans rfl rfl
theorem x_ptr {T : TypeId} {a : Option Addr} : boxP P T (.pointer a) w = C.k (.pointer (some ⟨w.heap.size, 0, none⟩)) (w.alloc (.cells #[.pointer a] T)) := Eq.trans rfl rfl
theorem x_slice {T : TypeId} {a : Option Addr} {n c : Nat} : boxP P T (.slice a n c) w = C.k (.pointer (some ⟨w.heap.size, 0, none⟩)) (w.alloc (.cells #[.slice a n c] T)) := Eq.trans rfl rfl
theorem x_func {T : TypeId} {f : Fn} {a c : Array Value} : boxP P T (.func f a c) w = C.k (.pointer (some ⟨w.heap.size, 0, none⟩)) (w.alloc (.cells #[.func f a c] T)) := Eq.trans rfl rfl
theorem x_iface {T u : TypeId} {v : Value} : boxP P T (.iface u v) w = C.k (.pointer (some ⟨w.heap.size, 0, none⟩)) (w.alloc (.cells #[.iface u v] T)) := Eq.trans rfl rfl
theorem x_map {T : TypeId} {r : Option Nat} : boxP P T (.map r) w = C.k (.pointer (some ⟨w.heap.size, 0, none⟩)) (w.alloc (.cells #[.map r] T)) := Eq.trans rfl rfl

theorem setCells_nil {p : Addr} {i : Nat} : setCells w p [] i = w := Eq.trans rfl rfl
theorem setCells_cons {p : Addr} {v : Value} {l : List Value} {i : Nat} : setCells w p (v :: l) i = setCells (w.setCell (p.add i) v) p l (i + 1) := Eq.trans rfl rfl
theorem wrOk_zero {p : Addr} {i : Nat} : wrOk w p 0 i = true := Eq.trans rfl rfl
theorem wrOk_succ {p : Addr} {n i : Nat} : wrOk w p (n + 1) i = ((w.cell? (p.add i)).isSome && !w.frozen? (p.add i) && wrOk w p n (i + 1)) := Eq.trans rfl rfl
end mem

/-! ### fields, elements -/
section places
variable {P : Program} {ro : Option Nat} {e : En} {C : KX} {w : World}
variable {d : Option Nat} {ty : TypeId} {ps : String} {af : Array Edge} {g : Option (Nat × Bool)}
/-- Where a field lies (of one that has cells). -/
def fldOff (P : Program) (T : TypeId) (i : Nat) : Option Nat :=
  match P.underlying T with
  | some (.struct fs) => (fs[i]?).bind fun f => (P.info? f.type).bind fun j => if j.size = 0 then none else some f.offset
  | _ => none
def fldP (P : Program) (T : TypeId) (a : Value) (i : Nat) [C : KX] (w : World) : Prop := runV P w (Instr.fieldAt T a i) C.k C.x
theorem o_fldAddr {T : TypeId} {x : Operand} {i : Nat} : sopC P ro ⟨d, .fieldAddr T x i, ty, ps, af, g⟩ e w = fldP P T (ev e x) i w := by
  rw [sop_exec (by intro c; simp)]; exact upE_val _
theorem fldP_congr {T : TypeId} {a a' : Value} {i : Nat} (h : a = a') : fldP P T a i w = fldP P T a' i w := by rw [h]
theorem f_addr {T : TypeId} {p : Addr} {i off : Nat} (h : fldOff P T i = some off) : fldP P T (.pointer (some p)) i w = C.k (.pointer (some (p.add off))) w := by
  unfold fldOff at h
  split at h
  · rename_i fs hu
    cases hf : fs[i]? with
    | none => simp [hf] at h
    | some f =>
      cases hi : P.info? f.type with
      | none => simp [hf, hi] at h
      | some j =>
        by_cases hj : j.size = 0
        · simp [hf, hi, hj] at h
        · simp only [hf, hi, hj, Option.bind_some, if_false, Option.some.injEq] at h
          subst h
          simp [fldP, runV, Instr.fieldAt, run_underlying hu, hf, Instr.sureAddr, fieldPlace, sizeOf, typeInfo, hi, hj]
  · simp at h
theorem add_at (b o n : Nat) : Addr.add ⟨b, o, none⟩ n = ⟨b, o + n, none⟩ := Addr.add_lit b o n

/-- A slice's, an array's element: how many cells it has. -/
def elemSize (P : Program) (T : TypeId) : Option Nat :=
  match P.underlying T with
  | some (.slice E) | some (.array _ E) => (P.info? E).map (·.size)
  | _ => none
def arrLen (P : Program) (T : TypeId) : Option Nat :=
  match P.underlying T with
  | some (.array n _) => some n
  | _ => none
def isSlice (P : Program) (T : TypeId) : Bool :=
  match P.underlying T with
  | some (.slice _) => true
  | _ => false
def ixaP (P : Program) (T : TypeId) (a i : Value) [C : KX] (w : World) : Prop := runV P w (Instr.indexAt T a i) C.k C.x
theorem o_ixa {T : TypeId} {x y : Operand} : sopC P ro ⟨d, .indexAddr T x y, ty, ps, af, g⟩ e w = ixaP P T (ev e x) (ev e y) w := by
  rw [sop_exec (by intro c; simp)]; exact upE_val _
theorem ixaP_congr {T : TypeId} {a a' i i' : Value} (h : a = a') (h2 : i = i') : ixaP P T a i w = ixaP P T a' i' w := by rw [h, h2]
theorem i_slice {T : TypeId} {p : Addr} {n c s : Nat} {k : IntKind} {i : Int} (hT : isSlice P T = true) (hs : elemSize P T = some s) (hi : 0 ≤ i ∧ i < n) :
    ixaP P T (.slice (some p) n c) (.int k i) w = C.k (.pointer (some (p.add (i.toNat * s)))) w := by
  unfold isSlice at hT
  split at hT
  · rename_i E hu
    simp only [elemSize, hu, Option.map_eq_some_iff] at hs
    obtain ⟨j, hj, rfl⟩ := hs
    simp [ixaP, runV, Instr.indexAt, asIntOf, run_underlying hu, hi, sizeOf, typeInfo, hj]
  · simp at hT
theorem i_array {T : TypeId} {p : Addr} {n s : Nat} {k : IntKind} {i : Int} (hn : arrLen P T = some n) (hs : elemSize P T = some s) (hi : 0 ≤ i ∧ i < n) :
    ixaP P T (.pointer (some p)) (.int k i) w = C.k (.pointer (some (p.add (i.toNat * s)))) w := by
  unfold arrLen at hn
  split at hn
  · rename_i m E hu
    simp only [Option.some.injEq] at hn; subst hn
    simp only [elemSize, hu, Option.map_eq_some_iff] at hs
    obtain ⟨j, hj, rfl⟩ := hs
    simp [ixaP, runV, Instr.indexAt, asIntOf, run_underlying hu, hi, Instr.sureAddr, sizeOf, typeInfo, hj]
  · simp at hn
def idxP (P : Program) (T : TypeId) (a i : Value) [C : KX] (w : World) : Prop := runV P w (Instr.index T a i) C.k C.x
theorem o_idx {T : TypeId} {x y : Operand} : sopC P ro ⟨d, .index T x y, ty, ps, af, g⟩ e w = idxP P T (ev e x) (ev e y) w := by
  rw [sop_exec (by intro c; simp)]; exact upE_val _
theorem idxP_congr {T : TypeId} {a a' i i' : Value} (h : a = a') (h2 : i = i') : idxP P T a i w = idxP P T a' i' w := by rw [h, h2]
def isStr (P : Program) (T : TypeId) : Bool :=
  match P.underlying T with
  | some .string => true
  | _ => false
def byteAt (s : ByteArray) (i : Int) : Int := ((s[i.toNat]?).map fun b => (b.toNat : Int)).getD 0
theorem i_str {T : TypeId} {s : ByteArray} {k : IntKind} {i : Int} (hT : isStr P T = true) (hi : 0 ≤ i ∧ i < s.size) :
    idxP P T (.string s) (.int k i) w = C.k (.int .u8 (byteAt s i)) w := by
  unfold isStr at hT
  split at hT
  · rename_i hu
    have hl : i.toNat < s.size := by omega
    have hb : s[i.toNat]? = some (s[i.toNat]'hl) := by simp [hl]
    simp [idxP, runV, Instr.index, asIntOf, run_underlying hu, hi.1, hb, byteAt]
  · simp at hT
/-- An array's element, of an array that is taken as a value: elements of one cell. -/
theorem i_arr1 {T E : TypeId} {n : Nat} {cs : Array Value} {k : IntKind} {i : Int} (hn : P.underlying T = some (.array n E)) (hs : elemSize P T = some 1) (ho : shapeOf P E = some none) (hi : 0 ≤ i ∧ i < n) :
    idxP P T (.agg cs) (.int k i) w = cellC (cs[i.toNat]?) w := by
  simp only [elemSize, hn, Option.map_eq_some_iff] at hs
  obtain ⟨j, hj, hj1⟩ := hs
  cases hv : cs[i.toNat]? <;> simp [idxP, runV, Instr.index, asIntOf, run_underlying hn, hi, sizeOf, typeInfo, hj, hj1, part, shapeOf_one ho, hv, cellC]

def fieldP (P : Program) (T : TypeId) (a : Value) (i : Nat) [C : KX] (w : World) : Prop := runV P w (Instr.field T a i) C.k C.x
theorem o_field {T : TypeId} {x : Operand} {i : Nat} : sopC P ro ⟨d, .field T x i, ty, ps, af, g⟩ e w = fieldP P T (ev e x) i w := by
  rw [sop_exec (by intro c; simp)]; exact upE_val _
theorem fieldP_congr {T : TypeId} {a a' : Value} {i : Nat} (h : a = a') : fieldP P T a i w = fieldP P T a' i w := by rw [h]
/-- A field's place and shape. -/
def fldShape (P : Program) (T : TypeId) (i : Nat) : Option (Nat × Option Nat) :=
  match P.underlying T with
  | some (.struct fs) => (fs[i]?).bind fun f => (shapeOf P f.type).map fun s => (f.offset, s)
  | _ => none
theorem f_one {T : TypeId} {cs : Array Value} {i off : Nat} (h : fldShape P T i = some (off, none)) : fieldP P T (.agg cs) i w = cellC (cs[off]?) w := by
  unfold fldShape at h
  split at h
  · rename_i fs hu
    cases hf : fs[i]? with
    | none => simp [hf] at h
    | some f =>
      simp only [hf, Option.bind_some, Option.map_eq_some_iff, Prod.mk.injEq] at h
      obtain ⟨s, hs, rfl, rfl⟩ := h
      cases hv : cs[f.offset]? <;> simp [fieldP, runV, Instr.field, run_underlying hu, hf, asAgg, part, shapeOf_one hs, hv, cellC]
  · simp at h
theorem f_agg {T : TypeId} {cs : Array Value} {i off n : Nat} (h : fldShape P T i = some (off, some n)) : fieldP P T (.agg cs) i w = C.k (.agg (cs.extract off (off + n))) w := by
  unfold fldShape at h
  split at h
  · rename_i fs hu
    cases hf : fs[i]? with
    | none => simp [hf] at h
    | some f =>
      simp only [hf, Option.bind_some, Option.map_eq_some_iff, Prod.mk.injEq] at h
      obtain ⟨s, hs, rfl, rfl⟩ := h
      obtain ⟨h1, h2⟩ := shapeOf_agg (w := w) hs
      simp [fieldP, runV, Instr.field, run_underlying hu, hf, asAgg, part, h1, h2]
  · simp at h

def evParts (e : En) : List (Nat × Operand) → List (Nat × Value)
  | [] => []
  | (i, x) :: l => (i, ev e x) :: evParts e l
theorem evParts_nil : evParts e [] = [] := Eq.trans rfl rfl
theorem evParts_cons {i : Nat} {x : Operand} {l : List (Nat × Operand)} : evParts e ((i, x) :: l) = (i, ev e x) :: evParts e l := Eq.trans rfl rfl
theorem evParts_eq (l : List (Nat × Operand)) : evParts e l = l.map fun (i, x) => (i, ev e x) := by
  induction l with
  | nil => rfl
  | cons a l ih => obtain ⟨i, x⟩ := a; simp [evParts, ih]
def buildP (P : Program) (T : TypeId) (l : List (Nat × Value)) [C : KX] (w : World) : Prop := runV P w (Instr.build T l.toArray) C.k C.x
theorem o_build {T : TypeId} {l : List (Nat × Operand)} : sopC P ro ⟨d, .build T l.toArray, ty, ps, af, g⟩ e w = buildP P T (evParts e l) w := by
  rw [sop_exec (by intro c; simp)]
  show upE P C.k C.kd C.x ((do pure (Next.value (← Instr.build T (l.toArray.map fun (i, x) => (i, ev e x)))) : Sem Next).run P w) = _
  rw [upE_val, evParts_eq]
  unfold buildP
  congr 2
  simp
theorem buildP_congr {T : TypeId} {l l' : List (Nat × Value)} (h : l = l') : buildP P T l w = buildP P T l' w := by rw [h]
theorem d_build {T : TypeId} {l : List (Nat × Value)} {cs : Array Value} (h : P.built T l = some cs) : buildP P T l w = C.k (.agg cs) w := by
  simp only [buildP, runV, run_build w T l.toArray cs (by simpa using h)]

/-- A slice's literal: its elements' type, its cells. -/
def builtS (P : Program) (T : TypeId) (len : Nat) (parts : List (Nat × Value)) : Option (TypeId × Array Value) :=
  match P.underlying T with
  | some (.slice E) => (P.info? E).bind fun i => if len * i.size > 2 ^ 24 then none else if len * i.size = 0 then (Instr.fill (fun k => some (k * i.size, i.size)) #[] parts).map fun c => (E, c)
      else i.zero.bind fun z => (Instr.fill (fun k => some (k * i.size, i.size)) ((Array.range (len * i.size)).map (z.cells[· % z.cells.size]!)) parts).map fun c => (E, c)
  | _ => none
def bslP (P : Program) (T : TypeId) (n : Nat) (l : List (Nat × Value)) [C : KX] (w : World) : Prop := runV P w (Instr.buildSlice T n l.toArray) C.k C.x
theorem o_bsl {T : TypeId} {n : Nat} {l : List (Nat × Operand)} : sopC P ro ⟨d, .buildSlice T n l.toArray, ty, ps, af, g⟩ e w = bslP P T n (evParts e l) w := by
  rw [sop_exec (by intro c; simp)]
  show upE P C.k C.kd C.x ((do pure (Next.value (← Instr.buildSlice T n (l.toArray.map fun (i, x) => (i, ev e x)))) : Sem Next).run P w) = _
  rw [upE_val, evParts_eq]
  unfold bslP
  congr 2
  simp
theorem d_bsl {T E : TypeId} {n : Nat} {l : List (Nat × Value)} {cs : Array Value} (h : builtS P T n l = some (E, cs)) :
    bslP P T n l w = C.k (.slice (some ⟨w.heap.size, 0, none⟩) n n) (w.alloc (.cells cs E)) := by
  unfold builtS at h
  split at h
  · rename_i E' hu
    cases hi : P.info? E' with
    | none => simp [hi] at h
    | some i =>
      simp only [hi, Option.bind_some] at h
      split at h
      · simp at h
      · rename_i hbig
        by_cases h0 : n * i.size = 0
        · simp only [h0, if_true, Option.map_eq_some_iff, Prod.mk.injEq] at h
          obtain ⟨c, hc, rfl, rfl⟩ := h
          have hr : (Array.range 0).map (fun _ => (default : Value)) = #[] := Array.eq_empty_of_size_eq_zero (by simp)
          simp [bslP, runV, Instr.buildSlice, run_underlying hu, sizeOf, typeInfo, hi, h0, hr, hc, newRow]
        · simp only [h0, if_false] at h
          cases hz : i.zero with
          | none => simp [hz] at h
          | some z =>
            simp only [hz, Option.bind_some, Option.map_eq_some_iff, Prod.mk.injEq] at h
            obtain ⟨c, hc, rfl, rfl⟩ := h
            simp [bslP, runV, Instr.buildSlice, run_underlying hu, sizeOf, typeInfo, hi, h0, hbig, zeroValue, hz, hc, newRow]
  · simp at h

/-! ### calls -/
def evs (e : En) : List Operand → List Value
  | [] => []
  | x :: l => ev e x :: evs e l
theorem evs_nil : evs e [] = [] := Eq.trans rfl rfl
theorem evs_cons {x : Operand} {l : List Operand} : evs e (x :: l) = ev e x :: evs e l := Eq.trans rfl rfl
theorem evs_eq (l : List Operand) : evs e l = l.map (ev e) := by induction l with
  | nil => rfl
  | cons a l ih => simp [evs, ih]
/-- A call of a function value. -/
def callV (P : Program) (f : Value) (args : List Value) [C : KX] (w : World) : Prop :=
  upE P C.k C.kd C.x ((do let q ← Deferred.ofValue f args.toArray; invoke q.target q.args).run P w)
theorem o_call {f : Operand} {l : List Operand} {ts : Array TypeId} : sopC P ro ⟨d, .call ⟨.value f, l.toArray, ts⟩, ty, ps, af, g⟩ e w = callV P (ev e f) (evs e l) w := by
  rw [sop_exec (by intro c; simp)]
  unfold callV
  rw [evs_eq]
  simp [execOp, resolve]
theorem callV_congr {f f' : Value} {l l' : List Value} (h : f = f') (h2 : l = l') : callV P f l w = callV P f' l' w := by rw [h, h2]
theorem callFunc_go {f : FuncId} {args : Array Value} (h : isGo P f = true) : (callFunc f args).run P w = .ok (.enter f args) w := by
  unfold isGo at h
  unfold callFunc
  cases hf : P.funcs[f]? with
  | none => simp [hf] at h
  | some fn =>
    simp only [hf, Bool.and_eq_true, Bool.not_eq_true'] at h
    simp only [Sem.run_bind, run_program, Result.andThen_ok, hf]
    rw [if_neg (by rw [h.2]; simp)]
    have : fn.body.isNone = false := by cases hb : fn.body <;> simp_all
    simp [this]
/-- A call by a contract. -/
theorem call_of {f : FuncId} {first cap : List Value} {args : List Value} {R : Value → World → Prop} {X' : List PanicEntry → World → Prop} (h : CtP P f (first ++ args ++ cap) w R X')
    (hk : ∀ v w', R v w' → C.k v w') (hx : ∀ c w', X' c w' → C.x c w') : callV P (.func (.func f) first.toArray cap.toArray) args w := by
  unfold callV
  simp only [Deferred.ofValue, invoke, Sem.run_bind, Sem.run_pure, Result.andThen_ok]
  rw [callFunc_go h.1]
  have e1 : first.toArray ++ args.toArray ++ cap.toArray = (first ++ args ++ cap).toArray := by simp
  rw [e1]
  exact h.2.mono fun en w' q => by cases en <;> first | exact hk _ _ q | exact hx _ _ q | exact q
theorem c_of {f : FuncId} {args : List Value} {R : Value → World → Prop} (h : Ct P f args w R) (hk : ∀ v w', R v w' → C.k v w') : callV P (.func (.func f) #[] #[]) args w :=
  call_of (first := []) (cap := []) (X' := fun _ _ => False) (by simpa using h.toP) hk (fun _ _ h => h.elim)
theorem cp_of {f : FuncId} {args : List Value} {R : Value → World → Prop} {X' : List PanicEntry → World → Prop} (h : CtP P f args w R X') (hk : ∀ v w', R v w' → C.k v w') (hx : ∀ c w', X' c w' → C.x c w') : callV P (.func (.func f) #[] #[]) args w :=
  call_of (first := []) (cap := []) (by simpa using h) hk hx
/-- A call of a closure, by a contract. -/
theorem cc_of {f : FuncId} {cap args : List Value} {R : Value → World → Prop} (h : Ct P f (args ++ cap) w R) (hk : ∀ v w', R v w' → C.k v w') : callV P (.func (.func f) #[] cap.toArray) args w :=
  call_of (first := []) (X' := fun _ _ => False) (by simpa using h.toP) hk (fun _ _ h => h.elim)

/-! ### built-in functions -/
def biP (P : Program) (b : Builtin) (ts : Array TypeId) (ty : TypeId) (cs : Array Bool) (args : List Value) [C : KX] (w : World) : Prop :=
  upE P C.k C.kd C.x ((builtin b ts ty cs args.toArray).run P w)
theorem o_bi {b : Builtin} {l : List Operand} {ts : Array TypeId} : sopC P ro ⟨d, .call ⟨.builtin b, l.toArray, ts⟩, ty, ps, af, g⟩ e w = biP P b ts ty (l.toArray.map fun | .const _ => true | _ => false) (evs e l) w := by
  rw [sop_exec (by intro c; simp)]
  unfold biP
  rw [evs_eq]
  simp only [execOp, resolve, invoke, Sem.run_bind, Sem.run_pure, Result.andThen_ok, List.map_toArray]
  rfl
theorem biP_congr {b : Builtin} {ts : Array TypeId} {cs : Array Bool} {l l' : List Value} (h : l = l') : biP P b ts ty cs l w = biP P b ts ty cs l' w := by rw [h]
theorem bi_val {b : Builtin} {ts : Array TypeId} {cs : Array Bool} {l : List Value} {s : Sem Value} (h : builtin b ts ty cs l.toArray = (do pure (Next.value (← s)))) : biP P b ts ty cs l w = runV P w s C.k C.x := by
  unfold biP; rw [h, upE_val]
def mnI (a b : Int) : Int := if b < a then b else a
def mxI (a b : Int) : Int := if a < b then b else a
theorem m_min {ts : Array TypeId} {cs : Array Bool} {k : IntKind} {a b : Int} : biP P .min ts ty cs [.int k a, .int k b] w = C.k (.int k (mnI a b)) w := by
  rw [bi_val rfl]; simp [runV, Builtin.min_, Builtin.min2, mnI]
theorem m_max {ts : Array TypeId} {cs : Array Bool} {k : IntKind} {a b : Int} : biP P .max ts ty cs [.int k a, .int k b] w = C.k (.int k (mxI a b)) w := by
  rw [bi_val rfl]; simp [runV, Builtin.max_, Builtin.max2, mxI]
theorem n_str {T : TypeId} {cs : Array Bool} {s : ByteArray} (h : isStr P T = true) : biP P .len #[T] ty cs [.string s] w = C.k (.int .i64 s.size) w := by
  unfold isStr at h
  split at h
  · rename_i hu; rw [bi_val rfl]; simp [runV, Builtin.len_, run_underlying hu, goInt]
  · simp at h
theorem n_slice {T : TypeId} {cs : Array Bool} {p : Option Addr} {n c : Nat} (h : isSlice P T = true) : biP P .len #[T] ty cs [.slice p n c] w = C.k (.int .i64 n) w := by
  unfold isSlice at h
  split at h
  · rename_i hu; rw [bi_val rfl]; simp [runV, Builtin.len_, run_underlying hu, goInt]
  · simp at h
end places

/-! ### functions -/
section funcs
variable {P : Program}
/-- What the result variables hold. -/
def resL (P : Program) (e : En) (w : World) (K : Value → Prop) : List ResultVar → List Value → Prop
  | [], acc => (match acc with | [v] => K v | l => K (.tuple l.reverse.toArray))
  | .tmp t :: r, acc => resL P e w K r (e t :: acc)
  | .cell a t :: r, acc => @loadS P t (e a) ⟨fun v w' => w' = w ∧ resL P e w K r (v :: acc), fun _ _ => False, fun _ _ => False⟩ w
theorem res_one {e : En} {w : World} {K : Value → Prop} {v : Value} : resL P e w K [] [v] = K v := Eq.trans rfl rfl
theorem res_none {e : En} {w : World} {K : Value → Prop} : resL P e w K [] [] = K (.tuple #[]) := Eq.trans rfl rfl
theorem res_two {e : En} {w : World} {K : Value → Prop} {u v : Value} : resL P e w K [] [v, u] = K (.tuple #[u, v]) := Eq.trans rfl rfl
theorem res_three {e : En} {w : World} {K : Value → Prop} {u v x : Value} : resL P e w K [] [x, v, u] = K (.tuple #[u, v, x]) := Eq.trans rfl rfl
theorem res_four {e : En} {w : World} {K : Value → Prop} {u v x y : Value} : resL P e w K [] [y, x, v, u] = K (.tuple #[u, v, x, y]) := Eq.trans rfl rfl
theorem res_tmp {e : En} {w : World} {K : Value → Prop} {t : Nat} {r : List ResultVar} {acc : List Value} : resL P e w K (.tmp t :: r) acc = resL P e w K r (e t :: acc) := Eq.trans rfl rfl
theorem res_cell {e : En} {w : World} {K : Value → Prop} {a : Nat} {t : TypeId} {r : List ResultVar} {acc : List Value} : resL P e w K (.cell a t :: r) acc = @loadS P t (e a) ⟨fun v w' => w' = w ∧ resL P e w K r (v :: acc), fun _ _ => False, fun _ _ => False⟩ w := Eq.trans rfl rfl

def bodyQ (P : Program) (rs : List ResultVar) (R : Value → World → Prop) (X : List PanicEntry → World → Prop) : QT
  | .normal, e, ds, w => ds = [] ∧ resL P e w (fun v => R v w) rs []
  | .ret, e, ds, w => ds = [] ∧ resL P e w (fun v => R v w) rs []
  | .panic ch, _, ds, w => ds = [] ∧ X ch w
  | _, _, _, _ => False
theorem bodyQ_ret {rs : List ResultVar} {R : Value → World → Prop} {X : List PanicEntry → World → Prop} {e : En} {w : World} : bodyQ P rs R X .ret e [] w = resL P e w (fun v => R v w) rs [] := by simp [bodyQ]
theorem bodyQ_normal {rs : List ResultVar} {R : Value → World → Prop} {X : List PanicEntry → World → Prop} {e : En} {w : World} : bodyQ P rs R X .normal e [] w = resL P e w (fun v => R v w) rs [] := by simp [bodyQ]
theorem bodyQ_panic {rs : List ResultVar} {R : Value → World → Prop} {X : List PanicEntry → World → Prop} {e : En} {w : World} {ch : List PanicEntry} : bodyQ P rs R X (.panic ch) e [] w = X ch w := by simp [bodyQ]

def resFit (n : Nat) (rs : Array ResultVar) : Bool := rs.all fun | .tmp t => decide (t < n) | .cell a _ => decide (a < n)

theorem run_resL {n : Nat} {e : En} {w : World} {K : Value → Prop} : ∀ (rs : List ResultVar) (acc : List Value), (rs.all fun | .tmp t => decide (t < n) | .cell a _ => decide (a < n)) = true → resL P e w K rs acc →
    ∃ vs : List Value, (rs.mapM (fun x => (match x with | .tmp t => pure ((arr n e).getD t undef) | .cell a t => do loadVar t (← asAddr ((arr n e).getD a undef)) : Sem Value))).run P w = .ok vs w ∧
      (match acc.reverse ++ vs with | [v] => K v | l => K (.tuple l.toArray)) := by
  intro rs
  induction rs with
  | nil =>
    intro acc _ h
    refine ⟨[], by simp, ?_⟩
    unfold resL at h
    split at h
    · simpa using h
    · rename_i hne
      simp only [List.append_nil]
      split
      · rename_i v hv
        have : acc = [v] := by simpa using congrArg List.reverse hv
        exact absurd this (by intro hc; exact hne _ hc)
      · exact h
  | cons r rs ih =>
    intro acc hf h
    simp only [List.all_cons, Bool.and_eq_true] at hf
    cases r with
    | tmp t =>
      obtain ⟨vs, h1, h2⟩ := ih (e t :: acc) hf.2 h
      have ht : t < n := by simpa using hf.1
      refine ⟨e t :: vs, ?_, by simpa using h2⟩
      simp only [List.mapM_cons, Sem.run_bind, Sem.run_pure, Result.andThen_ok, h1]
      simp [Array.getD_eq_getD_getElem?, arr_get, ht]
    | cell a t =>
      have ha : a < n := by simpa using hf.1
      have h := loadS_sound h
      unfold runV at h
      split at h
      · rename_i v w' hv
        obtain ⟨rfl, h⟩ := h
        obtain ⟨vs, h1, h2⟩ := ih (v :: acc) hf.2 h
        refine ⟨v :: vs, ?_, by simpa using h2⟩
        have hv' : (do loadVar t (← asAddr ((arr n e).getD a undef)) : Sem Value).run P w' = .ok v w' := by
          have : (arr n e).getD a undef = e a := by simp [Array.getD_eq_getD_getElem?, arr_get, ha]
          rw [this]
          unfold Instr.loadAt at hv
          cases hea : e a <;> simp only [hea, Instr.sureAddr] at hv <;> try (simp at hv; done)
          rename_i p
          cases p with
          | none => simp [Instr.sureAddr] at hv
          | some p => simpa [asAddr] using hv
        simp only [List.mapM_cons, Sem.run_bind, hv', Result.andThen_ok, h1]
        simp
      · exact h.elim
      · exact h.elim

def entryFit (fn : Func) (c : Code) (k : Nat) : Bool := cfit fn.ntmps c && resFit fn.ntmps fn.results && decide (k ≤ fn.ntmps)

theorem results_run {fn : Func} {e : En} {w : World} {K : Value → Prop} (hf : resFit fn.ntmps fn.results = true) (h : resL P e w K fn.results.toList []) : ∃ v, (results fn (arr fn.ntmps e)).run P w = .ok v w ∧ K v := by
  obtain ⟨vs, h1, h2⟩ := run_resL (P := P) (n := fn.ntmps) fn.results.toList [] (by simpa [resFit] using hf) h
  have h3 : (fn.results.mapM (fun x => (match x with | .tmp t => pure ((arr fn.ntmps e).getD t undef) | .cell a t => do loadVar t (← asAddr ((arr fn.ntmps e).getD a undef)) : Sem Value))).run P w = .ok vs.toArray w := by
    rw [Array.mapM_eq_mapM_toList, Sem.run_map, h1]; rfl
  refine ⟨if h : vs.toArray.size = 1 then vs.toArray[0] else .tuple vs.toArray, ?_, ?_⟩
  · unfold results
    rw [Sem.run_bind]
    exact (congrArg (fun r => Result.andThen r fun (a : Array Value) w' => Sem.run P (pure (if h : a.size = 1 then a[0] else Value.tuple a)) w') h3).trans rfl
  · simp only [List.reverse_nil, List.nil_append] at h2
    match vs, h2 with
    | [], h2 => simpa using h2
    | [v], h2 => simpa using h2
    | a :: b :: l, h2 => simpa using h2

theorem ctp_of_S {f : FuncId} {fn : Func} {c : Code} {rs : List ResultVar} {args : List Value} {w : World} {R : Value → World → Prop} {X : List PanicEntry → World → Prop} (hf : P.funcs[f]? = some fn) (hb : fn.body = some c) (hrs : fn.results = rs.toArray)
    (hfit : entryFit fn c args.length = true) (hn : (fn.name == "runtime.NumGoroutine") = false) (h : S P none fn.ntmps c (bodyQ P rs R X) (argE args) [] w) : CtP P f args w R X := by
  obtain rfl : fn.results.toList = rs := by rw [hrs]
  refine ⟨by simp [isGo, hf, hb, hn], ?_⟩
  simp only [entryFit, Bool.and_eq_true, decide_eq_true_eq] at hfit
  refine calls_of_wg hf hb ?_
  have hs := S_sound c hfit.1.1 _ _ _ _ h
  rw [start_arr _ _ (by simpa using hfit.2)]
  refine wg_mono hs ?_
  rintro x a' w' ⟨e, ds, rfl, hq⟩
  cases x with
  | normal =>
    obtain ⟨rfl, hq⟩ := hq
    obtain ⟨v, h1, h2⟩ := results_run hfit.1.2 hq
    exact ⟨rfl, v, h1, h2⟩
  | ret =>
    obtain ⟨rfl, hq⟩ := hq
    obtain ⟨v, h1, h2⟩ := results_run hfit.1.2 hq
    exact ⟨rfl, v, h1, h2⟩
  | panic ch => exact ⟨hq.1, hq.2⟩
  | exit id => exact hq
  | goto l => exact hq
  | outgrown => exact hq

theorem ct_of_S {f : FuncId} {fn : Func} {c : Code} {rs : List ResultVar} {args : List Value} {w : World} {R : Value → World → Prop} (hf : P.funcs[f]? = some fn) (hb : fn.body = some c) (hrs : fn.results = rs.toArray)
    (hfit : entryFit fn c args.length = true) (hn : (fn.name == "runtime.NumGoroutine") = false) (h : S P none fn.ntmps c (bodyQ P rs R (fun _ _ => False)) (argE args) [] w) : Ct P f args w R := by
  have := ctp_of_S (X := fun _ _ => False) hf hb hrs hfit hn h
  exact ⟨this.1, this.2.mono fun en w' q => by cases en <;> exact q⟩
end funcs
end Go.Eng
