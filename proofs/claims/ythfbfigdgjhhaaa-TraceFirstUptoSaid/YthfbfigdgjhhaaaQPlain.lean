/- Layer 16: what a trace is, plainly, and when it may be. -/
import Derived.Test.YthfbfigdgjhhaaaFactsC
import Derived.Test.YthfbfigdgjhhaaaFactsM
set_option linter.unusedSimpArgs false
set_option linter.unusedVariables false
set_option linter.all false
namespace Go.Tr
open Go Go.Eng
structure Src where
  kind : Int
  vk : Int
  vn : Int
  n : Int
deriving DecidableEq
structure OpR where
  op : Int
  args : List Src
  k : Int
  c : Int
  snap : Int
deriving DecidableEq
structure LinkR where
  up : Int
  fn : Int
  pc : Int
  into : Int
  regs : List Src
deriving DecidableEq
structure VirtR where
  rc : Int
  cells : List Src
deriving DecidableEq
structure KeyR where
  mg : Int
  n : Int
  g0 : Int
  g1 : Int
  g2 : Int
  g3 : Int
  g4 : Int
  g5 : Int
  g6 : Int
  g7 : Int
deriving DecidableEq
structure TrR where
  key : KeyR
  fn : Int
  pc : Int
  ins : List Int
  ops : List OpR
  links : List LinkR
  virts : List VirtR
  back : List Src
deriving DecidableEq
structure Row where
  name : ByteArray
  args : Int
  k : Bool
  c : Bool
  makes : Bool
  may : Bool
  is : Bool
def row0 : Row := ⟨.empty, -1, false, false, false, false, false⟩
def rowN : Row := ⟨.empty, 0, false, false, false, false, false⟩
def rowT : List Row :=
  [rowN, rowN, rowN, rowN, ⟨"bin".toUTF8, 2, true, false, true, true, true⟩, ⟨"un".toUTF8, 1, true, false, true, true, true⟩, ⟨"eq".toUTF8, 2, false, false, true, false, true⟩, ⟨"ne".toUTF8, 2, false, false, true, false, true⟩,
   ⟨"get".toUTF8, 1, true, true, true, true, true⟩, ⟨"put".toUTF8, 2, true, true, false, true, true⟩, ⟨"elem".toUTF8, 2, false, false, true, true, true⟩, ⟨"setelem".toUTF8, 3, false, false, false, true, true⟩,
   ⟨"len".toUTF8, 1, false, false, true, true, true⟩, ⟨"new".toUTF8, 0, true, true, true, true, true⟩, ⟨"arr".toUTF8, 1, false, false, true, true, true⟩, ⟨"in".toUTF8, 0, false, false, true, false, true⟩,
   ⟨"out".toUTF8, 1, false, false, false, true, true⟩, ⟨"img".toUTF8, 1, false, false, true, true, true⟩, rowN, ⟨"root".toUTF8, 0, false, false, true, false, true⟩, ⟨"setroot".toUTF8, 1, false, false, false, false, true⟩,
   rowN, rowN, rowN, rowN, rowN, ⟨"step".toUTF8, 0, false, false, false, true, true⟩, rowN, rowN, rowN, ⟨"yes".toUTF8, 1, false, false, false, true, true⟩, ⟨"no".toUTF8, 1, false, false, false, true, true⟩,
   ⟨"is".toUTF8, 2, false, false, false, true, true⟩, ⟨"depth".toUTF8, 0, true, false, false, true, true⟩, ⟨"charge".toUTF8, 0, true, false, false, true, true⟩, ⟨"lay".toUTF8, -1, true, false, true, false, true⟩]
/-- An operation's row. -/
def ofF (op : Int) : Row := if 0 ≤ op then (match rowT[op.toNat]? with | some r => if r.is then r else row0 | none => row0) else row0
def rowC (r : Row) : List Value := [.string r.name, .int .i64 r.args, .bool r.k, .bool r.c, .bool r.makes, .bool r.may, .bool r.is]
def rowsL : List Value := rowT.flatMap rowC
/-- Whether a source has just what its kind has. -/
def plainF (virts : Nat) (s : Src) : Bool :=
  if s.kind = 0 then decide (s.n = 0)
  else if s.kind = 1 then decide (0 ≤ s.n) && decide (s.vk = 0 ∧ s.vn = 0)
  else if s.kind = 2 then decide (0 ≤ s.n) && decide (s.n < virts) && decide (s.vk = 0 ∧ s.vn = 0)
  else false
def makesF (t : TrR) : List Bool := t.ops.map fun o => (ofF o.op).makes
/-- Whether a source is there ahead of an operation. -/
def madeF (t : TrR) (at_ : Int) (s : Src) : Bool :=
  plainF t.virts.length s && decide (s.kind ≠ 2) &&
  (if s.kind = 1 then decide (s.n - t.ins.length < at_) && (decide (s.n - t.ins.length < 0) || (makesF t)[(s.n - t.ins.length).toNat]?.getD false) else true)
/-- A link and those above it, the innermost one first. -/
def upsF (l : List LinkR) : Nat → Int → List Nat
  | 0, _ => []
  | f + 1, n => if n < 0 then [] else match l[n.toNat]? with
    | none => []
    | some k => n.toNat :: upsF l f k.up
def chainF (l : List LinkR) (n : Int) : List Nat := (upsF l (n.toNat + 1) n).reverse
def linkR (l : List LinkR) (i : Nat) : List Src := match l[i]? with | some k => k.regs | none => []
def regsF (l : List LinkR) (c : List Nat) : List Src := c.flatMap (linkR l)
def cellsV (v : List VirtR) (n : Int) : List Src := if n < 0 then [] else match v[n.toNat]? with | some c => c.cells | none => []
/-- The sources that are reached, breadth first. -/
def goF (v : List VirtR) : Nat → List Int → List Src → List Src
  | 0, _, _ => []
  | _ + 1, _, [] => []
  | f + 1, sn, s :: r => s :: (if s.kind = 2 ∧ s.n ∉ sn then goF v f (sn ++ [s.n]) (r ++ cellsV v s.n) else goF v f sn r)
/-- How much the virtual things that have not been seen weigh. -/
def wtV (v : List VirtR) (sn : List Int) : Nat := (v.zipIdx.map fun p => if (p.2 : Int) ∈ sn then 0 else p.1.cells.length).sum
def takenF (t : TrR) (n : Int) : List Src := goF t.virts ((regsF t.links (chainF t.links n)).length + wtV t.virts []) [] (regsF t.links (chainF t.links n))
def outF (t : TrR) : Bool :=
  decide (0 ≤ t.key.n) && decide (t.key.n ≤ 4) && decide (t.back.length = t.ins.length) &&
  (t.ins.zipIdx.all fun p => decide (0 ≤ p.1) && decide (p.1 < 1000) && (decide (p.2 = 0) || decide (t.ins.getD (p.2 - 1) 0 < p.1))) &&
  (t.links.zipIdx.all fun p => decide (-1 ≤ p.1.up) && decide (p.1.up < p.2) && decide (p.1.regs.length ≤ 1000) && p.1.regs.all (plainF t.virts.length)) &&
  (t.virts.all fun v => decide (0 ≤ v.rc) && decide (v.rc ≤ 1000) && decide (v.cells.length ≤ 1000) && v.cells.all (plainF t.virts.length)) &&
  (t.back.all fun s => plainF t.virts.length s && decide (s.kind ≠ 2))
def numF (o : OpR) (r : Row) : Bool :=
  (r.k || decide (o.k = 0)) && (r.c || decide (o.c = 0)) &&
  (if o.op = 4 then decide (1 ≤ o.k) && decide (o.k ≤ 12)
   else if o.op = 5 then decide (13 ≤ o.k) && decide (o.k ≤ 15)
   else if o.op = 8 ∨ o.op = 9 ∨ o.op = 13 then decide (0 ≤ o.k) && decide (o.k ≤ 1000) && decide (0 ≤ o.c) && decide (o.c ≤ 1000)
   else if o.op = 35 then decide (0 ≤ o.k) && decide (o.k ≤ 1000) && decide ((o.args.length : Int) ≤ 1000)
   else if o.op = 33 ∨ o.op = 34 then decide (0 ≤ o.k) && decide (o.k ≤ 1000000)
   else true)
def opF (t : TrR) (at_ : Int) (o : OpR) : Bool :=
  (ofF o.op).is && (decide ((ofF o.op).args < 0) || decide ((ofF o.op).args = o.args.length)) && numF o (ofF o.op) &&
  o.args.all (madeF t at_) && (decide (o.op ≠ 32) || (match o.args[1]? with | some s => decide (s.kind = 0) | none => false)) &&
  decide (-1 ≤ o.snap) && decide (o.snap < t.links.length) && (takenF t o.snap).all (fun s => decide (s.kind = 2) || madeF t at_ s)
/-- The first operation that may not be, from one on. -/
def opsF (t : TrR) : Nat → List OpR → Option Nat
  | _, [] => none
  | i, o :: l => if opF t i o then opsF t (i + 1) l else some i
/-- The first operation that is wrong; all of them: what is not of an operation. -/
def chkF (t : TrR) : Option Nat :=
  if outF t then match opsF t 0 t.ops with
    | some i => some i
    | none => if t.back.all (madeF t t.ops.length) then none else some t.ops.length
  else some t.ops.length
end Go.Tr
