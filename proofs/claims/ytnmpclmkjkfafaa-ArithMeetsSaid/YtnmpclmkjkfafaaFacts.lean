/- Facts on the program's types, each by the kernel; printed by genfacts.py. -/
import Derived.Test.YtnmpclmkjkfafaaEngOwn
import Derived.Test.YtnmpclmkjkfafaaProg
namespace Go.Proofs.Ytnmpclmkjkfafaa.Fc
open Go Go.Eng
set_option linter.unusedVariables false
set_option linter.unusedSimpArgs false
theorem mix : Try.prog.follows .mixedOrders = true := by kernel_rfl
theorem eql_4 {C : KX} {w : World} {x y : Operand} {p q : Bool} : @binP Try.prog .eql 4 x y (.bool p) (.bool q) C w = C.k (.bool (p == q)) w := b_eql_bool (by kernel_rfl)
theorem sh_29 : shapeOf Try.prog 29 = some (some 2) := by kernel_rfl
theorem neq_4 {C : KX} {w : World} {x y : Operand} {p q : Bool} : @binP Try.prog .neq 4 x y (.bool p) (.bool q) C w = C.k (.bool (p != q)) w := b_neq_bool (by kernel_rfl)
theorem cv_2_34 {C : KX} {w : World} {k : IntKind} {x : Int} : @convP Try.prog 2 34 (.int k x) C w = C.k (.int .u64 (IntKind.u64.wrap x)) w := c_int (by kernel_rfl)
theorem al_29 {C : KX} {w : World} : @allocP Try.prog 29 C w = C.k (.pointer (some ⟨w.heap.size, 0, none⟩)) (w.alloc (.cells #[.int .i64 0, .int .i64 0] 29)) := a_alloc (cs := ([.int .i64 0, .int .i64 0] : List Value)) (by kernel_rfl)
theorem si_29 : sizeIs Try.prog 29 2 = true := by kernel_rfl
theorem fa_29_0 {C : KX} {w : World} {p : Addr} : @fldP Try.prog 29 (.pointer (some p)) 0 C w = C.k (.pointer (some (p.add 0))) w := f_addr (by kernel_rfl)
theorem sh_2 : shapeOf Try.prog 2 = some none := by kernel_rfl
theorem fa_29_1 {C : KX} {w : World} {p : Addr} : @fldP Try.prog 29 (.pointer (some p)) 1 C w = C.k (.pointer (some (p.add 1))) w := f_addr (by kernel_rfl)
theorem eqin_29 {a0 : Int} {a1 : Int} {b0 : Int} {b1 : Int} (w : World) : (Op.equalIn 10000 29 (.agg #[.int .i64 a0, .int .i64 a1]) (.agg #[.int .i64 b0, .int .i64 b1])).run Try.prog w = .ok (decide (a0 = b0 ∧ a1 = b1)) w := by
  have fo29 : (Try.prog).fieldsOf 29 = #[⟨"Lo", 2, 0, false, "", "", 0⟩, ⟨"Hi", 2, 1, false, "", "", 8⟩] := by kernel_rfl
  have fu29 : (Try.prog).underlying 29 = some (.struct ((Try.prog).fieldsOf 29)) := by kernel_rfl
  have fh29 : (Try.prog).stoodInHeld 29 = false := by kernel_rfl
  have ia2 : ∀ w, (isAgg 2).run Try.prog w = .ok false w := fun w => shapeOf_one (by kernel_rfl)
  have ub2 : (Try.prog).underlying 2 = some (.int .i64) := by kernel_rfl
  simp [run_equalIn_agg, run_equalIn_struct, Op.eqFields, part, run_equalIn_int, run_equalIn_bool', run_equalIn_string, bytes_eq, fu29, fo29, fh29, ia2, ub2]
  by_cases h0 : a0 = b0
  case neg => simp [h0]
  by_cases h1 : a1 = b1
  case neg => simp [h1]
  simp [h0, h1]
theorem neq_29 {C : KX} {w : World} {x y : Operand} {a0 : Int} {a1 : Int} {b0 : Int} {b1 : Int} : @binP Try.prog .neq 29 x y (.agg #[.int .i64 a0, .int .i64 a1]) (.agg #[.int .i64 b0, .int .i64 b1]) C w = C.k (.bool (!decide (a0 = b0 ∧ a1 = b1))) w := b_neq_agg (by kernel_rfl) (eqin_29)
theorem bd_29_all {C : KX} {w : World} {x0 : Int} {x1 : Int} : @buildP Try.prog 29 [(0, Value.int .i64 x0), (1, Value.int .i64 x1)] C w = C.k (.agg #[.int .i64 x0, .int .i64 x1]) w := d_build (by kernel_rfl)
theorem eql_29 {C : KX} {w : World} {x y : Operand} {a0 : Int} {a1 : Int} {b0 : Int} {b1 : Int} : @binP Try.prog .eql 29 x y (.agg #[.int .i64 a0, .int .i64 a1]) (.agg #[.int .i64 b0, .int .i64 b1]) C w = C.k (.bool (decide (a0 = b0 ∧ a1 = b1))) w := b_eql_agg (by kernel_rfl) (eqin_29)
theorem bd_43_all {C : KX} {w : World} {x0 : ByteArray} {x1 : ByteArray} {x2 : ByteArray} {x3 : ByteArray} {x4 : ByteArray} {x5 : ByteArray} {x6 : ByteArray} {x7 : ByteArray} {x8 : ByteArray} {x9 : ByteArray} {x10 : ByteArray} {x11 : ByteArray} {x12 : ByteArray} {x13 : ByteArray} {x14 : ByteArray} {x15 : ByteArray} : @buildP Try.prog 43 [(0, Value.string x0), (1, Value.string x1), (2, Value.string x2), (3, Value.string x3), (4, Value.string x4), (5, Value.string x5), (6, Value.string x6), (7, Value.string x7), (8, Value.string x8), (9, Value.string x9), (10, Value.string x10), (11, Value.string x11), (12, Value.string x12), (13, Value.string x13), (14, Value.string x14), (15, Value.string x15)] C w = C.k (.agg #[.string x0, .string x1, .string x2, .string x3, .string x4, .string x5, .string x6, .string x7, .string x8, .string x9, .string x10, .string x11, .string x12, .string x13, .string x14, .string x15]) w := d_build (by kernel_rfl)
theorem al_43 {C : KX} {w : World} : @allocP Try.prog 43 C w = C.k (.pointer (some ⟨w.heap.size, 0, none⟩)) (w.alloc (.cells #[.string ⟨#[]⟩, .string ⟨#[]⟩, .string ⟨#[]⟩, .string ⟨#[]⟩, .string ⟨#[]⟩, .string ⟨#[]⟩, .string ⟨#[]⟩, .string ⟨#[]⟩, .string ⟨#[]⟩, .string ⟨#[]⟩, .string ⟨#[]⟩, .string ⟨#[]⟩, .string ⟨#[]⟩, .string ⟨#[]⟩, .string ⟨#[]⟩, .string ⟨#[]⟩] 43)) := a_alloc (cs := ([.string ⟨#[]⟩, .string ⟨#[]⟩, .string ⟨#[]⟩, .string ⟨#[]⟩, .string ⟨#[]⟩, .string ⟨#[]⟩, .string ⟨#[]⟩, .string ⟨#[]⟩, .string ⟨#[]⟩, .string ⟨#[]⟩, .string ⟨#[]⟩, .string ⟨#[]⟩, .string ⟨#[]⟩, .string ⟨#[]⟩, .string ⟨#[]⟩, .string ⟨#[]⟩] : List Value)) (by kernel_rfl)
theorem si_43 : sizeIs Try.prog 43 16 = true := by kernel_rfl
theorem ia_43 {C : KX} {w : World} {p : Addr} {k : IntKind} {i : Int} (hi : 0 ≤ i ∧ i < 16) : @ixaP Try.prog 43 (.pointer (some p)) (.int k i) C w = C.k (.pointer (some (p.add (i.toNat * 1)))) w := i_array (n := 16) (by kernel_rfl) (by kernel_rfl) hi
theorem sh_9 : shapeOf Try.prog 9 = some none := by kernel_rfl
theorem bs_44_16_all {C : KX} {w : World} {x0 : ByteArray} {x1 : ByteArray} {x2 : ByteArray} {x3 : ByteArray} {x4 : ByteArray} {x5 : ByteArray} {x6 : ByteArray} {x7 : ByteArray} {x8 : ByteArray} {x9 : ByteArray} {x10 : ByteArray} {x11 : ByteArray} {x12 : ByteArray} {x13 : ByteArray} {x14 : ByteArray} {x15 : ByteArray} : @bslP Try.prog 44 16 [(0, Value.string x0), (1, Value.string x1), (2, Value.string x2), (3, Value.string x3), (4, Value.string x4), (5, Value.string x5), (6, Value.string x6), (7, Value.string x7), (8, Value.string x8), (9, Value.string x9), (10, Value.string x10), (11, Value.string x11), (12, Value.string x12), (13, Value.string x13), (14, Value.string x14), (15, Value.string x15)] C w = C.k (.slice (some ⟨w.heap.size, 0, none⟩) 16 16) (w.alloc (.cells #[.string x0, .string x1, .string x2, .string x3, .string x4, .string x5, .string x6, .string x7, .string x8, .string x9, .string x10, .string x11, .string x12, .string x13, .string x14, .string x15] 9)) := d_bsl (by kernel_rfl)
theorem ln_44 {C : KX} {w : World} {ty : TypeId} {cs : Array Bool} {p : Option Addr} {n c : Nat} : @biP Try.prog .len #[44] ty cs [.slice p n c] C w = C.k (.int .i64 n) w := n_slice (by kernel_rfl)
theorem ia_44 {C : KX} {w : World} {p : Addr} {n c : Nat} {k : IntKind} {i : Int} (hi : 0 ≤ i ∧ i < (n : Int)) : @ixaP Try.prog 44 (.slice (some p) n c) (.int k i) C w = C.k (.pointer (some (p.add (i.toNat * 1)))) w := i_slice (by kernel_rfl) (by kernel_rfl) hi
theorem bd_46_all {C : KX} {w : World} {x0 : Int} {x1 : Int} : @buildP Try.prog 46 [(0, Value.int .i64 x0), (1, Value.int .i64 x1)] C w = C.k (.agg #[.int .i64 x0, .int .i64 x1]) w := d_build (by kernel_rfl)
theorem ix_46 {C : KX} {w : World} {cs : Array Value} {k : IntKind} {i : Int} (hi : 0 ≤ i ∧ i < 2) : @idxP Try.prog 46 (.agg cs) (.int k i) C w = cellC (cs[i.toNat]?) w := i_arr1 (n := 2) (E := 2) (by kernel_rfl) (by kernel_rfl) (by kernel_rfl) hi
theorem si_2 : sizeIs Try.prog 2 1 = true := by kernel_rfl
end Go.Proofs.Ytnmpclmkjkfafaa.Fc
