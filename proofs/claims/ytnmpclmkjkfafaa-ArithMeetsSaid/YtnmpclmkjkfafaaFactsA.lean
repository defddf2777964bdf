/- Facts on the program's types, each by the kernel; printed by genfacts.py. -/
import Derived.Test.YtnmpclmkjkfafaaEngSet
import Derived.Test.YtnmpclmkjkfafaaProg
set_option linter.all false
namespace Go.Proofs.Ytnmpclmkjkfafaa.Fa
open Go Go.Eng
set_option linter.unusedVariables false
set_option linter.unusedSimpArgs false
theorem mix : Try.prog.follows .mixedOrders = true := by kernel_rfl
theorem pt_2 : ptrish Try.prog 2 = false := by kernel_rfl
theorem pt_3 : ptrish Try.prog 3 = false := by kernel_rfl
theorem pt_4 : ptrish Try.prog 4 = false := by kernel_rfl
theorem eql_4 {C : KA} {m : Mem} {L : Lst} {x y : Operand} {p q : Bool} : @binA Try.prog .eql 4 x y (.bool p) (.bool q) C m L = C.k (.bool (p == q)) m L := ab_of fun C w => b_eql_bool (by kernel_rfl)
theorem pt_9 : ptrish Try.prog 9 = false := by kernel_rfl
theorem sh_29 : shapeOf Try.prog 29 = some (some 2) := by kernel_rfl
theorem neq_4 {C : KA} {m : Mem} {L : Lst} {x y : Operand} {p q : Bool} : @binA Try.prog .neq 4 x y (.bool p) (.bool q) C m L = C.k (.bool (p != q)) m L := ab_of fun C w => b_neq_bool (by kernel_rfl)
theorem cv_2_34 {C : KA} {m : Mem} {L : Lst} {k : IntKind} {x : Int} : @iconvA Try.prog 2 34 (.int k x) C m L = C.k (.int .u64 (IntKind.u64.wrap x)) m L := iconvA_int (by kernel_rfl)
theorem pc_2_34 {C : KA} {m : Mem} {L : Lst} {ro : Option Nat} {e : En} {d : Option Nat} {ty : TypeId} {ps : String} {af : Array Edge} {g : Option (Nat × Bool)} {x : Operand} : @topC Try.prog ro ⟨d, .convert 2 34 x, ty, ps, af, g⟩ e C m L = iconvA Try.prog 2 34 (ev e x) m L := p_iconv (by kernel_rfl)
theorem zo_29 : zeroOf Try.prog 29 = some ([.int .i64 0, .int .i64 0] : List Value) := by kernel_rfl
theorem si_29 : sizeIs Try.prog 29 2 = true := by kernel_rfl
theorem fa_29_0 {C : KA} {m : Mem} {L : Lst} {p : Addr} : @fldA Try.prog 29 (.pointer (some p)) 0 C m L = C.k (.pointer (some (p.add 0))) m L := fldA_eq (by kernel_rfl)
theorem sh_2 : shapeOf Try.prog 2 = some none := by kernel_rfl
theorem fa_29_1 {C : KA} {m : Mem} {L : Lst} {p : Addr} : @fldA Try.prog 29 (.pointer (some p)) 1 C m L = C.k (.pointer (some (p.add 1))) m L := fldA_eq (by kernel_rfl)
theorem pt_29 : ptrish Try.prog 29 = false := by kernel_rfl
theorem eqin_29 {a0 : Int} {a1 : Int} {b0 : Int} {b1 : Int} (w : World) : (Op.equalIn 10000 29 (.agg #[.int .i64 a0, .int .i64 a1]) (.agg #[.int .i64 b0, .int .i64 b1])).run Try.prog w = .ok (decide (a0 = b0 ∧ a1 = b1)) w := by
  have fo29 : (Try.prog).fieldsOf 29 = #[⟨"Lo", 2, 0, false, "", "", 0⟩, ⟨"Hi", 2, 1, false, "", "", 8⟩] := by kernel_rfl
  have fu29 : (Try.prog).underlying 29 = some (.struct ((Try.prog).fieldsOf 29)) := by kernel_rfl
  have fh29 : (Try.prog).stoodInHeld 29 = false := by kernel_rfl
  have ia2 : ∀ w, (isAgg 2).run Try.prog w = .ok false w := fun w => shapeOf_one (by kernel_rfl)
  have ub2 : (Try.prog).underlying 2 = some (.int .i64) := by kernel_rfl
  simp [run_equalIn_agg, run_equalIn_struct, Op.eqFields, part, run_equalIn_int, run_equalIn_bool', run_equalIn_string, bytes_eq, fu29, fo29, fh29, ia2, ub2]
  by_cases h0 : a0 = b0
  case neg => simp [h0]
  by_cases h1 : a1 = b1
  case neg => simp [h1]
  simp [h0, h1]
theorem neq_29 {C : KA} {m : Mem} {L : Lst} {x y : Operand} {a0 : Int} {a1 : Int} {b0 : Int} {b1 : Int} : @binA Try.prog .neq 29 x y (.agg #[.int .i64 a0, .int .i64 a1]) (.agg #[.int .i64 b0, .int .i64 b1]) C m L = C.k (.bool (!decide (a0 = b0 ∧ a1 = b1))) m L := ab_of fun C w => b_neq_agg (by kernel_rfl) (eqin_29)
theorem bd_29_all {C : KA} {m : Mem} {L : Lst} {x0 : Int} {x1 : Int} : @buildA Try.prog 29 [(0, Value.int .i64 x0), (1, Value.int .i64 x1)] C m L = C.k (.agg #[.int .i64 x0, .int .i64 x1]) m L := buildA_eq (by kernel_rfl)
theorem eql_29 {C : KA} {m : Mem} {L : Lst} {x y : Operand} {a0 : Int} {a1 : Int} {b0 : Int} {b1 : Int} : @binA Try.prog .eql 29 x y (.agg #[.int .i64 a0, .int .i64 a1]) (.agg #[.int .i64 b0, .int .i64 b1]) C m L = C.k (.bool (decide (a0 = b0 ∧ a1 = b1))) m L := ab_of fun C w => b_eql_agg (by kernel_rfl) (eqin_29)
theorem bd_43_all {C : KA} {m : Mem} {L : Lst} {x0 : ByteArray} {x1 : ByteArray} {x2 : ByteArray} {x3 : ByteArray} {x4 : ByteArray} {x5 : ByteArray} {x6 : ByteArray} {x7 : ByteArray} {x8 : ByteArray} {x9 : ByteArray} {x10 : ByteArray} {x11 : ByteArray} {x12 : ByteArray} {x13 : ByteArray} {x14 : ByteArray} {x15 : ByteArray} : @buildA Try.prog 43 [(0, Value.string x0), (1, Value.string x1), (2, Value.string x2), (3, Value.string x3), (4, Value.string x4), (5, Value.string x5), (6, Value.string x6), (7, Value.string x7), (8, Value.string x8), (9, Value.string x9), (10, Value.string x10), (11, Value.string x11), (12, Value.string x12), (13, Value.string x13), (14, Value.string x14), (15, Value.string x15)] C m L = C.k (.agg #[.string x0, .string x1, .string x2, .string x3, .string x4, .string x5, .string x6, .string x7, .string x8, .string x9, .string x10, .string x11, .string x12, .string x13, .string x14, .string x15]) m L := buildA_eq (by kernel_rfl)
theorem zo_43 : zeroOf Try.prog 43 = some ([.string ⟨#[]⟩, .string ⟨#[]⟩, .string ⟨#[]⟩, .string ⟨#[]⟩, .string ⟨#[]⟩, .string ⟨#[]⟩, .string ⟨#[]⟩, .string ⟨#[]⟩, .string ⟨#[]⟩, .string ⟨#[]⟩, .string ⟨#[]⟩, .string ⟨#[]⟩, .string ⟨#[]⟩, .string ⟨#[]⟩, .string ⟨#[]⟩, .string ⟨#[]⟩] : List Value) := by kernel_rfl
theorem si_43 : sizeIs Try.prog 43 16 = true := by kernel_rfl
theorem ia_43 {C : KA} {m : Mem} {L : Lst} {p : Addr} {k : IntKind} {i : Int} (hi : 0 ≤ i ∧ i < 16) : @ixaA Try.prog 43 (.pointer (some p)) (.int k i) C m L = C.k (.pointer (some (p.add (i.toNat * 1)))) m L := ixaA_array (n := 16) (by kernel_rfl) (by kernel_rfl) hi
theorem sh_9 : shapeOf Try.prog 9 = some none := by kernel_rfl
theorem bbs_44_16_all {x0 : ByteArray} {x1 : ByteArray} {x2 : ByteArray} {x3 : ByteArray} {x4 : ByteArray} {x5 : ByteArray} {x6 : ByteArray} {x7 : ByteArray} {x8 : ByteArray} {x9 : ByteArray} {x10 : ByteArray} {x11 : ByteArray} {x12 : ByteArray} {x13 : ByteArray} {x14 : ByteArray} {x15 : ByteArray} : builtS Try.prog 44 16 [(0, Value.string x0), (1, Value.string x1), (2, Value.string x2), (3, Value.string x3), (4, Value.string x4), (5, Value.string x5), (6, Value.string x6), (7, Value.string x7), (8, Value.string x8), (9, Value.string x9), (10, Value.string x10), (11, Value.string x11), (12, Value.string x12), (13, Value.string x13), (14, Value.string x14), (15, Value.string x15)] = some (9, #[.string x0, .string x1, .string x2, .string x3, .string x4, .string x5, .string x6, .string x7, .string x8, .string x9, .string x10, .string x11, .string x12, .string x13, .string x14, .string x15]) := by kernel_rfl
theorem ia_44 {C : KA} {m : Mem} {L : Lst} {p : Addr} {n c : Nat} {k : IntKind} {i : Int} (hi : 0 ≤ i ∧ i < (n : Int)) : @ixaA Try.prog 44 (.slice (some p) n c) (.int k i) C m L = C.k (.pointer (some (p.add (i.toNat * 1)))) m L := ixaA_slice (by kernel_rfl) (by kernel_rfl) hi
theorem bd_46_all {C : KA} {m : Mem} {L : Lst} {x0 : Int} {x1 : Int} : @buildA Try.prog 46 [(0, Value.int .i64 x0), (1, Value.int .i64 x1)] C m L = C.k (.agg #[.int .i64 x0, .int .i64 x1]) m L := buildA_eq (by kernel_rfl)
theorem ix_46 {C : KA} {m : Mem} {L : Lst} {cs : Array Value} {k : IntKind} {i : Int} (hi : 0 ≤ i ∧ i < 2) : @idxA Try.prog 46 (.agg cs) (.int k i) C m L = cellCA (cs[i.toNat]?) m L := idxA_arr1 (n := 2) (E := 2) (by kernel_rfl) (by kernel_rfl) (by kernel_rfl) hi
theorem si_2 : sizeIs Try.prog 2 1 = true := by kernel_rfl
theorem pt_34 : ptrish Try.prog 34 = false := by kernel_rfl
theorem all_pc : type_of% @pc_2_34 := @pc_2_34
theorem all_fa : type_of% @pt_2 ∧ type_of% @pt_3 ∧ type_of% @pt_4 ∧ type_of% @eql_4 ∧ type_of% @pt_9 ∧ type_of% @sh_29 ∧ type_of% @neq_4 ∧ type_of% @cv_2_34 ∧ type_of% @zo_29 ∧ type_of% @si_29 ∧ type_of% @fa_29_0 ∧ type_of% @sh_2 ∧ type_of% @fa_29_1 ∧ type_of% @pt_29 ∧ type_of% @neq_29 ∧ type_of% @bd_29_all ∧ type_of% @eql_29 ∧ type_of% @bd_43_all ∧ type_of% @zo_43 ∧ type_of% @si_43 ∧ type_of% @ia_43 ∧ type_of% @sh_9 ∧ type_of% @bbs_44_16_all ∧ type_of% @ia_44 ∧ type_of% @bd_46_all ∧ type_of% @ix_46 ∧ type_of% @si_2 ∧ type_of% @pt_34 := ⟨@pt_2, @pt_3, @pt_4, @eql_4, @pt_9, @sh_29, @neq_4, @cv_2_34, @zo_29, @si_29, @fa_29_0, @sh_2, @fa_29_1, @pt_29, @neq_29, @bd_29_all, @eql_29, @bd_43_all, @zo_43, @si_43, @ia_43, @sh_9, @bbs_44_16_all, @ia_44, @bd_46_all, @ix_46, @si_2, @pt_34⟩
end Go.Proofs.Ytnmpclmkjkfafaa.Fa
