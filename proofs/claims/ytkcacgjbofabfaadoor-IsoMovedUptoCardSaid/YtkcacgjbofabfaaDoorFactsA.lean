/- Facts on the program's types, each by the kernel; printed by genfacts.py. -/
import Derived.Test.YtkcacgjbofabfaaDoorEngSet
import Derived.Test.YtkcacgjbofabfaaDoorProg
set_option linter.all false
namespace Go.Proofs.YtkcacgjbofabfaaDoor.Fa
open Go Go.Eng
set_option linter.unusedVariables false
set_option linter.unusedSimpArgs false
theorem mix : Tryd.prog.follows .mixedOrders = true := by kernel_rfl
theorem pt_26 : ptrish Tryd.prog 26 = true := by kernel_rfl
theorem pt_4 : ptrish Tryd.prog 4 = false := by kernel_rfl
theorem eql_4 {C : KA} {m : Mem} {L : Lst} {x y : Operand} {p q : Bool} : @binA Tryd.prog .eql 4 x y (.bool p) (.bool q) C m L = C.k (.bool (p == q)) m L := ab_of fun C w => b_eql_bool (by kernel_rfl)
theorem pt_3 : ptrish Tryd.prog 3 = false := by kernel_rfl
theorem ia_33 {C : KA} {m : Mem} {L : Lst} {p : Addr} {n c : Nat} {k : IntKind} {i : Int} (hi : 0 ≤ i ∧ i < (n : Int)) : @ixaA Tryd.prog 33 (.slice (some p) n c) (.int k i) C m L = C.k (.pointer (some (p.add (i.toNat * 1)))) m L := ixaA_slice (by kernel_rfl) (by kernel_rfl) hi
theorem sh_2 : shapeOf Tryd.prog 2 = some none := by kernel_rfl
theorem pt_2 : ptrish Tryd.prog 2 = false := by kernel_rfl
theorem pt_9 : ptrish Tryd.prog 9 = false := by kernel_rfl
theorem sl_39 : slInfo Tryd.prog 39 = some (3, 1, 8, [Value.int .i64 0]) := by kernel_rfl
theorem ia_39 {C : KA} {m : Mem} {L : Lst} {p : Addr} {n c : Nat} {k : IntKind} {i : Int} (hi : 0 ≤ i ∧ i < (n : Int)) : @ixaA Tryd.prog 39 (.slice (some p) n c) (.int k i) C m L = C.k (.pointer (some (p.add (i.toNat * 1)))) m L := ixaA_slice (by kernel_rfl) (by kernel_rfl) hi
theorem si_3 : sizeIs Tryd.prog 3 1 = true := by kernel_rfl
theorem sh_3 : shapeOf Tryd.prog 3 = some none := by kernel_rfl
theorem sl_22 : slInfo Tryd.prog 22 = some (41, 2, 32, [Value.int .i64 0, Value.slice none 0 0]) := by kernel_rfl
theorem ia_22 {C : KA} {m : Mem} {L : Lst} {p : Addr} {n c : Nat} {k : IntKind} {i : Int} (hi : 0 ≤ i ∧ i < (n : Int)) : @ixaA Tryd.prog 22 (.slice (some p) n c) (.int k i) C m L = C.k (.pointer (some (p.add (i.toNat * 2)))) m L := ixaA_slice (by kernel_rfl) (by kernel_rfl) hi
theorem sh_41 : shapeOf Tryd.prog 41 = some (some 2) := by kernel_rfl
theorem zo_41 : zeroOf Tryd.prog 41 = some ([.int .i64 0, .slice none 0 0] : List Value) := by kernel_rfl
theorem si_41 : sizeIs Tryd.prog 41 2 = true := by kernel_rfl
theorem fa_41_0 {C : KA} {m : Mem} {L : Lst} {p : Addr} : @fldA Tryd.prog 41 (.pointer (some p)) 0 C m L = C.k (.pointer (some (p.add 0))) m L := fldA_eq (by kernel_rfl)
theorem fa_41_1 {C : KA} {m : Mem} {L : Lst} {p : Addr} : @fldA Tryd.prog 41 (.pointer (some p)) 1 C m L = C.k (.pointer (some (p.add 1))) m L := fldA_eq (by kernel_rfl)
theorem sh_23 : shapeOf Tryd.prog 23 = some none := by kernel_rfl
theorem bd_41_all {C : KA} {m : Mem} {L : Lst} {x0 : Int} {x1 : Option Addr} {x1n x1c : Nat} : @buildA Tryd.prog 41 [(0, Value.int .i64 x0), (1, Value.slice x1 x1n x1c)] C m L = C.k (.agg #[.int .i64 x0, .slice x1 x1n x1c]) m L := buildA_eq (by kernel_rfl)
theorem sl_23 : slInfo Tryd.prog 23 = some (45, 2, 16, [Value.int .i64 0, Value.int .i64 0]) := by kernel_rfl
theorem sh_45 : shapeOf Tryd.prog 45 = some (some 2) := by kernel_rfl
theorem bbs_23_1_all {x0a : Int} {x0b : Int} : builtS Tryd.prog 23 1 [(0, Value.agg #[.int .i64 x0a, .int .i64 x0b])] = some (45, #[.int .i64 x0a, .int .i64 x0b]) := by kernel_rfl
theorem bd_45_1 {C : KA} {m : Mem} {L : Lst} {x0 : Int} : @buildA Tryd.prog 45 [(1, Value.int .i64 x0)] C m L = C.k (.agg #[.int .i64 0, .int .i64 x0]) m L := buildA_eq (by kernel_rfl)
theorem bd_45_0 {C : KA} {m : Mem} {L : Lst} {x0 : Int} : @buildA Tryd.prog 45 [(0, Value.int .i64 x0)] C m L = C.k (.agg #[.int .i64 x0, .int .i64 0]) m L := buildA_eq (by kernel_rfl)
theorem bbs_23_2_all {x0a : Int} {x0b : Int} {x1a : Int} {x1b : Int} : builtS Tryd.prog 23 2 [(0, Value.agg #[.int .i64 x0a, .int .i64 x0b]), (1, Value.agg #[.int .i64 x1a, .int .i64 x1b])] = some (45, #[.int .i64 x0a, .int .i64 x0b, .int .i64 x1a, .int .i64 x1b]) := by kernel_rfl
theorem zo_45 : zeroOf Tryd.prog 45 = some ([.int .i64 0, .int .i64 0] : List Value) := by kernel_rfl
theorem si_45 : sizeIs Tryd.prog 45 2 = true := by kernel_rfl
theorem eqin_56 {a0 : Int} {a1 : Int} {b0 : Int} {b1 : Int} (w : World) : (Op.equalIn 10000 56 (.agg #[.int .i64 a0, .int .i64 a1]) (.agg #[.int .i64 b0, .int .i64 b1])).run Tryd.prog w = .ok (decide (a0 = b0 ∧ a1 = b1)) w := by
  have fo56 : (Tryd.prog).fieldsOf 56 = #[⟨"a", 2, 0, false, "", "swath/iso", 0⟩, ⟨"b", 2, 1, false, "", "swath/iso", 8⟩] := by kernel_rfl
  have fu56 : (Tryd.prog).underlying 56 = some (.struct ((Tryd.prog).fieldsOf 56)) := by kernel_rfl
  have fh56 : (Tryd.prog).stoodInHeld 56 = false := by kernel_rfl
  have ia2 : ∀ w, (isAgg 2).run Tryd.prog w = .ok false w := fun w => shapeOf_one (by kernel_rfl)
  have ub2 : (Tryd.prog).underlying 2 = some (.int .i64) := by kernel_rfl
  simp [run_equalIn_agg, run_equalIn_struct, Op.eqFields, part, run_equalIn_int, run_equalIn_bool', run_equalIn_string, bytes_eq, fu56, fo56, fh56, ia2, ub2]
  by_cases h0 : a0 = b0
  case neg => simp [h0]
  by_cases h1 : a1 = b1
  case neg => simp [h1]
  simp [h0, h1]
theorem zo_50 : zeroOf Tryd.prog 50 = some ([.map none] : List Value) := by kernel_rfl
theorem zo_51 : zeroOf Tryd.prog 51 = some ([.map none] : List Value) := by kernel_rfl
theorem si_50 : sizeIs Tryd.prog 50 1 = true := by kernel_rfl
theorem si_51 : sizeIs Tryd.prog 51 1 = true := by kernel_rfl
theorem zo_52 : zeroOf Tryd.prog 52 = some ([.slice none 0 0] : List Value) := by kernel_rfl
theorem zo_58 : zeroOf Tryd.prog 58 = some ([.nilFunc] : List Value) := by kernel_rfl
theorem si_58 : sizeIs Tryd.prog 58 1 = true := by kernel_rfl
theorem sh_52 : shapeOf Tryd.prog 52 = some none := by kernel_rfl
theorem ia_52 {C : KA} {m : Mem} {L : Lst} {p : Addr} {n c : Nat} {k : IntKind} {i : Int} (hi : 0 ≤ i ∧ i < (n : Int)) : @ixaA Tryd.prog 52 (.slice (some p) n c) (.int k i) C m L = C.k (.pointer (some (p.add (i.toNat * 2)))) m L := ixaA_slice (by kernel_rfl) (by kernel_rfl) hi
theorem sh_56 : shapeOf Tryd.prog 56 = some (some 2) := by kernel_rfl
theorem zo_56 : zeroOf Tryd.prog 56 = some ([.int .i64 0, .int .i64 0] : List Value) := by kernel_rfl
theorem si_56 : sizeIs Tryd.prog 56 2 = true := by kernel_rfl
theorem es_52 : elemSize Tryd.prog 52 = some 2 := by kernel_rfl
theorem si_52 : sizeIs Tryd.prog 52 1 = true := by kernel_rfl
theorem sh_26 : shapeOf Tryd.prog 26 = some none := by kernel_rfl
theorem fa_56_0 {C : KA} {m : Mem} {L : Lst} {p : Addr} : @fldA Tryd.prog 56 (.pointer (some p)) 0 C m L = C.k (.pointer (some (p.add 0))) m L := fldA_eq (by kernel_rfl)
theorem bd_45_all {C : KA} {m : Mem} {L : Lst} {x0 : Int} {x1 : Int} : @buildA Tryd.prog 45 [(0, Value.int .i64 x0), (1, Value.int .i64 x1)] C m L = C.k (.agg #[.int .i64 x0, .int .i64 x1]) m L := buildA_eq (by kernel_rfl)
theorem fa_56_1 {C : KA} {m : Mem} {L : Lst} {p : Addr} : @fldA Tryd.prog 56 (.pointer (some p)) 1 C m L = C.k (.pointer (some (p.add 1))) m L := fldA_eq (by kernel_rfl)
theorem bd_63_0_1 {C : KA} {m : Mem} {L : Lst} {x0 : Option Addr} {x1 : Option Addr} : @buildA Tryd.prog 63 [(0, Value.pointer x0), (1, Value.pointer x1)] C m L = C.k (.agg #[.pointer x0, .pointer x1, .slice none 0 0]) m L := buildA_eq (by kernel_rfl)
theorem ia_23 {C : KA} {m : Mem} {L : Lst} {p : Addr} {n c : Nat} {k : IntKind} {i : Int} (hi : 0 ≤ i ∧ i < (n : Int)) : @ixaA Tryd.prog 23 (.slice (some p) n c) (.int k i) C m L = C.k (.pointer (some (p.add (i.toNat * 2)))) m L := ixaA_slice (by kernel_rfl) (by kernel_rfl) hi
theorem fa_63_2 {C : KA} {m : Mem} {L : Lst} {p : Addr} : @fldA Tryd.prog 63 (.pointer (some p)) 2 C m L = C.k (.pointer (some (p.add 2))) m L := fldA_eq (by kernel_rfl)
theorem sh_61 : shapeOf Tryd.prog 61 = some none := by kernel_rfl
theorem fa_65_0 {C : KA} {m : Mem} {L : Lst} {p : Addr} : @fldA Tryd.prog 65 (.pointer (some p)) 0 C m L = C.k (.pointer (some (p.add 0))) m L := fldA_eq (by kernel_rfl)
theorem sh_22 : shapeOf Tryd.prog 22 = some none := by kernel_rfl
theorem ia_61 {C : KA} {m : Mem} {L : Lst} {p : Addr} {n c : Nat} {k : IntKind} {i : Int} (hi : 0 ≤ i ∧ i < (n : Int)) : @ixaA Tryd.prog 61 (.slice (some p) n c) (.int k i) C m L = C.k (.pointer (some (p.add (i.toNat * 2)))) m L := ixaA_slice (by kernel_rfl) (by kernel_rfl) hi
theorem fa_67_0 {C : KA} {m : Mem} {L : Lst} {p : Addr} : @fldA Tryd.prog 67 (.pointer (some p)) 0 C m L = C.k (.pointer (some (p.add 0))) m L := fldA_eq (by kernel_rfl)
theorem fa_67_1 {C : KA} {m : Mem} {L : Lst} {p : Addr} : @fldA Tryd.prog 67 (.pointer (some p)) 1 C m L = C.k (.pointer (some (p.add 1))) m L := fldA_eq (by kernel_rfl)
theorem zo_33 : zeroOf Tryd.prog 33 = some ([.slice none 0 0] : List Value) := by kernel_rfl
theorem sh_33 : shapeOf Tryd.prog 33 = some none := by kernel_rfl
theorem bbs_33_1_all {x0 : Int} : builtS Tryd.prog 33 1 [(0, Value.int .i64 x0)] = some (2, #[.int .i64 x0]) := by kernel_rfl
theorem sl_33 : slInfo Tryd.prog 33 = some (2, 1, 8, [Value.int .i64 0]) := by kernel_rfl
theorem si_33 : sizeIs Tryd.prog 33 1 = true := by kernel_rfl
theorem zo_9 : zeroOf Tryd.prog 9 = some ([.string ⟨#[]⟩] : List Value) := by kernel_rfl
theorem zo_72 : zeroOf Tryd.prog 72 = some ([.map none] : List Value) := by kernel_rfl
theorem si_72 : sizeIs Tryd.prog 72 1 = true := by kernel_rfl
theorem zo_73 : zeroOf Tryd.prog 73 = some ([.map none] : List Value) := by kernel_rfl
theorem si_73 : sizeIs Tryd.prog 73 1 = true := by kernel_rfl
theorem sh_72 : shapeOf Tryd.prog 72 = some none := by kernel_rfl
theorem sh_73 : shapeOf Tryd.prog 73 = some none := by kernel_rfl
theorem si_9 : sizeIs Tryd.prog 9 1 = true := by kernel_rfl
theorem zo_77 : zeroOf Tryd.prog 77 = some ([.pointer none, .slice none 0 0] : List Value) := by kernel_rfl
theorem bd_79_0 {C : KA} {m : Mem} {L : Lst} {x0 : Option Addr} {x0n x0c : Nat} : @buildA Tryd.prog 79 [(0, Value.slice x0 x0n x0c)] C m L = C.k (.agg #[.slice x0 x0n x0c, .string ⟨#[]⟩, .string ⟨#[]⟩]) m L := buildA_eq (by kernel_rfl)
theorem bbs_80_1_all {x0a : Option Addr} {x0an x0ac : Nat} {x0b : ByteArray} {x0c : ByteArray} : builtS Tryd.prog 80 1 [(0, Value.agg #[.slice x0a x0an x0ac, .string x0b, .string x0c])] = some (79, #[.slice x0a x0an x0ac, .string x0b, .string x0c]) := by kernel_rfl
theorem ia_80 {C : KA} {m : Mem} {L : Lst} {p : Addr} {n c : Nat} {k : IntKind} {i : Int} (hi : 0 ≤ i ∧ i < (n : Int)) : @ixaA Tryd.prog 80 (.slice (some p) n c) (.int k i) C m L = C.k (.pointer (some (p.add (i.toNat * 3)))) m L := ixaA_slice (by kernel_rfl) (by kernel_rfl) hi
theorem fa_79_0 {C : KA} {m : Mem} {L : Lst} {p : Addr} : @fldA Tryd.prog 79 (.pointer (some p)) 0 C m L = C.k (.pointer (some (p.add 0))) m L := fldA_eq (by kernel_rfl)
theorem fa_79_1 {C : KA} {m : Mem} {L : Lst} {p : Addr} : @fldA Tryd.prog 79 (.pointer (some p)) 1 C m L = C.k (.pointer (some (p.add 1))) m L := fldA_eq (by kernel_rfl)
theorem sh_9 : shapeOf Tryd.prog 9 = some none := by kernel_rfl
theorem es_80 : elemSize Tryd.prog 80 = some 3 := by kernel_rfl
theorem es_23 : elemSize Tryd.prog 23 = some 2 := by kernel_rfl
theorem si_23 : sizeIs Tryd.prog 23 1 = true := by kernel_rfl
theorem fa_79_2 {C : KA} {m : Mem} {L : Lst} {p : Addr} : @fldA Tryd.prog 79 (.pointer (some p)) 2 C m L = C.k (.pointer (some (p.add 2))) m L := fldA_eq (by kernel_rfl)
theorem fa_45_1 {C : KA} {m : Mem} {L : Lst} {p : Addr} : @fldA Tryd.prog 45 (.pointer (some p)) 1 C m L = C.k (.pointer (some (p.add 1))) m L := fldA_eq (by kernel_rfl)
theorem fa_45_0 {C : KA} {m : Mem} {L : Lst} {p : Addr} : @fldA Tryd.prog 45 (.pointer (some p)) 0 C m L = C.k (.pointer (some (p.add 0))) m L := fldA_eq (by kernel_rfl)
theorem bd_79_0_1 {C : KA} {m : Mem} {L : Lst} {x0 : Option Addr} {x0n x0c : Nat} {x1 : ByteArray} : @buildA Tryd.prog 79 [(0, Value.slice x0 x0n x0c), (1, Value.string x1)] C m L = C.k (.agg #[.slice x0 x0n x0c, .string x1, .string ⟨#[]⟩]) m L := buildA_eq (by kernel_rfl)
theorem sl_80 : slInfo Tryd.prog 80 = some (79, 3, 56, [Value.slice none 0 0, Value.string ⟨#[]⟩, Value.string ⟨#[]⟩]) := by kernel_rfl
theorem bd_79_all {C : KA} {m : Mem} {L : Lst} {x0 : Option Addr} {x0n x0c : Nat} {x1 : ByteArray} {x2 : ByteArray} : @buildA Tryd.prog 79 [(0, Value.slice x0 x0n x0c), (1, Value.string x1), (2, Value.string x2)] C m L = C.k (.agg #[.slice x0 x0n x0c, .string x1, .string x2]) m L := buildA_eq (by kernel_rfl)
theorem bd_91_0_1 {C : KA} {m : Mem} {L : Lst} {x0 : Option Addr} {x1 : Option Addr} {x1n x1c : Nat} : @buildA Tryd.prog 91 [(0, Value.pointer x0), (1, Value.slice x1 x1n x1c)] C m L = C.k (.agg #[.pointer x0, .slice x1 x1n x1c, .int .i64 0]) m L := buildA_eq (by kernel_rfl)
theorem fa_91_1 {C : KA} {m : Mem} {L : Lst} {p : Addr} : @fldA Tryd.prog 91 (.pointer (some p)) 1 C m L = C.k (.pointer (some (p.add 1))) m L := fldA_eq (by kernel_rfl)
theorem si_2 : sizeIs Tryd.prog 2 1 = true := by kernel_rfl
theorem bd_96_1_3 {C : KA} {m : Mem} {L : Lst} {x0 : Int} {x1 : Int} : @buildA Tryd.prog 96 [(1, Value.int .i64 x0), (3, Value.int .i64 x1)] C m L = C.k (.agg #[.slice none 0 0, .int .i64 x0, .int .i64 0, .int .i64 x1, .int .i64 0, .int .i64 0]) m L := buildA_eq (by kernel_rfl)
theorem bd_45_ {C : KA} {m : Mem} {L : Lst}  : @buildA Tryd.prog 45 [] C m L = C.k (.agg #[.int .i64 0, .int .i64 0]) m L := buildA_eq (by kernel_rfl)
theorem bd_98_all {C : KA} {m : Mem} {L : Lst} {x0 : Option Addr} {x0n x0c : Nat} : @buildA Tryd.prog 98 [(0, Value.slice x0 x0n x0c)] C m L = C.k (.agg #[.slice x0 x0n x0c]) m L := buildA_eq (by kernel_rfl)
theorem zo_98 : zeroOf Tryd.prog 98 = some ([.slice none 0 0] : List Value) := by kernel_rfl
theorem si_98 : sizeIs Tryd.prog 98 1 = true := by kernel_rfl
theorem nf_99 : notIface Tryd.prog 99 = true := by kernel_rfl
theorem sh_98 : shapeOf Tryd.prog 98 = some (some 1) := by kernel_rfl
theorem bd_104_all {C : KA} {m : Mem} {L : Lst} {x0 : Option Addr} {x0n x0c : Nat} {x1 : Int} : @buildA Tryd.prog 104 [(0, Value.agg #[.slice x0 x0n x0c]), (1, Value.int .i64 x1)] C m L = C.k (.agg #[.slice x0 x0n x0c, .int .i64 x1]) m L := buildA_eq (by kernel_rfl)
theorem nf_102 : notIface Tryd.prog 102 = true := by kernel_rfl
theorem fa_96_0 {C : KA} {m : Mem} {L : Lst} {p : Addr} : @fldA Tryd.prog 96 (.pointer (some p)) 0 C m L = C.k (.pointer (some (p.add 0))) m L := fldA_eq (by kernel_rfl)
theorem sh_94 : shapeOf Tryd.prog 94 = some none := by kernel_rfl
theorem bbs_94_1_all {x0 : TypeId} {x0v : Value} : builtS Tryd.prog 94 1 [(0, Value.iface x0 x0v)] = some (101, #[.iface x0 x0v]) := by kernel_rfl
theorem sl_94 : slInfo Tryd.prog 94 = some (101, 1, 16, [Value.nilIface]) := by kernel_rfl
theorem si_94 : sizeIs Tryd.prog 94 1 = true := by kernel_rfl
theorem bd_65_1 {C : KA} {m : Mem} {L : Lst} {x0 : Int} : @buildA Tryd.prog 65 [(1, Value.int .i64 x0)] C m L = C.k (.agg #[.slice none 0 0, .int .i64 x0, .int .i64 0, .int .i64 0, .int .i64 0]) m L := buildA_eq (by kernel_rfl)
theorem neq_4 {C : KA} {m : Mem} {L : Lst} {x y : Operand} {p q : Bool} : @binA Tryd.prog .neq 4 x y (.bool p) (.bool q) C m L = C.k (.bool (p != q)) m L := ab_of fun C w => b_neq_bool (by kernel_rfl)
theorem bd_56_all {C : KA} {m : Mem} {L : Lst} {x0 : Int} {x1 : Int} : @buildA Tryd.prog 56 [(0, Value.int .i64 x0), (1, Value.int .i64 x1)] C m L = C.k (.agg #[.int .i64 x0, .int .i64 x1]) m L := buildA_eq (by kernel_rfl)
theorem sh_51 : shapeOf Tryd.prog 51 = some none := by kernel_rfl
theorem sh_50 : shapeOf Tryd.prog 50 = some none := by kernel_rfl
theorem bbs_52_1_all {x0a : Int} {x0b : Int} : builtS Tryd.prog 52 1 [(0, Value.agg #[.int .i64 x0a, .int .i64 x0b])] = some (56, #[.int .i64 x0a, .int .i64 x0b]) := by kernel_rfl
theorem sl_52 : slInfo Tryd.prog 52 = some (56, 2, 16, [Value.int .i64 0, Value.int .i64 0]) := by kernel_rfl
theorem pt_101 : ptrish Tryd.prog 101 = true := by kernel_rfl
theorem bd_41_ {C : KA} {m : Mem} {L : Lst}  : @buildA Tryd.prog 41 [] C m L = C.k (.agg #[.int .i64 0, .slice none 0 0]) m L := buildA_eq (by kernel_rfl)
theorem z1_102 : zero1 Tryd.prog 102 = some [Value.pointer none] := by kernel_rfl
theorem fa_104_1 {C : KA} {m : Mem} {L : Lst} {p : Addr} : @fldA Tryd.prog 104 (.pointer (some p)) 1 C m L = C.k (.pointer (some (p.add 1))) m L := fldA_eq (by kernel_rfl)
theorem sh_58 : shapeOf Tryd.prog 58 = some none := by kernel_rfl
theorem fa_63_0 {C : KA} {m : Mem} {L : Lst} {p : Addr} : @fldA Tryd.prog 63 (.pointer (some p)) 0 C m L = C.k (.pointer (some (p.add 0))) m L := fldA_eq (by kernel_rfl)
theorem sh_27 : shapeOf Tryd.prog 27 = some none := by kernel_rfl
theorem fa_63_1 {C : KA} {m : Mem} {L : Lst} {p : Addr} : @fldA Tryd.prog 63 (.pointer (some p)) 1 C m L = C.k (.pointer (some (p.add 1))) m L := fldA_eq (by kernel_rfl)
theorem sh_67 : shapeOf Tryd.prog 67 = some (some 2) := by kernel_rfl
theorem zo_67 : zeroOf Tryd.prog 67 = some ([.int .i64 0, .int .i64 0] : List Value) := by kernel_rfl
theorem si_67 : sizeIs Tryd.prog 67 2 = true := by kernel_rfl
theorem bd_67_all {C : KA} {m : Mem} {L : Lst} {x0 : Int} {x1 : Int} : @buildA Tryd.prog 67 [(0, Value.int .i64 x0), (1, Value.int .i64 x1)] C m L = C.k (.agg #[.int .i64 x0, .int .i64 x1]) m L := buildA_eq (by kernel_rfl)
theorem bbs_61_1_all {x0a : Int} {x0b : Int} : builtS Tryd.prog 61 1 [(0, Value.agg #[.int .i64 x0a, .int .i64 x0b])] = some (67, #[.int .i64 x0a, .int .i64 x0b]) := by kernel_rfl
theorem sl_61 : slInfo Tryd.prog 61 = some (67, 2, 16, [Value.int .i64 0, Value.int .i64 0]) := by kernel_rfl
theorem si_61 : sizeIs Tryd.prog 61 1 = true := by kernel_rfl
theorem fa_77_1 {C : KA} {m : Mem} {L : Lst} {p : Addr} : @fldA Tryd.prog 77 (.pointer (some p)) 1 C m L = C.k (.pointer (some (p.add 1))) m L := fldA_eq (by kernel_rfl)
theorem sh_75 : shapeOf Tryd.prog 75 = some none := by kernel_rfl
theorem sl_75 : slInfo Tryd.prog 75 = some (5, 1, 1, [Value.int .u8 0]) := by kernel_rfl
theorem si_75 : sizeIs Tryd.prog 75 1 = true := by kernel_rfl
theorem fa_91_0 {C : KA} {m : Mem} {L : Lst} {p : Addr} : @fldA Tryd.prog 91 (.pointer (some p)) 0 C m L = C.k (.pointer (some (p.add 0))) m L := fldA_eq (by kernel_rfl)
theorem fa_91_2 {C : KA} {m : Mem} {L : Lst} {p : Addr} : @fldA Tryd.prog 91 (.pointer (some p)) 2 C m L = C.k (.pointer (some (p.add 2))) m L := fldA_eq (by kernel_rfl)
theorem fa_96_3 {C : KA} {m : Mem} {L : Lst} {p : Addr} : @fldA Tryd.prog 96 (.pointer (some p)) 3 C m L = C.k (.pointer (some (p.add 3))) m L := fldA_eq (by kernel_rfl)
theorem bbs_22_1_all {x0a : Int} {x0b : Option Addr} {x0bn x0bc : Nat} : builtS Tryd.prog 22 1 [(0, Value.agg #[.int .i64 x0a, .slice x0b x0bn x0bc])] = some (41, #[.int .i64 x0a, .slice x0b x0bn x0bc]) := by kernel_rfl
theorem si_22 : sizeIs Tryd.prog 22 1 = true := by kernel_rfl
theorem ia_94 {C : KA} {m : Mem} {L : Lst} {p : Addr} {n c : Nat} {k : IntKind} {i : Int} (hi : 0 ≤ i ∧ i < (n : Int)) : @ixaA Tryd.prog 94 (.slice (some p) n c) (.int k i) C m L = C.k (.pointer (some (p.add (i.toNat * 1)))) m L := ixaA_slice (by kernel_rfl) (by kernel_rfl) hi
theorem sh_101 : shapeOf Tryd.prog 101 = some none := by kernel_rfl
theorem fa_77_0 {C : KA} {m : Mem} {L : Lst} {p : Addr} : @fldA Tryd.prog 77 (.pointer (some p)) 0 C m L = C.k (.pointer (some (p.add 0))) m L := fldA_eq (by kernel_rfl)
theorem sh_74 : shapeOf Tryd.prog 74 = some none := by kernel_rfl
theorem pt_74 : ptrish Tryd.prog 74 = true := by kernel_rfl
theorem si_74 : sizeIs Tryd.prog 74 1 = true := by kernel_rfl
theorem zo_115 : zeroOf Tryd.prog 115 = some ([.int .u8 0, .int .u8 0, .int .u8 0, .int .u8 0, .int .u8 0, .int .u8 0, .int .u8 0, .int .u8 0, .int .u8 0, .int .u8 0, .int .u8 0, .int .u8 0, .int .u8 0, .int .u8 0, .int .u8 0, .int .u8 0, .int .u8 0, .int .u8 0, .int .u8 0, .int .u8 0, .int .u8 0, .int .u8 0, .int .u8 0, .int .u8 0] : List Value) := by kernel_rfl
theorem cv_2_116 {C : KA} {m : Mem} {L : Lst} {k : IntKind} {x : Int} : @iconvA Tryd.prog 2 116 (.int k x) C m L = C.k (.int .u64 (IntKind.u64.wrap x)) m L := iconvA_int (by kernel_rfl)
theorem pc_2_116 {C : KA} {m : Mem} {L : Lst} {ro : Option Nat} {e : En} {d : Option Nat} {ty : TypeId} {ps : String} {af : Array Edge} {g : Option (Nat × Bool)} {x : Operand} : @topC Tryd.prog ro ⟨d, .convert 2 116 x, ty, ps, af, g⟩ e C m L = iconvA Tryd.prog 2 116 (ev e x) m L := p_iconv (by kernel_rfl)
theorem es_115 : elemSize Tryd.prog 115 = some 1 := by kernel_rfl
theorem ia_115 {C : KA} {m : Mem} {L : Lst} {p : Addr} {k : IntKind} {i : Int} (hi : 0 ≤ i ∧ i < 24) : @ixaA Tryd.prog 115 (.pointer (some p)) (.int k i) C m L = C.k (.pointer (some (p.add (i.toNat * 1)))) m L := ixaA_array (n := 24) (by kernel_rfl) (by kernel_rfl) hi
theorem si_5 : sizeIs Tryd.prog 5 1 = true := by kernel_rfl
theorem ia_123 {C : KA} {m : Mem} {L : Lst} {p : Addr} {k : IntKind} {i : Int} (hi : 0 ≤ i ∧ i < 20) : @ixaA Tryd.prog 123 (.pointer (some p)) (.int k i) C m L = C.k (.pointer (some (p.add (i.toNat * 1)))) m L := ixaA_array (n := 20) (by kernel_rfl) (by kernel_rfl) hi
theorem sh_116 : shapeOf Tryd.prog 116 = some none := by kernel_rfl
theorem cv_116_124 {C : KA} {m : Mem} {L : Lst} {k : IntKind} {x : Int} : @iconvA Tryd.prog 116 124 (.int k x) C m L = C.k (.int .u32 (IntKind.u32.wrap x)) m L := iconvA_int (by kernel_rfl)
theorem pc_116_124 {C : KA} {m : Mem} {L : Lst} {ro : Option Nat} {e : En} {d : Option Nat} {ty : TypeId} {ps : String} {af : Array Edge} {g : Option (Nat × Bool)} {x : Operand} : @topC Tryd.prog ro ⟨d, .convert 116 124 x, ty, ps, af, g⟩ e C m L = iconvA Tryd.prog 116 124 (ev e x) m L := p_iconv (by kernel_rfl)
theorem ix_9 {C : KA} {m : Mem} {L : Lst} {s : ByteArray} {k : IntKind} {i : Int} (hi : 0 ≤ i ∧ i < (s.size : Int)) : @idxA Tryd.prog 9 (.string s) (.int k i) C m L = C.k (.int .u8 (byteAt s i)) m L := idxA_str (by kernel_rfl) hi
theorem ia_75 {C : KA} {m : Mem} {L : Lst} {p : Addr} {n c : Nat} {k : IntKind} {i : Int} (hi : 0 ≤ i ∧ i < (n : Int)) : @ixaA Tryd.prog 75 (.slice (some p) n c) (.int k i) C m L = C.k (.pointer (some (p.add (i.toNat * 1)))) m L := ixaA_slice (by kernel_rfl) (by kernel_rfl) hi
theorem cv_124_5 {C : KA} {m : Mem} {L : Lst} {k : IntKind} {x : Int} : @iconvA Tryd.prog 124 5 (.int k x) C m L = C.k (.int .u8 (IntKind.u8.wrap x)) m L := iconvA_int (by kernel_rfl)
theorem pc_124_5 {C : KA} {m : Mem} {L : Lst} {ro : Option Nat} {e : En} {d : Option Nat} {ty : TypeId} {ps : String} {af : Array Edge} {g : Option (Nat × Bool)} {x : Operand} : @topC Tryd.prog ro ⟨d, .convert 124 5 x, ty, ps, af, g⟩ e C m L = iconvA Tryd.prog 124 5 (ev e x) m L := p_iconv (by kernel_rfl)
theorem nf_9 : notIface Tryd.prog 9 = true := by kernel_rfl
theorem zo_125 : zeroOf Tryd.prog 125 = some (List.replicate 65 (Value.int .u8 0) : List Value) := by kernel_rfl
theorem cv_3_127 {C : KA} {m : Mem} {L : Lst} {k : IntKind} {x : Int} : @iconvA Tryd.prog 3 127 (.int k x) C m L = C.k (.int .u64 (IntKind.u64.wrap x)) m L := iconvA_int (by kernel_rfl)
theorem pc_3_127 {C : KA} {m : Mem} {L : Lst} {ro : Option Nat} {e : En} {d : Option Nat} {ty : TypeId} {ps : String} {af : Array Edge} {g : Option (Nat × Bool)} {x : Operand} : @topC Tryd.prog ro ⟨d, .convert 3 127 x, ty, ps, af, g⟩ e C m L = iconvA Tryd.prog 3 127 (ev e x) m L := p_iconv (by kernel_rfl)
theorem cv_3_116 {C : KA} {m : Mem} {L : Lst} {k : IntKind} {x : Int} : @iconvA Tryd.prog 3 116 (.int k x) C m L = C.k (.int .u64 (IntKind.u64.wrap x)) m L := iconvA_int (by kernel_rfl)
theorem pc_3_116 {C : KA} {m : Mem} {L : Lst} {ro : Option Nat} {e : En} {d : Option Nat} {ty : TypeId} {ps : String} {af : Array Edge} {g : Option (Nat × Bool)} {x : Operand} : @topC Tryd.prog ro ⟨d, .convert 3 116 x, ty, ps, af, g⟩ e C m L = iconvA Tryd.prog 3 116 (ev e x) m L := p_iconv (by kernel_rfl)
theorem ia_125 {C : KA} {m : Mem} {L : Lst} {p : Addr} {k : IntKind} {i : Int} (hi : 0 ≤ i ∧ i < 65) : @ixaA Tryd.prog 125 (.pointer (some p)) (.int k i) C m L = C.k (.pointer (some (p.add (i.toNat * 1)))) m L := ixaA_array (n := 65) (by kernel_rfl) (by kernel_rfl) hi
theorem es_125 : elemSize Tryd.prog 125 = some 1 := by kernel_rfl
theorem cv_116_5 {C : KA} {m : Mem} {L : Lst} {k : IntKind} {x : Int} : @iconvA Tryd.prog 116 5 (.int k x) C m L = C.k (.int .u8 (IntKind.u8.wrap x)) m L := iconvA_int (by kernel_rfl)
theorem pc_116_5 {C : KA} {m : Mem} {L : Lst} {ro : Option Nat} {e : En} {d : Option Nat} {ty : TypeId} {ps : String} {af : Array Edge} {g : Option (Nat × Bool)} {x : Operand} : @topC Tryd.prog ro ⟨d, .convert 116 5 x, ty, ps, af, g⟩ e C m L = iconvA Tryd.prog 116 5 (ev e x) m L := p_iconv (by kernel_rfl)
theorem cv_5_3 {C : KA} {m : Mem} {L : Lst} {k : IntKind} {x : Int} : @iconvA Tryd.prog 5 3 (.int k x) C m L = C.k (.int .i64 (IntKind.i64.wrap x)) m L := iconvA_int (by kernel_rfl)
theorem pc_5_3 {C : KA} {m : Mem} {L : Lst} {ro : Option Nat} {e : En} {d : Option Nat} {ty : TypeId} {ps : String} {af : Array Edge} {g : Option (Nat × Bool)} {x : Operand} : @topC Tryd.prog ro ⟨d, .convert 5 3 x, ty, ps, af, g⟩ e C m L = iconvA Tryd.prog 5 3 (ev e x) m L := p_iconv (by kernel_rfl)
theorem cv_127_124 {C : KA} {m : Mem} {L : Lst} {k : IntKind} {x : Int} : @iconvA Tryd.prog 127 124 (.int k x) C m L = C.k (.int .u32 (IntKind.u32.wrap x)) m L := iconvA_int (by kernel_rfl)
theorem pc_127_124 {C : KA} {m : Mem} {L : Lst} {ro : Option Nat} {e : En} {d : Option Nat} {ty : TypeId} {ps : String} {af : Array Edge} {g : Option (Nat × Bool)} {x : Operand} : @topC Tryd.prog ro ⟨d, .convert 127 124 x, ty, ps, af, g⟩ e C m L = iconvA Tryd.prog 127 124 (ev e x) m L := p_iconv (by kernel_rfl)
theorem pt_124 : ptrish Tryd.prog 124 = false := by kernel_rfl
theorem ia_130 {C : KA} {m : Mem} {L : Lst} {p : Addr} {k : IntKind} {i : Int} (hi : 0 ≤ i ∧ i < 32) : @ixaA Tryd.prog 130 (.pointer (some p)) (.int k i) C m L = C.k (.pointer (some (p.add (i.toNat * 1)))) m L := ixaA_array (n := 32) (by kernel_rfl) (by kernel_rfl) hi
theorem sh_5 : shapeOf Tryd.prog 5 = some none := by kernel_rfl
theorem pt_116 : ptrish Tryd.prog 116 = false := by kernel_rfl
theorem ia_131 {C : KA} {m : Mem} {L : Lst} {p : Addr} {k : IntKind} {i : Int} (hi : 0 ≤ i ∧ i < 64) : @ixaA Tryd.prog 131 (.pointer (some p)) (.int k i) C m L = C.k (.pointer (some (p.add (i.toNat * 1)))) m L := ixaA_array (n := 64) (by kernel_rfl) (by kernel_rfl) hi
theorem fa_98_0 {C : KA} {m : Mem} {L : Lst} {p : Addr} : @fldA Tryd.prog 98 (.pointer (some p)) 0 C m L = C.k (.pointer (some (p.add 0))) m L := fldA_eq (by kernel_rfl)
theorem bd_130_all {C : KA} {m : Mem} {L : Lst} {x0 : Int} {x1 : Int} {x2 : Int} {x3 : Int} {x4 : Int} {x5 : Int} {x6 : Int} {x7 : Int} {x8 : Int} {x9 : Int} {x10 : Int} {x11 : Int} {x12 : Int} {x13 : Int} {x14 : Int} {x15 : Int} {x16 : Int} {x17 : Int} {x18 : Int} {x19 : Int} {x20 : Int} {x21 : Int} {x22 : Int} {x23 : Int} {x24 : Int} {x25 : Int} {x26 : Int} {x27 : Int} {x28 : Int} {x29 : Int} {x30 : Int} {x31 : Int} : @buildA Tryd.prog 130 [(0, Value.int .u8 x0), (1, Value.int .u8 x1), (2, Value.int .u8 x2), (3, Value.int .u8 x3), (4, Value.int .u8 x4), (5, Value.int .u8 x5), (6, Value.int .u8 x6), (7, Value.int .u8 x7), (8, Value.int .u8 x8), (9, Value.int .u8 x9), (10, Value.int .u8 x10), (11, Value.int .u8 x11), (12, Value.int .u8 x12), (13, Value.int .u8 x13), (14, Value.int .u8 x14), (15, Value.int .u8 x15), (16, Value.int .u8 x16), (17, Value.int .u8 x17), (18, Value.int .u8 x18), (19, Value.int .u8 x19), (20, Value.int .u8 x20), (21, Value.int .u8 x21), (22, Value.int .u8 x22), (23, Value.int .u8 x23), (24, Value.int .u8 x24), (25, Value.int .u8 x25), (26, Value.int .u8 x26), (27, Value.int .u8 x27), (28, Value.int .u8 x28), (29, Value.int .u8 x29), (30, Value.int .u8 x30), (31, Value.int .u8 x31)] C m L = C.k (.agg #[.int .u8 x0, .int .u8 x1, .int .u8 x2, .int .u8 x3, .int .u8 x4, .int .u8 x5, .int .u8 x6, .int .u8 x7, .int .u8 x8, .int .u8 x9, .int .u8 x10, .int .u8 x11, .int .u8 x12, .int .u8 x13, .int .u8 x14, .int .u8 x15, .int .u8 x16, .int .u8 x17, .int .u8 x18, .int .u8 x19, .int .u8 x20, .int .u8 x21, .int .u8 x22, .int .u8 x23, .int .u8 x24, .int .u8 x25, .int .u8 x26, .int .u8 x27, .int .u8 x28, .int .u8 x29, .int .u8 x30, .int .u8 x31]) m L := buildA_eq (by kernel_rfl)
theorem si_130 : sizeIs Tryd.prog 130 32 = true := by kernel_rfl
theorem si_131 : sizeIs Tryd.prog 131 64 = true := by kernel_rfl
theorem bd_123_all {C : KA} {m : Mem} {L : Lst} {x0 : Int} {x1 : Int} {x2 : Int} {x3 : Int} {x4 : Int} {x5 : Int} {x6 : Int} {x7 : Int} {x8 : Int} {x9 : Int} {x10 : Int} {x11 : Int} {x12 : Int} {x13 : Int} {x14 : Int} {x15 : Int} {x16 : Int} {x17 : Int} {x18 : Int} {x19 : Int} : @buildA Tryd.prog 123 [(0, Value.int .u64 x0), (1, Value.int .u64 x1), (2, Value.int .u64 x2), (3, Value.int .u64 x3), (4, Value.int .u64 x4), (5, Value.int .u64 x5), (6, Value.int .u64 x6), (7, Value.int .u64 x7), (8, Value.int .u64 x8), (9, Value.int .u64 x9), (10, Value.int .u64 x10), (11, Value.int .u64 x11), (12, Value.int .u64 x12), (13, Value.int .u64 x13), (14, Value.int .u64 x14), (15, Value.int .u64 x15), (16, Value.int .u64 x16), (17, Value.int .u64 x17), (18, Value.int .u64 x18), (19, Value.int .u64 x19)] C m L = C.k (.agg #[.int .u64 x0, .int .u64 x1, .int .u64 x2, .int .u64 x3, .int .u64 x4, .int .u64 x5, .int .u64 x6, .int .u64 x7, .int .u64 x8, .int .u64 x9, .int .u64 x10, .int .u64 x11, .int .u64 x12, .int .u64 x13, .int .u64 x14, .int .u64 x15, .int .u64 x16, .int .u64 x17, .int .u64 x18, .int .u64 x19]) m L := buildA_eq (by kernel_rfl)
theorem si_123 : sizeIs Tryd.prog 123 20 = true := by kernel_rfl
theorem all_pc : type_of% @pc_2_116 ∧ type_of% @pc_116_124 ∧ type_of% @pc_124_5 ∧ type_of% @pc_3_127 ∧ type_of% @pc_3_116 ∧ type_of% @pc_116_5 ∧ type_of% @pc_5_3 ∧ type_of% @pc_127_124 := ⟨@pc_2_116, @pc_116_124, @pc_124_5, @pc_3_127, @pc_3_116, @pc_116_5, @pc_5_3, @pc_127_124⟩
theorem all_fa : type_of% @pt_26 ∧ type_of% @pt_4 ∧ type_of% @eql_4 ∧ type_of% @pt_3 ∧ type_of% @ia_33 ∧ type_of% @sh_2 ∧ type_of% @pt_2 ∧ type_of% @pt_9 ∧ type_of% @ia_39 ∧ type_of% @si_3 ∧ type_of% @sh_3 ∧ type_of% @ia_22 ∧ type_of% @sh_41 ∧ type_of% @zo_41 ∧ type_of% @si_41 ∧ type_of% @fa_41_0 ∧ type_of% @fa_41_1 ∧ type_of% @sh_23 ∧ type_of% @bd_41_all ∧ type_of% @sh_45 ∧ type_of% @bbs_23_1_all ∧ type_of% @bd_45_1 ∧ type_of% @bd_45_0 ∧ type_of% @bbs_23_2_all ∧ type_of% @zo_45 ∧ type_of% @si_45 ∧ type_of% @zo_50 ∧ type_of% @zo_51 ∧ type_of% @si_50 ∧ type_of% @si_51 ∧ type_of% @zo_52 ∧ type_of% @zo_58 ∧ type_of% @si_58 ∧ type_of% @sh_52 ∧ type_of% @ia_52 ∧ type_of% @sh_56 ∧ type_of% @zo_56 ∧ type_of% @si_56 ∧ type_of% @si_52 ∧ type_of% @sh_26 ∧ type_of% @fa_56_0 ∧ type_of% @bd_45_all ∧ type_of% @fa_56_1 ∧ type_of% @bd_63_0_1 ∧ type_of% @ia_23 ∧ type_of% @fa_63_2 ∧ type_of% @sh_61 ∧ type_of% @fa_65_0 ∧ type_of% @sh_22 ∧ type_of% @ia_61 ∧ type_of% @fa_67_0 ∧ type_of% @fa_67_1 ∧ type_of% @zo_33 ∧ type_of% @sh_33 ∧ type_of% @bbs_33_1_all ∧ type_of% @si_33 ∧ type_of% @zo_9 ∧ type_of% @zo_72 ∧ type_of% @si_72 ∧ type_of% @zo_73 ∧ type_of% @si_73 ∧ type_of% @sh_72 ∧ type_of% @sh_73 ∧ type_of% @si_9 ∧ type_of% @zo_77 ∧ type_of% @bd_79_0 ∧ type_of% @bbs_80_1_all ∧ type_of% @ia_80 ∧ type_of% @fa_79_0 ∧ type_of% @fa_79_1 ∧ type_of% @sh_9 ∧ type_of% @si_23 ∧ type_of% @fa_79_2 ∧ type_of% @fa_45_1 ∧ type_of% @fa_45_0 ∧ type_of% @bd_79_0_1 ∧ type_of% @bd_79_all ∧ type_of% @bd_91_0_1 ∧ type_of% @fa_91_1 ∧ type_of% @si_2 ∧ type_of% @bd_96_1_3 ∧ type_of% @bd_45_ ∧ type_of% @bd_98_all ∧ type_of% @zo_98 ∧ type_of% @si_98 ∧ type_of% @nf_99 ∧ type_of% @sh_98 ∧ type_of% @bd_104_all ∧ type_of% @nf_102 ∧ type_of% @fa_96_0 ∧ type_of% @sh_94 ∧ type_of% @bbs_94_1_all ∧ type_of% @si_94 ∧ type_of% @bd_65_1 ∧ type_of% @neq_4 ∧ type_of% @bd_56_all ∧ type_of% @sh_51 ∧ type_of% @sh_50 ∧ type_of% @bbs_52_1_all ∧ type_of% @pt_101 ∧ type_of% @bd_41_ ∧ type_of% @z1_102 ∧ type_of% @fa_104_1 ∧ type_of% @sh_58 ∧ type_of% @fa_63_0 ∧ type_of% @sh_27 ∧ type_of% @fa_63_1 ∧ type_of% @sh_67 ∧ type_of% @zo_67 ∧ type_of% @si_67 ∧ type_of% @bd_67_all ∧ type_of% @bbs_61_1_all ∧ type_of% @si_61 ∧ type_of% @fa_77_1 ∧ type_of% @sh_75 ∧ type_of% @si_75 ∧ type_of% @fa_91_0 ∧ type_of% @fa_91_2 ∧ type_of% @fa_96_3 ∧ type_of% @bbs_22_1_all ∧ type_of% @si_22 ∧ type_of% @ia_94 ∧ type_of% @sh_101 ∧ type_of% @fa_77_0 ∧ type_of% @sh_74 ∧ type_of% @pt_74 ∧ type_of% @si_74 ∧ type_of% @zo_115 ∧ type_of% @cv_2_116 ∧ type_of% @ia_115 ∧ type_of% @si_5 ∧ type_of% @ia_123 ∧ type_of% @sh_116 ∧ type_of% @cv_116_124 ∧ type_of% @ix_9 ∧ type_of% @ia_75 ∧ type_of% @cv_124_5 ∧ type_of% @nf_9 ∧ type_of% @zo_125 ∧ type_of% @cv_3_127 ∧ type_of% @cv_3_116 ∧ type_of% @ia_125 ∧ type_of% @cv_116_5 ∧ type_of% @cv_5_3 ∧ type_of% @cv_127_124 ∧ type_of% @pt_124 ∧ type_of% @ia_130 ∧ type_of% @sh_5 ∧ type_of% @pt_116 ∧ type_of% @ia_131 ∧ type_of% @fa_98_0 ∧ type_of% @bd_130_all ∧ type_of% @si_130 ∧ type_of% @si_131 ∧ type_of% @bd_123_all ∧ type_of% @si_123 := ⟨@pt_26, @pt_4, @eql_4, @pt_3, @ia_33, @sh_2, @pt_2, @pt_9, @ia_39, @si_3, @sh_3, @ia_22, @sh_41, @zo_41, @si_41, @fa_41_0, @fa_41_1, @sh_23, @bd_41_all, @sh_45, @bbs_23_1_all, @bd_45_1, @bd_45_0, @bbs_23_2_all, @zo_45, @si_45, @zo_50, @zo_51, @si_50, @si_51, @zo_52, @zo_58, @si_58, @sh_52, @ia_52, @sh_56, @zo_56, @si_56, @si_52, @sh_26, @fa_56_0, @bd_45_all, @fa_56_1, @bd_63_0_1, @ia_23, @fa_63_2, @sh_61, @fa_65_0, @sh_22, @ia_61, @fa_67_0, @fa_67_1, @zo_33, @sh_33, @bbs_33_1_all, @si_33, @zo_9, @zo_72, @si_72, @zo_73, @si_73, @sh_72, @sh_73, @si_9, @zo_77, @bd_79_0, @bbs_80_1_all, @ia_80, @fa_79_0, @fa_79_1, @sh_9, @si_23, @fa_79_2, @fa_45_1, @fa_45_0, @bd_79_0_1, @bd_79_all, @bd_91_0_1, @fa_91_1, @si_2, @bd_96_1_3, @bd_45_, @bd_98_all, @zo_98, @si_98, @nf_99, @sh_98, @bd_104_all, @nf_102, @fa_96_0, @sh_94, @bbs_94_1_all, @si_94, @bd_65_1, @neq_4, @bd_56_all, @sh_51, @sh_50, @bbs_52_1_all, @pt_101, @bd_41_, @z1_102, @fa_104_1, @sh_58, @fa_63_0, @sh_27, @fa_63_1, @sh_67, @zo_67, @si_67, @bd_67_all, @bbs_61_1_all, @si_61, @fa_77_1, @sh_75, @si_75, @fa_91_0, @fa_91_2, @fa_96_3, @bbs_22_1_all, @si_22, @ia_94, @sh_101, @fa_77_0, @sh_74, @pt_74, @si_74, @zo_115, @cv_2_116, @ia_115, @si_5, @ia_123, @sh_116, @cv_116_124, @ix_9, @ia_75, @cv_124_5, @nf_9, @zo_125, @cv_3_127, @cv_3_116, @ia_125, @cv_116_5, @cv_5_3, @cv_127_124, @pt_124, @ia_130, @sh_5, @pt_116, @ia_131, @fa_98_0, @bd_130_all, @si_130, @si_131, @bd_123_all, @si_123⟩
end Go.Proofs.YtkcacgjbofabfaaDoor.Fa
