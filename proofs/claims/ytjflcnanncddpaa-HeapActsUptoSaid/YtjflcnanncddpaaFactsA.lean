/- Facts on the program's types, each by the kernel; printed by genfacts.py. -/
import Derived.Test.YtjflcnanncddpaaEngSet
import Derived.Test.YtjflcnanncddpaaProg
set_option linter.all false
namespace Go.Proofs.Ytjflcnanncddpaa.Fa
open Go Go.Eng
set_option linter.unusedVariables false
set_option linter.unusedSimpArgs false
theorem mix : Try.prog.follows .mixedOrders = true := by kernel_rfl
theorem pt_24 : ptrish Try.prog 24 = true := by kernel_rfl
theorem ia_22 {C : KA} {m : Mem} {L : Lst} {p : Addr} {n c : Nat} {k : IntKind} {i : Int} (hi : 0 ≤ i ∧ i < (n : Int)) : @ixaA Try.prog 22 (.slice (some p) n c) (.int k i) C m L = C.k (.pointer (some (p.add (i.toNat * 1)))) m L := ixaA_slice (by kernel_rfl) (by kernel_rfl) hi
theorem sh_3 : shapeOf Try.prog 3 = some none := by kernel_rfl
theorem zo_27 : zeroOf Try.prog 27 = some ([.int .i64 0, .int .i64 0] : List Value) := by kernel_rfl
theorem si_27 : sizeIs Try.prog 27 2 = true := by kernel_rfl
theorem pt_3 : ptrish Try.prog 3 = false := by kernel_rfl
theorem fa_27_0 {C : KA} {m : Mem} {L : Lst} {p : Addr} : @fldA Try.prog 27 (.pointer (some p)) 0 C m L = C.k (.pointer (some (p.add 0))) m L := fldA_eq (by kernel_rfl)
theorem sh_27 : shapeOf Try.prog 27 = some (some 2) := by kernel_rfl
theorem bd_27_ {C : KA} {m : Mem} {L : Lst}  : @buildA Try.prog 27 [] C m L = C.k (.agg #[.int .i64 0, .int .i64 0]) m L := buildA_eq (by kernel_rfl)
theorem pt_27 : ptrish Try.prog 27 = false := by kernel_rfl
theorem eqin_27 {a0 : Int} {a1 : Int} {b0 : Int} {b1 : Int} (w : World) : (Op.equalIn 10000 27 (.agg #[.int .i64 a0, .int .i64 a1]) (.agg #[.int .i64 b0, .int .i64 b1])).run Try.prog w = .ok (decide (a0 = b0 ∧ a1 = b1)) w := by
  have fo27 : (Try.prog).fieldsOf 27 = #[⟨"Kind", 3, 0, false, "", "", 0⟩, ⟨"N", 2, 1, false, "", "", 8⟩] := by kernel_rfl
  have fu27 : (Try.prog).underlying 27 = some (.struct ((Try.prog).fieldsOf 27)) := by kernel_rfl
  have fh27 : (Try.prog).stoodInHeld 27 = false := by kernel_rfl
  have ia2 : ∀ w, (isAgg 2).run Try.prog w = .ok false w := fun w => shapeOf_one (by kernel_rfl)
  have ub2 : (Try.prog).underlying 2 = some (.int .i64) := by kernel_rfl
  have ia3 : ∀ w, (isAgg 3).run Try.prog w = .ok false w := fun w => shapeOf_one (by kernel_rfl)
  have ub3 : (Try.prog).underlying 3 = some (.int .i64) := by kernel_rfl
  simp [run_equalIn_agg, run_equalIn_struct, Op.eqFields, part, run_equalIn_int, run_equalIn_bool', run_equalIn_string, bytes_eq, fu27, fo27, fh27, ia2, ub2, ia3, ub3]
  by_cases h0 : a0 = b0
  case neg => simp [h0]
  by_cases h1 : a1 = b1
  case neg => simp [h1]
  simp [h0, h1]
theorem neq_27 {C : KA} {m : Mem} {L : Lst} {x y : Operand} {a0 : Int} {a1 : Int} {b0 : Int} {b1 : Int} : @binA Try.prog .neq 27 x y (.agg #[.int .i64 a0, .int .i64 a1]) (.agg #[.int .i64 b0, .int .i64 b1]) C m L = C.k (.bool (!decide (a0 = b0 ∧ a1 = b1))) m L := ab_of fun C w => b_neq_agg (by kernel_rfl) (eqin_27)
theorem sl_32 : slInfo Try.prog 32 = some (27, 2, 16, [Value.int .i64 0, Value.int .i64 0]) := by kernel_rfl
theorem bd_27_all {C : KA} {m : Mem} {L : Lst} {x0 : Int} {x1 : Int} : @buildA Try.prog 27 [(0, Value.int .i64 x0), (1, Value.int .i64 x1)] C m L = C.k (.agg #[.int .i64 x0, .int .i64 x1]) m L := buildA_eq (by kernel_rfl)
theorem ia_32 {C : KA} {m : Mem} {L : Lst} {p : Addr} {n c : Nat} {k : IntKind} {i : Int} (hi : 0 ≤ i ∧ i < (n : Int)) : @ixaA Try.prog 32 (.slice (some p) n c) (.int k i) C m L = C.k (.pointer (some (p.add (i.toNat * 2)))) m L := ixaA_slice (by kernel_rfl) (by kernel_rfl) hi
theorem zo_35 : zeroOf Try.prog 35 = some ([.int .i64 0, .slice none 0 0] : List Value) := by kernel_rfl
theorem si_35 : sizeIs Try.prog 35 2 = true := by kernel_rfl
theorem fa_35_1 {C : KA} {m : Mem} {L : Lst} {p : Addr} : @fldA Try.prog 35 (.pointer (some p)) 1 C m L = C.k (.pointer (some (p.add 1))) m L := fldA_eq (by kernel_rfl)
theorem sh_32 : shapeOf Try.prog 32 = some none := by kernel_rfl
theorem eql_27 {C : KA} {m : Mem} {L : Lst} {x y : Operand} {a0 : Int} {a1 : Int} {b0 : Int} {b1 : Int} : @binA Try.prog .eql 27 x y (.agg #[.int .i64 a0, .int .i64 a1]) (.agg #[.int .i64 b0, .int .i64 b1]) C m L = C.k (.bool (decide (a0 = b0 ∧ a1 = b1))) m L := ab_of fun C w => b_eql_agg (by kernel_rfl) (eqin_27)
theorem ia_46 {C : KA} {m : Mem} {L : Lst} {p : Addr} {n c : Nat} {k : IntKind} {i : Int} (hi : 0 ≤ i ∧ i < (n : Int)) : @ixaA Try.prog 46 (.slice (some p) n c) (.int k i) C m L = C.k (.pointer (some (p.add (i.toNat * 10)))) m L := ixaA_slice (by kernel_rfl) (by kernel_rfl) hi
theorem sh_51 : shapeOf Try.prog 51 = some (some 10) := by kernel_rfl
theorem zo_51 : zeroOf Try.prog 51 = some ([.int .i64 0, .int .i64 0, .int .i64 0, .int .i64 0, .int .i64 0, .int .i64 0, .int .i64 0, .int .i64 0, .int .i64 0, .slice none 0 0] : List Value) := by kernel_rfl
theorem si_51 : sizeIs Try.prog 51 10 = true := by kernel_rfl
theorem fa_55_2 {C : KA} {m : Mem} {L : Lst} {p : Addr} : @fldA Try.prog 55 (.pointer (some p)) 2 C m L = C.k (.pointer (some (p.add 2))) m L := fldA_eq (by kernel_rfl)
theorem fa_55_0 {C : KA} {m : Mem} {L : Lst} {p : Addr} : @fldA Try.prog 55 (.pointer (some p)) 0 C m L = C.k (.pointer (some (p.add 0))) m L := fldA_eq (by kernel_rfl)
theorem sh_53 : shapeOf Try.prog 53 = some none := by kernel_rfl
theorem pt_4 : ptrish Try.prog 4 = false := by kernel_rfl
theorem neq_4 {C : KA} {m : Mem} {L : Lst} {x y : Operand} {p q : Bool} : @binA Try.prog .neq 4 x y (.bool p) (.bool q) C m L = C.k (.bool (p != q)) m L := ab_of fun C w => b_neq_bool (by kernel_rfl)
theorem sh_35 : shapeOf Try.prog 35 = some (some 2) := by kernel_rfl
theorem ia_53 {C : KA} {m : Mem} {L : Lst} {p : Addr} {n c : Nat} {k : IntKind} {i : Int} (hi : 0 ≤ i ∧ i < (n : Int)) : @ixaA Try.prog 53 (.slice (some p) n c) (.int k i) C m L = C.k (.pointer (some (p.add (i.toNat * 2)))) m L := ixaA_slice (by kernel_rfl) (by kernel_rfl) hi
theorem bd_27_0 {C : KA} {m : Mem} {L : Lst} {x0 : Int} : @buildA Try.prog 27 [(0, Value.int .i64 x0)] C m L = C.k (.agg #[.int .i64 x0, .int .i64 0]) m L := buildA_eq (by kernel_rfl)
theorem bd_61_1_3 {C : KA} {m : Mem} {L : Lst} {x0 : Int} {x1 : Int} : @buildA Try.prog 61 [(1, Value.int .i64 x0), (3, Value.int .i64 x1)] C m L = C.k (.agg #[.slice none 0 0, .int .i64 x0, .int .i64 0, .int .i64 x1, .int .i64 0, .int .i64 0]) m L := buildA_eq (by kernel_rfl)
theorem fa_61_2 {C : KA} {m : Mem} {L : Lst} {p : Addr} : @fldA Try.prog 61 (.pointer (some p)) 2 C m L = C.k (.pointer (some (p.add 2))) m L := fldA_eq (by kernel_rfl)
theorem bd_64_all {C : KA} {m : Mem} {L : Lst} {x0 : Option Addr} {x0n x0c : Nat} : @buildA Try.prog 64 [(0, Value.slice x0 x0n x0c)] C m L = C.k (.agg #[.slice x0 x0n x0c]) m L := buildA_eq (by kernel_rfl)
theorem zo_64 : zeroOf Try.prog 64 = some ([.slice none 0 0] : List Value) := by kernel_rfl
theorem si_64 : sizeIs Try.prog 64 1 = true := by kernel_rfl
theorem nf_65 : notIface Try.prog 65 = true := by kernel_rfl
theorem sh_64 : shapeOf Try.prog 64 = some (some 1) := by kernel_rfl
theorem bd_70_all {C : KA} {m : Mem} {L : Lst} {x0 : Option Addr} {x0n x0c : Nat} {x1 : Int} : @buildA Try.prog 70 [(0, Value.agg #[.slice x0 x0n x0c]), (1, Value.int .i64 x1)] C m L = C.k (.agg #[.slice x0 x0n x0c, .int .i64 x1]) m L := buildA_eq (by kernel_rfl)
theorem nf_68 : notIface Try.prog 68 = true := by kernel_rfl
theorem fa_61_0 {C : KA} {m : Mem} {L : Lst} {p : Addr} : @fldA Try.prog 61 (.pointer (some p)) 0 C m L = C.k (.pointer (some (p.add 0))) m L := fldA_eq (by kernel_rfl)
theorem sh_59 : shapeOf Try.prog 59 = some none := by kernel_rfl
theorem bbs_59_1_all {x0 : TypeId} {x0v : Value} : builtS Try.prog 59 1 [(0, Value.iface x0 x0v)] = some (67, #[.iface x0 x0v]) := by kernel_rfl
theorem sl_59 : slInfo Try.prog 59 = some (67, 1, 16, [Value.nilIface]) := by kernel_rfl
theorem si_59 : sizeIs Try.prog 59 1 = true := by kernel_rfl
theorem pt_67 : ptrish Try.prog 67 = true := by kernel_rfl
theorem bd_35_ {C : KA} {m : Mem} {L : Lst}  : @buildA Try.prog 35 [] C m L = C.k (.agg #[.int .i64 0, .slice none 0 0]) m L := buildA_eq (by kernel_rfl)
theorem bd_35_all {C : KA} {m : Mem} {L : Lst} {x0 : Int} {x1 : Option Addr} {x1n x1c : Nat} : @buildA Try.prog 35 [(0, Value.int .i64 x0), (1, Value.slice x1 x1n x1c)] C m L = C.k (.agg #[.int .i64 x0, .slice x1 x1n x1c]) m L := buildA_eq (by kernel_rfl)
theorem z1_68 : zero1 Try.prog 68 = some [Value.pointer none] := by kernel_rfl
theorem fa_70_1 {C : KA} {m : Mem} {L : Lst} {p : Addr} : @fldA Try.prog 70 (.pointer (some p)) 1 C m L = C.k (.pointer (some (p.add 1))) m L := fldA_eq (by kernel_rfl)
theorem fa_35_0 {C : KA} {m : Mem} {L : Lst} {p : Addr} : @fldA Try.prog 35 (.pointer (some p)) 0 C m L = C.k (.pointer (some (p.add 0))) m L := fldA_eq (by kernel_rfl)
theorem si_3 : sizeIs Try.prog 3 1 = true := by kernel_rfl
theorem fa_27_1 {C : KA} {m : Mem} {L : Lst} {p : Addr} : @fldA Try.prog 27 (.pointer (some p)) 1 C m L = C.k (.pointer (some (p.add 1))) m L := fldA_eq (by kernel_rfl)
theorem sh_2 : shapeOf Try.prog 2 = some none := by kernel_rfl
theorem fa_61_1 {C : KA} {m : Mem} {L : Lst} {p : Addr} : @fldA Try.prog 61 (.pointer (some p)) 1 C m L = C.k (.pointer (some (p.add 1))) m L := fldA_eq (by kernel_rfl)
theorem bd_27_1 {C : KA} {m : Mem} {L : Lst} {x0 : Int} : @buildA Try.prog 27 [(1, Value.int .i64 x0)] C m L = C.k (.agg #[.int .i64 0, .int .i64 x0]) m L := buildA_eq (by kernel_rfl)
theorem fa_51_6 {C : KA} {m : Mem} {L : Lst} {p : Addr} : @fldA Try.prog 51 (.pointer (some p)) 6 C m L = C.k (.pointer (some (p.add 9))) m L := fldA_eq (by kernel_rfl)
theorem fa_51_0 {C : KA} {m : Mem} {L : Lst} {p : Addr} : @fldA Try.prog 51 (.pointer (some p)) 0 C m L = C.k (.pointer (some (p.add 0))) m L := fldA_eq (by kernel_rfl)
theorem fa_51_1 {C : KA} {m : Mem} {L : Lst} {p : Addr} : @fldA Try.prog 51 (.pointer (some p)) 1 C m L = C.k (.pointer (some (p.add 1))) m L := fldA_eq (by kernel_rfl)
theorem bd_55_1 {C : KA} {m : Mem} {L : Lst} {x0 : Int} : @buildA Try.prog 55 [(1, Value.int .i64 x0)] C m L = C.k (.agg #[.slice none 0 0, .int .i64 x0, .int .i64 0, .int .i64 0, .int .i64 0]) m L := buildA_eq (by kernel_rfl)
theorem fa_51_4 {C : KA} {m : Mem} {L : Lst} {p : Addr} : @fldA Try.prog 51 (.pointer (some p)) 4 C m L = C.k (.pointer (some (p.add 7))) m L := fldA_eq (by kernel_rfl)
theorem fa_51_5 {C : KA} {m : Mem} {L : Lst} {p : Addr} : @fldA Try.prog 51 (.pointer (some p)) 5 C m L = C.k (.pointer (some (p.add 8))) m L := fldA_eq (by kernel_rfl)
theorem fa_51_3 {C : KA} {m : Mem} {L : Lst} {p : Addr} : @fldA Try.prog 51 (.pointer (some p)) 3 C m L = C.k (.pointer (some (p.add 5))) m L := fldA_eq (by kernel_rfl)
theorem fa_51_2 {C : KA} {m : Mem} {L : Lst} {p : Addr} : @fldA Try.prog 51 (.pointer (some p)) 2 C m L = C.k (.pointer (some (p.add 3))) m L := fldA_eq (by kernel_rfl)
theorem fa_55_3 {C : KA} {m : Mem} {L : Lst} {p : Addr} : @fldA Try.prog 55 (.pointer (some p)) 3 C m L = C.k (.pointer (some (p.add 3))) m L := fldA_eq (by kernel_rfl)
theorem eql_4 {C : KA} {m : Mem} {L : Lst} {x y : Operand} {p q : Bool} : @binA Try.prog .eql 4 x y (.bool p) (.bool q) C m L = C.k (.bool (p == q)) m L := ab_of fun C w => b_eql_bool (by kernel_rfl)
theorem fa_61_3 {C : KA} {m : Mem} {L : Lst} {p : Addr} : @fldA Try.prog 61 (.pointer (some p)) 3 C m L = C.k (.pointer (some (p.add 3))) m L := fldA_eq (by kernel_rfl)
theorem ia_59 {C : KA} {m : Mem} {L : Lst} {p : Addr} {n c : Nat} {k : IntKind} {i : Int} (hi : 0 ≤ i ∧ i < (n : Int)) : @ixaA Try.prog 59 (.slice (some p) n c) (.int k i) C m L = C.k (.pointer (some (p.add (i.toNat * 1)))) m L := ixaA_slice (by kernel_rfl) (by kernel_rfl) hi
theorem sh_67 : shapeOf Try.prog 67 = some none := by kernel_rfl
theorem fa_70_0 {C : KA} {m : Mem} {L : Lst} {p : Addr} : @fldA Try.prog 70 (.pointer (some p)) 0 C m L = C.k (.pointer (some (p.add 0))) m L := fldA_eq (by kernel_rfl)
theorem fa_64_0 {C : KA} {m : Mem} {L : Lst} {p : Addr} : @fldA Try.prog 64 (.pointer (some p)) 0 C m L = C.k (.pointer (some (p.add 0))) m L := fldA_eq (by kernel_rfl)
theorem z1_65 : zero1 Try.prog 65 = some [Value.pointer none] := by kernel_rfl
theorem fa_55_1 {C : KA} {m : Mem} {L : Lst} {p : Addr} : @fldA Try.prog 55 (.pointer (some p)) 1 C m L = C.k (.pointer (some (p.add 1))) m L := fldA_eq (by kernel_rfl)
theorem fa_61_4 {C : KA} {m : Mem} {L : Lst} {p : Addr} : @fldA Try.prog 61 (.pointer (some p)) 4 C m L = C.k (.pointer (some (p.add 4))) m L := fldA_eq (by kernel_rfl)
theorem es_32 : elemSize Try.prog 32 = some 2 := by kernel_rfl
theorem bbs_53_1_all {x0a : Int} {x0b : Option Addr} {x0bn x0bc : Nat} : builtS Try.prog 53 1 [(0, Value.agg #[.int .i64 x0a, .slice x0b x0bn x0bc])] = some (35, #[.int .i64 x0a, .slice x0b x0bn x0bc]) := by kernel_rfl
theorem sl_53 : slInfo Try.prog 53 = some (35, 2, 32, [Value.int .i64 0, Value.slice none 0 0]) := by kernel_rfl
theorem si_53 : sizeIs Try.prog 53 1 = true := by kernel_rfl
theorem all_pc : True ∧ True := ⟨trivial, trivial⟩
theorem all_fa : type_of% @pt_24 ∧ type_of% @ia_22 ∧ type_of% @sh_3 ∧ type_of% @zo_27 ∧ type_of% @si_27 ∧ type_of% @pt_3 ∧ type_of% @fa_27_0 ∧ type_of% @sh_27 ∧ type_of% @bd_27_ ∧ type_of% @pt_27 ∧ type_of% @neq_27 ∧ type_of% @bd_27_all ∧ type_of% @ia_32 ∧ type_of% @zo_35 ∧ type_of% @si_35 ∧ type_of% @fa_35_1 ∧ type_of% @sh_32 ∧ type_of% @eql_27 ∧ type_of% @ia_46 ∧ type_of% @sh_51 ∧ type_of% @zo_51 ∧ type_of% @si_51 ∧ type_of% @fa_55_2 ∧ type_of% @fa_55_0 ∧ type_of% @sh_53 ∧ type_of% @pt_4 ∧ type_of% @neq_4 ∧ type_of% @sh_35 ∧ type_of% @ia_53 ∧ type_of% @bd_27_0 ∧ type_of% @bd_61_1_3 ∧ type_of% @fa_61_2 ∧ type_of% @bd_64_all ∧ type_of% @zo_64 ∧ type_of% @si_64 ∧ type_of% @nf_65 ∧ type_of% @sh_64 ∧ type_of% @bd_70_all ∧ type_of% @nf_68 ∧ type_of% @fa_61_0 ∧ type_of% @sh_59 ∧ type_of% @bbs_59_1_all ∧ type_of% @si_59 ∧ type_of% @pt_67 ∧ type_of% @bd_35_ ∧ type_of% @bd_35_all ∧ type_of% @z1_68 ∧ type_of% @fa_70_1 ∧ type_of% @fa_35_0 ∧ type_of% @si_3 ∧ type_of% @fa_27_1 ∧ type_of% @sh_2 ∧ type_of% @fa_61_1 ∧ type_of% @bd_27_1 ∧ type_of% @fa_51_6 ∧ type_of% @fa_51_0 ∧ type_of% @fa_51_1 ∧ type_of% @bd_55_1 ∧ type_of% @fa_51_4 ∧ type_of% @fa_51_5 ∧ type_of% @fa_51_3 ∧ type_of% @fa_51_2 ∧ type_of% @fa_55_3 ∧ type_of% @eql_4 ∧ type_of% @fa_61_3 ∧ type_of% @ia_59 ∧ type_of% @sh_67 ∧ type_of% @fa_70_0 ∧ type_of% @fa_64_0 ∧ type_of% @z1_65 ∧ type_of% @fa_55_1 ∧ type_of% @fa_61_4 ∧ type_of% @bbs_53_1_all ∧ type_of% @si_53 := ⟨@pt_24, @ia_22, @sh_3, @zo_27, @si_27, @pt_3, @fa_27_0, @sh_27, @bd_27_, @pt_27, @neq_27, @bd_27_all, @ia_32, @zo_35, @si_35, @fa_35_1, @sh_32, @eql_27, @ia_46, @sh_51, @zo_51, @si_51, @fa_55_2, @fa_55_0, @sh_53, @pt_4, @neq_4, @sh_35, @ia_53, @bd_27_0, @bd_61_1_3, @fa_61_2, @bd_64_all, @zo_64, @si_64, @nf_65, @sh_64, @bd_70_all, @nf_68, @fa_61_0, @sh_59, @bbs_59_1_all, @si_59, @pt_67, @bd_35_, @bd_35_all, @z1_68, @fa_70_1, @fa_35_0, @si_3, @fa_27_1, @sh_2, @fa_61_1, @bd_27_1, @fa_51_6, @fa_51_0, @fa_51_1, @bd_55_1, @fa_51_4, @fa_51_5, @fa_51_3, @fa_51_2, @fa_55_3, @eql_4, @fa_61_3, @ia_59, @sh_67, @fa_70_0, @fa_64_0, @z1_65, @fa_55_1, @fa_61_4, @bbs_53_1_all, @si_53⟩
end Go.Proofs.Ytjflcnanncddpaa.Fa
