/- Facts on the program's types, each by the kernel; printed by genfacts.py. -/
import Derived.Test.YtgeifpoaemkadaaEngSet
import Derived.Test.YtgeifpoaemkadaaProg
set_option linter.all false
namespace Go.Proofs.Ytgeifpoaemkadaa.Fa
open Go Go.Eng
set_option linter.unusedVariables false
set_option linter.unusedSimpArgs false
theorem mix : Try.prog.follows .mixedOrders = true := by kernel_rfl
theorem pt_3 : ptrish Try.prog 3 = false := by kernel_rfl
theorem pt_24 : ptrish Try.prog 24 = false := by kernel_rfl
theorem pt_4 : ptrish Try.prog 4 = false := by kernel_rfl
theorem eql_4 {C : KA} {m : Mem} {L : Lst} {x y : Operand} {p q : Bool} : @binA Try.prog .eql 4 x y (.bool p) (.bool q) C m L = C.k (.bool (p == q)) m L := ab_of fun C w => b_eql_bool (by kernel_rfl)
theorem pt_2 : ptrish Try.prog 2 = false := by kernel_rfl
theorem ia_23 {C : KA} {m : Mem} {L : Lst} {p : Addr} {n c : Nat} {k : IntKind} {i : Int} (hi : 0 ≤ i ∧ i < (n : Int)) : @ixaA Try.prog 23 (.slice (some p) n c) (.int k i) C m L = C.k (.pointer (some (p.add (i.toNat * 5)))) m L := ixaA_slice (by kernel_rfl) (by kernel_rfl) hi
theorem sh_37 : shapeOf Try.prog 37 = some (some 5) := by kernel_rfl
theorem zo_37 : zeroOf Try.prog 37 = some ([.int .i64 0, .string ⟨#[]⟩, .int .i64 0, .int .i64 0, .int .i64 0] : List Value) := by kernel_rfl
theorem si_37 : sizeIs Try.prog 37 5 = true := by kernel_rfl
theorem fa_37_2 {C : KA} {m : Mem} {L : Lst} {p : Addr} : @fldA Try.prog 37 (.pointer (some p)) 2 C m L = C.k (.pointer (some (p.add 2))) m L := fldA_eq (by kernel_rfl)
theorem sh_3 : shapeOf Try.prog 3 = some none := by kernel_rfl
theorem fa_37_3 {C : KA} {m : Mem} {L : Lst} {p : Addr} : @fldA Try.prog 37 (.pointer (some p)) 3 C m L = C.k (.pointer (some (p.add 3))) m L := fldA_eq (by kernel_rfl)
theorem fa_37_1 {C : KA} {m : Mem} {L : Lst} {p : Addr} : @fldA Try.prog 37 (.pointer (some p)) 1 C m L = C.k (.pointer (some (p.add 1))) m L := fldA_eq (by kernel_rfl)
theorem sh_9 : shapeOf Try.prog 9 = some none := by kernel_rfl
theorem pt_9 : ptrish Try.prog 9 = false := by kernel_rfl
theorem fa_37_0 {C : KA} {m : Mem} {L : Lst} {p : Addr} : @fldA Try.prog 37 (.pointer (some p)) 0 C m L = C.k (.pointer (some (p.add 0))) m L := fldA_eq (by kernel_rfl)
theorem neq_4 {C : KA} {m : Mem} {L : Lst} {x y : Operand} {p q : Bool} : @binA Try.prog .neq 4 x y (.bool p) (.bool q) C m L = C.k (.bool (p != q)) m L := ab_of fun C w => b_neq_bool (by kernel_rfl)
theorem pt_5 : ptrish Try.prog 5 = false := by kernel_rfl
theorem bbs_38_1_all {x0 : Int} : builtS Try.prog 38 1 [(0, Value.int .u8 x0)] = some (5, #[.int .u8 x0]) := by kernel_rfl
theorem si_3 : sizeIs Try.prog 3 1 = true := by kernel_rfl
theorem pt_37 : ptrish Try.prog 37 = false := by kernel_rfl
theorem eqin_37 {a0 : Int} {a1 : ByteArray} {a2 : Int} {a3 : Int} {a4 : Int} {b0 : Int} {b1 : ByteArray} {b2 : Int} {b3 : Int} {b4 : Int} (w : World) : (Op.equalIn 10000 37 (.agg #[.int .i64 a0, .string a1, .int .i64 a2, .int .i64 a3, .int .i64 a4]) (.agg #[.int .i64 b0, .string b1, .int .i64 b2, .int .i64 b3, .int .i64 b4])).run Try.prog w = .ok (decide (a0 = b0 ∧ a1 = b1 ∧ a2 = b2 ∧ a3 = b3 ∧ a4 = b4)) w := by
  have fo37 : (Try.prog).fieldsOf 37 = #[⟨"Kind", 3, 0, false, "", "", 0⟩, ⟨"Text", 9, 1, false, "", "", 8⟩, ⟨"From", 3, 2, false, "", "", 24⟩, ⟨"To", 3, 3, false, "", "", 32⟩, ⟨"N", 2, 4, false, "", "", 40⟩] := by kernel_rfl
  have fu37 : (Try.prog).underlying 37 = some (.struct ((Try.prog).fieldsOf 37)) := by kernel_rfl
  have fh37 : (Try.prog).stoodInHeld 37 = false := by kernel_rfl
  have ia2 : ∀ w, (isAgg 2).run Try.prog w = .ok false w := fun w => shapeOf_one (by kernel_rfl)
  have ub2 : (Try.prog).underlying 2 = some (.int .i64) := by kernel_rfl
  have ia3 : ∀ w, (isAgg 3).run Try.prog w = .ok false w := fun w => shapeOf_one (by kernel_rfl)
  have ub3 : (Try.prog).underlying 3 = some (.int .i64) := by kernel_rfl
  have ia9 : ∀ w, (isAgg 9).run Try.prog w = .ok false w := fun w => shapeOf_one (by kernel_rfl)
  have ub9 : (Try.prog).underlying 9 = some (.string) := by kernel_rfl
  simp [run_equalIn_agg, run_equalIn_struct, Op.eqFields, part, run_equalIn_int, run_equalIn_bool', run_equalIn_string, bytes_eq, fu37, fo37, fh37, ia2, ub2, ia3, ub3, ia9, ub9]
  by_cases h0 : a0 = b0
  case neg => simp [h0]
  by_cases h1 : a1 = b1
  case neg => simp [h1]
  by_cases h2 : a2 = b2
  case neg => simp [h2]
  by_cases h3 : a3 = b3
  case neg => simp [h3]
  by_cases h4 : a4 = b4
  case neg => simp [h4]
  simp [h0, h1, h2, h3, h4]
theorem neq_37 {C : KA} {m : Mem} {L : Lst} {x y : Operand} {a0 : Int} {a1 : ByteArray} {a2 : Int} {a3 : Int} {a4 : Int} {b0 : Int} {b1 : ByteArray} {b2 : Int} {b3 : Int} {b4 : Int} : @binA Try.prog .neq 37 x y (.agg #[.int .i64 a0, .string a1, .int .i64 a2, .int .i64 a3, .int .i64 a4]) (.agg #[.int .i64 b0, .string b1, .int .i64 b2, .int .i64 b3, .int .i64 b4]) C m L = C.k (.bool (!decide (a0 = b0 ∧ a1 = b1 ∧ a2 = b2 ∧ a3 = b3 ∧ a4 = b4))) m L := ab_of fun C w => b_neq_agg (by kernel_rfl) (eqin_37)
theorem pt_41 : ptrish Try.prog 41 = false := by kernel_rfl
theorem zo_23 : zeroOf Try.prog 23 = some ([.slice none 0 0] : List Value) := by kernel_rfl
theorem sh_23 : shapeOf Try.prog 23 = some none := by kernel_rfl
theorem bbs_23_1_all {x0a : Int} {x0b : ByteArray} {x0c : Int} {x0d : Int} {x0e : Int} : builtS Try.prog 23 1 [(0, Value.agg #[.int .i64 x0a, .string x0b, .int .i64 x0c, .int .i64 x0d, .int .i64 x0e])] = some (37, #[.int .i64 x0a, .string x0b, .int .i64 x0c, .int .i64 x0d, .int .i64 x0e]) := by kernel_rfl
theorem sl_23 : slInfo Try.prog 23 = some (37, 5, 48, [Value.int .i64 0, Value.string ⟨#[]⟩, Value.int .i64 0, Value.int .i64 0, Value.int .i64 0]) := by kernel_rfl
theorem si_23 : sizeIs Try.prog 23 1 = true := by kernel_rfl
theorem fa_37_4 {C : KA} {m : Mem} {L : Lst} {p : Addr} : @fldA Try.prog 37 (.pointer (some p)) 4 C m L = C.k (.pointer (some (p.add 4))) m L := fldA_eq (by kernel_rfl)
theorem sh_2 : shapeOf Try.prog 2 = some none := by kernel_rfl
theorem bd_37_2_3 {C : KA} {m : Mem} {L : Lst} {x0 : Int} {x1 : Int} : @buildA Try.prog 37 [(2, Value.int .i64 x0), (3, Value.int .i64 x1)] C m L = C.k (.agg #[.int .i64 0, .string ⟨#[]⟩, .int .i64 x0, .int .i64 x1, .int .i64 0]) m L := buildA_eq (by kernel_rfl)
theorem ix_9 {C : KA} {m : Mem} {L : Lst} {s : ByteArray} {k : IntKind} {i : Int} (hi : 0 ≤ i ∧ i < (s.size : Int)) : @idxA Try.prog 9 (.string s) (.int k i) C m L = C.k (.int .u8 (byteAt s i)) m L := idxA_str (by kernel_rfl) hi
theorem si_2 : sizeIs Try.prog 2 1 = true := by kernel_rfl
theorem si_9 : sizeIs Try.prog 9 1 = true := by kernel_rfl
theorem cv_5_2 {C : KA} {m : Mem} {L : Lst} {k : IntKind} {x : Int} : @iconvA Try.prog 5 2 (.int k x) C m L = C.k (.int .i64 (IntKind.i64.wrap x)) m L := iconvA_int (by kernel_rfl)
theorem pc_5_2 {C : KA} {m : Mem} {L : Lst} {ro : Option Nat} {e : En} {d : Option Nat} {ty : TypeId} {ps : String} {af : Array Edge} {g : Option (Nat × Bool)} {x : Operand} : @topC Try.prog ro ⟨d, .convert 5 2 x, ty, ps, af, g⟩ e C m L = iconvA Try.prog 5 2 (ev e x) m L := p_iconv (by kernel_rfl)
theorem cv_53_2 {C : KA} {m : Mem} {L : Lst} {k : IntKind} {x : Int} : @iconvA Try.prog 53 2 (.int k x) C m L = C.k (.int .i64 (IntKind.i64.wrap x)) m L := iconvA_int (by kernel_rfl)
theorem pc_53_2 {C : KA} {m : Mem} {L : Lst} {ro : Option Nat} {e : En} {d : Option Nat} {ty : TypeId} {ps : String} {af : Array Edge} {g : Option (Nat × Bool)} {x : Operand} : @topC Try.prog ro ⟨d, .convert 53 2 x, ty, ps, af, g⟩ e C m L = iconvA Try.prog 53 2 (ev e x) m L := p_iconv (by kernel_rfl)
theorem zo_3 : zeroOf Try.prog 3 = some ([.int .i64 0] : List Value) := by kernel_rfl
theorem es_23 : elemSize Try.prog 23 = some 5 := by kernel_rfl
theorem zo_45 : zeroOf Try.prog 45 = some (List.replicate 256 (Value.int .i64 0) : List Value) := by kernel_rfl
theorem ia_45 {C : KA} {m : Mem} {L : Lst} {p : Addr} {k : IntKind} {i : Int} (hi : 0 ≤ i ∧ i < 256) : @ixaA Try.prog 45 (.pointer (some p)) (.int k i) C m L = C.k (.pointer (some (p.add (i.toNat * 1)))) m L := ixaA_array (n := 256) (by kernel_rfl) (by kernel_rfl) hi
theorem sh_45 : shapeOf Try.prog 45 = some (some 256) := by kernel_rfl
theorem si_45 : sizeIs Try.prog 45 256 = true := by kernel_rfl
theorem fa_48_1 {C : KA} {m : Mem} {L : Lst} {p : Addr} : @fldA Try.prog 48 (.pointer (some p)) 1 C m L = C.k (.pointer (some (p.add 1))) m L := fldA_eq (by kernel_rfl)
theorem fa_48_0 {C : KA} {m : Mem} {L : Lst} {p : Addr} : @fldA Try.prog 48 (.pointer (some p)) 0 C m L = C.k (.pointer (some (p.add 0))) m L := fldA_eq (by kernel_rfl)
theorem bbs_65_19_all {x0 : ByteArray} {x1 : ByteArray} {x2 : ByteArray} {x3 : ByteArray} {x4 : ByteArray} {x5 : ByteArray} {x6 : ByteArray} {x7 : ByteArray} {x8 : ByteArray} {x9 : ByteArray} {x10 : ByteArray} {x11 : ByteArray} {x12 : ByteArray} {x13 : ByteArray} {x14 : ByteArray} {x15 : ByteArray} {x16 : ByteArray} {x17 : ByteArray} {x18 : ByteArray} : builtS Try.prog 65 19 [(0, Value.string x0), (1, Value.string x1), (2, Value.string x2), (3, Value.string x3), (4, Value.string x4), (5, Value.string x5), (6, Value.string x6), (7, Value.string x7), (8, Value.string x8), (9, Value.string x9), (10, Value.string x10), (11, Value.string x11), (12, Value.string x12), (13, Value.string x13), (14, Value.string x14), (15, Value.string x15), (16, Value.string x16), (17, Value.string x17), (18, Value.string x18)] = some (9, #[.string x0, .string x1, .string x2, .string x3, .string x4, .string x5, .string x6, .string x7, .string x8, .string x9, .string x10, .string x11, .string x12, .string x13, .string x14, .string x15, .string x16, .string x17, .string x18]) := by kernel_rfl
theorem ia_65 {C : KA} {m : Mem} {L : Lst} {p : Addr} {n c : Nat} {k : IntKind} {i : Int} (hi : 0 ≤ i ∧ i < (n : Int)) : @ixaA Try.prog 65 (.slice (some p) n c) (.int k i) C m L = C.k (.pointer (some (p.add (i.toNat * 1)))) m L := ixaA_slice (by kernel_rfl) (by kernel_rfl) hi
theorem bbs_65_5_all {x0 : ByteArray} {x1 : ByteArray} {x2 : ByteArray} {x3 : ByteArray} {x4 : ByteArray} : builtS Try.prog 65 5 [(0, Value.string x0), (1, Value.string x1), (2, Value.string x2), (3, Value.string x3), (4, Value.string x4)] = some (9, #[.string x0, .string x1, .string x2, .string x3, .string x4]) := by kernel_rfl
theorem bbs_38_21_all {x0 : Int} {x1 : Int} {x2 : Int} {x3 : Int} {x4 : Int} {x5 : Int} {x6 : Int} {x7 : Int} {x8 : Int} {x9 : Int} {x10 : Int} {x11 : Int} {x12 : Int} {x13 : Int} {x14 : Int} {x15 : Int} {x16 : Int} {x17 : Int} {x18 : Int} {x19 : Int} {x20 : Int} : builtS Try.prog 38 21 [(0, Value.int .u8 x0), (1, Value.int .u8 x1), (2, Value.int .u8 x2), (3, Value.int .u8 x3), (4, Value.int .u8 x4), (5, Value.int .u8 x5), (6, Value.int .u8 x6), (7, Value.int .u8 x7), (8, Value.int .u8 x8), (9, Value.int .u8 x9), (10, Value.int .u8 x10), (11, Value.int .u8 x11), (12, Value.int .u8 x12), (13, Value.int .u8 x13), (14, Value.int .u8 x14), (15, Value.int .u8 x15), (16, Value.int .u8 x16), (17, Value.int .u8 x17), (18, Value.int .u8 x18), (19, Value.int .u8 x19), (20, Value.int .u8 x20)] = some (5, #[.int .u8 x0, .int .u8 x1, .int .u8 x2, .int .u8 x3, .int .u8 x4, .int .u8 x5, .int .u8 x6, .int .u8 x7, .int .u8 x8, .int .u8 x9, .int .u8 x10, .int .u8 x11, .int .u8 x12, .int .u8 x13, .int .u8 x14, .int .u8 x15, .int .u8 x16, .int .u8 x17, .int .u8 x18, .int .u8 x19, .int .u8 x20]) := by kernel_rfl
theorem ia_38 {C : KA} {m : Mem} {L : Lst} {p : Addr} {n c : Nat} {k : IntKind} {i : Int} (hi : 0 ≤ i ∧ i < (n : Int)) : @ixaA Try.prog 38 (.slice (some p) n c) (.int k i) C m L = C.k (.pointer (some (p.add (i.toNat * 1)))) m L := ixaA_slice (by kernel_rfl) (by kernel_rfl) hi
theorem sh_5 : shapeOf Try.prog 5 = some none := by kernel_rfl
theorem cv_5_53 {C : KA} {m : Mem} {L : Lst} {k : IntKind} {x : Int} : @iconvA Try.prog 5 53 (.int k x) C m L = C.k (.int .u64 (IntKind.u64.wrap x)) m L := iconvA_int (by kernel_rfl)
theorem pc_5_53 {C : KA} {m : Mem} {L : Lst} {ro : Option Nat} {e : En} {d : Option Nat} {ty : TypeId} {ps : String} {af : Array Edge} {g : Option (Nat × Bool)} {x : Operand} : @topC Try.prog ro ⟨d, .convert 5 53 x, ty, ps, af, g⟩ e C m L = iconvA Try.prog 5 53 (ev e x) m L := p_iconv (by kernel_rfl)
theorem fa_48_2 {C : KA} {m : Mem} {L : Lst} {p : Addr} : @fldA Try.prog 48 (.pointer (some p)) 2 C m L = C.k (.pointer (some (p.add 2))) m L := fldA_eq (by kernel_rfl)
theorem ix_67 {C : KA} {m : Mem} {L : Lst} {cs : Array Value} {k : IntKind} {i : Int} (hi : 0 ≤ i ∧ i < 19) : @idxA Try.prog 67 (.agg cs) (.int k i) C m L = cellCA (cs[i.toNat]?) m L := idxA_arr1 (n := 19) (E := 9) (by kernel_rfl) (by kernel_rfl) (by kernel_rfl) hi
theorem zo_67 : zeroOf Try.prog 67 = some ([.string ⟨#[]⟩, .string ⟨#[]⟩, .string ⟨#[]⟩, .string ⟨#[]⟩, .string ⟨#[]⟩, .string ⟨#[]⟩, .string ⟨#[]⟩, .string ⟨#[]⟩, .string ⟨#[]⟩, .string ⟨#[]⟩, .string ⟨#[]⟩, .string ⟨#[]⟩, .string ⟨#[]⟩, .string ⟨#[]⟩, .string ⟨#[]⟩, .string ⟨#[]⟩, .string ⟨#[]⟩, .string ⟨#[]⟩, .string ⟨#[]⟩] : List Value) := by kernel_rfl
theorem bd_67_all {C : KA} {m : Mem} {L : Lst} {x0 : ByteArray} {x1 : ByteArray} {x2 : ByteArray} {x3 : ByteArray} {x4 : ByteArray} {x5 : ByteArray} {x6 : ByteArray} {x7 : ByteArray} {x8 : ByteArray} {x9 : ByteArray} {x10 : ByteArray} {x11 : ByteArray} {x12 : ByteArray} {x13 : ByteArray} {x14 : ByteArray} {x15 : ByteArray} {x16 : ByteArray} {x17 : ByteArray} {x18 : ByteArray} : @buildA Try.prog 67 [(0, Value.string x0), (1, Value.string x1), (2, Value.string x2), (3, Value.string x3), (4, Value.string x4), (5, Value.string x5), (6, Value.string x6), (7, Value.string x7), (8, Value.string x8), (9, Value.string x9), (10, Value.string x10), (11, Value.string x11), (12, Value.string x12), (13, Value.string x13), (14, Value.string x14), (15, Value.string x15), (16, Value.string x16), (17, Value.string x17), (18, Value.string x18)] C m L = C.k (.agg #[.string x0, .string x1, .string x2, .string x3, .string x4, .string x5, .string x6, .string x7, .string x8, .string x9, .string x10, .string x11, .string x12, .string x13, .string x14, .string x15, .string x16, .string x17, .string x18]) m L := buildA_eq (by kernel_rfl)
theorem si_67 : sizeIs Try.prog 67 19 = true := by kernel_rfl
theorem sh_67 : shapeOf Try.prog 67 = some (some 19) := by kernel_rfl
theorem all_pc : type_of% @pc_5_2 ∧ type_of% @pc_53_2 ∧ type_of% @pc_5_53 := ⟨@pc_5_2, @pc_53_2, @pc_5_53⟩
theorem all_fa : type_of% @pt_3 ∧ type_of% @pt_24 ∧ type_of% @pt_4 ∧ type_of% @eql_4 ∧ type_of% @pt_2 ∧ type_of% @ia_23 ∧ type_of% @sh_37 ∧ type_of% @zo_37 ∧ type_of% @si_37 ∧ type_of% @fa_37_2 ∧ type_of% @sh_3 ∧ type_of% @fa_37_3 ∧ type_of% @fa_37_1 ∧ type_of% @sh_9 ∧ type_of% @pt_9 ∧ type_of% @fa_37_0 ∧ type_of% @neq_4 ∧ type_of% @pt_5 ∧ type_of% @bbs_38_1_all ∧ type_of% @si_3 ∧ type_of% @pt_37 ∧ type_of% @neq_37 ∧ type_of% @pt_41 ∧ type_of% @zo_23 ∧ type_of% @sh_23 ∧ type_of% @bbs_23_1_all ∧ type_of% @si_23 ∧ type_of% @fa_37_4 ∧ type_of% @sh_2 ∧ type_of% @bd_37_2_3 ∧ type_of% @ix_9 ∧ type_of% @si_2 ∧ type_of% @si_9 ∧ type_of% @cv_5_2 ∧ type_of% @cv_53_2 ∧ type_of% @zo_3 ∧ type_of% @zo_45 ∧ type_of% @ia_45 ∧ type_of% @sh_45 ∧ type_of% @si_45 ∧ type_of% @fa_48_1 ∧ type_of% @fa_48_0 ∧ type_of% @bbs_65_19_all ∧ type_of% @ia_65 ∧ type_of% @bbs_65_5_all ∧ type_of% @bbs_38_21_all ∧ type_of% @ia_38 ∧ type_of% @sh_5 ∧ type_of% @cv_5_53 ∧ type_of% @fa_48_2 ∧ type_of% @ix_67 ∧ type_of% @zo_67 ∧ type_of% @bd_67_all ∧ type_of% @si_67 ∧ type_of% @sh_67 := ⟨@pt_3, @pt_24, @pt_4, @eql_4, @pt_2, @ia_23, @sh_37, @zo_37, @si_37, @fa_37_2, @sh_3, @fa_37_3, @fa_37_1, @sh_9, @pt_9, @fa_37_0, @neq_4, @pt_5, @bbs_38_1_all, @si_3, @pt_37, @neq_37, @pt_41, @zo_23, @sh_23, @bbs_23_1_all, @si_23, @fa_37_4, @sh_2, @bd_37_2_3, @ix_9, @si_2, @si_9, @cv_5_2, @cv_53_2, @zo_3, @zo_45, @ia_45, @sh_45, @si_45, @fa_48_1, @fa_48_0, @bbs_65_19_all, @ia_65, @bbs_65_5_all, @bbs_38_21_all, @ia_38, @sh_5, @cv_5_53, @fa_48_2, @ix_67, @zo_67, @bd_67_all, @si_67, @sh_67⟩
end Go.Proofs.Ytgeifpoaemkadaa.Fa
