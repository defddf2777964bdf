/- Facts on the program's types, each by the kernel; printed by genfacts.py. -/
import Derived.Test.YthfbfigdgjhhaaaEngSet
import Derived.Test.YthfbfigdgjhhaaaProg
set_option linter.all false
namespace Go.Eng
open Go Go.RowKit
def eqElems (d : Nat) (E : TypeId) (n : Nat) (xs ys : Array Value) : List Nat → Sem Bool
  | [] => pure true
  | i :: l => do
    if !(← Op.equalIn d E (← part E xs (i * n)) (← part E ys (i * n))) then pure false else eqElems d E n xs ys l
theorem run_eqArr {P : Program} (w : World) (d : Nat) (t : TypeId) (xs ys : Array Value) {len n : Nat} {E : TypeId} (ht : P.underlying t = some (.array len E)) (hn : ∀ w, (sizeOf E).run P w = .ok n w) :
    (Op.equalIn (d + 1) t (.agg xs) (.agg ys)).run P w = (eqElems d E n xs ys (List.range len)).run P w := by
  simp only [Op.equalIn, Sem.run_bind, run_underlying ht, Result.andThen_ok, hn]
  rw [Std.Legacy.Range.forIn_eq_forIn_range', List.range_eq_range']
  simp only [Std.Legacy.Range.size, Nat.sub_zero, Nat.add_sub_cancel, Nat.div_one]
  generalize List.range' 0 len 1 = l
  induction l generalizing w with
  | nil => simp [eqElems]
  | cons i l ih =>
    simp only [List.forIn_cons, eqElems, Sem.run_bind, Sem.run_ite]
    generalize (part E xs (i * n)).run P w = r1
    cases r1 with
    | ok a w1 =>
      simp only [Result.andThen_ok]
      generalize (part E ys (i * n)).run P w1 = r2
      cases r2 with
      | ok b w2 =>
        simp only [Result.andThen_ok]
        generalize (Op.equalIn d E a b).run P w2 = r3
        cases r3 with
        | ok r w3 =>
          cases r
          · simp only [Result.andThen_ok, Bool.not_false, if_true, Sem.run_pure]
          · simp only [Result.andThen_ok, Bool.not_true, Bool.false_eq_true, if_false, Sem.run_pure]
            exact ih w3
        | halt x w3 => simp [Result.andThen]
      | halt x w2 => simp [Result.andThen]
    | halt x w1 => simp [Result.andThen]
theorem size_one {P : Program} {E : TypeId} {n : Nat} (h : (P.info? E).map (·.size) = some n) {w : World} : (sizeOf E).run P w = .ok n w := by
  obtain ⟨i, hi, rfl⟩ := Option.map_eq_some_iff.1 h
  simp [sizeOf, typeInfo, hi]
end Go.Eng
namespace Go.Proofs.Ythfbfigdgjhhaaa.Fa
open Go Go.Eng
set_option linter.unusedVariables false
set_option linter.unusedSimpArgs false
theorem mix : Try.prog.follows .mixedOrders = true := by kernel_rfl
theorem pt_4 : ptrish Try.prog 4 = false := by kernel_rfl
theorem eql_4 {C : KA} {m : Mem} {L : Lst} {x y : Operand} {p q : Bool} : @binA Try.prog .eql 4 x y (.bool p) (.bool q) C m L = C.k (.bool (p == q)) m L := ab_of fun C w => b_eql_bool (by kernel_rfl)
theorem pt_3 : ptrish Try.prog 3 = false := by kernel_rfl
theorem sh_36 : shapeOf Try.prog 36 = some (some 17) := by kernel_rfl
theorem ia_30 {C : KA} {m : Mem} {L : Lst} {p : Addr} {n c : Nat} {k : IntKind} {i : Int} (hi : 0 ≤ i ∧ i < (n : Int)) : @ixaA Try.prog 30 (.slice (some p) n c) (.int k i) C m L = C.k (.pointer (some (p.add (i.toNat * 1)))) m L := ixaA_slice (by kernel_rfl) (by kernel_rfl) hi
theorem sh_3 : shapeOf Try.prog 3 = some none := by kernel_rfl
theorem pt_42 : ptrish Try.prog 42 = false := by kernel_rfl
theorem fa_36_4 {C : KA} {m : Mem} {L : Lst} {p : Addr} : @fldA Try.prog 36 (.pointer (some p)) 4 C m L = C.k (.pointer (some (p.add 13))) m L := fldA_eq (by kernel_rfl)
theorem sh_31 : shapeOf Try.prog 31 = some none := by kernel_rfl
theorem fa_36_3 {C : KA} {m : Mem} {L : Lst} {p : Addr} : @fldA Try.prog 36 (.pointer (some p)) 3 C m L = C.k (.pointer (some (p.add 12))) m L := fldA_eq (by kernel_rfl)
theorem sh_30 : shapeOf Try.prog 30 = some none := by kernel_rfl
theorem ia_31 {C : KA} {m : Mem} {L : Lst} {p : Addr} {n c : Nat} {k : IntKind} {i : Int} (hi : 0 ≤ i ∧ i < (n : Int)) : @ixaA Try.prog 31 (.slice (some p) n c) (.int k i) C m L = C.k (.pointer (some (p.add (i.toNat * 5)))) m L := ixaA_slice (by kernel_rfl) (by kernel_rfl) hi
theorem fa_46_0 {C : KA} {m : Mem} {L : Lst} {p : Addr} : @fldA Try.prog 46 (.pointer (some p)) 0 C m L = C.k (.pointer (some (p.add 0))) m L := fldA_eq (by kernel_rfl)
theorem zo_36 : zeroOf Try.prog 36 = some ([.int .i64 0, .int .i64 0, .int .i64 0, .int .i64 0, .int .i64 0, .int .i64 0, .int .i64 0, .int .i64 0, .int .i64 0, .int .i64 0, .int .i64 0, .int .i64 0, .slice none 0 0, .slice none 0 0, .slice none 0 0, .slice none 0 0, .slice none 0 0] : List Value) := by kernel_rfl
theorem si_36 : sizeIs Try.prog 36 17 = true := by kernel_rfl
theorem fa_36_7 {C : KA} {m : Mem} {L : Lst} {p : Addr} : @fldA Try.prog 36 (.pointer (some p)) 7 C m L = C.k (.pointer (some (p.add 16))) m L := fldA_eq (by kernel_rfl)
theorem sh_34 : shapeOf Try.prog 34 = some none := by kernel_rfl
theorem ia_34 {C : KA} {m : Mem} {L : Lst} {p : Addr} {n c : Nat} {k : IntKind} {i : Int} (hi : 0 ≤ i ∧ i < (n : Int)) : @ixaA Try.prog 34 (.slice (some p) n c) (.int k i) C m L = C.k (.pointer (some (p.add (i.toNat * 4)))) m L := ixaA_slice (by kernel_rfl) (by kernel_rfl) hi
theorem fa_50_2 {C : KA} {m : Mem} {L : Lst} {p : Addr} : @fldA Try.prog 50 (.pointer (some p)) 2 C m L = C.k (.pointer (some (p.add 3))) m L := fldA_eq (by kernel_rfl)
theorem si_3 : sizeIs Try.prog 3 1 = true := by kernel_rfl
theorem fv_52_4 {C : KA} {m : Mem} {L : Lst} {cs : Array Value} : @fieldA Try.prog 52 (.agg cs) 4 C m L = cellCA (cs[4]?) m L := fieldA_one (by kernel_rfl)
theorem fv_52_5 {C : KA} {m : Mem} {L : Lst} {cs : Array Value} : @fieldA Try.prog 52 (.agg cs) 5 C m L = cellCA (cs[5]?) m L := fieldA_one (by kernel_rfl)
theorem fv_52_1 {C : KA} {m : Mem} {L : Lst} {cs : Array Value} : @fieldA Try.prog 52 (.agg cs) 1 C m L = cellCA (cs[1]?) m L := fieldA_one (by kernel_rfl)
theorem zo_30 : zeroOf Try.prog 30 = some ([.slice none 0 0] : List Value) := by kernel_rfl
theorem zo_57 : zeroOf Try.prog 57 = some ([.nilFunc] : List Value) := by kernel_rfl
theorem si_57 : sizeIs Try.prog 57 1 = true := by kernel_rfl
theorem sh_50 : shapeOf Try.prog 50 = some (some 4) := by kernel_rfl
theorem zo_50 : zeroOf Try.prog 50 = some ([.int .i64 0, .int .i64 0, .int .i64 0, .int .i64 0] : List Value) := by kernel_rfl
theorem si_50 : sizeIs Try.prog 50 4 = true := by kernel_rfl
theorem sh_57 : shapeOf Try.prog 57 = some none := by kernel_rfl
theorem fa_46_1 {C : KA} {m : Mem} {L : Lst} {p : Addr} : @fldA Try.prog 46 (.pointer (some p)) 1 C m L = C.k (.pointer (some (p.add 1))) m L := fldA_eq (by kernel_rfl)
theorem fa_46_4 {C : KA} {m : Mem} {L : Lst} {p : Addr} : @fldA Try.prog 46 (.pointer (some p)) 4 C m L = C.k (.pointer (some (p.add 4))) m L := fldA_eq (by kernel_rfl)
theorem sl_34 : slInfo Try.prog 34 = some (50, 4, 32, [Value.int .i64 0, Value.int .i64 0, Value.int .i64 0, Value.int .i64 0]) := by kernel_rfl
theorem zo_3 : zeroOf Try.prog 3 = some ([.int .i64 0] : List Value) := by kernel_rfl
theorem zo_42 : zeroOf Try.prog 42 = some ([.int .i64 0] : List Value) := by kernel_rfl
theorem bd_73_0 {C : KA} {m : Mem} {L : Lst} {x0a : Int} {x0b : Int} {x0c : Int} {x0d : Int} {x0e : Int} {x0f : Int} {x0g : Int} {x0h : Int} {x0i : Int} {x0j : Int} {x0k : Int} {x0l : Int} {x0m : Option Addr} {x0mn x0mc : Nat} {x0n : Option Addr} {x0nn x0nc : Nat} {x0o : Option Addr} {x0on x0oc : Nat} {x0p : Option Addr} {x0pn x0pc : Nat} {x0q : Option Addr} {x0qn x0qc : Nat} : @buildA Try.prog 73 [(0, Value.agg #[.int .i64 x0a, .int .i64 x0b, .int .i64 x0c, .int .i64 x0d, .int .i64 x0e, .int .i64 x0f, .int .i64 x0g, .int .i64 x0h, .int .i64 x0i, .int .i64 x0j, .int .i64 x0k, .int .i64 x0l, .slice x0m x0mn x0mc, .slice x0n x0nn x0nc, .slice x0o x0on x0oc, .slice x0p x0pn x0pc, .slice x0q x0qn x0qc])] C m L = C.k (.agg #[.int .i64 x0a, .int .i64 x0b, .int .i64 x0c, .int .i64 x0d, .int .i64 x0e, .int .i64 x0f, .int .i64 x0g, .int .i64 x0h, .int .i64 x0i, .int .i64 x0j, .int .i64 x0k, .int .i64 x0l, .slice x0m x0mn x0mc, .slice x0n x0nn x0nc, .slice x0o x0on x0oc, .slice x0p x0pn x0pc, .slice x0q x0qn x0qc, .int .i64 0, .slice none 0 0]) m L := buildA_eq (by kernel_rfl)
theorem si_42 : sizeIs Try.prog 42 1 = true := by kernel_rfl
theorem sh_42 : shapeOf Try.prog 42 = some none := by kernel_rfl
theorem fa_36_0 {C : KA} {m : Mem} {L : Lst} {p : Addr} : @fldA Try.prog 36 (.pointer (some p)) 0 C m L = C.k (.pointer (some (p.add 0))) m L := fldA_eq (by kernel_rfl)
theorem sh_29 : shapeOf Try.prog 29 = some (some 10) := by kernel_rfl
theorem pt_29 : ptrish Try.prog 29 = false := by kernel_rfl
theorem eqin_29 {a0 : Int} {a1 : Int} {a2 : Int} {a3 : Int} {a4 : Int} {a5 : Int} {a6 : Int} {a7 : Int} {a8 : Int} {a9 : Int} {b0 : Int} {b1 : Int} {b2 : Int} {b3 : Int} {b4 : Int} {b5 : Int} {b6 : Int} {b7 : Int} {b8 : Int} {b9 : Int} (w : World) : (Op.equalIn 10000 29 (.agg #[.int .i64 a0, .int .i64 a1, .int .i64 a2, .int .i64 a3, .int .i64 a4, .int .i64 a5, .int .i64 a6, .int .i64 a7, .int .i64 a8, .int .i64 a9]) (.agg #[.int .i64 b0, .int .i64 b1, .int .i64 b2, .int .i64 b3, .int .i64 b4, .int .i64 b5, .int .i64 b6, .int .i64 b7, .int .i64 b8, .int .i64 b9])).run Try.prog w = .ok (decide (a0 = b0 ∧ a1 = b1 ∧ a2 = b2 ∧ a3 = b3 ∧ a4 = b4 ∧ a5 = b5 ∧ a6 = b6 ∧ a7 = b7 ∧ a8 = b8 ∧ a9 = b9)) w := by
  have fo26 : (Try.prog).fieldsOf 26 = #[⟨"Kind", 3, 0, false, "", "", 0⟩, ⟨"N", 2, 1, false, "", "", 8⟩] := by kernel_rfl
  have fu26 : (Try.prog).underlying 26 = some (.struct ((Try.prog).fieldsOf 26)) := by kernel_rfl
  have fh26 : (Try.prog).stoodInHeld 26 = false := by kernel_rfl
  have fo29 : (Try.prog).fieldsOf 29 = #[⟨"Merge", 3, 0, false, "", "", 0⟩, ⟨"N", 3, 1, false, "", "", 8⟩, ⟨"Greens", 27, 2, false, "", "", 16⟩] := by kernel_rfl
  have fu29 : (Try.prog).underlying 29 = some (.struct ((Try.prog).fieldsOf 29)) := by kernel_rfl
  have fh29 : (Try.prog).stoodInHeld 29 = false := by kernel_rfl
  have ia2 : ∀ w, (isAgg 2).run Try.prog w = .ok false w := fun w => shapeOf_one (by kernel_rfl)
  have ub2 : (Try.prog).underlying 2 = some (.int .i64) := by kernel_rfl
  have ia3 : ∀ w, (isAgg 3).run Try.prog w = .ok false w := fun w => shapeOf_one (by kernel_rfl)
  have ub3 : (Try.prog).underlying 3 = some (.int .i64) := by kernel_rfl
  have ia26 : ∀ w, (isAgg 26).run Try.prog w = .ok true w := fun w => (shapeOf_agg (n := 2) (by kernel_rfl)).1
  have is26 : ∀ w, (sizeOf 26).run Try.prog w = .ok 2 w := fun w => (shapeOf_agg (n := 2) (by kernel_rfl)).2
  have ar27 : ∀ (d : Nat) (xs ys : Array Value) (w : World), (Op.equalIn (d + 1) 27 (.agg xs) (.agg ys)).run Try.prog w = (eqElems d 26 2 xs ys (List.range 4)).run Try.prog w := fun d xs ys w => run_eqArr w d 27 xs ys (by kernel_rfl) (fun w => size_one (by kernel_rfl))
  have rg27 : List.range 4 = [0, 1, 2, 3] := rfl
  have ia27 : ∀ w, (isAgg 27).run Try.prog w = .ok true w := fun w => (shapeOf_agg (n := 8) (by kernel_rfl)).1
  have is27 : ∀ w, (sizeOf 27).run Try.prog w = .ok 8 w := fun w => (shapeOf_agg (n := 8) (by kernel_rfl)).2
  simp [run_equalIn_agg, run_equalIn_struct, Op.eqFields, eqElems, part, run_equalIn_int, run_equalIn_bool', run_equalIn_string, bytes_eq, fu26, fu29, fo26, fh26, fo29, fh29, ia2, ub2, ia3, ub3, ia26, is26, ar27, rg27, ia27, is27]
  by_cases h0 : a0 = b0
  case neg => simp [h0]
  by_cases h1 : a1 = b1
  case neg => simp [h1]
  by_cases h2 : a2 = b2
  case neg => simp [h2]
  by_cases h3 : a3 = b3
  case neg => simp [h3]
  by_cases h4 : a4 = b4
  case neg => simp [h4]
  by_cases h5 : a5 = b5
  case neg => simp [h5]
  by_cases h6 : a6 = b6
  case neg => simp [h6]
  by_cases h7 : a7 = b7
  case neg => simp [h7]
  by_cases h8 : a8 = b8
  case neg => simp [h8]
  by_cases h9 : a9 = b9
  case neg => simp [h9]
  simp [h0, h1, h2, h3, h4, h5, h6, h7, h8, h9]
theorem eql_29 {C : KA} {m : Mem} {L : Lst} {x y : Operand} {a0 : Int} {a1 : Int} {a2 : Int} {a3 : Int} {a4 : Int} {a5 : Int} {a6 : Int} {a7 : Int} {a8 : Int} {a9 : Int} {b0 : Int} {b1 : Int} {b2 : Int} {b3 : Int} {b4 : Int} {b5 : Int} {b6 : Int} {b7 : Int} {b8 : Int} {b9 : Int} : @binA Try.prog .eql 29 x y (.agg #[.int .i64 a0, .int .i64 a1, .int .i64 a2, .int .i64 a3, .int .i64 a4, .int .i64 a5, .int .i64 a6, .int .i64 a7, .int .i64 a8, .int .i64 a9]) (.agg #[.int .i64 b0, .int .i64 b1, .int .i64 b2, .int .i64 b3, .int .i64 b4, .int .i64 b5, .int .i64 b6, .int .i64 b7, .int .i64 b8, .int .i64 b9]) C m L = C.k (.bool (decide (a0 = b0 ∧ a1 = b1 ∧ a2 = b2 ∧ a3 = b3 ∧ a4 = b4 ∧ a5 = b5 ∧ a6 = b6 ∧ a7 = b7 ∧ a8 = b8 ∧ a9 = b9))) m L := ab_of fun C w => b_eql_agg (by kernel_rfl) (eqin_29)
theorem fa_36_1 {C : KA} {m : Mem} {L : Lst} {p : Addr} : @fldA Try.prog 36 (.pointer (some p)) 1 C m L = C.k (.pointer (some (p.add 10))) m L := fldA_eq (by kernel_rfl)
theorem fa_36_2 {C : KA} {m : Mem} {L : Lst} {p : Addr} : @fldA Try.prog 36 (.pointer (some p)) 2 C m L = C.k (.pointer (some (p.add 11))) m L := fldA_eq (by kernel_rfl)
theorem fa_36_5 {C : KA} {m : Mem} {L : Lst} {p : Addr} : @fldA Try.prog 36 (.pointer (some p)) 5 C m L = C.k (.pointer (some (p.add 14))) m L := fldA_eq (by kernel_rfl)
theorem sh_32 : shapeOf Try.prog 32 = some none := by kernel_rfl
theorem fa_36_6 {C : KA} {m : Mem} {L : Lst} {p : Addr} : @fldA Try.prog 36 (.pointer (some p)) 6 C m L = C.k (.pointer (some (p.add 15))) m L := fldA_eq (by kernel_rfl)
theorem sh_33 : shapeOf Try.prog 33 = some none := by kernel_rfl
theorem neq_29 {C : KA} {m : Mem} {L : Lst} {x y : Operand} {a0 : Int} {a1 : Int} {a2 : Int} {a3 : Int} {a4 : Int} {a5 : Int} {a6 : Int} {a7 : Int} {a8 : Int} {a9 : Int} {b0 : Int} {b1 : Int} {b2 : Int} {b3 : Int} {b4 : Int} {b5 : Int} {b6 : Int} {b7 : Int} {b8 : Int} {b9 : Int} : @binA Try.prog .neq 29 x y (.agg #[.int .i64 a0, .int .i64 a1, .int .i64 a2, .int .i64 a3, .int .i64 a4, .int .i64 a5, .int .i64 a6, .int .i64 a7, .int .i64 a8, .int .i64 a9]) (.agg #[.int .i64 b0, .int .i64 b1, .int .i64 b2, .int .i64 b3, .int .i64 b4, .int .i64 b5, .int .i64 b6, .int .i64 b7, .int .i64 b8, .int .i64 b9]) C m L = C.k (.bool (!decide (a0 = b0 ∧ a1 = b1 ∧ a2 = b2 ∧ a3 = b3 ∧ a4 = b4 ∧ a5 = b5 ∧ a6 = b6 ∧ a7 = b7 ∧ a8 = b8 ∧ a9 = b9))) m L := ab_of fun C w => b_neq_agg (by kernel_rfl) (eqin_29)
theorem sh_46 : shapeOf Try.prog 46 = some (some 5) := by kernel_rfl
theorem zo_46 : zeroOf Try.prog 46 = some ([.int .i64 0, .slice none 0 0, .int .i64 0, .int .i64 0, .int .i64 0] : List Value) := by kernel_rfl
theorem si_46 : sizeIs Try.prog 46 5 = true := by kernel_rfl
theorem fa_46_2 {C : KA} {m : Mem} {L : Lst} {p : Addr} : @fldA Try.prog 46 (.pointer (some p)) 2 C m L = C.k (.pointer (some (p.add 2))) m L := fldA_eq (by kernel_rfl)
theorem sh_2 : shapeOf Try.prog 2 = some none := by kernel_rfl
theorem pt_2 : ptrish Try.prog 2 = false := by kernel_rfl
theorem fa_46_3 {C : KA} {m : Mem} {L : Lst} {p : Addr} : @fldA Try.prog 46 (.pointer (some p)) 3 C m L = C.k (.pointer (some (p.add 3))) m L := fldA_eq (by kernel_rfl)
theorem ia_32 {C : KA} {m : Mem} {L : Lst} {p : Addr} {n c : Nat} {k : IntKind} {i : Int} (hi : 0 ≤ i ∧ i < (n : Int)) : @ixaA Try.prog 32 (.slice (some p) n c) (.int k i) C m L = C.k (.pointer (some (p.add (i.toNat * 5)))) m L := ixaA_slice (by kernel_rfl) (by kernel_rfl) hi
theorem sh_80 : shapeOf Try.prog 80 = some (some 5) := by kernel_rfl
theorem zo_80 : zeroOf Try.prog 80 = some ([.int .i64 0, .int .i64 0, .int .i64 0, .int .i64 0, .slice none 0 0] : List Value) := by kernel_rfl
theorem si_80 : sizeIs Try.prog 80 5 = true := by kernel_rfl
theorem fa_80_0 {C : KA} {m : Mem} {L : Lst} {p : Addr} : @fldA Try.prog 80 (.pointer (some p)) 0 C m L = C.k (.pointer (some (p.add 0))) m L := fldA_eq (by kernel_rfl)
theorem fa_80_1 {C : KA} {m : Mem} {L : Lst} {p : Addr} : @fldA Try.prog 80 (.pointer (some p)) 1 C m L = C.k (.pointer (some (p.add 1))) m L := fldA_eq (by kernel_rfl)
theorem fa_80_2 {C : KA} {m : Mem} {L : Lst} {p : Addr} : @fldA Try.prog 80 (.pointer (some p)) 2 C m L = C.k (.pointer (some (p.add 2))) m L := fldA_eq (by kernel_rfl)
theorem fa_80_3 {C : KA} {m : Mem} {L : Lst} {p : Addr} : @fldA Try.prog 80 (.pointer (some p)) 3 C m L = C.k (.pointer (some (p.add 3))) m L := fldA_eq (by kernel_rfl)
theorem fa_80_4 {C : KA} {m : Mem} {L : Lst} {p : Addr} : @fldA Try.prog 80 (.pointer (some p)) 4 C m L = C.k (.pointer (some (p.add 4))) m L := fldA_eq (by kernel_rfl)
theorem ia_33 {C : KA} {m : Mem} {L : Lst} {p : Addr} {n c : Nat} {k : IntKind} {i : Int} (hi : 0 ≤ i ∧ i < (n : Int)) : @ixaA Try.prog 33 (.slice (some p) n c) (.int k i) C m L = C.k (.pointer (some (p.add (i.toNat * 2)))) m L := ixaA_slice (by kernel_rfl) (by kernel_rfl) hi
theorem fa_84_0 {C : KA} {m : Mem} {L : Lst} {p : Addr} : @fldA Try.prog 84 (.pointer (some p)) 0 C m L = C.k (.pointer (some (p.add 0))) m L := fldA_eq (by kernel_rfl)
theorem fa_84_1 {C : KA} {m : Mem} {L : Lst} {p : Addr} : @fldA Try.prog 84 (.pointer (some p)) 1 C m L = C.k (.pointer (some (p.add 1))) m L := fldA_eq (by kernel_rfl)
theorem bbs_30_1_all {x0 : Int} : builtS Try.prog 30 1 [(0, Value.int .i64 x0)] = some (3, #[.int .i64 x0]) := by kernel_rfl
theorem bd_46_0 {C : KA} {m : Mem} {L : Lst} {x0 : Int} : @buildA Try.prog 46 [(0, Value.int .i64 x0)] C m L = C.k (.agg #[.int .i64 x0, .slice none 0 0, .int .i64 0, .int .i64 0, .int .i64 0]) m L := buildA_eq (by kernel_rfl)
theorem bd_26_1 {C : KA} {m : Mem} {L : Lst} {x0 : Int} : @buildA Try.prog 26 [(1, Value.int .i64 x0)] C m L = C.k (.agg #[.int .i64 0, .int .i64 x0]) m L := buildA_eq (by kernel_rfl)
theorem bd_50_1 {C : KA} {m : Mem} {L : Lst} {x0a : Int} {x0b : Int} : @buildA Try.prog 50 [(1, Value.agg #[.int .i64 x0a, .int .i64 x0b])] C m L = C.k (.agg #[.int .i64 0, .int .i64 x0a, .int .i64 x0b, .int .i64 0]) m L := buildA_eq (by kernel_rfl)
theorem bbs_34_2_all {x0a : Int} {x0b : Int} {x0c : Int} {x0d : Int} {x1a : Int} {x1b : Int} {x1c : Int} {x1d : Int} : builtS Try.prog 34 2 [(0, Value.agg #[.int .i64 x0a, .int .i64 x0b, .int .i64 x0c, .int .i64 x0d]), (1, Value.agg #[.int .i64 x1a, .int .i64 x1b, .int .i64 x1c, .int .i64 x1d])] = some (50, #[.int .i64 x0a, .int .i64 x0b, .int .i64 x0c, .int .i64 x0d, .int .i64 x1a, .int .i64 x1b, .int .i64 x1c, .int .i64 x1d]) := by kernel_rfl
theorem bd_46_0_1_2 {C : KA} {m : Mem} {L : Lst} {x0 : Int} {x1 : Option Addr} {x1n x1c : Nat} {x2 : Int} : @buildA Try.prog 46 [(0, Value.int .i64 x0), (1, Value.slice x1 x1n x1c), (2, Value.int .i64 x2)] C m L = C.k (.agg #[.int .i64 x0, .slice x1 x1n x1c, .int .i64 x2, .int .i64 0, .int .i64 0]) m L := buildA_eq (by kernel_rfl)
theorem bbs_31_2_all {x0a : Int} {x0b : Option Addr} {x0bn x0bc : Nat} {x0c : Int} {x0d : Int} {x0e : Int} {x1a : Int} {x1b : Option Addr} {x1bn x1bc : Nat} {x1c : Int} {x1d : Int} {x1e : Int} : builtS Try.prog 31 2 [(0, Value.agg #[.int .i64 x0a, .slice x0b x0bn x0bc, .int .i64 x0c, .int .i64 x0d, .int .i64 x0e]), (1, Value.agg #[.int .i64 x1a, .slice x1b x1bn x1bc, .int .i64 x1c, .int .i64 x1d, .int .i64 x1e])] = some (46, #[.int .i64 x0a, .slice x0b x0bn x0bc, .int .i64 x0c, .int .i64 x0d, .int .i64 x0e, .int .i64 x1a, .slice x1b x1bn x1bc, .int .i64 x1c, .int .i64 x1d, .int .i64 x1e]) := by kernel_rfl
theorem bd_80_0 {C : KA} {m : Mem} {L : Lst} {x0 : Int} : @buildA Try.prog 80 [(0, Value.int .i64 x0)] C m L = C.k (.agg #[.int .i64 x0, .int .i64 0, .int .i64 0, .int .i64 0, .slice none 0 0]) m L := buildA_eq (by kernel_rfl)
theorem bbs_32_1_all {x0a : Int} {x0b : Int} {x0c : Int} {x0d : Int} {x0e : Option Addr} {x0en x0ec : Nat} : builtS Try.prog 32 1 [(0, Value.agg #[.int .i64 x0a, .int .i64 x0b, .int .i64 x0c, .int .i64 x0d, .slice x0e x0en x0ec])] = some (80, #[.int .i64 x0a, .int .i64 x0b, .int .i64 x0c, .int .i64 x0d, .slice x0e x0en x0ec]) := by kernel_rfl
theorem bbs_34_1_all {x0a : Int} {x0b : Int} {x0c : Int} {x0d : Int} : builtS Try.prog 34 1 [(0, Value.agg #[.int .i64 x0a, .int .i64 x0b, .int .i64 x0c, .int .i64 x0d])] = some (50, #[.int .i64 x0a, .int .i64 x0b, .int .i64 x0c, .int .i64 x0d]) := by kernel_rfl
theorem bd_36_3_4_5_7 {C : KA} {m : Mem} {L : Lst} {x0 : Option Addr} {x0n x0c : Nat} {x1 : Option Addr} {x1n x1c : Nat} {x2 : Option Addr} {x2n x2c : Nat} {x3 : Option Addr} {x3n x3c : Nat} : @buildA Try.prog 36 [(3, Value.slice x0 x0n x0c), (4, Value.slice x1 x1n x1c), (5, Value.slice x2 x2n x2c), (7, Value.slice x3 x3n x3c)] C m L = C.k (.agg #[.int .i64 0, .int .i64 0, .int .i64 0, .int .i64 0, .int .i64 0, .int .i64 0, .int .i64 0, .int .i64 0, .int .i64 0, .int .i64 0, .int .i64 0, .int .i64 0, .slice x0 x0n x0c, .slice x1 x1n x1c, .slice x2 x2n x2c, .slice none 0 0, .slice x3 x3n x3c]) m L := buildA_eq (by kernel_rfl)
theorem zo_52 : zeroOf Try.prog 52 = some ([.string ⟨#[]⟩, .int .i64 0, .bool false, .bool false, .bool false, .bool false, .bool false] : List Value) := by kernel_rfl
theorem zo_87 : zeroOf Try.prog 87 = some ([.string ⟨#[]⟩, .int .i64 0, .bool false, .bool false, .bool false, .bool false, .bool false, .string ⟨#[]⟩, .int .i64 0, .bool false, .bool false, .bool false, .bool false, .bool false, .string ⟨#[]⟩, .int .i64 0, .bool false, .bool false, .bool false, .bool false, .bool false, .string ⟨#[]⟩, .int .i64 0, .bool false, .bool false, .bool false, .bool false, .bool false, .string ⟨#[]⟩, .int .i64 0, .bool false, .bool false, .bool false, .bool false, .bool false, .string ⟨#[]⟩, .int .i64 0, .bool false, .bool false, .bool false, .bool false, .bool false, .string ⟨#[]⟩, .int .i64 0, .bool false, .bool false, .bool false, .bool false, .bool false, .string ⟨#[]⟩, .int .i64 0, .bool false, .bool false, .bool false, .bool false, .bool false, .string ⟨#[]⟩, .int .i64 0, .bool false, .bool false, .bool false, .bool false, .bool false, .string ⟨#[]⟩, .int .i64 0, .bool false, .bool false, .bool false, .bool false, .bool false, .string ⟨#[]⟩, .int .i64 0, .bool false, .bool false, .bool false, .bool false, .bool false, .string ⟨#[]⟩, .int .i64 0, .bool false, .bool false, .bool false, .bool false, .bool false, .string ⟨#[]⟩, .int .i64 0, .bool false, .bool false, .bool false, .bool false, .bool false, .string ⟨#[]⟩, .int .i64 0, .bool false, .bool false, .bool false, .bool false, .bool false, .string ⟨#[]⟩, .int .i64 0, .bool false, .bool false, .bool false, .bool false, .bool false, .string ⟨#[]⟩, .int .i64 0, .bool false, .bool false, .bool false, .bool false, .bool false, .string ⟨#[]⟩, .int .i64 0, .bool false, .bool false, .bool false, .bool false, .bool false, .string ⟨#[]⟩, .int .i64 0, .bool false, .bool false, .bool false, .bool false, .bool false, .string ⟨#[]⟩, .int .i64 0, .bool false, .bool false, .bool false, .bool false, .bool false, .string ⟨#[]⟩, .int .i64 0, .bool false, .bool false, .bool false, .bool false, .bool false, .string ⟨#[]⟩, .int .i64 0, .bool false, .bool false, .bool false, .bool false, .bool false, .string ⟨#[]⟩, .int .i64 0, .bool false, .bool false, .bool false, .bool false, .bool false, .string ⟨#[]⟩, .int .i64 0, .bool false, .bool false, .bool false, .bool false, .bool false, .string ⟨#[]⟩, .int .i64 0, .bool false, .bool false, .bool false, .bool false, .bool false, .string ⟨#[]⟩, .int .i64 0, .bool false, .bool false, .bool false, .bool false, .bool false, .string ⟨#[]⟩, .int .i64 0, .bool false, .bool false, .bool false, .bool false, .bool false, .string ⟨#[]⟩, .int .i64 0, .bool false, .bool false, .bool false, .bool false, .bool false, .string ⟨#[]⟩, .int .i64 0, .bool false, .bool false, .bool false, .bool false, .bool false, .string ⟨#[]⟩, .int .i64 0, .bool false, .bool false, .bool false, .bool false, .bool false, .string ⟨#[]⟩, .int .i64 0, .bool false, .bool false, .bool false, .bool false, .bool false, .string ⟨#[]⟩, .int .i64 0, .bool false, .bool false, .bool false, .bool false, .bool false, .string ⟨#[]⟩, .int .i64 0, .bool false, .bool false, .bool false, .bool false, .bool false, .string ⟨#[]⟩, .int .i64 0, .bool false, .bool false, .bool false, .bool false, .bool false, .string ⟨#[]⟩, .int .i64 0, .bool false, .bool false, .bool false, .bool false, .bool false, .string ⟨#[]⟩, .int .i64 0, .bool false, .bool false, .bool false, .bool false, .bool false, .string ⟨#[]⟩, .int .i64 0, .bool false, .bool false, .bool false, .bool false, .bool false] : List Value) := by kernel_rfl
theorem si_87 : sizeIs Try.prog 87 252 = true := by kernel_rfl
theorem ia_87 {C : KA} {m : Mem} {L : Lst} {p : Addr} {k : IntKind} {i : Int} (hi : 0 ≤ i ∧ i < 36) : @ixaA Try.prog 87 (.pointer (some p)) (.int k i) C m L = C.k (.pointer (some (p.add (i.toNat * 7)))) m L := ixaA_array (n := 36) (by kernel_rfl) (by kernel_rfl) hi
theorem fa_52_6 {C : KA} {m : Mem} {L : Lst} {p : Addr} : @fldA Try.prog 52 (.pointer (some p)) 6 C m L = C.k (.pointer (some (p.add 6))) m L := fldA_eq (by kernel_rfl)
theorem sh_4 : shapeOf Try.prog 4 = some none := by kernel_rfl
theorem bd_52_1 {C : KA} {m : Mem} {L : Lst} {x0 : Int} : @buildA Try.prog 52 [(1, Value.int .i64 x0)] C m L = C.k (.agg #[.string ⟨#[]⟩, .int .i64 x0, .bool false, .bool false, .bool false, .bool false, .bool false]) m L := buildA_eq (by kernel_rfl)
theorem si_52 : sizeIs Try.prog 52 7 = true := by kernel_rfl
theorem sh_52 : shapeOf Try.prog 52 = some (some 7) := by kernel_rfl
theorem sh_84 : shapeOf Try.prog 84 = some (some 2) := by kernel_rfl
theorem zo_84 : zeroOf Try.prog 84 = some ([.int .i64 0, .slice none 0 0] : List Value) := by kernel_rfl
theorem si_84 : sizeIs Try.prog 84 2 = true := by kernel_rfl
theorem fa_50_0 {C : KA} {m : Mem} {L : Lst} {p : Addr} : @fldA Try.prog 50 (.pointer (some p)) 0 C m L = C.k (.pointer (some (p.add 0))) m L := fldA_eq (by kernel_rfl)
theorem sl_30 : slInfo Try.prog 30 = some (3, 1, 8, [Value.int .i64 0]) := by kernel_rfl
theorem si_30 : sizeIs Try.prog 30 1 = true := by kernel_rfl
theorem cv_3_93 {C : KA} {m : Mem} {L : Lst} {k : IntKind} {x : Int} : @iconvA Try.prog 3 93 (.int k x) C m L = C.k (.int .u64 (IntKind.u64.wrap x)) m L := iconvA_int (by kernel_rfl)
theorem pc_3_93 {C : KA} {m : Mem} {L : Lst} {ro : Option Nat} {e : En} {d : Option Nat} {ty : TypeId} {ps : String} {af : Array Edge} {g : Option (Nat × Bool)} {x : Operand} : @topC Try.prog ro ⟨d, .convert 3 93 x, ty, ps, af, g⟩ e C m L = iconvA Try.prog 3 93 (ev e x) m L := p_iconv (by kernel_rfl)
theorem es_30 : elemSize Try.prog 30 = some 1 := by kernel_rfl
theorem fa_29_1 {C : KA} {m : Mem} {L : Lst} {p : Addr} : @fldA Try.prog 29 (.pointer (some p)) 1 C m L = C.k (.pointer (some (p.add 1))) m L := fldA_eq (by kernel_rfl)
theorem pt_9 : ptrish Try.prog 9 = false := by kernel_rfl
theorem pt_20 : ptrish Try.prog 20 = true := by kernel_rfl
theorem nf_68 : notIface Try.prog 68 = true := by kernel_rfl
theorem zo_68 : zeroOf Try.prog 68 = some ([.int .i64 0] : List Value) := by kernel_rfl
theorem si_68 : sizeIs Try.prog 68 1 = true := by kernel_rfl
theorem fa_68_0 {C : KA} {m : Mem} {L : Lst} {p : Addr} : @fldA Try.prog 68 (.pointer (some p)) 0 C m L = C.k (.pointer (some (p.add 0))) m L := fldA_eq (by kernel_rfl)
theorem fa_73_0 {C : KA} {m : Mem} {L : Lst} {p : Addr} : @fldA Try.prog 73 (.pointer (some p)) 0 C m L = C.k (.pointer (some (p.add 0))) m L := fldA_eq (by kernel_rfl)
theorem fa_73_1 {C : KA} {m : Mem} {L : Lst} {p : Addr} : @fldA Try.prog 73 (.pointer (some p)) 1 C m L = C.k (.pointer (some (p.add 17))) m L := fldA_eq (by kernel_rfl)
theorem fa_73_2 {C : KA} {m : Mem} {L : Lst} {p : Addr} : @fldA Try.prog 73 (.pointer (some p)) 2 C m L = C.k (.pointer (some (p.add 18))) m L := fldA_eq (by kernel_rfl)
theorem sh_71 : shapeOf Try.prog 71 = some none := by kernel_rfl
theorem bbs_71_1_all {x0 : Bool} : builtS Try.prog 71 1 [(0, Value.bool x0)] = some (4, #[.bool x0]) := by kernel_rfl
theorem sl_71 : slInfo Try.prog 71 = some (4, 1, 1, [Value.bool false]) := by kernel_rfl
theorem si_71 : sizeIs Try.prog 71 1 = true := by kernel_rfl
theorem pt_50 : ptrish Try.prog 50 = false := by kernel_rfl
theorem eqin_50 {a0 : Int} {a1 : Int} {a2 : Int} {a3 : Int} {b0 : Int} {b1 : Int} {b2 : Int} {b3 : Int} (w : World) : (Op.equalIn 10000 50 (.agg #[.int .i64 a0, .int .i64 a1, .int .i64 a2, .int .i64 a3]) (.agg #[.int .i64 b0, .int .i64 b1, .int .i64 b2, .int .i64 b3])).run Try.prog w = .ok (decide (a0 = b0 ∧ a1 = b1 ∧ a2 = b2 ∧ a3 = b3)) w := by
  have fo26 : (Try.prog).fieldsOf 26 = #[⟨"Kind", 3, 0, false, "", "", 0⟩, ⟨"N", 2, 1, false, "", "", 8⟩] := by kernel_rfl
  have fu26 : (Try.prog).underlying 26 = some (.struct ((Try.prog).fieldsOf 26)) := by kernel_rfl
  have fh26 : (Try.prog).stoodInHeld 26 = false := by kernel_rfl
  have fo50 : (Try.prog).fieldsOf 50 = #[⟨"Kind", 3, 0, false, "", "", 0⟩, ⟨"Val", 26, 1, false, "", "", 8⟩, ⟨"N", 3, 3, false, "", "", 24⟩] := by kernel_rfl
  have fu50 : (Try.prog).underlying 50 = some (.struct ((Try.prog).fieldsOf 50)) := by kernel_rfl
  have fh50 : (Try.prog).stoodInHeld 50 = false := by kernel_rfl
  have ia2 : ∀ w, (isAgg 2).run Try.prog w = .ok false w := fun w => shapeOf_one (by kernel_rfl)
  have ub2 : (Try.prog).underlying 2 = some (.int .i64) := by kernel_rfl
  have ia3 : ∀ w, (isAgg 3).run Try.prog w = .ok false w := fun w => shapeOf_one (by kernel_rfl)
  have ub3 : (Try.prog).underlying 3 = some (.int .i64) := by kernel_rfl
  have ia26 : ∀ w, (isAgg 26).run Try.prog w = .ok true w := fun w => (shapeOf_agg (n := 2) (by kernel_rfl)).1
  have is26 : ∀ w, (sizeOf 26).run Try.prog w = .ok 2 w := fun w => (shapeOf_agg (n := 2) (by kernel_rfl)).2
  simp [run_equalIn_agg, run_equalIn_struct, Op.eqFields,  part, run_equalIn_int, run_equalIn_bool', run_equalIn_string, bytes_eq, fu26, fu50, fo26, fh26, fo50, fh50, ia2, ub2, ia3, ub3, ia26, is26]
  by_cases h0 : a0 = b0
  case neg => simp [h0]
  by_cases h1 : a1 = b1
  case neg => simp [h1]
  by_cases h2 : a2 = b2
  case neg => simp [h2]
  by_cases h3 : a3 = b3
  case neg => simp [h3]
  simp [h0, h1, h2, h3]
theorem neq_50 {C : KA} {m : Mem} {L : Lst} {x y : Operand} {a0 : Int} {a1 : Int} {a2 : Int} {a3 : Int} {b0 : Int} {b1 : Int} {b2 : Int} {b3 : Int} : @binA Try.prog .neq 50 x y (.agg #[.int .i64 a0, .int .i64 a1, .int .i64 a2, .int .i64 a3]) (.agg #[.int .i64 b0, .int .i64 b1, .int .i64 b2, .int .i64 b3]) C m L = C.k (.bool (!decide (a0 = b0 ∧ a1 = b1 ∧ a2 = b2 ∧ a3 = b3))) m L := ab_of fun C w => b_neq_agg (by kernel_rfl) (eqin_50)
theorem bd_50_0_2 {C : KA} {m : Mem} {L : Lst} {x0 : Int} {x1 : Int} : @buildA Try.prog 50 [(0, Value.int .i64 x0), (2, Value.int .i64 x1)] C m L = C.k (.agg #[.int .i64 x0, .int .i64 0, .int .i64 0, .int .i64 x1]) m L := buildA_eq (by kernel_rfl)
theorem bd_52_all {C : KA} {m : Mem} {L : Lst} {x0 : ByteArray} {x1 : Int} {x2 : Bool} {x3 : Bool} {x4 : Bool} {x5 : Bool} {x6 : Bool} : @buildA Try.prog 52 [(0, Value.string x0), (1, Value.int .i64 x1), (2, Value.bool x2), (3, Value.bool x3), (4, Value.bool x4), (5, Value.bool x5), (6, Value.bool x6)] C m L = C.k (.agg #[.string x0, .int .i64 x1, .bool x2, .bool x3, .bool x4, .bool x5, .bool x6]) m L := buildA_eq (by kernel_rfl)
theorem sh_87 : shapeOf Try.prog 87 = some (some 252) := by kernel_rfl
theorem es_34 : elemSize Try.prog 34 = some 4 := by kernel_rfl
theorem pt_101 : ptrish Try.prog 101 = false := by kernel_rfl
theorem cv_93_110 {C : KA} {m : Mem} {L : Lst} {k : IntKind} {x : Int} : @iconvA Try.prog 93 110 (.int k x) C m L = C.k (.int .u32 (IntKind.u32.wrap x)) m L := iconvA_int (by kernel_rfl)
theorem pc_93_110 {C : KA} {m : Mem} {L : Lst} {ro : Option Nat} {e : En} {d : Option Nat} {ty : TypeId} {ps : String} {af : Array Edge} {g : Option (Nat × Bool)} {x : Operand} : @topC Try.prog ro ⟨d, .convert 93 110 x, ty, ps, af, g⟩ e C m L = iconvA Try.prog 93 110 (ev e x) m L := p_iconv (by kernel_rfl)
theorem fa_50_1 {C : KA} {m : Mem} {L : Lst} {p : Addr} : @fldA Try.prog 50 (.pointer (some p)) 1 C m L = C.k (.pointer (some (p.add 1))) m L := fldA_eq (by kernel_rfl)
theorem sh_26 : shapeOf Try.prog 26 = some (some 2) := by kernel_rfl
theorem bd_26_ {C : KA} {m : Mem} {L : Lst}  : @buildA Try.prog 26 [] C m L = C.k (.agg #[.int .i64 0, .int .i64 0]) m L := buildA_eq (by kernel_rfl)
theorem pt_26 : ptrish Try.prog 26 = false := by kernel_rfl
theorem eqin_26 {a0 : Int} {a1 : Int} {b0 : Int} {b1 : Int} (w : World) : (Op.equalIn 10000 26 (.agg #[.int .i64 a0, .int .i64 a1]) (.agg #[.int .i64 b0, .int .i64 b1])).run Try.prog w = .ok (decide (a0 = b0 ∧ a1 = b1)) w := by
  have fo26 : (Try.prog).fieldsOf 26 = #[⟨"Kind", 3, 0, false, "", "", 0⟩, ⟨"N", 2, 1, false, "", "", 8⟩] := by kernel_rfl
  have fu26 : (Try.prog).underlying 26 = some (.struct ((Try.prog).fieldsOf 26)) := by kernel_rfl
  have fh26 : (Try.prog).stoodInHeld 26 = false := by kernel_rfl
  have ia2 : ∀ w, (isAgg 2).run Try.prog w = .ok false w := fun w => shapeOf_one (by kernel_rfl)
  have ub2 : (Try.prog).underlying 2 = some (.int .i64) := by kernel_rfl
  have ia3 : ∀ w, (isAgg 3).run Try.prog w = .ok false w := fun w => shapeOf_one (by kernel_rfl)
  have ub3 : (Try.prog).underlying 3 = some (.int .i64) := by kernel_rfl
  simp [run_equalIn_agg, run_equalIn_struct, Op.eqFields,  part, run_equalIn_int, run_equalIn_bool', run_equalIn_string, bytes_eq, fu26, fo26, fh26, ia2, ub2, ia3, ub3]
  by_cases h0 : a0 = b0
  case neg => simp [h0]
  by_cases h1 : a1 = b1
  case neg => simp [h1]
  simp [h0, h1]
theorem eql_26 {C : KA} {m : Mem} {L : Lst} {x y : Operand} {a0 : Int} {a1 : Int} {b0 : Int} {b1 : Int} : @binA Try.prog .eql 26 x y (.agg #[.int .i64 a0, .int .i64 a1]) (.agg #[.int .i64 b0, .int .i64 b1]) C m L = C.k (.bool (decide (a0 = b0 ∧ a1 = b1))) m L := ab_of fun C w => b_eql_agg (by kernel_rfl) (eqin_26)
theorem sh_70 : shapeOf Try.prog 70 = some none := by kernel_rfl
theorem fa_52_1 {C : KA} {m : Mem} {L : Lst} {p : Addr} : @fldA Try.prog 52 (.pointer (some p)) 1 C m L = C.k (.pointer (some (p.add 1))) m L := fldA_eq (by kernel_rfl)
theorem ia_71 {C : KA} {m : Mem} {L : Lst} {p : Addr} {n c : Nat} {k : IntKind} {i : Int} (hi : 0 ≤ i ∧ i < (n : Int)) : @ixaA Try.prog 71 (.slice (some p) n c) (.int k i) C m L = C.k (.pointer (some (p.add (i.toNat * 1)))) m L := ixaA_slice (by kernel_rfl) (by kernel_rfl) hi
theorem cv_3_116 {C : KA} {m : Mem} {L : Lst} {k : IntKind} {x : Int} : @iconvA Try.prog 3 116 (.int k x) C m L = C.k (.int .u64 (IntKind.u64.wrap x)) m L := iconvA_int (by kernel_rfl)
theorem pc_3_116 {C : KA} {m : Mem} {L : Lst} {ro : Option Nat} {e : En} {d : Option Nat} {ty : TypeId} {ps : String} {af : Array Edge} {g : Option (Nat × Bool)} {x : Operand} : @topC Try.prog ro ⟨d, .convert 3 116 x, ty, ps, af, g⟩ e C m L = iconvA Try.prog 3 116 (ev e x) m L := p_iconv (by kernel_rfl)
theorem zo_116 : zeroOf Try.prog 116 = some ([.int .u64 0] : List Value) := by kernel_rfl
theorem si_116 : sizeIs Try.prog 116 1 = true := by kernel_rfl
theorem cv_93_3 {C : KA} {m : Mem} {L : Lst} {k : IntKind} {x : Int} : @iconvA Try.prog 93 3 (.int k x) C m L = C.k (.int .i64 (IntKind.i64.wrap x)) m L := iconvA_int (by kernel_rfl)
theorem pc_93_3 {C : KA} {m : Mem} {L : Lst} {ro : Option Nat} {e : En} {d : Option Nat} {ty : TypeId} {ps : String} {af : Array Edge} {g : Option (Nat × Bool)} {x : Operand} : @topC Try.prog ro ⟨d, .convert 93 3 x, ty, ps, af, g⟩ e C m L = iconvA Try.prog 93 3 (ev e x) m L := p_iconv (by kernel_rfl)
theorem cv_110_5 {C : KA} {m : Mem} {L : Lst} {k : IntKind} {x : Int} : @iconvA Try.prog 110 5 (.int k x) C m L = C.k (.int .u8 (IntKind.u8.wrap x)) m L := iconvA_int (by kernel_rfl)
theorem pc_110_5 {C : KA} {m : Mem} {L : Lst} {ro : Option Nat} {e : En} {d : Option Nat} {ty : TypeId} {ps : String} {af : Array Edge} {g : Option (Nat × Bool)} {x : Operand} : @topC Try.prog ro ⟨d, .convert 110 5 x, ty, ps, af, g⟩ e C m L = iconvA Try.prog 110 5 (ev e x) m L := p_iconv (by kernel_rfl)
theorem ix_9 {C : KA} {m : Mem} {L : Lst} {s : ByteArray} {k : IntKind} {i : Int} (hi : 0 ≤ i ∧ i < (s.size : Int)) : @idxA Try.prog 9 (.string s) (.int k i) C m L = C.k (.int .u8 (byteAt s i)) m L := idxA_str (by kernel_rfl) hi
theorem cv_5_3 {C : KA} {m : Mem} {L : Lst} {k : IntKind} {x : Int} : @iconvA Try.prog 5 3 (.int k x) C m L = C.k (.int .i64 (IntKind.i64.wrap x)) m L := iconvA_int (by kernel_rfl)
theorem pc_5_3 {C : KA} {m : Mem} {L : Lst} {ro : Option Nat} {e : En} {d : Option Nat} {ty : TypeId} {ps : String} {af : Array Edge} {g : Option (Nat × Bool)} {x : Operand} : @topC Try.prog ro ⟨d, .convert 5 3 x, ty, ps, af, g⟩ e C m L = iconvA Try.prog 5 3 (ev e x) m L := p_iconv (by kernel_rfl)
theorem cv_112_5 {C : KA} {m : Mem} {L : Lst} {k : IntKind} {x : Int} : @iconvA Try.prog 112 5 (.int k x) C m L = C.k (.int .u8 (IntKind.u8.wrap x)) m L := iconvA_int (by kernel_rfl)
theorem pc_112_5 {C : KA} {m : Mem} {L : Lst} {ro : Option Nat} {e : En} {d : Option Nat} {ty : TypeId} {ps : String} {af : Array Edge} {g : Option (Nat × Bool)} {x : Operand} : @topC Try.prog ro ⟨d, .convert 112 5 x, ty, ps, af, g⟩ e C m L = iconvA Try.prog 112 5 (ev e x) m L := p_iconv (by kernel_rfl)
theorem bd_68_all {C : KA} {m : Mem} {L : Lst} {x0 : Int} : @buildA Try.prog 68 [(0, Value.int .i64 x0)] C m L = C.k (.agg #[.int .i64 x0]) m L := buildA_eq (by kernel_rfl)
theorem fa_52_2 {C : KA} {m : Mem} {L : Lst} {p : Addr} : @fldA Try.prog 52 (.pointer (some p)) 2 C m L = C.k (.pointer (some (p.add 2))) m L := fldA_eq (by kernel_rfl)
theorem fa_52_3 {C : KA} {m : Mem} {L : Lst} {p : Addr} : @fldA Try.prog 52 (.pointer (some p)) 3 C m L = C.k (.pointer (some (p.add 3))) m L := fldA_eq (by kernel_rfl)
theorem sh_116 : shapeOf Try.prog 116 = some none := by kernel_rfl
theorem all_pc : type_of% @pc_3_93 ∧ type_of% @pc_93_110 ∧ type_of% @pc_3_116 ∧ type_of% @pc_93_3 ∧ type_of% @pc_110_5 ∧ type_of% @pc_5_3 ∧ type_of% @pc_112_5 := ⟨@pc_3_93, @pc_93_110, @pc_3_116, @pc_93_3, @pc_110_5, @pc_5_3, @pc_112_5⟩
theorem all_fa : type_of% @pt_4 ∧ type_of% @eql_4 ∧ type_of% @pt_3 ∧ type_of% @sh_36 ∧ type_of% @ia_30 ∧ type_of% @sh_3 ∧ type_of% @pt_42 ∧ type_of% @fa_36_4 ∧ type_of% @sh_31 ∧ type_of% @fa_36_3 ∧ type_of% @sh_30 ∧ type_of% @ia_31 ∧ type_of% @fa_46_0 ∧ type_of% @zo_36 ∧ type_of% @si_36 ∧ type_of% @fa_36_7 ∧ type_of% @sh_34 ∧ type_of% @ia_34 ∧ type_of% @fa_50_2 ∧ type_of% @si_3 ∧ type_of% @fv_52_4 ∧ type_of% @fv_52_5 ∧ type_of% @fv_52_1 ∧ type_of% @zo_30 ∧ type_of% @zo_57 ∧ type_of% @si_57 ∧ type_of% @sh_50 ∧ type_of% @zo_50 ∧ type_of% @si_50 ∧ type_of% @sh_57 ∧ type_of% @fa_46_1 ∧ type_of% @fa_46_4 ∧ type_of% @zo_3 ∧ type_of% @zo_42 ∧ type_of% @bd_73_0 ∧ type_of% @si_42 ∧ type_of% @sh_42 ∧ type_of% @fa_36_0 ∧ type_of% @sh_29 ∧ type_of% @pt_29 ∧ type_of% @eql_29 ∧ type_of% @fa_36_1 ∧ type_of% @fa_36_2 ∧ type_of% @fa_36_5 ∧ type_of% @sh_32 ∧ type_of% @fa_36_6 ∧ type_of% @sh_33 ∧ type_of% @neq_29 ∧ type_of% @sh_46 ∧ type_of% @zo_46 ∧ type_of% @si_46 ∧ type_of% @fa_46_2 ∧ type_of% @sh_2 ∧ type_of% @pt_2 ∧ type_of% @fa_46_3 ∧ type_of% @ia_32 ∧ type_of% @sh_80 ∧ type_of% @zo_80 ∧ type_of% @si_80 ∧ type_of% @fa_80_0 ∧ type_of% @fa_80_1 ∧ type_of% @fa_80_2 ∧ type_of% @fa_80_3 ∧ type_of% @fa_80_4 ∧ type_of% @ia_33 ∧ type_of% @fa_84_0 ∧ type_of% @fa_84_1 ∧ type_of% @bbs_30_1_all ∧ type_of% @bd_46_0 ∧ type_of% @bd_26_1 ∧ type_of% @bd_50_1 ∧ type_of% @bbs_34_2_all ∧ type_of% @bd_46_0_1_2 ∧ type_of% @bbs_31_2_all ∧ type_of% @bd_80_0 ∧ type_of% @bbs_32_1_all ∧ type_of% @bbs_34_1_all ∧ type_of% @bd_36_3_4_5_7 ∧ type_of% @zo_52 ∧ type_of% @zo_87 ∧ type_of% @si_87 ∧ type_of% @ia_87 ∧ type_of% @fa_52_6 ∧ type_of% @sh_4 ∧ type_of% @bd_52_1 ∧ type_of% @si_52 ∧ type_of% @sh_52 ∧ type_of% @sh_84 ∧ type_of% @zo_84 ∧ type_of% @si_84 ∧ type_of% @fa_50_0 ∧ type_of% @si_30 ∧ type_of% @cv_3_93 ∧ type_of% @fa_29_1 ∧ type_of% @pt_9 ∧ type_of% @pt_20 ∧ type_of% @nf_68 ∧ type_of% @zo_68 ∧ type_of% @si_68 ∧ type_of% @fa_68_0 ∧ type_of% @fa_73_0 ∧ type_of% @fa_73_1 ∧ type_of% @fa_73_2 ∧ type_of% @sh_71 ∧ type_of% @bbs_71_1_all ∧ type_of% @si_71 ∧ type_of% @pt_50 ∧ type_of% @neq_50 ∧ type_of% @bd_50_0_2 ∧ type_of% @bd_52_all ∧ type_of% @sh_87 ∧ type_of% @pt_101 ∧ type_of% @cv_93_110 ∧ type_of% @fa_50_1 ∧ type_of% @sh_26 ∧ type_of% @bd_26_ ∧ type_of% @pt_26 ∧ type_of% @eql_26 ∧ type_of% @sh_70 ∧ type_of% @fa_52_1 ∧ type_of% @ia_71 ∧ type_of% @cv_3_116 ∧ type_of% @zo_116 ∧ type_of% @si_116 ∧ type_of% @cv_93_3 ∧ type_of% @cv_110_5 ∧ type_of% @ix_9 ∧ type_of% @cv_5_3 ∧ type_of% @cv_112_5 ∧ type_of% @bd_68_all ∧ type_of% @fa_52_2 ∧ type_of% @fa_52_3 ∧ type_of% @sh_116 := ⟨@pt_4, @eql_4, @pt_3, @sh_36, @ia_30, @sh_3, @pt_42, @fa_36_4, @sh_31, @fa_36_3, @sh_30, @ia_31, @fa_46_0, @zo_36, @si_36, @fa_36_7, @sh_34, @ia_34, @fa_50_2, @si_3, @fv_52_4, @fv_52_5, @fv_52_1, @zo_30, @zo_57, @si_57, @sh_50, @zo_50, @si_50, @sh_57, @fa_46_1, @fa_46_4, @zo_3, @zo_42, @bd_73_0, @si_42, @sh_42, @fa_36_0, @sh_29, @pt_29, @eql_29, @fa_36_1, @fa_36_2, @fa_36_5, @sh_32, @fa_36_6, @sh_33, @neq_29, @sh_46, @zo_46, @si_46, @fa_46_2, @sh_2, @pt_2, @fa_46_3, @ia_32, @sh_80, @zo_80, @si_80, @fa_80_0, @fa_80_1, @fa_80_2, @fa_80_3, @fa_80_4, @ia_33, @fa_84_0, @fa_84_1, @bbs_30_1_all, @bd_46_0, @bd_26_1, @bd_50_1, @bbs_34_2_all, @bd_46_0_1_2, @bbs_31_2_all, @bd_80_0, @bbs_32_1_all, @bbs_34_1_all, @bd_36_3_4_5_7, @zo_52, @zo_87, @si_87, @ia_87, @fa_52_6, @sh_4, @bd_52_1, @si_52, @sh_52, @sh_84, @zo_84, @si_84, @fa_50_0, @si_30, @cv_3_93, @fa_29_1, @pt_9, @pt_20, @nf_68, @zo_68, @si_68, @fa_68_0, @fa_73_0, @fa_73_1, @fa_73_2, @sh_71, @bbs_71_1_all, @si_71, @pt_50, @neq_50, @bd_50_0_2, @bd_52_all, @sh_87, @pt_101, @cv_93_110, @fa_50_1, @sh_26, @bd_26_, @pt_26, @eql_26, @sh_70, @fa_52_1, @ia_71, @cv_3_116, @zo_116, @si_116, @cv_93_3, @cv_110_5, @ix_9, @cv_5_3, @cv_112_5, @bd_68_all, @fa_52_2, @fa_52_3, @sh_116⟩
end Go.Proofs.Ythfbfigdgjhhaaa.Fa
