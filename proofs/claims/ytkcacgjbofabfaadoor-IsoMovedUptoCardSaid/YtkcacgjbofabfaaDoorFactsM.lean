/- Facts on the program's maps; printed by genfacts2.py. -/
import Derived.Test.YtkcacgjbofabfaaDoorFactsA
import Derived.Test.YtkcacgjbofabfaaDoorEngMap
set_option linter.all false
namespace Go.Proofs.YtkcacgjbofabfaaDoor.Fa
open Go Go.Eng
theorem miI_50_2 : mapInfo Tryd.prog 50 = some (2, (.int .i64 0)) := by kernel_rfl
theorem mk_50 {ro : Option Nat} {e : En} {C : KA} {m : Mem} {L : Lst} {d : Option Nat} {ty : TypeId} {ps : String} {af : Array Edge} {g : Option (Nat × Bool)} (h : ∀ b, C.k (.map (some b)) m ((b, mapK encI []) :: L)) : topC Tryd.prog ro ⟨d, .makeMap 50 none, ty, ps, af, g⟩ e m L := p_mkmap encI h
theorem ko_2 : KeyOk Tryd.prog 2 encI := keyI (by kernel_rfl)
theorem miP_51_56 : mapInfo Tryd.prog 51 = some (56, (.int .i64 0)) := by kernel_rfl
theorem mk_51 {ro : Option Nat} {e : En} {C : KA} {m : Mem} {L : Lst} {d : Option Nat} {ty : TypeId} {ps : String} {af : Array Edge} {g : Option (Nat × Bool)} (h : ∀ b, C.k (.map (some b)) m ((b, mapK encP []) :: L)) : topC Tryd.prog ro ⟨d, .makeMap 51 none, ty, ps, af, g⟩ e m L := p_mkmap encP h
theorem ckn_56 (em : Bool) (a b : Int) (w : World) (n : Nat) : (Instr.checkKey em (n + 2) 56 (.agg #[.int .i64 a, .int .i64 b])).run Tryd.prog w = .ok () w := by
  have fo : (Tryd.prog).fieldsOf 56 = #[⟨"a", 2, 0, false, "", "swath/iso", 0⟩, ⟨"b", 2, 1, false, "", "swath/iso", 8⟩] := by kernel_rfl
  have fu : (Tryd.prog).underlying 56 = some (.struct ((Tryd.prog).fieldsOf 56)) := by kernel_rfl
  have ia2 : ∀ w, (isAgg 2).run Tryd.prog w = .ok false w := fun w => shapeOf_one (by kernel_rfl)
  have ub2 : (Tryd.prog).underlying 2 = some (.int .i64) := by kernel_rfl
  simp [Instr.checkKey, run_underlying fu, fo, part, ia2, run_underlying ub2]
theorem ck_56 (em : Bool) (a b : Int) (w : World) : (Instr.checkKey em 10000 56 (.agg #[.int .i64 a, .int .i64 b])).run Tryd.prog w = .ok () w := ckn_56 em a b w 9998
theorem ko_56 : KeyOk Tryd.prog 56 encP := keyP (by kernel_rfl) (fun a b c d w => eqin_56 w) ck_56
theorem miI_72_2 : mapInfo Tryd.prog 72 = some (2, (.int .i64 0)) := by kernel_rfl
theorem mk_72 {ro : Option Nat} {e : En} {C : KA} {m : Mem} {L : Lst} {d : Option Nat} {ty : TypeId} {ps : String} {af : Array Edge} {g : Option (Nat × Bool)} (h : ∀ b, C.k (.map (some b)) m ((b, mapK encI []) :: L)) : topC Tryd.prog ro ⟨d, .makeMap 72 none, ty, ps, af, g⟩ e m L := p_mkmap encI h
theorem miI_73_2 : mapInfo Tryd.prog 73 = some (2, (.agg #[.int .i64 0, .slice none 0 0])) := by kernel_rfl
theorem mk_73 {ro : Option Nat} {e : En} {C : KA} {m : Mem} {L : Lst} {d : Option Nat} {ty : TypeId} {ps : String} {af : Array Edge} {g : Option (Nat × Bool)} (h : ∀ b, C.k (.map (some b)) m ((b, mapK encI []) :: L)) : topC Tryd.prog ro ⟨d, .makeMap 73 none, ty, ps, af, g⟩ e m L := p_mkmap encI h
end Go.Proofs.YtkcacgjbofabfaaDoor.Fa
