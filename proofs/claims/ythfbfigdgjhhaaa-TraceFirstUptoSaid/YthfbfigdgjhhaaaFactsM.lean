/- Facts on the program's maps; printed by genfacts2.py. -/
import Derived.Test.YthfbfigdgjhhaaaFactsA
import Derived.Test.YthfbfigdgjhhaaaEngMap
set_option linter.all false
namespace Go.Proofs.Ythfbfigdgjhhaaa.Fa
open Go Go.Eng
theorem miI_90_3 : mapInfo Try.prog 90 = some (3, (.int .i64 0)) := by kernel_rfl
theorem mk_90 {ro : Option Nat} {e : En} {C : KA} {m : Mem} {L : Lst} {d : Option Nat} {ty : TypeId} {ps : String} {af : Array Edge} {g : Option (Nat × Bool)} (h : ∀ b, C.k (.map (some b)) m ((b, mapK encI []) :: L)) : topC Try.prog ro ⟨d, .makeMap 90 none, ty, ps, af, g⟩ e m L := p_mkmap encI h
theorem ko_3 : KeyOk Try.prog 3 encI := keyI (by kernel_rfl)
end Go.Proofs.Ythfbfigdgjhhaaa.Fa
