/- Layer 4: LexBlanks as a whole. -/
import Derived.Test.YtgeifpoaemkadaaXLaw2
set_option linter.unusedSimpArgs false
set_option linter.unusedVariables false
set_option linter.all false
namespace Go.Proofs.Ytgeifpoaemkadaa
open Go Go.Eng Go.Lex
theorem blanks_all (s : ByteArray) (b : Int) (w : World) : Ct Try.prog 7 [.string s, .int .u8 b] w (fun v w' => v = .bool true ∧ Ext w w') := by
  refine Cta.ct (fun m => ?_)
  by_cases h : 2000 < s.size ∨ ¬ (b = 32 ∨ b = 9 ∨ b = 10 ∨ b = 13)
  · exact blanks_early s b h m
  · exact blanks_late s b (by omega) (Classical.byContradiction fun h2 => h (.inr h2)) m
end Go.Proofs.Ytgeifpoaemkadaa
