/- Layer 4: the examples, plainly. -/
import Derived.Test.YtgeifpoaemkadaaXGood
import Derived.Test.YtgeifpoaemkadaaXName
import Derived.Test.YtgeifpoaemkadaaXLine2
set_option linter.unusedSimpArgs false
set_option linter.unusedVariables false
set_option linter.all false
namespace Go.Lex
open Go Go.Eng
def ex1 : ByteArray := ⟨#[120, 60, 60, 61, 48, 120, 49, 70]⟩
def ex2 : ByteArray := ⟨#[49, 50, 97]⟩
def ex3 : ByteArray := ⟨#[97, 10, 98]⟩
def ex4 : ByteArray := ⟨#[39, 97, 39]⟩
def ex5 : ByteArray := ⟨#[120]⟩
theorem ex1_e : (scanF ex1).1.length = 5 ∧ (scanF ex1).2.1 = 0 ∧ (scanF ex1).2.2 = 0 ∧ ((scanF ex1).1[3]?.map (·.n)) = some 31 := by decide +kernel
theorem ex2_e : (scanF ex2).1.length = 0 ∧ (scanF ex2).2.1 = 0 ∧ (scanF ex2).2.2 = 41 := by decide +kernel
theorem ex3_e : lineF ex3 (clampP ex3 2) = 2 ∧ colF ex3 (clampP ex3 2) = 1 := by decide +kernel
theorem ex4_e : number ex4 = (97, true) := by decide +kernel
theorem ex5_e : nameB ex5 = true := by decide +kernel
end Go.Lex
