/- Layer 4: the next token. -/
import Derived.Test.YtgeifpoaemkadaaXNextA
import Derived.Test.YtgeifpoaemkadaaXNextB
import Derived.Test.YtgeifpoaemkadaaXNextC
import Derived.Test.YtgeifpoaemkadaaXNextD
import Derived.Test.YtgeifpoaemkadaaXNextE
import Derived.Test.YtgeifpoaemkadaaXNextF
set_option linter.unusedSimpArgs false
set_option linter.unusedVariables false
set_option linter.all false
namespace Go.Proofs.Ytgeifpoaemkadaa
open Go Go.Eng Go.Lex
theorem next_ct (s : ByteArray) (a : Nat) (hs : s.size ≤ 1000000) (ha : a ≤ s.size) : NextC s a := by
  by_cases h : s.size ≤ skip s a
  · exact next_end s a hs ha h
  · have h := Nat.lt_of_not_le h
    rcases cls_range (byteAt s (skip s a)) with hc | hc | hc | hc | hc | hc
    · exact next_oth s a hs ha h (Or.inl hc)
    · exact next_oth s a hs ha h (Or.inr hc)
    · exact next_let s a hs ha h hc
    · exact next_dig s a hs ha h hc
    · exact next_sgn s a hs ha h hc
    · exact next_quo s a hs ha h hc
end Go.Proofs.Ytgeifpoaemkadaa
