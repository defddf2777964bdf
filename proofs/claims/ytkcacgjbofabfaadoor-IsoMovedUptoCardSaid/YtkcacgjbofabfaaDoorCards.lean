/-
  DERIVED. GIVEN WITH THE SEED: THE CARDS: each row of YtkcacgjbofabfaaDoorRows.lean that lists a variable, with what it lists TIED to the program's text (the seventh form; the later family's looks); each row that meets fmt, with fmt's text TOLD by the authors' own Lean function (tested against real Go, not proved from fmt's source: count such statements apart). THE CARD IS WHAT COUNTS. Prove the row's statement (the work); the ties are given (YtkcacgjbofabfaaDoorTie.lean); close each card by the builder's one call (the guide's Derived/Test/ToyasCard.lean, 'card_holds'). Laid BY PROGRAM, IN A SANDBOX (cutbox-door.mjs). By AI agents, Wed Nov 11 2026. No macro, syntax, notation, axiom, sorry.
-/
import Derived.Test.YtkcacgjbofabfaaDoorRows
import GoSem.ClaimSeven
namespace Go.Proofs.YtkcacgjbofabfaaDoor
namespace Rows

/-- THE TIED CARD OF 'swathlaw03.IsoSame'. -/
def isoSameCard : Claim7 := { stood := { row := isoSameRow, standIns := [], harness := (true, "cf750bf928728e19d5d5639cb39600c02177f0c5e9bb64609055e6294eccde19"), looks := true }, kinds := [], alts := [], laidByText := true, laidKinds := [.data, .data, .data], laidTests := true, laidLooks := .later }
def IsoSameCardSaid : Prop := Claim7.holds Tryd.pinned (.plain (OpenSpec.ofChange isoSameSpec)) isoSameCard

/-- THE TIED CARD OF 'swathlaw03.IsoReach'. -/
def isoReachCard : Claim7 := { stood := { row := isoReachRow, standIns := [], harness := (true, "cf750bf928728e19d5d5639cb39600c02177f0c5e9bb64609055e6294eccde19"), looks := true }, kinds := [], alts := [], laidByText := true, laidKinds := [.data, .data, .data], laidTests := true, laidLooks := .later }
def IsoReachCardSaid : Prop := Claim7.holds Tryd.pinned (.plain (OpenSpec.ofChange isoReachSpec)) isoReachCard

/-- THE TIED CARD OF 'swathlaw03.IsoShows'. -/
def isoShowsCard : Claim7 := { stood := { row := isoShowsRow, standIns := [], harness := (true, "cf750bf928728e19d5d5639cb39600c02177f0c5e9bb64609055e6294eccde19"), looks := true }, kinds := [], alts := [], laidByText := true, laidKinds := [.data, .data, .data], laidTests := true, laidLooks := .later }
def IsoShowsCardSaid : Prop := Claim7.holds Tryd.pinned (.plain (OpenSpec.ofChange isoShowsSpec)) isoShowsCard

/-- THE TIED CARD OF 'swathlaw03.IsoTexts'. -/
def isoTextsCard : Claim7 := { stood := { row := isoTextsRow, standIns := [], harness := (true, "cf750bf928728e19d5d5639cb39600c02177f0c5e9bb64609055e6294eccde19"), looks := true }, kinds := [], alts := [], laidByText := true, laidKinds := [.data, .data, .data], laidTests := true, laidLooks := .later }
def IsoTextsCardSaid : Prop := Claim7.holds Tryd.pinned (.plain (OpenSpec.ofChange isoTextsSpec)) isoTextsCard

/-- THE TIED CARD OF 'swathlaw03.IsoMoved'. -/
def isoMovedCard : Claim7 := { stood := { row := isoMovedRow, standIns := [], harness := (true, "cf750bf928728e19d5d5639cb39600c02177f0c5e9bb64609055e6294eccde19"), looks := true }, kinds := [], alts := [], laidByText := true, laidKinds := [.data, .data, .data], laidTests := true, laidLooks := .later }
def IsoMovedCardSaid : Prop := Claim7.holds Tryd.pinned (.plain (OpenSpec.ofChange isoMovedSpec)) isoMovedCard

/-- THE TIED CARD OF 'swathlaw03.IsoSelf'. -/
def isoSelfCard : Claim7 := { stood := { row := isoSelfRow, standIns := [], harness := (true, "cf750bf928728e19d5d5639cb39600c02177f0c5e9bb64609055e6294eccde19"), looks := true }, kinds := [], alts := [], laidByText := true, laidKinds := [.data, .data, .data], laidTests := true, laidLooks := .later }
def IsoSelfCardSaid : Prop := Claim7.holds Tryd.pinned (.plain (OpenSpec.ofChange isoSelfSpec)) isoSelfCard

/-- THE SECOND FORM's CARD OF 'swathlaw03.IsoSame'. -/
def isoSameUptoCard : Claim7 := { stood := { row := isoSameUptoRow, standIns := [], harness := (true, "cf750bf928728e19d5d5639cb39600c02177f0c5e9bb64609055e6294eccde19"), looks := true }, kinds := [], alts := [], laidByText := true, laidKinds := [.data, .data, .data], laidTests := true, laidLooks := .later }
def IsoSameUptoCardSaid : Prop := Claim7.holds Tryd.pinned (.plain (OpenSpec.upto isoSameSpec)) isoSameUptoCard

/-- THE SECOND FORM's CARD OF 'swathlaw03.IsoReach'. -/
def isoReachUptoCard : Claim7 := { stood := { row := isoReachUptoRow, standIns := [], harness := (true, "cf750bf928728e19d5d5639cb39600c02177f0c5e9bb64609055e6294eccde19"), looks := true }, kinds := [], alts := [], laidByText := true, laidKinds := [.data, .data, .data], laidTests := true, laidLooks := .later }
def IsoReachUptoCardSaid : Prop := Claim7.holds Tryd.pinned (.plain (OpenSpec.upto isoReachSpec)) isoReachUptoCard

/-- THE SECOND FORM's CARD OF 'swathlaw03.IsoShows'. -/
def isoShowsUptoCard : Claim7 := { stood := { row := isoShowsUptoRow, standIns := [], harness := (true, "cf750bf928728e19d5d5639cb39600c02177f0c5e9bb64609055e6294eccde19"), looks := true }, kinds := [], alts := [], laidByText := true, laidKinds := [.data, .data, .data], laidTests := true, laidLooks := .later }
def IsoShowsUptoCardSaid : Prop := Claim7.holds Tryd.pinned (.plain (OpenSpec.upto isoShowsSpec)) isoShowsUptoCard

/-- THE SECOND FORM's CARD OF 'swathlaw03.IsoTexts'. -/
def isoTextsUptoCard : Claim7 := { stood := { row := isoTextsUptoRow, standIns := [], harness := (true, "cf750bf928728e19d5d5639cb39600c02177f0c5e9bb64609055e6294eccde19"), looks := true }, kinds := [], alts := [], laidByText := true, laidKinds := [.data, .data, .data], laidTests := true, laidLooks := .later }
def IsoTextsUptoCardSaid : Prop := Claim7.holds Tryd.pinned (.plain (OpenSpec.upto isoTextsSpec)) isoTextsUptoCard

/-- THE SECOND FORM's CARD OF 'swathlaw03.IsoMoved'. -/
def isoMovedUptoCard : Claim7 := { stood := { row := isoMovedUptoRow, standIns := [], harness := (true, "cf750bf928728e19d5d5639cb39600c02177f0c5e9bb64609055e6294eccde19"), looks := true }, kinds := [], alts := [], laidByText := true, laidKinds := [.data, .data, .data], laidTests := true, laidLooks := .later }
def IsoMovedUptoCardSaid : Prop := Claim7.holds Tryd.pinned (.plain (OpenSpec.upto isoMovedSpec)) isoMovedUptoCard

/-- THE SECOND FORM's CARD OF 'swathlaw03.IsoSelf'. -/
def isoSelfUptoCard : Claim7 := { stood := { row := isoSelfUptoRow, standIns := [], harness := (true, "cf750bf928728e19d5d5639cb39600c02177f0c5e9bb64609055e6294eccde19"), looks := true }, kinds := [], alts := [], laidByText := true, laidKinds := [.data, .data, .data], laidTests := true, laidLooks := .later }
def IsoSelfUptoCardSaid : Prop := Claim7.holds Tryd.pinned (.plain (OpenSpec.upto isoSelfSpec)) isoSelfUptoCard
end Rows
end Go.Proofs.YtkcacgjbofabfaaDoor
