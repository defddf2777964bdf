/-
  No cell of these rows narrows 'for every input' (looked for: loops, veiled, ifaces, maps, wideKeys, modest, calm, conditions, laid).
  DERIVED. THE GIVEN ROWS OF THIS SEAT. 9 by the template 'for every input the law returns true; each argument reads behind the call as it read before'; 0 by the template 'total and deterministic' (their statements: YtnmpclmkjkfafaaTotals.lean).
  GIVEN WITH THE SEED: the statements are not yours to turn. If you find one false, say at which input.
  Laid BY PROGRAM, IN A SANDBOX (cutbox-rows.mjs): the forced cells as the released guide's own fill.sh prints them over the translation 232665dfbf14bab9… (all of the seat's roots in one cut). By AI agents, Wed Nov 11 2026. No macro, syntax, notation, axiom, sorry.
-/
import Derived.Test.YtnmpclmkjkfafaaChecked
import GoSem.Claim
import GoSem.ClaimJoined
import GoSem.ClaimMapViews
import Derived.JoinedTies
import Derived.KernelRfl
namespace Go.Proofs.Ytnmpclmkjkfafaa
/- THE CELL 'sum', in the pinned program and in every row, IS THE sha256 OF THE DUMP (.gsa) THAT YtnmpclmkjkfafaaProg.lean LOADS. Nothing in Lean hashes anything: it is a label: what it is worth is what the hold of that sum in a sandbox is worth. -/
noncomputable def Try.pinned : Pinned := { name := "ytnmpclmkjkfafaa", sum := "232665dfbf14bab98e959f7bfda63379bfe977ca108b42c5dbb8cae6850c52d5", checked := Try.checked }
namespace Rows
def none {H : Type} : Left H := { results := [], args := [] }

/-- 'swathlaw01.ArithDoes': WHATEVER THE INPUT: true; the input reads as it did. -/
def arithDoesSpec : ChangeSpec := { name := "arithDoes", fn := fun _ => fun
  | [d1, d2, d3] => { results := [.lit (.bool true)], args := [d1, d2, d3] }
  | _ => none }
def arithDoesRow : OpenClaim := { program := "ytnmpclmkjkfafaa", sum := "232665dfbf14bab98e959f7bfda63379bfe977ca108b42c5dbb8cae6850c52d5", func := "swath/swathlaw01.ArithDoes", spec := "arithDoes", unfollowed := true, recurses := true, apart := false }
def ArithDoesSaid : Prop := arithDoesRow.holds Try.pinned (OpenSpec.ofChange arithDoesSpec)

/-- ITS FALSE NEIGHBOUR: 'it returns false'. Refute it at one input. -/
def arithDoesWrong : ChangeSpec := { name := "arithDoes", fn := fun _ => fun
  | [d1, d2, d3] => { results := [.lit (.bool false)], args := [d1, d2, d3] }
  | _ => none }
def ArithDoesWrongFalsely : Prop := arithDoesRow.holds Try.pinned (OpenSpec.ofChange arithDoesWrong)

/-- 'swathlaw01.ArithNames': WHATEVER THE INPUT: true; the input reads as it did. -/
def arithNamesSpec : ChangeSpec := { name := "arithNames", fn := fun _ => fun
  | [d] => { results := [.lit (.bool true)], args := [d] }
  | _ => none }
def arithNamesRow : OpenClaim := { program := "ytnmpclmkjkfafaa", sum := "232665dfbf14bab98e959f7bfda63379bfe977ca108b42c5dbb8cae6850c52d5", func := "swath/swathlaw01.ArithNames", spec := "arithNames", unfollowed := true, recurses := true, apart := false }
def ArithNamesSaid : Prop := arithNamesRow.holds Try.pinned (OpenSpec.ofChange arithNamesSpec)

/-- ITS FALSE NEIGHBOUR: 'it returns false'. Refute it at one input. -/
def arithNamesWrong : ChangeSpec := { name := "arithNames", fn := fun _ => fun
  | [d] => { results := [.lit (.bool false)], args := [d] }
  | _ => none }
def ArithNamesWrongFalsely : Prop := arithNamesRow.holds Try.pinned (OpenSpec.ofChange arithNamesWrong)

/-- 'swathlaw01.ArithHeld': WHATEVER THE INPUT: true; the input reads as it did. -/
def arithHeldSpec : ChangeSpec := { name := "arithHeld", fn := fun _ => fun
  | [d1, d2, d3, d4, d5] => { results := [.lit (.bool true)], args := [d1, d2, d3, d4, d5] }
  | _ => none }
def arithHeldRow : OpenClaim := { program := "ytnmpclmkjkfafaa", sum := "232665dfbf14bab98e959f7bfda63379bfe977ca108b42c5dbb8cae6850c52d5", func := "swath/swathlaw01.ArithHeld", spec := "arithHeld", unfollowed := true, recurses := true, apart := false }
def ArithHeldSaid : Prop := arithHeldRow.holds Try.pinned (OpenSpec.ofChange arithHeldSpec)

/-- ITS FALSE NEIGHBOUR: 'it returns false'. Refute it at one input. -/
def arithHeldWrong : ChangeSpec := { name := "arithHeld", fn := fun _ => fun
  | [d1, d2, d3, d4, d5] => { results := [.lit (.bool false)], args := [d1, d2, d3, d4, d5] }
  | _ => none }
def ArithHeldWrongFalsely : Prop := arithHeldRow.holds Try.pinned (OpenSpec.ofChange arithHeldWrong)

/-- 'swathlaw01.ArithRing': WHATEVER THE INPUT: true; the input reads as it did. -/
def arithRingSpec : ChangeSpec := { name := "arithRing", fn := fun _ => fun
  | [d1, d2, d3] => { results := [.lit (.bool true)], args := [d1, d2, d3] }
  | _ => none }
def arithRingRow : OpenClaim := { program := "ytnmpclmkjkfafaa", sum := "232665dfbf14bab98e959f7bfda63379bfe977ca108b42c5dbb8cae6850c52d5", func := "swath/swathlaw01.ArithRing", spec := "arithRing", unfollowed := true, recurses := true, apart := false }
def ArithRingSaid : Prop := arithRingRow.holds Try.pinned (OpenSpec.ofChange arithRingSpec)

/-- ITS FALSE NEIGHBOUR: 'it returns false'. Refute it at one input. -/
def arithRingWrong : ChangeSpec := { name := "arithRing", fn := fun _ => fun
  | [d1, d2, d3] => { results := [.lit (.bool false)], args := [d1, d2, d3] }
  | _ => none }
def ArithRingWrongFalsely : Prop := arithRingRow.holds Try.pinned (OpenSpec.ofChange arithRingWrong)

/-- 'swathlaw01.ArithDivides': WHATEVER THE INPUT: true; the input reads as it did. -/
def arithDividesSpec : ChangeSpec := { name := "arithDivides", fn := fun _ => fun
  | [d1, d2] => { results := [.lit (.bool true)], args := [d1, d2] }
  | _ => none }
def arithDividesRow : OpenClaim := { program := "ytnmpclmkjkfafaa", sum := "232665dfbf14bab98e959f7bfda63379bfe977ca108b42c5dbb8cae6850c52d5", func := "swath/swathlaw01.ArithDivides", spec := "arithDivides", unfollowed := true, recurses := true, apart := false }
def ArithDividesSaid : Prop := arithDividesRow.holds Try.pinned (OpenSpec.ofChange arithDividesSpec)

/-- ITS FALSE NEIGHBOUR: 'it returns false'. Refute it at one input. -/
def arithDividesWrong : ChangeSpec := { name := "arithDivides", fn := fun _ => fun
  | [d1, d2] => { results := [.lit (.bool false)], args := [d1, d2] }
  | _ => none }
def ArithDividesWrongFalsely : Prop := arithDividesRow.holds Try.pinned (OpenSpec.ofChange arithDividesWrong)

/-- 'swathlaw01.ArithBits': WHATEVER THE INPUT: true; the input reads as it did. -/
def arithBitsSpec : ChangeSpec := { name := "arithBits", fn := fun _ => fun
  | [d1, d2] => { results := [.lit (.bool true)], args := [d1, d2] }
  | _ => none }
def arithBitsRow : OpenClaim := { program := "ytnmpclmkjkfafaa", sum := "232665dfbf14bab98e959f7bfda63379bfe977ca108b42c5dbb8cae6850c52d5", func := "swath/swathlaw01.ArithBits", spec := "arithBits", unfollowed := true, recurses := true, apart := false }
def ArithBitsSaid : Prop := arithBitsRow.holds Try.pinned (OpenSpec.ofChange arithBitsSpec)

/-- ITS FALSE NEIGHBOUR: 'it returns false'. Refute it at one input. -/
def arithBitsWrong : ChangeSpec := { name := "arithBits", fn := fun _ => fun
  | [d1, d2] => { results := [.lit (.bool false)], args := [d1, d2] }
  | _ => none }
def ArithBitsWrongFalsely : Prop := arithBitsRow.holds Try.pinned (OpenSpec.ofChange arithBitsWrong)

/-- 'swathlaw01.ArithOrder': WHATEVER THE INPUT: true; the input reads as it did. -/
def arithOrderSpec : ChangeSpec := { name := "arithOrder", fn := fun _ => fun
  | [d1, d2, d3] => { results := [.lit (.bool true)], args := [d1, d2, d3] }
  | _ => none }
def arithOrderRow : OpenClaim := { program := "ytnmpclmkjkfafaa", sum := "232665dfbf14bab98e959f7bfda63379bfe977ca108b42c5dbb8cae6850c52d5", func := "swath/swathlaw01.ArithOrder", spec := "arithOrder", unfollowed := true, recurses := true, apart := false }
def ArithOrderSaid : Prop := arithOrderRow.holds Try.pinned (OpenSpec.ofChange arithOrderSpec)

/-- ITS FALSE NEIGHBOUR: 'it returns false'. Refute it at one input. -/
def arithOrderWrong : ChangeSpec := { name := "arithOrder", fn := fun _ => fun
  | [d1, d2, d3] => { results := [.lit (.bool false)], args := [d1, d2, d3] }
  | _ => none }
def ArithOrderWrongFalsely : Prop := arithOrderRow.holds Try.pinned (OpenSpec.ofChange arithOrderWrong)

/-- 'swathlaw01.ArithWider': WHATEVER THE INPUT: true; the input reads as it did. -/
def arithWiderSpec : ChangeSpec := { name := "arithWider", fn := fun _ => fun
  | [d1, d2, d3, d4, d5] => { results := [.lit (.bool true)], args := [d1, d2, d3, d4, d5] }
  | _ => none }
def arithWiderRow : OpenClaim := { program := "ytnmpclmkjkfafaa", sum := "232665dfbf14bab98e959f7bfda63379bfe977ca108b42c5dbb8cae6850c52d5", func := "swath/swathlaw01.ArithWider", spec := "arithWider", unfollowed := true, recurses := true, apart := false }
def ArithWiderSaid : Prop := arithWiderRow.holds Try.pinned (OpenSpec.ofChange arithWiderSpec)

/-- ITS FALSE NEIGHBOUR: 'it returns false'. Refute it at one input. -/
def arithWiderWrong : ChangeSpec := { name := "arithWider", fn := fun _ => fun
  | [d1, d2, d3, d4, d5] => { results := [.lit (.bool false)], args := [d1, d2, d3, d4, d5] }
  | _ => none }
def ArithWiderWrongFalsely : Prop := arithWiderRow.holds Try.pinned (OpenSpec.ofChange arithWiderWrong)

/-- 'swathlaw01.ArithMeets': WHATEVER THE INPUT: true; the input reads as it did. -/
def arithMeetsSpec : ChangeSpec := { name := "arithMeets", fn := fun _ => fun
  | [d1, d2, d3] => { results := [.lit (.bool true)], args := [d1, d2, d3] }
  | _ => none }
def arithMeetsRow : OpenClaim := { program := "ytnmpclmkjkfafaa", sum := "232665dfbf14bab98e959f7bfda63379bfe977ca108b42c5dbb8cae6850c52d5", func := "swath/swathlaw01.ArithMeets", spec := "arithMeets", unfollowed := true, recurses := true, apart := false }
def ArithMeetsSaid : Prop := arithMeetsRow.holds Try.pinned (OpenSpec.ofChange arithMeetsSpec)

/-- ITS FALSE NEIGHBOUR: 'it returns false'. Refute it at one input. -/
def arithMeetsWrong : ChangeSpec := { name := "arithMeets", fn := fun _ => fun
  | [d1, d2, d3] => { results := [.lit (.bool false)], args := [d1, d2, d3] }
  | _ => none }
def ArithMeetsWrongFalsely : Prop := arithMeetsRow.holds Try.pinned (OpenSpec.ofChange arithMeetsWrong)

/- THE SECOND FORM. 'bulk': how many values and letters a reading holds, each counted each time it is reached (what is shared counts as often as it is met; a slice's spare places count too). A statement '..UptoSaid' is the law's where the arguments, and the package variables that the reading takes, are together of bulk at most 1048576: NARROWER than '..Said'. Prove '..Said' where nothing that the law and all that it calls make is longer than what came in: it says more and counts as full. Else prove '..UptoSaid'. A law counts once. -/
mutual
def uptoBulk {H : Type} : DataW H → Nat
  | .lit (.string bytes) => bytes.length + 1
  | .lit _ => 1
  | .nil => 1
  | .ptr d => uptoBulk d + 1
  | .slice elems spare => uptoBulkAll elems + uptoBulkAll spare + 1
  | .agg parts => uptoBulkAll parts + 1
  | .iface _ d => uptoBulk d + 1
  | .map entries => uptoBulkEntries entries + 1
  | .held _ => 1
def uptoBulkAll {H : Type} : List (DataW H) → Nat
  | [] => 0
  | d :: r => uptoBulk d + uptoBulkAll r
def uptoBulkEntries {H : Type} : List (Lit × DataW H) → Nat
  | [] => 0
  | x :: r => uptoBulkEntry x + uptoBulkEntries r
def uptoBulkEntry {H : Type} : Lit × DataW H → Nat
  | (.string bytes, d) => bytes.length + uptoBulk d + 1
  | (_, d) => uptoBulk d + 1
 end
def uptoSmall : (H : Type) → List (DataW H) → Bool := fun _ ds => decide (uptoBulkAll ds ≤ 1048576)
def OpenSpec.upto (s : _root_.Go.ChangeSpec) : _root_.Go.OpenSpec := { _root_.Go.OpenSpec.ofChange s with cond := some uptoSmall }

/-- 'swathlaw01.ArithDoes', WHERE WHAT IT READS IS OF BULK AT MOST 1048576: true; the input reads as it did. -/
def arithDoesUptoRow : OpenClaim := { program := "ytnmpclmkjkfafaa", sum := "232665dfbf14bab98e959f7bfda63379bfe977ca108b42c5dbb8cae6850c52d5", func := "swath/swathlaw01.ArithDoes", spec := "arithDoes", unfollowed := true, recurses := true, apart := false, narrowed := true }
def ArithDoesUptoSaid : Prop := arithDoesUptoRow.holds Try.pinned (OpenSpec.upto arithDoesSpec)

/-- 'swathlaw01.ArithNames', WHERE WHAT IT READS IS OF BULK AT MOST 1048576: true; the input reads as it did. -/
def arithNamesUptoRow : OpenClaim := { program := "ytnmpclmkjkfafaa", sum := "232665dfbf14bab98e959f7bfda63379bfe977ca108b42c5dbb8cae6850c52d5", func := "swath/swathlaw01.ArithNames", spec := "arithNames", unfollowed := true, recurses := true, apart := false, narrowed := true }
def ArithNamesUptoSaid : Prop := arithNamesUptoRow.holds Try.pinned (OpenSpec.upto arithNamesSpec)

/-- 'swathlaw01.ArithHeld', WHERE WHAT IT READS IS OF BULK AT MOST 1048576: true; the input reads as it did. -/
def arithHeldUptoRow : OpenClaim := { program := "ytnmpclmkjkfafaa", sum := "232665dfbf14bab98e959f7bfda63379bfe977ca108b42c5dbb8cae6850c52d5", func := "swath/swathlaw01.ArithHeld", spec := "arithHeld", unfollowed := true, recurses := true, apart := false, narrowed := true }
def ArithHeldUptoSaid : Prop := arithHeldUptoRow.holds Try.pinned (OpenSpec.upto arithHeldSpec)

/-- 'swathlaw01.ArithRing', WHERE WHAT IT READS IS OF BULK AT MOST 1048576: true; the input reads as it did. -/
def arithRingUptoRow : OpenClaim := { program := "ytnmpclmkjkfafaa", sum := "232665dfbf14bab98e959f7bfda63379bfe977ca108b42c5dbb8cae6850c52d5", func := "swath/swathlaw01.ArithRing", spec := "arithRing", unfollowed := true, recurses := true, apart := false, narrowed := true }
def ArithRingUptoSaid : Prop := arithRingUptoRow.holds Try.pinned (OpenSpec.upto arithRingSpec)

/-- 'swathlaw01.ArithDivides', WHERE WHAT IT READS IS OF BULK AT MOST 1048576: true; the input reads as it did. -/
def arithDividesUptoRow : OpenClaim := { program := "ytnmpclmkjkfafaa", sum := "232665dfbf14bab98e959f7bfda63379bfe977ca108b42c5dbb8cae6850c52d5", func := "swath/swathlaw01.ArithDivides", spec := "arithDivides", unfollowed := true, recurses := true, apart := false, narrowed := true }
def ArithDividesUptoSaid : Prop := arithDividesUptoRow.holds Try.pinned (OpenSpec.upto arithDividesSpec)

/-- 'swathlaw01.ArithBits', WHERE WHAT IT READS IS OF BULK AT MOST 1048576: true; the input reads as it did. -/
def arithBitsUptoRow : OpenClaim := { program := "ytnmpclmkjkfafaa", sum := "232665dfbf14bab98e959f7bfda63379bfe977ca108b42c5dbb8cae6850c52d5", func := "swath/swathlaw01.ArithBits", spec := "arithBits", unfollowed := true, recurses := true, apart := false, narrowed := true }
def ArithBitsUptoSaid : Prop := arithBitsUptoRow.holds Try.pinned (OpenSpec.upto arithBitsSpec)

/-- 'swathlaw01.ArithOrder', WHERE WHAT IT READS IS OF BULK AT MOST 1048576: true; the input reads as it did. -/
def arithOrderUptoRow : OpenClaim := { program := "ytnmpclmkjkfafaa", sum := "232665dfbf14bab98e959f7bfda63379bfe977ca108b42c5dbb8cae6850c52d5", func := "swath/swathlaw01.ArithOrder", spec := "arithOrder", unfollowed := true, recurses := true, apart := false, narrowed := true }
def ArithOrderUptoSaid : Prop := arithOrderUptoRow.holds Try.pinned (OpenSpec.upto arithOrderSpec)

/-- 'swathlaw01.ArithWider', WHERE WHAT IT READS IS OF BULK AT MOST 1048576: true; the input reads as it did. -/
def arithWiderUptoRow : OpenClaim := { program := "ytnmpclmkjkfafaa", sum := "232665dfbf14bab98e959f7bfda63379bfe977ca108b42c5dbb8cae6850c52d5", func := "swath/swathlaw01.ArithWider", spec := "arithWider", unfollowed := true, recurses := true, apart := false, narrowed := true }
def ArithWiderUptoSaid : Prop := arithWiderUptoRow.holds Try.pinned (OpenSpec.upto arithWiderSpec)

/-- 'swathlaw01.ArithMeets', WHERE WHAT IT READS IS OF BULK AT MOST 1048576: true; the input reads as it did. -/
def arithMeetsUptoRow : OpenClaim := { program := "ytnmpclmkjkfafaa", sum := "232665dfbf14bab98e959f7bfda63379bfe977ca108b42c5dbb8cae6850c52d5", func := "swath/swathlaw01.ArithMeets", spec := "arithMeets", unfollowed := true, recurses := true, apart := false, narrowed := true }
def ArithMeetsUptoSaid : Prop := arithMeetsUptoRow.holds Try.pinned (OpenSpec.upto arithMeetsSpec)

end Rows
end Go.Proofs.Ytnmpclmkjkfafaa
