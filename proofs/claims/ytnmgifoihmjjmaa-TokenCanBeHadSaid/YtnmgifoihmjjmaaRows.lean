/-
  No cell of these rows narrows 'for every input' (looked for: loops, veiled, ifaces, maps, wideKeys, modest, calm, conditions, laid).
  DERIVED. THE GIVEN ROWS OF THIS SEAT. 5 by the template 'for every input the law returns true; each argument reads behind the call as it read before'; 0 by the template 'total and deterministic' (their statements: YtnmgifoihmjjmaaTotals.lean).
  GIVEN WITH THE SEED: the statements are not yours to turn. If you find one false, say at which input.
  Laid BY PROGRAM, IN A SANDBOX (cutbox-rows.mjs): the forced cells as the released guide's own fill.sh prints them over the translation a3a693ece4143ac8… (all of the seat's roots in one cut). By AI agents, Wed Nov 11 2026. No macro, syntax, notation, axiom, sorry.
-/
import Derived.Test.YtnmgifoihmjjmaaChecked
import GoSem.Claim
import GoSem.ClaimJoined
import GoSem.ClaimMapViews
import Derived.JoinedTies
import Derived.KernelRfl
namespace Go.Proofs.Ytnmgifoihmjjmaa
/- THE CELL 'sum', in the pinned program and in every row, IS THE sha256 OF THE DUMP (.gsa) THAT YtnmgifoihmjjmaaProg.lean LOADS. Nothing in Lean hashes anything: it is a label: what it is worth is what the hold of that sum in a sandbox is worth. -/
noncomputable def Try.pinned : Pinned := { name := "ytnmgifoihmjjmaa", sum := "a3a693ece4143ac855c0bd01adad4dfedfd6b9decbc0ac7cd05a8e0b1bafa866", checked := Try.checked }
namespace Rows
def none {H : Type} : Left H := { results := [], args := [] }

/-- 'simulacrumlaw37.TokenIsHeldByOne': WHATEVER THE INPUT: true; the input reads as it did. -/
def tokenIsHeldByOneSpec : ChangeSpec := { name := "tokenIsHeldByOne", fn := fun _ => fun
  | [d1, d2, d3] => { results := [.lit (.bool true)], args := [d1, d2, d3] }
  | _ => none }
def tokenIsHeldByOneRow : OpenClaim := { program := "ytnmgifoihmjjmaa", sum := "a3a693ece4143ac855c0bd01adad4dfedfd6b9decbc0ac7cd05a8e0b1bafa866", func := "simulacrum/simulacrumlaw37.TokenIsHeldByOne", spec := "tokenIsHeldByOne", unfollowed := true, recurses := true, plainKeys := false, apart := false }
def TokenIsHeldByOneSaid : Prop := tokenIsHeldByOneRow.holds Try.pinned (OpenSpec.ofChange tokenIsHeldByOneSpec)

/-- ITS FALSE NEIGHBOUR: 'it returns false'. Refute it at one input. -/
def tokenIsHeldByOneWrong : ChangeSpec := { name := "tokenIsHeldByOne", fn := fun _ => fun
  | [d1, d2, d3] => { results := [.lit (.bool false)], args := [d1, d2, d3] }
  | _ => none }
def TokenIsHeldByOneWrongFalsely : Prop := tokenIsHeldByOneRow.holds Try.pinned (OpenSpec.ofChange tokenIsHeldByOneWrong)

/-- 'simulacrumlaw37.TokenCanBeHad': WHATEVER THE INPUT: true; the input reads as it did. -/
def tokenCanBeHadSpec : ChangeSpec := { name := "tokenCanBeHad", fn := fun _ => fun
  | [d1, d2, d3, d4] => { results := [.lit (.bool true)], args := [d1, d2, d3, d4] }
  | _ => none }
def tokenCanBeHadRow : OpenClaim := { program := "ytnmgifoihmjjmaa", sum := "a3a693ece4143ac855c0bd01adad4dfedfd6b9decbc0ac7cd05a8e0b1bafa866", func := "simulacrum/simulacrumlaw37.TokenCanBeHad", spec := "tokenCanBeHad", unfollowed := true, recurses := true, plainKeys := false, apart := false }
def TokenCanBeHadSaid : Prop := tokenCanBeHadRow.holds Try.pinned (OpenSpec.ofChange tokenCanBeHadSpec)

/-- ITS FALSE NEIGHBOUR: 'it returns false'. Refute it at one input. -/
def tokenCanBeHadWrong : ChangeSpec := { name := "tokenCanBeHad", fn := fun _ => fun
  | [d1, d2, d3, d4] => { results := [.lit (.bool false)], args := [d1, d2, d3, d4] }
  | _ => none }
def TokenCanBeHadWrongFalsely : Prop := tokenCanBeHadRow.holds Try.pinned (OpenSpec.ofChange tokenCanBeHadWrong)

/-- 'simulacrumlaw37.TokenNeverGoesBack': WHATEVER THE INPUT: true; the input reads as it did. -/
def tokenNeverGoesBackSpec : ChangeSpec := { name := "tokenNeverGoesBack", fn := fun _ => fun
  | [d1, d2] => { results := [.lit (.bool true)], args := [d1, d2] }
  | _ => none }
def tokenNeverGoesBackRow : OpenClaim := { program := "ytnmgifoihmjjmaa", sum := "a3a693ece4143ac855c0bd01adad4dfedfd6b9decbc0ac7cd05a8e0b1bafa866", func := "simulacrum/simulacrumlaw37.TokenNeverGoesBack", spec := "tokenNeverGoesBack", unfollowed := true, recurses := true, plainKeys := false, apart := false }
def TokenNeverGoesBackSaid : Prop := tokenNeverGoesBackRow.holds Try.pinned (OpenSpec.ofChange tokenNeverGoesBackSpec)

/-- ITS FALSE NEIGHBOUR: 'it returns false'. Refute it at one input. -/
def tokenNeverGoesBackWrong : ChangeSpec := { name := "tokenNeverGoesBack", fn := fun _ => fun
  | [d1, d2] => { results := [.lit (.bool false)], args := [d1, d2] }
  | _ => none }
def TokenNeverGoesBackWrongFalsely : Prop := tokenNeverGoesBackRow.holds Try.pinned (OpenSpec.ofChange tokenNeverGoesBackWrong)

/-- 'simulacrumlaw37.TokenHoldsAsSpecified': WHATEVER THE INPUT: true; the input reads as it did. -/
def tokenHoldsAsSpecifiedSpec : ChangeSpec := { name := "tokenHoldsAsSpecified", fn := fun _ => fun
  | [d1, d2, d3] => { results := [.lit (.bool true)], args := [d1, d2, d3] }
  | _ => none }
def tokenHoldsAsSpecifiedRow : OpenClaim := { program := "ytnmgifoihmjjmaa", sum := "a3a693ece4143ac855c0bd01adad4dfedfd6b9decbc0ac7cd05a8e0b1bafa866", func := "simulacrum/simulacrumlaw37.TokenHoldsAsSpecified", spec := "tokenHoldsAsSpecified", unfollowed := true, recurses := true, plainKeys := false, apart := false }
def TokenHoldsAsSpecifiedSaid : Prop := tokenHoldsAsSpecifiedRow.holds Try.pinned (OpenSpec.ofChange tokenHoldsAsSpecifiedSpec)

/-- ITS FALSE NEIGHBOUR: 'it returns false'. Refute it at one input. -/
def tokenHoldsAsSpecifiedWrong : ChangeSpec := { name := "tokenHoldsAsSpecified", fn := fun _ => fun
  | [d1, d2, d3] => { results := [.lit (.bool false)], args := [d1, d2, d3] }
  | _ => none }
def TokenHoldsAsSpecifiedWrongFalsely : Prop := tokenHoldsAsSpecifiedRow.holds Try.pinned (OpenSpec.ofChange tokenHoldsAsSpecifiedWrong)

/-- 'simulacrumlaw37.TokenHearsAsSpecified': WHATEVER THE INPUT: true; the input reads as it did. -/
def tokenHearsAsSpecifiedSpec : ChangeSpec := { name := "tokenHearsAsSpecified", fn := fun _ => fun
  | [d1, d2] => { results := [.lit (.bool true)], args := [d1, d2] }
  | _ => none }
def tokenHearsAsSpecifiedRow : OpenClaim := { program := "ytnmgifoihmjjmaa", sum := "a3a693ece4143ac855c0bd01adad4dfedfd6b9decbc0ac7cd05a8e0b1bafa866", func := "simulacrum/simulacrumlaw37.TokenHearsAsSpecified", spec := "tokenHearsAsSpecified", unfollowed := true, recurses := true, plainKeys := false, apart := false }
def TokenHearsAsSpecifiedSaid : Prop := tokenHearsAsSpecifiedRow.holds Try.pinned (OpenSpec.ofChange tokenHearsAsSpecifiedSpec)

/-- ITS FALSE NEIGHBOUR: 'it returns false'. Refute it at one input. -/
def tokenHearsAsSpecifiedWrong : ChangeSpec := { name := "tokenHearsAsSpecified", fn := fun _ => fun
  | [d1, d2] => { results := [.lit (.bool false)], args := [d1, d2] }
  | _ => none }
def TokenHearsAsSpecifiedWrongFalsely : Prop := tokenHearsAsSpecifiedRow.holds Try.pinned (OpenSpec.ofChange tokenHearsAsSpecifiedWrong)

/- THE SECOND FORM. 'bulk': how many values and letters a reading holds, each counted each time it is reached (what is shared counts as often as it is met; a slice's spare places count too). A statement '..UptoSaid' is the law's where the arguments, and the package variables that the reading takes, are together of bulk at most 1048576: NARROWER than '..Said'. Prove '..Said' where nothing that the law and all that it calls make is longer than what came in: it says more and counts as full. Else prove '..UptoSaid'. A law counts once. -/
mutual
def uptoBulk {H : Type} : DataW H → Nat
  | .lit (.string bytes) => bytes.length + 1
  | .lit _ => 1
  | .nil => 1
  | .ptr d => uptoBulk d + 1
  | .slice elems spare => uptoBulkAll elems + uptoBulkAll spare + 1
  | .agg parts => uptoBulkAll parts + 1
  | .iface _ d => uptoBulk d + 1
  | .map entries => uptoBulkEntries entries + 1
  | .held _ => 1
def uptoBulkAll {H : Type} : List (DataW H) → Nat
  | [] => 0
  | d :: r => uptoBulk d + uptoBulkAll r
def uptoBulkEntries {H : Type} : List (Lit × DataW H) → Nat
  | [] => 0
  | x :: r => uptoBulkEntry x + uptoBulkEntries r
def uptoBulkEntry {H : Type} : Lit × DataW H → Nat
  | (.string bytes, d) => bytes.length + uptoBulk d + 1
  | (_, d) => uptoBulk d + 1
 end
def uptoSmall : (H : Type) → List (DataW H) → Bool := fun _ ds => decide (uptoBulkAll ds ≤ 1048576)
def OpenSpec.upto (s : _root_.Go.ChangeSpec) : _root_.Go.OpenSpec := { _root_.Go.OpenSpec.ofChange s with cond := some uptoSmall }

/-- 'simulacrumlaw37.TokenIsHeldByOne', WHERE WHAT IT READS IS OF BULK AT MOST 1048576: true; the input reads as it did. -/
def tokenIsHeldByOneUptoRow : OpenClaim := { program := "ytnmgifoihmjjmaa", sum := "a3a693ece4143ac855c0bd01adad4dfedfd6b9decbc0ac7cd05a8e0b1bafa866", func := "simulacrum/simulacrumlaw37.TokenIsHeldByOne", spec := "tokenIsHeldByOne", unfollowed := true, recurses := true, plainKeys := false, apart := false, narrowed := true }
def TokenIsHeldByOneUptoSaid : Prop := tokenIsHeldByOneUptoRow.holds Try.pinned (OpenSpec.upto tokenIsHeldByOneSpec)

/-- 'simulacrumlaw37.TokenCanBeHad', WHERE WHAT IT READS IS OF BULK AT MOST 1048576: true; the input reads as it did. -/
def tokenCanBeHadUptoRow : OpenClaim := { program := "ytnmgifoihmjjmaa", sum := "a3a693ece4143ac855c0bd01adad4dfedfd6b9decbc0ac7cd05a8e0b1bafa866", func := "simulacrum/simulacrumlaw37.TokenCanBeHad", spec := "tokenCanBeHad", unfollowed := true, recurses := true, plainKeys := false, apart := false, narrowed := true }
def TokenCanBeHadUptoSaid : Prop := tokenCanBeHadUptoRow.holds Try.pinned (OpenSpec.upto tokenCanBeHadSpec)

/-- 'simulacrumlaw37.TokenNeverGoesBack', WHERE WHAT IT READS IS OF BULK AT MOST 1048576: true; the input reads as it did. -/
def tokenNeverGoesBackUptoRow : OpenClaim := { program := "ytnmgifoihmjjmaa", sum := "a3a693ece4143ac855c0bd01adad4dfedfd6b9decbc0ac7cd05a8e0b1bafa866", func := "simulacrum/simulacrumlaw37.TokenNeverGoesBack", spec := "tokenNeverGoesBack", unfollowed := true, recurses := true, plainKeys := false, apart := false, narrowed := true }
def TokenNeverGoesBackUptoSaid : Prop := tokenNeverGoesBackUptoRow.holds Try.pinned (OpenSpec.upto tokenNeverGoesBackSpec)

/-- 'simulacrumlaw37.TokenHoldsAsSpecified', WHERE WHAT IT READS IS OF BULK AT MOST 1048576: true; the input reads as it did. -/
def tokenHoldsAsSpecifiedUptoRow : OpenClaim := { program := "ytnmgifoihmjjmaa", sum := "a3a693ece4143ac855c0bd01adad4dfedfd6b9decbc0ac7cd05a8e0b1bafa866", func := "simulacrum/simulacrumlaw37.TokenHoldsAsSpecified", spec := "tokenHoldsAsSpecified", unfollowed := true, recurses := true, plainKeys := false, apart := false, narrowed := true }
def TokenHoldsAsSpecifiedUptoSaid : Prop := tokenHoldsAsSpecifiedUptoRow.holds Try.pinned (OpenSpec.upto tokenHoldsAsSpecifiedSpec)

/-- 'simulacrumlaw37.TokenHearsAsSpecified', WHERE WHAT IT READS IS OF BULK AT MOST 1048576: true; the input reads as it did. -/
def tokenHearsAsSpecifiedUptoRow : OpenClaim := { program := "ytnmgifoihmjjmaa", sum := "a3a693ece4143ac855c0bd01adad4dfedfd6b9decbc0ac7cd05a8e0b1bafa866", func := "simulacrum/simulacrumlaw37.TokenHearsAsSpecified", spec := "tokenHearsAsSpecified", unfollowed := true, recurses := true, plainKeys := false, apart := false, narrowed := true }
def TokenHearsAsSpecifiedUptoSaid : Prop := tokenHearsAsSpecifiedUptoRow.holds Try.pinned (OpenSpec.upto tokenHearsAsSpecifiedSpec)

end Rows
end Go.Proofs.Ytnmgifoihmjjmaa
