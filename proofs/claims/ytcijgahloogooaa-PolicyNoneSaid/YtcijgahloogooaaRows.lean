/-
  No cell of these rows narrows 'for every input' (looked for: loops, veiled, ifaces, maps, wideKeys, modest, calm, conditions, laid).
  DERIVED. THE GIVEN ROWS OF THIS SEAT. 11 by the template 'for every input the law returns true; each argument reads behind the call as it read before'; 0 by the template 'total and deterministic' (their statements: YtcijgahloogooaaTotals.lean).
  GIVEN WITH THE SEED: the statements are not yours to turn. If you find one false, say at which input.
  Laid BY PROGRAM, IN A SANDBOX (cutbox-rows.mjs): the forced cells as the released guide's own fill.sh prints them over the translation 2f3bddcf5190aefe… (all of the seat's roots in one cut). By AI agents, Wed Nov 11 2026. No macro, syntax, notation, axiom, sorry.
-/
import Derived.Test.YtcijgahloogooaaChecked
import GoSem.Claim
import GoSem.ClaimJoined
import GoSem.ClaimMapViews
import Derived.JoinedTies
import Derived.KernelRfl
namespace Go.Proofs.Ytcijgahloogooaa
/- THE CELL 'sum', in the pinned program and in every row, IS THE sha256 OF THE DUMP (.gsa) THAT YtcijgahloogooaaProg.lean LOADS. Nothing in Lean hashes anything: it is a label: what it is worth is what the hold of that sum in a sandbox is worth. -/
noncomputable def Try.pinned : Pinned := { name := "ytcijgahloogooaa", sum := "2f3bddcf5190aefee4c64367fc24cd1ccb1787dc5df7d9ad5b3fe156505f1175", checked := Try.checked }
namespace Rows
def none {H : Type} : Left H := { results := [], args := [] }

/-- 'signpostlaw13.PolicyFirst': WHATEVER THE INPUT: true; the input reads as it did. -/
def policyFirstSpec : ChangeSpec := { name := "policyFirst", fn := fun _ => fun
  | [d1, d2, d3, d4, d5] => { results := [.lit (.bool true)], args := [d1, d2, d3, d4, d5] }
  | _ => none }
def policyFirstRow : OpenClaim := { program := "ytcijgahloogooaa", sum := "2f3bddcf5190aefee4c64367fc24cd1ccb1787dc5df7d9ad5b3fe156505f1175", func := "signpost/signpostlaw13.PolicyFirst", spec := "policyFirst", inPlace := ["slices.overlaps[uint32]", "slices.overlaps[signpost/api.Seg]"], unfollowed := true, recurses := true, apart := false }
def PolicyFirstSaid : Prop := policyFirstRow.holds Try.pinned (OpenSpec.ofChange policyFirstSpec)

/-- ITS FALSE NEIGHBOUR: 'it returns false'. Refute it at one input. -/
def policyFirstWrong : ChangeSpec := { name := "policyFirst", fn := fun _ => fun
  | [d1, d2, d3, d4, d5] => { results := [.lit (.bool false)], args := [d1, d2, d3, d4, d5] }
  | _ => none }
def PolicyFirstWrongFalsely : Prop := policyFirstRow.holds Try.pinned (OpenSpec.ofChange policyFirstWrong)

/-- 'signpostlaw13.PolicyNone': WHATEVER THE INPUT: true; the input reads as it did. -/
def policyNoneSpec : ChangeSpec := { name := "policyNone", fn := fun _ => fun
  | [d1, d2, d3, d4] => { results := [.lit (.bool true)], args := [d1, d2, d3, d4] }
  | _ => none }
def policyNoneRow : OpenClaim := { program := "ytcijgahloogooaa", sum := "2f3bddcf5190aefee4c64367fc24cd1ccb1787dc5df7d9ad5b3fe156505f1175", func := "signpost/signpostlaw13.PolicyNone", spec := "policyNone", inPlace := ["slices.overlaps[uint32]", "slices.overlaps[signpost/api.Seg]"], unfollowed := true, recurses := true, apart := false }
def PolicyNoneSaid : Prop := policyNoneRow.holds Try.pinned (OpenSpec.ofChange policyNoneSpec)

/-- ITS FALSE NEIGHBOUR: 'it returns false'. Refute it at one input. -/
def policyNoneWrong : ChangeSpec := { name := "policyNone", fn := fun _ => fun
  | [d1, d2, d3, d4] => { results := [.lit (.bool false)], args := [d1, d2, d3, d4] }
  | _ => none }
def PolicyNoneWrongFalsely : Prop := policyNoneRow.holds Try.pinned (OpenSpec.ofChange policyNoneWrong)

/-- 'signpostlaw13.PolicyParts': WHATEVER THE INPUT: true; the input reads as it did. -/
def policyPartsSpec : ChangeSpec := { name := "policyParts", fn := fun _ => fun
  | [d1, d2, d3, d4, d5] => { results := [.lit (.bool true)], args := [d1, d2, d3, d4, d5] }
  | _ => none }
def policyPartsRow : OpenClaim := { program := "ytcijgahloogooaa", sum := "2f3bddcf5190aefee4c64367fc24cd1ccb1787dc5df7d9ad5b3fe156505f1175", func := "signpost/signpostlaw13.PolicyParts", spec := "policyParts", inPlace := ["slices.overlaps[uint32]", "slices.overlaps[signpost/api.Seg]"], unfollowed := true, recurses := true, apart := false }
def PolicyPartsSaid : Prop := policyPartsRow.holds Try.pinned (OpenSpec.ofChange policyPartsSpec)

/-- ITS FALSE NEIGHBOUR: 'it returns false'. Refute it at one input. -/
def policyPartsWrong : ChangeSpec := { name := "policyParts", fn := fun _ => fun
  | [d1, d2, d3, d4, d5] => { results := [.lit (.bool false)], args := [d1, d2, d3, d4, d5] }
  | _ => none }
def PolicyPartsWrongFalsely : Prop := policyPartsRow.holds Try.pinned (OpenSpec.ofChange policyPartsWrong)

/-- 'signpostlaw13.PolicyNumbers': WHATEVER THE INPUT: true; the input reads as it did. -/
def policyNumbersSpec : ChangeSpec := { name := "policyNumbers", fn := fun _ => fun
  | [] => { results := [.lit (.bool true)], args := [] }
  | _ => none }
def policyNumbersRow : OpenClaim := { program := "ytcijgahloogooaa", sum := "2f3bddcf5190aefee4c64367fc24cd1ccb1787dc5df7d9ad5b3fe156505f1175", func := "signpost/signpostlaw13.PolicyNumbers", spec := "policyNumbers", inPlace := ["slices.overlaps[uint32]", "slices.overlaps[signpost/api.Seg]"], unfollowed := true, recurses := true, apart := false }
def PolicyNumbersSaid : Prop := policyNumbersRow.holds Try.pinned (OpenSpec.ofChange policyNumbersSpec)

/-- ITS FALSE NEIGHBOUR: 'it returns false'. Refute it at one input. -/
def policyNumbersWrong : ChangeSpec := { name := "policyNumbers", fn := fun _ => fun
  | [] => { results := [.lit (.bool false)], args := [] }
  | _ => none }
def PolicyNumbersWrongFalsely : Prop := policyNumbersRow.holds Try.pinned (OpenSpec.ofChange policyNumbersWrong)

/-- 'signpostlaw13.PolicyTells': WHATEVER THE INPUT: true; the input reads as it did. -/
def policyTellsSpec : ChangeSpec := { name := "policyTells", fn := fun _ => fun
  | [d1, d2, d3, d4, d5] => { results := [.lit (.bool true)], args := [d1, d2, d3, d4, d5] }
  | _ => none }
def policyTellsRow : OpenClaim := { program := "ytcijgahloogooaa", sum := "2f3bddcf5190aefee4c64367fc24cd1ccb1787dc5df7d9ad5b3fe156505f1175", func := "signpost/signpostlaw13.PolicyTells", spec := "policyTells", inPlace := ["slices.overlaps[uint32]", "slices.overlaps[signpost/api.Seg]"], unfollowed := true, recurses := true, apart := false }
def PolicyTellsSaid : Prop := policyTellsRow.holds Try.pinned (OpenSpec.ofChange policyTellsSpec)

/-- ITS FALSE NEIGHBOUR: 'it returns false'. Refute it at one input. -/
def policyTellsWrong : ChangeSpec := { name := "policyTells", fn := fun _ => fun
  | [d1, d2, d3, d4, d5] => { results := [.lit (.bool false)], args := [d1, d2, d3, d4, d5] }
  | _ => none }
def PolicyTellsWrongFalsely : Prop := policyTellsRow.holds Try.pinned (OpenSpec.ofChange policyTellsWrong)

/-- 'signpostlaw7.AttrPlaces': WHATEVER THE INPUT: true; the input reads as it did. -/
def attrPlacesSpec : ChangeSpec := { name := "attrPlaces", fn := fun _ => fun
  | [d1, d2, d3, d4] => { results := [.lit (.bool true)], args := [d1, d2, d3, d4] }
  | _ => none }
def attrPlacesRow : OpenClaim := { program := "ytcijgahloogooaa", sum := "2f3bddcf5190aefee4c64367fc24cd1ccb1787dc5df7d9ad5b3fe156505f1175", func := "signpost/signpostlaw7.AttrPlaces", spec := "attrPlaces", unfollowed := true, recurses := true, apart := false }
def AttrPlacesSaid : Prop := attrPlacesRow.holds Try.pinned (OpenSpec.ofChange attrPlacesSpec)

/-- ITS FALSE NEIGHBOUR: 'it returns false'. Refute it at one input. -/
def attrPlacesWrong : ChangeSpec := { name := "attrPlaces", fn := fun _ => fun
  | [d1, d2, d3, d4] => { results := [.lit (.bool false)], args := [d1, d2, d3, d4] }
  | _ => none }
def AttrPlacesWrongFalsely : Prop := attrPlacesRow.holds Try.pinned (OpenSpec.ofChange attrPlacesWrong)

/-- 'signpostlaw7.AttrTwice': WHATEVER THE INPUT: true; the input reads as it did. -/
def attrTwiceSpec : ChangeSpec := { name := "attrTwice", fn := fun _ => fun
  | [d1, d2, d3] => { results := [.lit (.bool true)], args := [d1, d2, d3] }
  | _ => none }
def attrTwiceRow : OpenClaim := { program := "ytcijgahloogooaa", sum := "2f3bddcf5190aefee4c64367fc24cd1ccb1787dc5df7d9ad5b3fe156505f1175", func := "signpost/signpostlaw7.AttrTwice", spec := "attrTwice", unfollowed := true, recurses := true, apart := false }
def AttrTwiceSaid : Prop := attrTwiceRow.holds Try.pinned (OpenSpec.ofChange attrTwiceSpec)

/-- ITS FALSE NEIGHBOUR: 'it returns false'. Refute it at one input. -/
def attrTwiceWrong : ChangeSpec := { name := "attrTwice", fn := fun _ => fun
  | [d1, d2, d3] => { results := [.lit (.bool false)], args := [d1, d2, d3] }
  | _ => none }
def AttrTwiceWrongFalsely : Prop := attrTwiceRow.holds Try.pinned (OpenSpec.ofChange attrTwiceWrong)

/-- 'signpostlaw7.AttrOuter': WHATEVER THE INPUT: true; the input reads as it did. -/
def attrOuterSpec : ChangeSpec := { name := "attrOuter", fn := fun _ => fun
  | [d1, d2, d3] => { results := [.lit (.bool true)], args := [d1, d2, d3] }
  | _ => none }
def attrOuterRow : OpenClaim := { program := "ytcijgahloogooaa", sum := "2f3bddcf5190aefee4c64367fc24cd1ccb1787dc5df7d9ad5b3fe156505f1175", func := "signpost/signpostlaw7.AttrOuter", spec := "attrOuter", unfollowed := true, recurses := true, apart := false }
def AttrOuterSaid : Prop := attrOuterRow.holds Try.pinned (OpenSpec.ofChange attrOuterSpec)

/-- ITS FALSE NEIGHBOUR: 'it returns false'. Refute it at one input. -/
def attrOuterWrong : ChangeSpec := { name := "attrOuter", fn := fun _ => fun
  | [d1, d2, d3] => { results := [.lit (.bool false)], args := [d1, d2, d3] }
  | _ => none }
def AttrOuterWrongFalsely : Prop := attrOuterRow.holds Try.pinned (OpenSpec.ofChange attrOuterWrong)

/-- 'signpostlaw21.ExportRules': WHATEVER THE INPUT: true; the input reads as it did. -/
def exportRulesSpec : ChangeSpec := { name := "exportRules", fn := fun _ => fun
  | [d1, d2, d3, d4] => { results := [.lit (.bool true)], args := [d1, d2, d3, d4] }
  | _ => none }
def exportRulesRow : OpenClaim := { program := "ytcijgahloogooaa", sum := "2f3bddcf5190aefee4c64367fc24cd1ccb1787dc5df7d9ad5b3fe156505f1175", func := "signpost/signpostlaw21.ExportRules", spec := "exportRules", inPlace := ["slices.overlaps[uint32]", "slices.overlaps[signpost/api.Seg]"], unfollowed := true, recurses := true, apart := false }
def ExportRulesSaid : Prop := exportRulesRow.holds Try.pinned (OpenSpec.ofChange exportRulesSpec)

/-- ITS FALSE NEIGHBOUR: 'it returns false'. Refute it at one input. -/
def exportRulesWrong : ChangeSpec := { name := "exportRules", fn := fun _ => fun
  | [d1, d2, d3, d4] => { results := [.lit (.bool false)], args := [d1, d2, d3, d4] }
  | _ => none }
def ExportRulesWrongFalsely : Prop := exportRulesRow.holds Try.pinned (OpenSpec.ofChange exportRulesWrong)

/-- 'signpostlaw21.ExportComms': WHATEVER THE INPUT: true; the input reads as it did. -/
def exportCommsSpec : ChangeSpec := { name := "exportComms", fn := fun _ => fun
  | [d1, d2, d3, d4] => { results := [.lit (.bool true)], args := [d1, d2, d3, d4] }
  | _ => none }
def exportCommsRow : OpenClaim := { program := "ytcijgahloogooaa", sum := "2f3bddcf5190aefee4c64367fc24cd1ccb1787dc5df7d9ad5b3fe156505f1175", func := "signpost/signpostlaw21.ExportComms", spec := "exportComms", inPlace := ["slices.overlaps[uint32]", "slices.overlaps[signpost/api.Seg]"], unfollowed := true, recurses := true, apart := false }
def ExportCommsSaid : Prop := exportCommsRow.holds Try.pinned (OpenSpec.ofChange exportCommsSpec)

/-- ITS FALSE NEIGHBOUR: 'it returns false'. Refute it at one input. -/
def exportCommsWrong : ChangeSpec := { name := "exportComms", fn := fun _ => fun
  | [d1, d2, d3, d4] => { results := [.lit (.bool false)], args := [d1, d2, d3, d4] }
  | _ => none }
def ExportCommsWrongFalsely : Prop := exportCommsRow.holds Try.pinned (OpenSpec.ofChange exportCommsWrong)

/-- 'signpostlaw21.ExportPolicy': WHATEVER THE INPUT: true; the input reads as it did. -/
def exportPolicySpec : ChangeSpec := { name := "exportPolicy", fn := fun _ => fun
  | [d1, d2, d3] => { results := [.lit (.bool true)], args := [d1, d2, d3] }
  | _ => none }
def exportPolicyRow : OpenClaim := { program := "ytcijgahloogooaa", sum := "2f3bddcf5190aefee4c64367fc24cd1ccb1787dc5df7d9ad5b3fe156505f1175", func := "signpost/signpostlaw21.ExportPolicy", spec := "exportPolicy", inPlace := ["slices.overlaps[uint32]", "slices.overlaps[signpost/api.Seg]"], unfollowed := true, recurses := true, apart := false }
def ExportPolicySaid : Prop := exportPolicyRow.holds Try.pinned (OpenSpec.ofChange exportPolicySpec)

/-- ITS FALSE NEIGHBOUR: 'it returns false'. Refute it at one input. -/
def exportPolicyWrong : ChangeSpec := { name := "exportPolicy", fn := fun _ => fun
  | [d1, d2, d3] => { results := [.lit (.bool false)], args := [d1, d2, d3] }
  | _ => none }
def ExportPolicyWrongFalsely : Prop := exportPolicyRow.holds Try.pinned (OpenSpec.ofChange exportPolicyWrong)

/- THE SECOND FORM. 'bulk': how many values and letters a reading holds, each counted each time it is reached (what is shared counts as often as it is met; a slice's spare places count too). A statement '..UptoSaid' is the law's where the arguments, and the package variables that the reading takes, are together of bulk at most 1048576: NARROWER than '..Said'. Prove '..Said' where nothing that the law and all that it calls make is longer than what came in: it says more and counts as full. Else prove '..UptoSaid'. A law counts once. -/
mutual
def uptoBulk {H : Type} : DataW H → Nat
  | .lit (.string bytes) => bytes.length + 1
  | .lit _ => 1
  | .nil => 1
  | .ptr d => uptoBulk d + 1
  | .slice elems spare => uptoBulkAll elems + uptoBulkAll spare + 1
  | .agg parts => uptoBulkAll parts + 1
  | .iface _ d => uptoBulk d + 1
  | .map entries => uptoBulkEntries entries + 1
  | .held _ => 1
def uptoBulkAll {H : Type} : List (DataW H) → Nat
  | [] => 0
  | d :: r => uptoBulk d + uptoBulkAll r
def uptoBulkEntries {H : Type} : List (Lit × DataW H) → Nat
  | [] => 0
  | x :: r => uptoBulkEntry x + uptoBulkEntries r
def uptoBulkEntry {H : Type} : Lit × DataW H → Nat
  | (.string bytes, d) => bytes.length + uptoBulk d + 1
  | (_, d) => uptoBulk d + 1
 end
def uptoSmall : (H : Type) → List (DataW H) → Bool := fun _ ds => decide (uptoBulkAll ds ≤ 1048576)
def OpenSpec.upto (s : _root_.Go.ChangeSpec) : _root_.Go.OpenSpec := { _root_.Go.OpenSpec.ofChange s with cond := some uptoSmall }

/-- 'signpostlaw13.PolicyFirst', WHERE WHAT IT READS IS OF BULK AT MOST 1048576: true; the input reads as it did. -/
def policyFirstUptoRow : OpenClaim := { program := "ytcijgahloogooaa", sum := "2f3bddcf5190aefee4c64367fc24cd1ccb1787dc5df7d9ad5b3fe156505f1175", func := "signpost/signpostlaw13.PolicyFirst", spec := "policyFirst", inPlace := ["slices.overlaps[uint32]", "slices.overlaps[signpost/api.Seg]"], unfollowed := true, recurses := true, apart := false, narrowed := true }
def PolicyFirstUptoSaid : Prop := policyFirstUptoRow.holds Try.pinned (OpenSpec.upto policyFirstSpec)

/-- 'signpostlaw13.PolicyNone', WHERE WHAT IT READS IS OF BULK AT MOST 1048576: true; the input reads as it did. -/
def policyNoneUptoRow : OpenClaim := { program := "ytcijgahloogooaa", sum := "2f3bddcf5190aefee4c64367fc24cd1ccb1787dc5df7d9ad5b3fe156505f1175", func := "signpost/signpostlaw13.PolicyNone", spec := "policyNone", inPlace := ["slices.overlaps[uint32]", "slices.overlaps[signpost/api.Seg]"], unfollowed := true, recurses := true, apart := false, narrowed := true }
def PolicyNoneUptoSaid : Prop := policyNoneUptoRow.holds Try.pinned (OpenSpec.upto policyNoneSpec)

/-- 'signpostlaw13.PolicyParts', WHERE WHAT IT READS IS OF BULK AT MOST 1048576: true; the input reads as it did. -/
def policyPartsUptoRow : OpenClaim := { program := "ytcijgahloogooaa", sum := "2f3bddcf5190aefee4c64367fc24cd1ccb1787dc5df7d9ad5b3fe156505f1175", func := "signpost/signpostlaw13.PolicyParts", spec := "policyParts", inPlace := ["slices.overlaps[uint32]", "slices.overlaps[signpost/api.Seg]"], unfollowed := true, recurses := true, apart := false, narrowed := true }
def PolicyPartsUptoSaid : Prop := policyPartsUptoRow.holds Try.pinned (OpenSpec.upto policyPartsSpec)

/-- 'signpostlaw13.PolicyNumbers', WHERE WHAT IT READS IS OF BULK AT MOST 1048576: true; the input reads as it did. -/
def policyNumbersUptoRow : OpenClaim := { program := "ytcijgahloogooaa", sum := "2f3bddcf5190aefee4c64367fc24cd1ccb1787dc5df7d9ad5b3fe156505f1175", func := "signpost/signpostlaw13.PolicyNumbers", spec := "policyNumbers", inPlace := ["slices.overlaps[uint32]", "slices.overlaps[signpost/api.Seg]"], unfollowed := true, recurses := true, apart := false, narrowed := true }
def PolicyNumbersUptoSaid : Prop := policyNumbersUptoRow.holds Try.pinned (OpenSpec.upto policyNumbersSpec)

/-- 'signpostlaw13.PolicyTells', WHERE WHAT IT READS IS OF BULK AT MOST 1048576: true; the input reads as it did. -/
def policyTellsUptoRow : OpenClaim := { program := "ytcijgahloogooaa", sum := "2f3bddcf5190aefee4c64367fc24cd1ccb1787dc5df7d9ad5b3fe156505f1175", func := "signpost/signpostlaw13.PolicyTells", spec := "policyTells", inPlace := ["slices.overlaps[uint32]", "slices.overlaps[signpost/api.Seg]"], unfollowed := true, recurses := true, apart := false, narrowed := true }
def PolicyTellsUptoSaid : Prop := policyTellsUptoRow.holds Try.pinned (OpenSpec.upto policyTellsSpec)

/-- 'signpostlaw7.AttrPlaces', WHERE WHAT IT READS IS OF BULK AT MOST 1048576: true; the input reads as it did. -/
def attrPlacesUptoRow : OpenClaim := { program := "ytcijgahloogooaa", sum := "2f3bddcf5190aefee4c64367fc24cd1ccb1787dc5df7d9ad5b3fe156505f1175", func := "signpost/signpostlaw7.AttrPlaces", spec := "attrPlaces", unfollowed := true, recurses := true, apart := false, narrowed := true }
def AttrPlacesUptoSaid : Prop := attrPlacesUptoRow.holds Try.pinned (OpenSpec.upto attrPlacesSpec)

/-- 'signpostlaw7.AttrTwice', WHERE WHAT IT READS IS OF BULK AT MOST 1048576: true; the input reads as it did. -/
def attrTwiceUptoRow : OpenClaim := { program := "ytcijgahloogooaa", sum := "2f3bddcf5190aefee4c64367fc24cd1ccb1787dc5df7d9ad5b3fe156505f1175", func := "signpost/signpostlaw7.AttrTwice", spec := "attrTwice", unfollowed := true, recurses := true, apart := false, narrowed := true }
def AttrTwiceUptoSaid : Prop := attrTwiceUptoRow.holds Try.pinned (OpenSpec.upto attrTwiceSpec)

/-- 'signpostlaw7.AttrOuter', WHERE WHAT IT READS IS OF BULK AT MOST 1048576: true; the input reads as it did. -/
def attrOuterUptoRow : OpenClaim := { program := "ytcijgahloogooaa", sum := "2f3bddcf5190aefee4c64367fc24cd1ccb1787dc5df7d9ad5b3fe156505f1175", func := "signpost/signpostlaw7.AttrOuter", spec := "attrOuter", unfollowed := true, recurses := true, apart := false, narrowed := true }
def AttrOuterUptoSaid : Prop := attrOuterUptoRow.holds Try.pinned (OpenSpec.upto attrOuterSpec)

/-- 'signpostlaw21.ExportRules', WHERE WHAT IT READS IS OF BULK AT MOST 1048576: true; the input reads as it did. -/
def exportRulesUptoRow : OpenClaim := { program := "ytcijgahloogooaa", sum := "2f3bddcf5190aefee4c64367fc24cd1ccb1787dc5df7d9ad5b3fe156505f1175", func := "signpost/signpostlaw21.ExportRules", spec := "exportRules", inPlace := ["slices.overlaps[uint32]", "slices.overlaps[signpost/api.Seg]"], unfollowed := true, recurses := true, apart := false, narrowed := true }
def ExportRulesUptoSaid : Prop := exportRulesUptoRow.holds Try.pinned (OpenSpec.upto exportRulesSpec)

/-- 'signpostlaw21.ExportComms', WHERE WHAT IT READS IS OF BULK AT MOST 1048576: true; the input reads as it did. -/
def exportCommsUptoRow : OpenClaim := { program := "ytcijgahloogooaa", sum := "2f3bddcf5190aefee4c64367fc24cd1ccb1787dc5df7d9ad5b3fe156505f1175", func := "signpost/signpostlaw21.ExportComms", spec := "exportComms", inPlace := ["slices.overlaps[uint32]", "slices.overlaps[signpost/api.Seg]"], unfollowed := true, recurses := true, apart := false, narrowed := true }
def ExportCommsUptoSaid : Prop := exportCommsUptoRow.holds Try.pinned (OpenSpec.upto exportCommsSpec)

/-- 'signpostlaw21.ExportPolicy', WHERE WHAT IT READS IS OF BULK AT MOST 1048576: true; the input reads as it did. -/
def exportPolicyUptoRow : OpenClaim := { program := "ytcijgahloogooaa", sum := "2f3bddcf5190aefee4c64367fc24cd1ccb1787dc5df7d9ad5b3fe156505f1175", func := "signpost/signpostlaw21.ExportPolicy", spec := "exportPolicy", inPlace := ["slices.overlaps[uint32]", "slices.overlaps[signpost/api.Seg]"], unfollowed := true, recurses := true, apart := false, narrowed := true }
def ExportPolicyUptoSaid : Prop := exportPolicyUptoRow.holds Try.pinned (OpenSpec.upto exportPolicySpec)

end Rows
end Go.Proofs.Ytcijgahloogooaa
