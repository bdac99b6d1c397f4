/-
  No cell of these rows narrows 'for every input' (looked for: loops, veiled, ifaces, maps, wideKeys, modest, calm, conditions, laid).
  DERIVED. THE GIVEN ROWS OF THIS SEAT. 16 by the template 'for every input the law returns true; each argument reads behind the call as it read before'; 0 by the template 'total and deterministic' (their statements: YtfngbmcedkncjaaTotals.lean).
  GIVEN WITH THE SEED: the statements are not yours to turn. If you find one false, say at which input.
  Laid BY PROGRAM, IN A SANDBOX (cutbox-rows.mjs): the forced cells as the released guide's own fill.sh prints them over the translation 16f636983828d7a4… (all of the seat's roots in one cut). By AI agents, Wed Nov 11 2026. No macro, syntax, notation, axiom, sorry.
-/
import Derived.Test.YtfngbmcedkncjaaChecked
import GoSem.Claim
import GoSem.ClaimJoined
import GoSem.ClaimMapViews
import Derived.JoinedTies
import Derived.KernelRfl
namespace Go.Proofs.Ytfngbmcedkncjaa
/- THE CELL 'sum', in the pinned program and in every row, IS THE sha256 OF THE DUMP (.gsa) THAT YtfngbmcedkncjaaProg.lean LOADS. Nothing in Lean hashes anything: it is a label: what it is worth is what the hold of that sum in a sandbox is worth. -/
noncomputable def Try.pinned : Pinned := { name := "ytfngbmcedkncjaa", sum := "16f636983828d7a40a11056d0e677dca2b3f301876bfe5164c434d0f23bdd61d", checked := Try.checked }
namespace Rows
def none {H : Type} : Left H := { results := [], args := [] }

/-- 'antiquarylaw01.WireEncodeMatchesSpec': WHATEVER THE INPUT: true; the input reads as it did. -/
def wireEncodeMatchesSpecSpec : ChangeSpec := { name := "wireEncodeMatchesSpec", fn := fun _ => fun
  | [d1, d2, d3, d4, d5] => { results := [.lit (.bool true)], args := [d1, d2, d3, d4, d5] }
  | _ => none }
def wireEncodeMatchesSpecRow : OpenClaim := { program := "ytfngbmcedkncjaa", sum := "16f636983828d7a40a11056d0e677dca2b3f301876bfe5164c434d0f23bdd61d", func := "antiquary/antiquarylaw01.WireEncodeMatchesSpec", spec := "wireEncodeMatchesSpec", unfollowed := true, recurses := true, apart := false }
def WireEncodeMatchesSpecSaid : Prop := wireEncodeMatchesSpecRow.holds Try.pinned (OpenSpec.ofChange wireEncodeMatchesSpecSpec)

/-- ITS FALSE NEIGHBOUR: 'it returns false'. Refute it at one input. -/
def wireEncodeMatchesSpecWrong : ChangeSpec := { name := "wireEncodeMatchesSpec", fn := fun _ => fun
  | [d1, d2, d3, d4, d5] => { results := [.lit (.bool false)], args := [d1, d2, d3, d4, d5] }
  | _ => none }
def WireEncodeMatchesSpecWrongFalsely : Prop := wireEncodeMatchesSpecRow.holds Try.pinned (OpenSpec.ofChange wireEncodeMatchesSpecWrong)

/-- 'antiquarylaw01.WireDecodeMatchesSpec': WHATEVER THE INPUT: true; the input reads as it did. -/
def wireDecodeMatchesSpecSpec : ChangeSpec := { name := "wireDecodeMatchesSpec", fn := fun _ => fun
  | [d] => { results := [.lit (.bool true)], args := [d] }
  | _ => none }
def wireDecodeMatchesSpecRow : OpenClaim := { program := "ytfngbmcedkncjaa", sum := "16f636983828d7a40a11056d0e677dca2b3f301876bfe5164c434d0f23bdd61d", func := "antiquary/antiquarylaw01.WireDecodeMatchesSpec", spec := "wireDecodeMatchesSpec", unfollowed := true, recurses := true, apart := false }
def WireDecodeMatchesSpecSaid : Prop := wireDecodeMatchesSpecRow.holds Try.pinned (OpenSpec.ofChange wireDecodeMatchesSpecSpec)

/-- ITS FALSE NEIGHBOUR: 'it returns false'. Refute it at one input. -/
def wireDecodeMatchesSpecWrong : ChangeSpec := { name := "wireDecodeMatchesSpec", fn := fun _ => fun
  | [d] => { results := [.lit (.bool false)], args := [d] }
  | _ => none }
def WireDecodeMatchesSpecWrongFalsely : Prop := wireDecodeMatchesSpecRow.holds Try.pinned (OpenSpec.ofChange wireDecodeMatchesSpecWrong)

/-- 'antiquarylaw01.WireLengths': WHATEVER THE INPUT: true; the input reads as it did. -/
def wireLengthsSpec : ChangeSpec := { name := "wireLengths", fn := fun _ => fun
  | [d1, d2] => { results := [.lit (.bool true)], args := [d1, d2] }
  | _ => none }
def wireLengthsRow : OpenClaim := { program := "ytfngbmcedkncjaa", sum := "16f636983828d7a40a11056d0e677dca2b3f301876bfe5164c434d0f23bdd61d", func := "antiquary/antiquarylaw01.WireLengths", spec := "wireLengths", unfollowed := true, recurses := true, apart := false }
def WireLengthsSaid : Prop := wireLengthsRow.holds Try.pinned (OpenSpec.ofChange wireLengthsSpec)

/-- ITS FALSE NEIGHBOUR: 'it returns false'. Refute it at one input. -/
def wireLengthsWrong : ChangeSpec := { name := "wireLengths", fn := fun _ => fun
  | [d1, d2] => { results := [.lit (.bool false)], args := [d1, d2] }
  | _ => none }
def WireLengthsWrongFalsely : Prop := wireLengthsRow.holds Try.pinned (OpenSpec.ofChange wireLengthsWrong)

/-- 'antiquarylaw01.WireIntRoundTrip': WHATEVER THE INPUT: true; the input reads as it did. -/
def wireIntRoundTripSpec : ChangeSpec := { name := "wireIntRoundTrip", fn := fun _ => fun
  | [d1, d2] => { results := [.lit (.bool true)], args := [d1, d2] }
  | _ => none }
def wireIntRoundTripRow : OpenClaim := { program := "ytfngbmcedkncjaa", sum := "16f636983828d7a40a11056d0e677dca2b3f301876bfe5164c434d0f23bdd61d", func := "antiquary/antiquarylaw01.WireIntRoundTrip", spec := "wireIntRoundTrip", unfollowed := true, recurses := true, apart := false }
def WireIntRoundTripSaid : Prop := wireIntRoundTripRow.holds Try.pinned (OpenSpec.ofChange wireIntRoundTripSpec)

/-- ITS FALSE NEIGHBOUR: 'it returns false'. Refute it at one input. -/
def wireIntRoundTripWrong : ChangeSpec := { name := "wireIntRoundTrip", fn := fun _ => fun
  | [d1, d2] => { results := [.lit (.bool false)], args := [d1, d2] }
  | _ => none }
def WireIntRoundTripWrongFalsely : Prop := wireIntRoundTripRow.holds Try.pinned (OpenSpec.ofChange wireIntRoundTripWrong)

/-- 'antiquarylaw01.WireCanonical': WHATEVER THE INPUT: true; the input reads as it did. -/
def wireCanonicalSpec : ChangeSpec := { name := "wireCanonical", fn := fun _ => fun
  | [d] => { results := [.lit (.bool true)], args := [d] }
  | _ => none }
def wireCanonicalRow : OpenClaim := { program := "ytfngbmcedkncjaa", sum := "16f636983828d7a40a11056d0e677dca2b3f301876bfe5164c434d0f23bdd61d", func := "antiquary/antiquarylaw01.WireCanonical", spec := "wireCanonical", unfollowed := true, recurses := true, apart := false }
def WireCanonicalSaid : Prop := wireCanonicalRow.holds Try.pinned (OpenSpec.ofChange wireCanonicalSpec)

/-- ITS FALSE NEIGHBOUR: 'it returns false'. Refute it at one input. -/
def wireCanonicalWrong : ChangeSpec := { name := "wireCanonical", fn := fun _ => fun
  | [d] => { results := [.lit (.bool false)], args := [d] }
  | _ => none }
def WireCanonicalWrongFalsely : Prop := wireCanonicalRow.holds Try.pinned (OpenSpec.ofChange wireCanonicalWrong)

/-- 'antiquarylaw01.WireListRoundTrip': WHATEVER THE INPUT: true; the input reads as it did. -/
def wireListRoundTripSpec : ChangeSpec := { name := "wireListRoundTrip", fn := fun _ => fun
  | [d1, d2, d3, d4, d5] => { results := [.lit (.bool true)], args := [d1, d2, d3, d4, d5] }
  | _ => none }
def wireListRoundTripRow : OpenClaim := { program := "ytfngbmcedkncjaa", sum := "16f636983828d7a40a11056d0e677dca2b3f301876bfe5164c434d0f23bdd61d", func := "antiquary/antiquarylaw01.WireListRoundTrip", spec := "wireListRoundTrip", unfollowed := true, recurses := true, apart := false }
def WireListRoundTripSaid : Prop := wireListRoundTripRow.holds Try.pinned (OpenSpec.ofChange wireListRoundTripSpec)

/-- ITS FALSE NEIGHBOUR: 'it returns false'. Refute it at one input. -/
def wireListRoundTripWrong : ChangeSpec := { name := "wireListRoundTrip", fn := fun _ => fun
  | [d1, d2, d3, d4, d5] => { results := [.lit (.bool false)], args := [d1, d2, d3, d4, d5] }
  | _ => none }
def WireListRoundTripWrongFalsely : Prop := wireListRoundTripRow.holds Try.pinned (OpenSpec.ofChange wireListRoundTripWrong)

/-- 'antiquarylaw01.WireTruncated': WHATEVER THE INPUT: true; the input reads as it did. -/
def wireTruncatedSpec : ChangeSpec := { name := "wireTruncated", fn := fun _ => fun
  | [d1, d2, d3, d4, d5] => { results := [.lit (.bool true)], args := [d1, d2, d3, d4, d5] }
  | _ => none }
def wireTruncatedRow : OpenClaim := { program := "ytfngbmcedkncjaa", sum := "16f636983828d7a40a11056d0e677dca2b3f301876bfe5164c434d0f23bdd61d", func := "antiquary/antiquarylaw01.WireTruncated", spec := "wireTruncated", unfollowed := true, recurses := true, apart := false }
def WireTruncatedSaid : Prop := wireTruncatedRow.holds Try.pinned (OpenSpec.ofChange wireTruncatedSpec)

/-- ITS FALSE NEIGHBOUR: 'it returns false'. Refute it at one input. -/
def wireTruncatedWrong : ChangeSpec := { name := "wireTruncated", fn := fun _ => fun
  | [d1, d2, d3, d4, d5] => { results := [.lit (.bool false)], args := [d1, d2, d3, d4, d5] }
  | _ => none }
def WireTruncatedWrongFalsely : Prop := wireTruncatedRow.holds Try.pinned (OpenSpec.ofChange wireTruncatedWrong)

/-- 'antiquarylaw01.WireConcat': WHATEVER THE INPUT: true; the input reads as it did. -/
def wireConcatSpec : ChangeSpec := { name := "wireConcat", fn := fun _ => fun
  | [d1, d2] => { results := [.lit (.bool true)], args := [d1, d2] }
  | _ => none }
def wireConcatRow : OpenClaim := { program := "ytfngbmcedkncjaa", sum := "16f636983828d7a40a11056d0e677dca2b3f301876bfe5164c434d0f23bdd61d", func := "antiquary/antiquarylaw01.WireConcat", spec := "wireConcat", unfollowed := true, recurses := true, apart := false }
def WireConcatSaid : Prop := wireConcatRow.holds Try.pinned (OpenSpec.ofChange wireConcatSpec)

/-- ITS FALSE NEIGHBOUR: 'it returns false'. Refute it at one input. -/
def wireConcatWrong : ChangeSpec := { name := "wireConcat", fn := fun _ => fun
  | [d1, d2] => { results := [.lit (.bool false)], args := [d1, d2] }
  | _ => none }
def WireConcatWrongFalsely : Prop := wireConcatRow.holds Try.pinned (OpenSpec.ofChange wireConcatWrong)

/-- 'antiquarylaw04.VectorKeysAsSpecified': WHATEVER THE INPUT: true; the input reads as it did. -/
def vectorKeysAsSpecifiedSpec : ChangeSpec := { name := "vectorKeysAsSpecified", fn := fun _ => fun
  | [d1, d2, d3] => { results := [.lit (.bool true)], args := [d1, d2, d3] }
  | _ => none }
def vectorKeysAsSpecifiedRow : OpenClaim := { program := "ytfngbmcedkncjaa", sum := "16f636983828d7a40a11056d0e677dca2b3f301876bfe5164c434d0f23bdd61d", func := "antiquary/antiquarylaw04.VectorKeysAsSpecified", spec := "vectorKeysAsSpecified", unfollowed := true, recurses := true, apart := false }
def VectorKeysAsSpecifiedSaid : Prop := vectorKeysAsSpecifiedRow.holds Try.pinned (OpenSpec.ofChange vectorKeysAsSpecifiedSpec)

/-- ITS FALSE NEIGHBOUR: 'it returns false'. Refute it at one input. -/
def vectorKeysAsSpecifiedWrong : ChangeSpec := { name := "vectorKeysAsSpecified", fn := fun _ => fun
  | [d1, d2, d3] => { results := [.lit (.bool false)], args := [d1, d2, d3] }
  | _ => none }
def VectorKeysAsSpecifiedWrongFalsely : Prop := vectorKeysAsSpecifiedRow.holds Try.pinned (OpenSpec.ofChange vectorKeysAsSpecifiedWrong)

/-- 'antiquarylaw04.VectorNormsAsSpecified': WHATEVER THE INPUT: true; the input reads as it did. -/
def vectorNormsAsSpecifiedSpec : ChangeSpec := { name := "vectorNormsAsSpecified", fn := fun _ => fun
  | [d1, d2, d3] => { results := [.lit (.bool true)], args := [d1, d2, d3] }
  | _ => none }
def vectorNormsAsSpecifiedRow : OpenClaim := { program := "ytfngbmcedkncjaa", sum := "16f636983828d7a40a11056d0e677dca2b3f301876bfe5164c434d0f23bdd61d", func := "antiquary/antiquarylaw04.VectorNormsAsSpecified", spec := "vectorNormsAsSpecified", unfollowed := true, recurses := true, apart := false }
def VectorNormsAsSpecifiedSaid : Prop := vectorNormsAsSpecifiedRow.holds Try.pinned (OpenSpec.ofChange vectorNormsAsSpecifiedSpec)

/-- ITS FALSE NEIGHBOUR: 'it returns false'. Refute it at one input. -/
def vectorNormsAsSpecifiedWrong : ChangeSpec := { name := "vectorNormsAsSpecified", fn := fun _ => fun
  | [d1, d2, d3] => { results := [.lit (.bool false)], args := [d1, d2, d3] }
  | _ => none }
def VectorNormsAsSpecifiedWrongFalsely : Prop := vectorNormsAsSpecifiedRow.holds Try.pinned (OpenSpec.ofChange vectorNormsAsSpecifiedWrong)

/-- 'antiquarylaw04.VectorKeysAreDistances': WHATEVER THE INPUT: true; the input reads as it did. -/
def vectorKeysAreDistancesSpec : ChangeSpec := { name := "vectorKeysAreDistances", fn := fun _ => fun
  | [d1, d2, d3, d4] => { results := [.lit (.bool true)], args := [d1, d2, d3, d4] }
  | _ => none }
def vectorKeysAreDistancesRow : OpenClaim := { program := "ytfngbmcedkncjaa", sum := "16f636983828d7a40a11056d0e677dca2b3f301876bfe5164c434d0f23bdd61d", func := "antiquary/antiquarylaw04.VectorKeysAreDistances", spec := "vectorKeysAreDistances", unfollowed := true, recurses := true, apart := false }
def VectorKeysAreDistancesSaid : Prop := vectorKeysAreDistancesRow.holds Try.pinned (OpenSpec.ofChange vectorKeysAreDistancesSpec)

/-- ITS FALSE NEIGHBOUR: 'it returns false'. Refute it at one input. -/
def vectorKeysAreDistancesWrong : ChangeSpec := { name := "vectorKeysAreDistances", fn := fun _ => fun
  | [d1, d2, d3, d4] => { results := [.lit (.bool false)], args := [d1, d2, d3, d4] }
  | _ => none }
def VectorKeysAreDistancesWrongFalsely : Prop := vectorKeysAreDistancesRow.holds Try.pinned (OpenSpec.ofChange vectorKeysAreDistancesWrong)

/-- 'antiquarylaw04.VectorNormsAgree': WHATEVER THE INPUT: true; the input reads as it did. -/
def vectorNormsAgreeSpec : ChangeSpec := { name := "vectorNormsAgree", fn := fun _ => fun
  | [d1, d2] => { results := [.lit (.bool true)], args := [d1, d2] }
  | _ => none }
def vectorNormsAgreeRow : OpenClaim := { program := "ytfngbmcedkncjaa", sum := "16f636983828d7a40a11056d0e677dca2b3f301876bfe5164c434d0f23bdd61d", func := "antiquary/antiquarylaw04.VectorNormsAgree", spec := "vectorNormsAgree", unfollowed := true, recurses := true, apart := false }
def VectorNormsAgreeSaid : Prop := vectorNormsAgreeRow.holds Try.pinned (OpenSpec.ofChange vectorNormsAgreeSpec)

/-- ITS FALSE NEIGHBOUR: 'it returns false'. Refute it at one input. -/
def vectorNormsAgreeWrong : ChangeSpec := { name := "vectorNormsAgree", fn := fun _ => fun
  | [d1, d2] => { results := [.lit (.bool false)], args := [d1, d2] }
  | _ => none }
def VectorNormsAgreeWrongFalsely : Prop := vectorNormsAgreeRow.holds Try.pinned (OpenSpec.ofChange vectorNormsAgreeWrong)

/-- 'antiquarylaw04.VectorMeanIsBetween': WHATEVER THE INPUT: true; the input reads as it did. -/
def vectorMeanIsBetweenSpec : ChangeSpec := { name := "vectorMeanIsBetween", fn := fun _ => fun
  | [d1, d2] => { results := [.lit (.bool true)], args := [d1, d2] }
  | _ => none }
def vectorMeanIsBetweenRow : OpenClaim := { program := "ytfngbmcedkncjaa", sum := "16f636983828d7a40a11056d0e677dca2b3f301876bfe5164c434d0f23bdd61d", func := "antiquary/antiquarylaw04.VectorMeanIsBetween", spec := "vectorMeanIsBetween", unfollowed := true, recurses := true, apart := false }
def VectorMeanIsBetweenSaid : Prop := vectorMeanIsBetweenRow.holds Try.pinned (OpenSpec.ofChange vectorMeanIsBetweenSpec)

/-- ITS FALSE NEIGHBOUR: 'it returns false'. Refute it at one input. -/
def vectorMeanIsBetweenWrong : ChangeSpec := { name := "vectorMeanIsBetween", fn := fun _ => fun
  | [d1, d2] => { results := [.lit (.bool false)], args := [d1, d2] }
  | _ => none }
def VectorMeanIsBetweenWrongFalsely : Prop := vectorMeanIsBetweenRow.holds Try.pinned (OpenSpec.ofChange vectorMeanIsBetweenWrong)

/-- 'antiquarylaw04.VectorCodesAsSpecified': WHATEVER THE INPUT: true; the input reads as it did. -/
def vectorCodesAsSpecifiedSpec : ChangeSpec := { name := "vectorCodesAsSpecified", fn := fun _ => fun
  | [d1, d2] => { results := [.lit (.bool true)], args := [d1, d2] }
  | _ => none }
def vectorCodesAsSpecifiedRow : OpenClaim := { program := "ytfngbmcedkncjaa", sum := "16f636983828d7a40a11056d0e677dca2b3f301876bfe5164c434d0f23bdd61d", func := "antiquary/antiquarylaw04.VectorCodesAsSpecified", spec := "vectorCodesAsSpecified", unfollowed := true, recurses := true, apart := false }
def VectorCodesAsSpecifiedSaid : Prop := vectorCodesAsSpecifiedRow.holds Try.pinned (OpenSpec.ofChange vectorCodesAsSpecifiedSpec)

/-- ITS FALSE NEIGHBOUR: 'it returns false'. Refute it at one input. -/
def vectorCodesAsSpecifiedWrong : ChangeSpec := { name := "vectorCodesAsSpecified", fn := fun _ => fun
  | [d1, d2] => { results := [.lit (.bool false)], args := [d1, d2] }
  | _ => none }
def VectorCodesAsSpecifiedWrongFalsely : Prop := vectorCodesAsSpecifiedRow.holds Try.pinned (OpenSpec.ofChange vectorCodesAsSpecifiedWrong)

/-- 'antiquarylaw04.VectorReadsBack': WHATEVER THE INPUT: true; the input reads as it did. -/
def vectorReadsBackSpec : ChangeSpec := { name := "vectorReadsBack", fn := fun _ => fun
  | [d1, d2] => { results := [.lit (.bool true)], args := [d1, d2] }
  | _ => none }
def vectorReadsBackRow : OpenClaim := { program := "ytfngbmcedkncjaa", sum := "16f636983828d7a40a11056d0e677dca2b3f301876bfe5164c434d0f23bdd61d", func := "antiquary/antiquarylaw04.VectorReadsBack", spec := "vectorReadsBack", unfollowed := true, recurses := true, apart := false }
def VectorReadsBackSaid : Prop := vectorReadsBackRow.holds Try.pinned (OpenSpec.ofChange vectorReadsBackSpec)

/-- ITS FALSE NEIGHBOUR: 'it returns false'. Refute it at one input. -/
def vectorReadsBackWrong : ChangeSpec := { name := "vectorReadsBack", fn := fun _ => fun
  | [d1, d2] => { results := [.lit (.bool false)], args := [d1, d2] }
  | _ => none }
def VectorReadsBackWrongFalsely : Prop := vectorReadsBackRow.holds Try.pinned (OpenSpec.ofChange vectorReadsBackWrong)

/-- 'antiquarylaw04.VectorsAreOrdered': WHATEVER THE INPUT: true; the input reads as it did. -/
def vectorsAreOrderedSpec : ChangeSpec := { name := "vectorsAreOrdered", fn := fun _ => fun
  | [d1, d2, d3] => { results := [.lit (.bool true)], args := [d1, d2, d3] }
  | _ => none }
def vectorsAreOrderedRow : OpenClaim := { program := "ytfngbmcedkncjaa", sum := "16f636983828d7a40a11056d0e677dca2b3f301876bfe5164c434d0f23bdd61d", func := "antiquary/antiquarylaw04.VectorsAreOrdered", spec := "vectorsAreOrdered", unfollowed := true, recurses := true, apart := false }
def VectorsAreOrderedSaid : Prop := vectorsAreOrderedRow.holds Try.pinned (OpenSpec.ofChange vectorsAreOrderedSpec)

/-- ITS FALSE NEIGHBOUR: 'it returns false'. Refute it at one input. -/
def vectorsAreOrderedWrong : ChangeSpec := { name := "vectorsAreOrdered", fn := fun _ => fun
  | [d1, d2, d3] => { results := [.lit (.bool false)], args := [d1, d2, d3] }
  | _ => none }
def VectorsAreOrderedWrongFalsely : Prop := vectorsAreOrderedRow.holds Try.pinned (OpenSpec.ofChange vectorsAreOrderedWrong)

/- THE SECOND FORM. 'bulk': how many values and letters a reading holds, each counted each time it is reached (what is shared counts as often as it is met; a slice's spare places count too). A statement '..UptoSaid' is the law's where the arguments, and the package variables that the reading takes, are together of bulk at most 1048576: NARROWER than '..Said'. Prove '..Said' where nothing that the law and all that it calls make is longer than what came in: it says more and counts as full. Else prove '..UptoSaid'. A law counts once. -/
mutual
def uptoBulk {H : Type} : DataW H → Nat
  | .lit (.string bytes) => bytes.length + 1
  | .lit _ => 1
  | .nil => 1
  | .ptr d => uptoBulk d + 1
  | .slice elems spare => uptoBulkAll elems + uptoBulkAll spare + 1
  | .agg parts => uptoBulkAll parts + 1
  | .iface _ d => uptoBulk d + 1
  | .map entries => uptoBulkEntries entries + 1
  | .held _ => 1
def uptoBulkAll {H : Type} : List (DataW H) → Nat
  | [] => 0
  | d :: r => uptoBulk d + uptoBulkAll r
def uptoBulkEntries {H : Type} : List (Lit × DataW H) → Nat
  | [] => 0
  | x :: r => uptoBulkEntry x + uptoBulkEntries r
def uptoBulkEntry {H : Type} : Lit × DataW H → Nat
  | (.string bytes, d) => bytes.length + uptoBulk d + 1
  | (_, d) => uptoBulk d + 1
 end
def uptoSmall : (H : Type) → List (DataW H) → Bool := fun _ ds => decide (uptoBulkAll ds ≤ 1048576)
def OpenSpec.upto (s : _root_.Go.ChangeSpec) : _root_.Go.OpenSpec := { _root_.Go.OpenSpec.ofChange s with cond := some uptoSmall }

/-- 'antiquarylaw01.WireEncodeMatchesSpec', WHERE WHAT IT READS IS OF BULK AT MOST 1048576: true; the input reads as it did. -/
def wireEncodeMatchesSpecUptoRow : OpenClaim := { program := "ytfngbmcedkncjaa", sum := "16f636983828d7a40a11056d0e677dca2b3f301876bfe5164c434d0f23bdd61d", func := "antiquary/antiquarylaw01.WireEncodeMatchesSpec", spec := "wireEncodeMatchesSpec", unfollowed := true, recurses := true, apart := false, narrowed := true }
def WireEncodeMatchesSpecUptoSaid : Prop := wireEncodeMatchesSpecUptoRow.holds Try.pinned (OpenSpec.upto wireEncodeMatchesSpecSpec)

/-- 'antiquarylaw01.WireDecodeMatchesSpec', WHERE WHAT IT READS IS OF BULK AT MOST 1048576: true; the input reads as it did. -/
def wireDecodeMatchesSpecUptoRow : OpenClaim := { program := "ytfngbmcedkncjaa", sum := "16f636983828d7a40a11056d0e677dca2b3f301876bfe5164c434d0f23bdd61d", func := "antiquary/antiquarylaw01.WireDecodeMatchesSpec", spec := "wireDecodeMatchesSpec", unfollowed := true, recurses := true, apart := false, narrowed := true }
def WireDecodeMatchesSpecUptoSaid : Prop := wireDecodeMatchesSpecUptoRow.holds Try.pinned (OpenSpec.upto wireDecodeMatchesSpecSpec)

/-- 'antiquarylaw01.WireLengths', WHERE WHAT IT READS IS OF BULK AT MOST 1048576: true; the input reads as it did. -/
def wireLengthsUptoRow : OpenClaim := { program := "ytfngbmcedkncjaa", sum := "16f636983828d7a40a11056d0e677dca2b3f301876bfe5164c434d0f23bdd61d", func := "antiquary/antiquarylaw01.WireLengths", spec := "wireLengths", unfollowed := true, recurses := true, apart := false, narrowed := true }
def WireLengthsUptoSaid : Prop := wireLengthsUptoRow.holds Try.pinned (OpenSpec.upto wireLengthsSpec)

/-- 'antiquarylaw01.WireIntRoundTrip', WHERE WHAT IT READS IS OF BULK AT MOST 1048576: true; the input reads as it did. -/
def wireIntRoundTripUptoRow : OpenClaim := { program := "ytfngbmcedkncjaa", sum := "16f636983828d7a40a11056d0e677dca2b3f301876bfe5164c434d0f23bdd61d", func := "antiquary/antiquarylaw01.WireIntRoundTrip", spec := "wireIntRoundTrip", unfollowed := true, recurses := true, apart := false, narrowed := true }
def WireIntRoundTripUptoSaid : Prop := wireIntRoundTripUptoRow.holds Try.pinned (OpenSpec.upto wireIntRoundTripSpec)

/-- 'antiquarylaw01.WireCanonical', WHERE WHAT IT READS IS OF BULK AT MOST 1048576: true; the input reads as it did. -/
def wireCanonicalUptoRow : OpenClaim := { program := "ytfngbmcedkncjaa", sum := "16f636983828d7a40a11056d0e677dca2b3f301876bfe5164c434d0f23bdd61d", func := "antiquary/antiquarylaw01.WireCanonical", spec := "wireCanonical", unfollowed := true, recurses := true, apart := false, narrowed := true }
def WireCanonicalUptoSaid : Prop := wireCanonicalUptoRow.holds Try.pinned (OpenSpec.upto wireCanonicalSpec)

/-- 'antiquarylaw01.WireListRoundTrip', WHERE WHAT IT READS IS OF BULK AT MOST 1048576: true; the input reads as it did. -/
def wireListRoundTripUptoRow : OpenClaim := { program := "ytfngbmcedkncjaa", sum := "16f636983828d7a40a11056d0e677dca2b3f301876bfe5164c434d0f23bdd61d", func := "antiquary/antiquarylaw01.WireListRoundTrip", spec := "wireListRoundTrip", unfollowed := true, recurses := true, apart := false, narrowed := true }
def WireListRoundTripUptoSaid : Prop := wireListRoundTripUptoRow.holds Try.pinned (OpenSpec.upto wireListRoundTripSpec)

/-- 'antiquarylaw01.WireTruncated', WHERE WHAT IT READS IS OF BULK AT MOST 1048576: true; the input reads as it did. -/
def wireTruncatedUptoRow : OpenClaim := { program := "ytfngbmcedkncjaa", sum := "16f636983828d7a40a11056d0e677dca2b3f301876bfe5164c434d0f23bdd61d", func := "antiquary/antiquarylaw01.WireTruncated", spec := "wireTruncated", unfollowed := true, recurses := true, apart := false, narrowed := true }
def WireTruncatedUptoSaid : Prop := wireTruncatedUptoRow.holds Try.pinned (OpenSpec.upto wireTruncatedSpec)

/-- 'antiquarylaw01.WireConcat', WHERE WHAT IT READS IS OF BULK AT MOST 1048576: true; the input reads as it did. -/
def wireConcatUptoRow : OpenClaim := { program := "ytfngbmcedkncjaa", sum := "16f636983828d7a40a11056d0e677dca2b3f301876bfe5164c434d0f23bdd61d", func := "antiquary/antiquarylaw01.WireConcat", spec := "wireConcat", unfollowed := true, recurses := true, apart := false, narrowed := true }
def WireConcatUptoSaid : Prop := wireConcatUptoRow.holds Try.pinned (OpenSpec.upto wireConcatSpec)

/-- 'antiquarylaw04.VectorKeysAsSpecified', WHERE WHAT IT READS IS OF BULK AT MOST 1048576: true; the input reads as it did. -/
def vectorKeysAsSpecifiedUptoRow : OpenClaim := { program := "ytfngbmcedkncjaa", sum := "16f636983828d7a40a11056d0e677dca2b3f301876bfe5164c434d0f23bdd61d", func := "antiquary/antiquarylaw04.VectorKeysAsSpecified", spec := "vectorKeysAsSpecified", unfollowed := true, recurses := true, apart := false, narrowed := true }
def VectorKeysAsSpecifiedUptoSaid : Prop := vectorKeysAsSpecifiedUptoRow.holds Try.pinned (OpenSpec.upto vectorKeysAsSpecifiedSpec)

/-- 'antiquarylaw04.VectorNormsAsSpecified', WHERE WHAT IT READS IS OF BULK AT MOST 1048576: true; the input reads as it did. -/
def vectorNormsAsSpecifiedUptoRow : OpenClaim := { program := "ytfngbmcedkncjaa", sum := "16f636983828d7a40a11056d0e677dca2b3f301876bfe5164c434d0f23bdd61d", func := "antiquary/antiquarylaw04.VectorNormsAsSpecified", spec := "vectorNormsAsSpecified", unfollowed := true, recurses := true, apart := false, narrowed := true }
def VectorNormsAsSpecifiedUptoSaid : Prop := vectorNormsAsSpecifiedUptoRow.holds Try.pinned (OpenSpec.upto vectorNormsAsSpecifiedSpec)

/-- 'antiquarylaw04.VectorKeysAreDistances', WHERE WHAT IT READS IS OF BULK AT MOST 1048576: true; the input reads as it did. -/
def vectorKeysAreDistancesUptoRow : OpenClaim := { program := "ytfngbmcedkncjaa", sum := "16f636983828d7a40a11056d0e677dca2b3f301876bfe5164c434d0f23bdd61d", func := "antiquary/antiquarylaw04.VectorKeysAreDistances", spec := "vectorKeysAreDistances", unfollowed := true, recurses := true, apart := false, narrowed := true }
def VectorKeysAreDistancesUptoSaid : Prop := vectorKeysAreDistancesUptoRow.holds Try.pinned (OpenSpec.upto vectorKeysAreDistancesSpec)

/-- 'antiquarylaw04.VectorNormsAgree', WHERE WHAT IT READS IS OF BULK AT MOST 1048576: true; the input reads as it did. -/
def vectorNormsAgreeUptoRow : OpenClaim := { program := "ytfngbmcedkncjaa", sum := "16f636983828d7a40a11056d0e677dca2b3f301876bfe5164c434d0f23bdd61d", func := "antiquary/antiquarylaw04.VectorNormsAgree", spec := "vectorNormsAgree", unfollowed := true, recurses := true, apart := false, narrowed := true }
def VectorNormsAgreeUptoSaid : Prop := vectorNormsAgreeUptoRow.holds Try.pinned (OpenSpec.upto vectorNormsAgreeSpec)

/-- 'antiquarylaw04.VectorMeanIsBetween', WHERE WHAT IT READS IS OF BULK AT MOST 1048576: true; the input reads as it did. -/
def vectorMeanIsBetweenUptoRow : OpenClaim := { program := "ytfngbmcedkncjaa", sum := "16f636983828d7a40a11056d0e677dca2b3f301876bfe5164c434d0f23bdd61d", func := "antiquary/antiquarylaw04.VectorMeanIsBetween", spec := "vectorMeanIsBetween", unfollowed := true, recurses := true, apart := false, narrowed := true }
def VectorMeanIsBetweenUptoSaid : Prop := vectorMeanIsBetweenUptoRow.holds Try.pinned (OpenSpec.upto vectorMeanIsBetweenSpec)

/-- 'antiquarylaw04.VectorCodesAsSpecified', WHERE WHAT IT READS IS OF BULK AT MOST 1048576: true; the input reads as it did. -/
def vectorCodesAsSpecifiedUptoRow : OpenClaim := { program := "ytfngbmcedkncjaa", sum := "16f636983828d7a40a11056d0e677dca2b3f301876bfe5164c434d0f23bdd61d", func := "antiquary/antiquarylaw04.VectorCodesAsSpecified", spec := "vectorCodesAsSpecified", unfollowed := true, recurses := true, apart := false, narrowed := true }
def VectorCodesAsSpecifiedUptoSaid : Prop := vectorCodesAsSpecifiedUptoRow.holds Try.pinned (OpenSpec.upto vectorCodesAsSpecifiedSpec)

/-- 'antiquarylaw04.VectorReadsBack', WHERE WHAT IT READS IS OF BULK AT MOST 1048576: true; the input reads as it did. -/
def vectorReadsBackUptoRow : OpenClaim := { program := "ytfngbmcedkncjaa", sum := "16f636983828d7a40a11056d0e677dca2b3f301876bfe5164c434d0f23bdd61d", func := "antiquary/antiquarylaw04.VectorReadsBack", spec := "vectorReadsBack", unfollowed := true, recurses := true, apart := false, narrowed := true }
def VectorReadsBackUptoSaid : Prop := vectorReadsBackUptoRow.holds Try.pinned (OpenSpec.upto vectorReadsBackSpec)

/-- 'antiquarylaw04.VectorsAreOrdered', WHERE WHAT IT READS IS OF BULK AT MOST 1048576: true; the input reads as it did. -/
def vectorsAreOrderedUptoRow : OpenClaim := { program := "ytfngbmcedkncjaa", sum := "16f636983828d7a40a11056d0e677dca2b3f301876bfe5164c434d0f23bdd61d", func := "antiquary/antiquarylaw04.VectorsAreOrdered", spec := "vectorsAreOrdered", unfollowed := true, recurses := true, apart := false, narrowed := true }
def VectorsAreOrderedUptoSaid : Prop := vectorsAreOrderedUptoRow.holds Try.pinned (OpenSpec.upto vectorsAreOrderedSpec)

end Rows
end Go.Proofs.Ytfngbmcedkncjaa
