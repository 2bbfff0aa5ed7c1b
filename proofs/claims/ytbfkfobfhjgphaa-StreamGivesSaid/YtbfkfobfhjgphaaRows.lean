/-
  No cell of these rows narrows 'for every input' (looked for: loops, veiled, ifaces, maps, wideKeys, modest, calm, conditions, laid).
  DERIVED. THE GIVEN ROWS OF THIS SEAT. 16 by the template 'for every input the law returns true; each argument reads behind the call as it read before'; 0 by the template 'total and deterministic' (their statements: YtbfkfobfhjgphaaTotals.lean).
  GIVEN WITH THE SEED: the statements are not yours to turn. If you find one false, say at which input.
  Laid BY PROGRAM, IN A SANDBOX (cutbox-rows.mjs): the forced cells as the released guide's own fill.sh prints them over the translation 209f0767d4966862… (all of the seat's roots in one cut). By AI agents, Wed Nov 11 2026. No macro, syntax, notation, axiom, sorry.
-/
import Derived.Test.YtbfkfobfhjgphaaChecked
import GoSem.Claim
import GoSem.ClaimJoined
import GoSem.ClaimMapViews
import Derived.JoinedTies
import Derived.KernelRfl
namespace Go.Proofs.Ytbfkfobfhjgphaa
/- THE CELL 'sum', in the pinned program and in every row, IS THE sha256 OF THE DUMP (.gsa) THAT YtbfkfobfhjgphaaProg.lean LOADS. Nothing in Lean hashes anything: it is a label: what it is worth is what the hold of that sum in a sandbox is worth. -/
noncomputable def Try.pinned : Pinned := { name := "ytbfkfobfhjgphaa", sum := "209f0767d4966862d937adeaa0d42ab9c0403a55463eac8e7534f11c06fa6034", checked := Try.checked }
namespace Rows
def none {H : Type} : Left H := { results := [], args := [] }

/-- 'soundservicelaw15.ResampleFeeds': WHATEVER THE INPUT: true; the input reads as it did. -/
def resampleFeedsSpec : ChangeSpec := { name := "resampleFeeds", fn := fun _ => fun
  | [d1, d2, d3, d4, d5] => { results := [.lit (.bool true)], args := [d1, d2, d3, d4, d5] }
  | _ => none }
def resampleFeedsRow : OpenClaim := { program := "ytbfkfobfhjgphaa", sum := "209f0767d4966862d937adeaa0d42ab9c0403a55463eac8e7534f11c06fa6034", func := "soundservice/soundservicelaw15.ResampleFeeds", spec := "resampleFeeds", unfollowed := true, recurses := true, apart := false }
def ResampleFeedsSaid : Prop := resampleFeedsRow.holds Try.pinned (OpenSpec.ofChange resampleFeedsSpec)

/-- ITS FALSE NEIGHBOUR: 'it returns false'. Refute it at one input. -/
def resampleFeedsWrong : ChangeSpec := { name := "resampleFeeds", fn := fun _ => fun
  | [d1, d2, d3, d4, d5] => { results := [.lit (.bool false)], args := [d1, d2, d3, d4, d5] }
  | _ => none }
def ResampleFeedsWrongFalsely : Prop := resampleFeedsRow.holds Try.pinned (OpenSpec.ofChange resampleFeedsWrong)

/-- 'soundservicelaw15.ResampleTakes': WHATEVER THE INPUT: true; the input reads as it did. -/
def resampleTakesSpec : ChangeSpec := { name := "resampleTakes", fn := fun _ => fun
  | [d1, d2, d3, d4] => { results := [.lit (.bool true)], args := [d1, d2, d3, d4] }
  | _ => none }
def resampleTakesRow : OpenClaim := { program := "ytbfkfobfhjgphaa", sum := "209f0767d4966862d937adeaa0d42ab9c0403a55463eac8e7534f11c06fa6034", func := "soundservice/soundservicelaw15.ResampleTakes", spec := "resampleTakes", unfollowed := true, recurses := true, apart := false }
def ResampleTakesSaid : Prop := resampleTakesRow.holds Try.pinned (OpenSpec.ofChange resampleTakesSpec)

/-- ITS FALSE NEIGHBOUR: 'it returns false'. Refute it at one input. -/
def resampleTakesWrong : ChangeSpec := { name := "resampleTakes", fn := fun _ => fun
  | [d1, d2, d3, d4] => { results := [.lit (.bool false)], args := [d1, d2, d3, d4] }
  | _ => none }
def ResampleTakesWrongFalsely : Prop := resampleTakesRow.holds Try.pinned (OpenSpec.ofChange resampleTakesWrong)

/-- 'soundservicelaw15.ResamplePieces': WHATEVER THE INPUT: true; the input reads as it did. -/
def resamplePiecesSpec : ChangeSpec := { name := "resamplePieces", fn := fun _ => fun
  | [d1, d2, d3] => { results := [.lit (.bool true)], args := [d1, d2, d3] }
  | _ => none }
def resamplePiecesRow : OpenClaim := { program := "ytbfkfobfhjgphaa", sum := "209f0767d4966862d937adeaa0d42ab9c0403a55463eac8e7534f11c06fa6034", func := "soundservice/soundservicelaw15.ResamplePieces", spec := "resamplePieces", unfollowed := true, recurses := true, apart := false }
def ResamplePiecesSaid : Prop := resamplePiecesRow.holds Try.pinned (OpenSpec.ofChange resamplePiecesSpec)

/-- ITS FALSE NEIGHBOUR: 'it returns false'. Refute it at one input. -/
def resamplePiecesWrong : ChangeSpec := { name := "resamplePieces", fn := fun _ => fun
  | [d1, d2, d3] => { results := [.lit (.bool false)], args := [d1, d2, d3] }
  | _ => none }
def ResamplePiecesWrongFalsely : Prop := resamplePiecesRow.holds Try.pinned (OpenSpec.ofChange resamplePiecesWrong)

/-- 'soundservicelaw15.ResampleSame': WHATEVER THE INPUT: true; the input reads as it did. -/
def resampleSameSpec : ChangeSpec := { name := "resampleSame", fn := fun _ => fun
  | [d1, d2, d3] => { results := [.lit (.bool true)], args := [d1, d2, d3] }
  | _ => none }
def resampleSameRow : OpenClaim := { program := "ytbfkfobfhjgphaa", sum := "209f0767d4966862d937adeaa0d42ab9c0403a55463eac8e7534f11c06fa6034", func := "soundservice/soundservicelaw15.ResampleSame", spec := "resampleSame", unfollowed := true, recurses := true, apart := false }
def ResampleSameSaid : Prop := resampleSameRow.holds Try.pinned (OpenSpec.ofChange resampleSameSpec)

/-- ITS FALSE NEIGHBOUR: 'it returns false'. Refute it at one input. -/
def resampleSameWrong : ChangeSpec := { name := "resampleSame", fn := fun _ => fun
  | [d1, d2, d3] => { results := [.lit (.bool false)], args := [d1, d2, d3] }
  | _ => none }
def ResampleSameWrongFalsely : Prop := resampleSameRow.holds Try.pinned (OpenSpec.ofChange resampleSameWrong)

/-- 'soundservicelaw15.ResampleBetween': WHATEVER THE INPUT: true; the input reads as it did. -/
def resampleBetweenSpec : ChangeSpec := { name := "resampleBetween", fn := fun _ => fun
  | [d1, d2] => { results := [.lit (.bool true)], args := [d1, d2] }
  | _ => none }
def resampleBetweenRow : OpenClaim := { program := "ytbfkfobfhjgphaa", sum := "209f0767d4966862d937adeaa0d42ab9c0403a55463eac8e7534f11c06fa6034", func := "soundservice/soundservicelaw15.ResampleBetween", spec := "resampleBetween", unfollowed := true, recurses := true, apart := false }
def ResampleBetweenSaid : Prop := resampleBetweenRow.holds Try.pinned (OpenSpec.ofChange resampleBetweenSpec)

/-- ITS FALSE NEIGHBOUR: 'it returns false'. Refute it at one input. -/
def resampleBetweenWrong : ChangeSpec := { name := "resampleBetween", fn := fun _ => fun
  | [d1, d2] => { results := [.lit (.bool false)], args := [d1, d2] }
  | _ => none }
def ResampleBetweenWrongFalsely : Prop := resampleBetweenRow.holds Try.pinned (OpenSpec.ofChange resampleBetweenWrong)

/-- 'soundservicelaw15.ResampleCounts': WHATEVER THE INPUT: true; the input reads as it did. -/
def resampleCountsSpec : ChangeSpec := { name := "resampleCounts", fn := fun _ => fun
  | [d1, d2] => { results := [.lit (.bool true)], args := [d1, d2] }
  | _ => none }
def resampleCountsRow : OpenClaim := { program := "ytbfkfobfhjgphaa", sum := "209f0767d4966862d937adeaa0d42ab9c0403a55463eac8e7534f11c06fa6034", func := "soundservice/soundservicelaw15.ResampleCounts", spec := "resampleCounts", unfollowed := true, recurses := true, apart := false }
def ResampleCountsSaid : Prop := resampleCountsRow.holds Try.pinned (OpenSpec.ofChange resampleCountsSpec)

/-- ITS FALSE NEIGHBOUR: 'it returns false'. Refute it at one input. -/
def resampleCountsWrong : ChangeSpec := { name := "resampleCounts", fn := fun _ => fun
  | [d1, d2] => { results := [.lit (.bool false)], args := [d1, d2] }
  | _ => none }
def ResampleCountsWrongFalsely : Prop := resampleCountsRow.holds Try.pinned (OpenSpec.ofChange resampleCountsWrong)

/-- 'soundservicelaw15.ResampleChannels': WHATEVER THE INPUT: true; the input reads as it did. -/
def resampleChannelsSpec : ChangeSpec := { name := "resampleChannels", fn := fun _ => fun
  | [d1, d2, d3] => { results := [.lit (.bool true)], args := [d1, d2, d3] }
  | _ => none }
def resampleChannelsRow : OpenClaim := { program := "ytbfkfobfhjgphaa", sum := "209f0767d4966862d937adeaa0d42ab9c0403a55463eac8e7534f11c06fa6034", func := "soundservice/soundservicelaw15.ResampleChannels", spec := "resampleChannels", unfollowed := true, recurses := true, apart := false }
def ResampleChannelsSaid : Prop := resampleChannelsRow.holds Try.pinned (OpenSpec.ofChange resampleChannelsSpec)

/-- ITS FALSE NEIGHBOUR: 'it returns false'. Refute it at one input. -/
def resampleChannelsWrong : ChangeSpec := { name := "resampleChannels", fn := fun _ => fun
  | [d1, d2, d3] => { results := [.lit (.bool false)], args := [d1, d2, d3] }
  | _ => none }
def ResampleChannelsWrongFalsely : Prop := resampleChannelsRow.holds Try.pinned (OpenSpec.ofChange resampleChannelsWrong)

/-- 'soundservicelaw19.BridgeMoves': WHATEVER THE INPUT: true; the input reads as it did. -/
def bridgeMovesSpec : ChangeSpec := { name := "bridgeMoves", fn := fun _ => fun
  | [d1, d2, d3, d4, d5, d6, d7, d8] => { results := [.lit (.bool true)], args := [d1, d2, d3, d4, d5, d6, d7, d8] }
  | _ => none }
def bridgeMovesRow : OpenClaim := { program := "ytbfkfobfhjgphaa", sum := "209f0767d4966862d937adeaa0d42ab9c0403a55463eac8e7534f11c06fa6034", func := "soundservice/soundservicelaw19.BridgeMoves", spec := "bridgeMoves", unfollowed := true, recurses := true, apart := false }
def BridgeMovesSaid : Prop := bridgeMovesRow.holds Try.pinned (OpenSpec.ofChange bridgeMovesSpec)

/-- ITS FALSE NEIGHBOUR: 'it returns false'. Refute it at one input. -/
def bridgeMovesWrong : ChangeSpec := { name := "bridgeMoves", fn := fun _ => fun
  | [d1, d2, d3, d4, d5, d6, d7, d8] => { results := [.lit (.bool false)], args := [d1, d2, d3, d4, d5, d6, d7, d8] }
  | _ => none }
def BridgeMovesWrongFalsely : Prop := bridgeMovesRow.holds Try.pinned (OpenSpec.ofChange bridgeMovesWrong)

/-- 'soundservicelaw19.BridgeCounts': WHATEVER THE INPUT: true; the input reads as it did. -/
def bridgeCountsSpec : ChangeSpec := { name := "bridgeCounts", fn := fun _ => fun
  | [d1, d2] => { results := [.lit (.bool true)], args := [d1, d2] }
  | _ => none }
def bridgeCountsRow : OpenClaim := { program := "ytbfkfobfhjgphaa", sum := "209f0767d4966862d937adeaa0d42ab9c0403a55463eac8e7534f11c06fa6034", func := "soundservice/soundservicelaw19.BridgeCounts", spec := "bridgeCounts", unfollowed := true, recurses := true, apart := false }
def BridgeCountsSaid : Prop := bridgeCountsRow.holds Try.pinned (OpenSpec.ofChange bridgeCountsSpec)

/-- ITS FALSE NEIGHBOUR: 'it returns false'. Refute it at one input. -/
def bridgeCountsWrong : ChangeSpec := { name := "bridgeCounts", fn := fun _ => fun
  | [d1, d2] => { results := [.lit (.bool false)], args := [d1, d2] }
  | _ => none }
def BridgeCountsWrongFalsely : Prop := bridgeCountsRow.holds Try.pinned (OpenSpec.ofChange bridgeCountsWrong)

/-- 'soundservicelaw19.BridgeEqual': WHATEVER THE INPUT: true; the input reads as it did. -/
def bridgeEqualSpec : ChangeSpec := { name := "bridgeEqual", fn := fun _ => fun
  | [d1, d2] => { results := [.lit (.bool true)], args := [d1, d2] }
  | _ => none }
def bridgeEqualRow : OpenClaim := { program := "ytbfkfobfhjgphaa", sum := "209f0767d4966862d937adeaa0d42ab9c0403a55463eac8e7534f11c06fa6034", func := "soundservice/soundservicelaw19.BridgeEqual", spec := "bridgeEqual", unfollowed := true, recurses := true, apart := false }
def BridgeEqualSaid : Prop := bridgeEqualRow.holds Try.pinned (OpenSpec.ofChange bridgeEqualSpec)

/-- ITS FALSE NEIGHBOUR: 'it returns false'. Refute it at one input. -/
def bridgeEqualWrong : ChangeSpec := { name := "bridgeEqual", fn := fun _ => fun
  | [d1, d2] => { results := [.lit (.bool false)], args := [d1, d2] }
  | _ => none }
def BridgeEqualWrongFalsely : Prop := bridgeEqualRow.holds Try.pinned (OpenSpec.ofChange bridgeEqualWrong)

/-- 'soundservicelaw19.BridgeParts': WHATEVER THE INPUT: true; the input reads as it did. -/
def bridgePartsSpec : ChangeSpec := { name := "bridgeParts", fn := fun _ => fun
  | [d1, d2, d3, d4] => { results := [.lit (.bool true)], args := [d1, d2, d3, d4] }
  | _ => none }
def bridgePartsRow : OpenClaim := { program := "ytbfkfobfhjgphaa", sum := "209f0767d4966862d937adeaa0d42ab9c0403a55463eac8e7534f11c06fa6034", func := "soundservice/soundservicelaw19.BridgeParts", spec := "bridgeParts", unfollowed := true, recurses := true, apart := false }
def BridgePartsSaid : Prop := bridgePartsRow.holds Try.pinned (OpenSpec.ofChange bridgePartsSpec)

/-- ITS FALSE NEIGHBOUR: 'it returns false'. Refute it at one input. -/
def bridgePartsWrong : ChangeSpec := { name := "bridgeParts", fn := fun _ => fun
  | [d1, d2, d3, d4] => { results := [.lit (.bool false)], args := [d1, d2, d3, d4] }
  | _ => none }
def BridgePartsWrongFalsely : Prop := bridgePartsRow.holds Try.pinned (OpenSpec.ofChange bridgePartsWrong)

/-- 'soundservicelaw19.BridgeHolds': WHATEVER THE INPUT: true; the input reads as it did. -/
def bridgeHoldsSpec : ChangeSpec := { name := "bridgeHolds", fn := fun _ => fun
  | [d1, d2, d3, d4] => { results := [.lit (.bool true)], args := [d1, d2, d3, d4] }
  | _ => none }
def bridgeHoldsRow : OpenClaim := { program := "ytbfkfobfhjgphaa", sum := "209f0767d4966862d937adeaa0d42ab9c0403a55463eac8e7534f11c06fa6034", func := "soundservice/soundservicelaw19.BridgeHolds", spec := "bridgeHolds", inPlace := ["math/bits.Add64"], unfollowed := true, recurses := true, apart := false }
def BridgeHoldsSaid : Prop := bridgeHoldsRow.holds Try.pinned (OpenSpec.ofChange bridgeHoldsSpec)

/-- ITS FALSE NEIGHBOUR: 'it returns false'. Refute it at one input. -/
def bridgeHoldsWrong : ChangeSpec := { name := "bridgeHolds", fn := fun _ => fun
  | [d1, d2, d3, d4] => { results := [.lit (.bool false)], args := [d1, d2, d3, d4] }
  | _ => none }
def BridgeHoldsWrongFalsely : Prop := bridgeHoldsRow.holds Try.pinned (OpenSpec.ofChange bridgeHoldsWrong)

/-- 'soundservicelaw20.StreamPieces': WHATEVER THE INPUT: true; the input reads as it did. -/
def streamPiecesSpec : ChangeSpec := { name := "streamPieces", fn := fun _ => fun
  | [d1, d2, d3] => { results := [.lit (.bool true)], args := [d1, d2, d3] }
  | _ => none }
def streamPiecesRow : OpenClaim := { program := "ytbfkfobfhjgphaa", sum := "209f0767d4966862d937adeaa0d42ab9c0403a55463eac8e7534f11c06fa6034", func := "soundservice/soundservicelaw20.StreamPieces", spec := "streamPieces", unfollowed := true, recurses := true, apart := false }
def StreamPiecesSaid : Prop := streamPiecesRow.holds Try.pinned (OpenSpec.ofChange streamPiecesSpec)

/-- ITS FALSE NEIGHBOUR: 'it returns false'. Refute it at one input. -/
def streamPiecesWrong : ChangeSpec := { name := "streamPieces", fn := fun _ => fun
  | [d1, d2, d3] => { results := [.lit (.bool false)], args := [d1, d2, d3] }
  | _ => none }
def StreamPiecesWrongFalsely : Prop := streamPiecesRow.holds Try.pinned (OpenSpec.ofChange streamPiecesWrong)

/-- 'soundservicelaw20.StreamDrains': WHATEVER THE INPUT: true; the input reads as it did. -/
def streamDrainsSpec : ChangeSpec := { name := "streamDrains", fn := fun _ => fun
  | [d1, d2, d3] => { results := [.lit (.bool true)], args := [d1, d2, d3] }
  | _ => none }
def streamDrainsRow : OpenClaim := { program := "ytbfkfobfhjgphaa", sum := "209f0767d4966862d937adeaa0d42ab9c0403a55463eac8e7534f11c06fa6034", func := "soundservice/soundservicelaw20.StreamDrains", spec := "streamDrains", unfollowed := true, recurses := true, apart := false }
def StreamDrainsSaid : Prop := streamDrainsRow.holds Try.pinned (OpenSpec.ofChange streamDrainsSpec)

/-- ITS FALSE NEIGHBOUR: 'it returns false'. Refute it at one input. -/
def streamDrainsWrong : ChangeSpec := { name := "streamDrains", fn := fun _ => fun
  | [d1, d2, d3] => { results := [.lit (.bool false)], args := [d1, d2, d3] }
  | _ => none }
def StreamDrainsWrongFalsely : Prop := streamDrainsRow.holds Try.pinned (OpenSpec.ofChange streamDrainsWrong)

/-- 'soundservicelaw20.StreamCounts': WHATEVER THE INPUT: true; the input reads as it did. -/
def streamCountsSpec : ChangeSpec := { name := "streamCounts", fn := fun _ => fun
  | [d1, d2] => { results := [.lit (.bool true)], args := [d1, d2] }
  | _ => none }
def streamCountsRow : OpenClaim := { program := "ytbfkfobfhjgphaa", sum := "209f0767d4966862d937adeaa0d42ab9c0403a55463eac8e7534f11c06fa6034", func := "soundservice/soundservicelaw20.StreamCounts", spec := "streamCounts", unfollowed := true, recurses := true, apart := false }
def StreamCountsSaid : Prop := streamCountsRow.holds Try.pinned (OpenSpec.ofChange streamCountsSpec)

/-- ITS FALSE NEIGHBOUR: 'it returns false'. Refute it at one input. -/
def streamCountsWrong : ChangeSpec := { name := "streamCounts", fn := fun _ => fun
  | [d1, d2] => { results := [.lit (.bool false)], args := [d1, d2] }
  | _ => none }
def StreamCountsWrongFalsely : Prop := streamCountsRow.holds Try.pinned (OpenSpec.ofChange streamCountsWrong)

/-- 'soundservicelaw20.StreamGives': WHATEVER THE INPUT: true; the input reads as it did. -/
def streamGivesSpec : ChangeSpec := { name := "streamGives", fn := fun _ => fun
  | [d1, d2, d3, d4] => { results := [.lit (.bool true)], args := [d1, d2, d3, d4] }
  | _ => none }
def streamGivesRow : OpenClaim := { program := "ytbfkfobfhjgphaa", sum := "209f0767d4966862d937adeaa0d42ab9c0403a55463eac8e7534f11c06fa6034", func := "soundservice/soundservicelaw20.StreamGives", spec := "streamGives", unfollowed := true, recurses := true, apart := false }
def StreamGivesSaid : Prop := streamGivesRow.holds Try.pinned (OpenSpec.ofChange streamGivesSpec)

/-- ITS FALSE NEIGHBOUR: 'it returns false'. Refute it at one input. -/
def streamGivesWrong : ChangeSpec := { name := "streamGives", fn := fun _ => fun
  | [d1, d2, d3, d4] => { results := [.lit (.bool false)], args := [d1, d2, d3, d4] }
  | _ => none }
def StreamGivesWrongFalsely : Prop := streamGivesRow.holds Try.pinned (OpenSpec.ofChange streamGivesWrong)

/- THE SECOND FORM. 'bulk': how many values and letters a reading holds, each counted each time it is reached (what is shared counts as often as it is met; a slice's spare places count too). A statement '..UptoSaid' is the law's where the arguments, and the package variables that the reading takes, are together of bulk at most 1048576: NARROWER than '..Said'. Prove '..Said' where nothing that the law and all that it calls make is longer than what came in: it says more and counts as full. Else prove '..UptoSaid'. A law counts once. -/
mutual
def uptoBulk {H : Type} : DataW H → Nat
  | .lit (.string bytes) => bytes.length + 1
  | .lit _ => 1
  | .nil => 1
  | .ptr d => uptoBulk d + 1
  | .slice elems spare => uptoBulkAll elems + uptoBulkAll spare + 1
  | .agg parts => uptoBulkAll parts + 1
  | .iface _ d => uptoBulk d + 1
  | .map entries => uptoBulkEntries entries + 1
  | .held _ => 1
def uptoBulkAll {H : Type} : List (DataW H) → Nat
  | [] => 0
  | d :: r => uptoBulk d + uptoBulkAll r
def uptoBulkEntries {H : Type} : List (Lit × DataW H) → Nat
  | [] => 0
  | x :: r => uptoBulkEntry x + uptoBulkEntries r
def uptoBulkEntry {H : Type} : Lit × DataW H → Nat
  | (.string bytes, d) => bytes.length + uptoBulk d + 1
  | (_, d) => uptoBulk d + 1
 end
def uptoSmall : (H : Type) → List (DataW H) → Bool := fun _ ds => decide (uptoBulkAll ds ≤ 1048576)
def OpenSpec.upto (s : _root_.Go.ChangeSpec) : _root_.Go.OpenSpec := { _root_.Go.OpenSpec.ofChange s with cond := some uptoSmall }

/-- 'soundservicelaw15.ResampleFeeds', WHERE WHAT IT READS IS OF BULK AT MOST 1048576: true; the input reads as it did. -/
def resampleFeedsUptoRow : OpenClaim := { program := "ytbfkfobfhjgphaa", sum := "209f0767d4966862d937adeaa0d42ab9c0403a55463eac8e7534f11c06fa6034", func := "soundservice/soundservicelaw15.ResampleFeeds", spec := "resampleFeeds", unfollowed := true, recurses := true, apart := false, narrowed := true }
def ResampleFeedsUptoSaid : Prop := resampleFeedsUptoRow.holds Try.pinned (OpenSpec.upto resampleFeedsSpec)

/-- 'soundservicelaw15.ResampleTakes', WHERE WHAT IT READS IS OF BULK AT MOST 1048576: true; the input reads as it did. -/
def resampleTakesUptoRow : OpenClaim := { program := "ytbfkfobfhjgphaa", sum := "209f0767d4966862d937adeaa0d42ab9c0403a55463eac8e7534f11c06fa6034", func := "soundservice/soundservicelaw15.ResampleTakes", spec := "resampleTakes", unfollowed := true, recurses := true, apart := false, narrowed := true }
def ResampleTakesUptoSaid : Prop := resampleTakesUptoRow.holds Try.pinned (OpenSpec.upto resampleTakesSpec)

/-- 'soundservicelaw15.ResamplePieces', WHERE WHAT IT READS IS OF BULK AT MOST 1048576: true; the input reads as it did. -/
def resamplePiecesUptoRow : OpenClaim := { program := "ytbfkfobfhjgphaa", sum := "209f0767d4966862d937adeaa0d42ab9c0403a55463eac8e7534f11c06fa6034", func := "soundservice/soundservicelaw15.ResamplePieces", spec := "resamplePieces", unfollowed := true, recurses := true, apart := false, narrowed := true }
def ResamplePiecesUptoSaid : Prop := resamplePiecesUptoRow.holds Try.pinned (OpenSpec.upto resamplePiecesSpec)

/-- 'soundservicelaw15.ResampleSame', WHERE WHAT IT READS IS OF BULK AT MOST 1048576: true; the input reads as it did. -/
def resampleSameUptoRow : OpenClaim := { program := "ytbfkfobfhjgphaa", sum := "209f0767d4966862d937adeaa0d42ab9c0403a55463eac8e7534f11c06fa6034", func := "soundservice/soundservicelaw15.ResampleSame", spec := "resampleSame", unfollowed := true, recurses := true, apart := false, narrowed := true }
def ResampleSameUptoSaid : Prop := resampleSameUptoRow.holds Try.pinned (OpenSpec.upto resampleSameSpec)

/-- 'soundservicelaw15.ResampleBetween', WHERE WHAT IT READS IS OF BULK AT MOST 1048576: true; the input reads as it did. -/
def resampleBetweenUptoRow : OpenClaim := { program := "ytbfkfobfhjgphaa", sum := "209f0767d4966862d937adeaa0d42ab9c0403a55463eac8e7534f11c06fa6034", func := "soundservice/soundservicelaw15.ResampleBetween", spec := "resampleBetween", unfollowed := true, recurses := true, apart := false, narrowed := true }
def ResampleBetweenUptoSaid : Prop := resampleBetweenUptoRow.holds Try.pinned (OpenSpec.upto resampleBetweenSpec)

/-- 'soundservicelaw15.ResampleCounts', WHERE WHAT IT READS IS OF BULK AT MOST 1048576: true; the input reads as it did. -/
def resampleCountsUptoRow : OpenClaim := { program := "ytbfkfobfhjgphaa", sum := "209f0767d4966862d937adeaa0d42ab9c0403a55463eac8e7534f11c06fa6034", func := "soundservice/soundservicelaw15.ResampleCounts", spec := "resampleCounts", unfollowed := true, recurses := true, apart := false, narrowed := true }
def ResampleCountsUptoSaid : Prop := resampleCountsUptoRow.holds Try.pinned (OpenSpec.upto resampleCountsSpec)

/-- 'soundservicelaw15.ResampleChannels', WHERE WHAT IT READS IS OF BULK AT MOST 1048576: true; the input reads as it did. -/
def resampleChannelsUptoRow : OpenClaim := { program := "ytbfkfobfhjgphaa", sum := "209f0767d4966862d937adeaa0d42ab9c0403a55463eac8e7534f11c06fa6034", func := "soundservice/soundservicelaw15.ResampleChannels", spec := "resampleChannels", unfollowed := true, recurses := true, apart := false, narrowed := true }
def ResampleChannelsUptoSaid : Prop := resampleChannelsUptoRow.holds Try.pinned (OpenSpec.upto resampleChannelsSpec)

/-- 'soundservicelaw19.BridgeMoves', WHERE WHAT IT READS IS OF BULK AT MOST 1048576: true; the input reads as it did. -/
def bridgeMovesUptoRow : OpenClaim := { program := "ytbfkfobfhjgphaa", sum := "209f0767d4966862d937adeaa0d42ab9c0403a55463eac8e7534f11c06fa6034", func := "soundservice/soundservicelaw19.BridgeMoves", spec := "bridgeMoves", unfollowed := true, recurses := true, apart := false, narrowed := true }
def BridgeMovesUptoSaid : Prop := bridgeMovesUptoRow.holds Try.pinned (OpenSpec.upto bridgeMovesSpec)

/-- 'soundservicelaw19.BridgeCounts', WHERE WHAT IT READS IS OF BULK AT MOST 1048576: true; the input reads as it did. -/
def bridgeCountsUptoRow : OpenClaim := { program := "ytbfkfobfhjgphaa", sum := "209f0767d4966862d937adeaa0d42ab9c0403a55463eac8e7534f11c06fa6034", func := "soundservice/soundservicelaw19.BridgeCounts", spec := "bridgeCounts", unfollowed := true, recurses := true, apart := false, narrowed := true }
def BridgeCountsUptoSaid : Prop := bridgeCountsUptoRow.holds Try.pinned (OpenSpec.upto bridgeCountsSpec)

/-- 'soundservicelaw19.BridgeEqual', WHERE WHAT IT READS IS OF BULK AT MOST 1048576: true; the input reads as it did. -/
def bridgeEqualUptoRow : OpenClaim := { program := "ytbfkfobfhjgphaa", sum := "209f0767d4966862d937adeaa0d42ab9c0403a55463eac8e7534f11c06fa6034", func := "soundservice/soundservicelaw19.BridgeEqual", spec := "bridgeEqual", unfollowed := true, recurses := true, apart := false, narrowed := true }
def BridgeEqualUptoSaid : Prop := bridgeEqualUptoRow.holds Try.pinned (OpenSpec.upto bridgeEqualSpec)

/-- 'soundservicelaw19.BridgeParts', WHERE WHAT IT READS IS OF BULK AT MOST 1048576: true; the input reads as it did. -/
def bridgePartsUptoRow : OpenClaim := { program := "ytbfkfobfhjgphaa", sum := "209f0767d4966862d937adeaa0d42ab9c0403a55463eac8e7534f11c06fa6034", func := "soundservice/soundservicelaw19.BridgeParts", spec := "bridgeParts", unfollowed := true, recurses := true, apart := false, narrowed := true }
def BridgePartsUptoSaid : Prop := bridgePartsUptoRow.holds Try.pinned (OpenSpec.upto bridgePartsSpec)

/-- 'soundservicelaw19.BridgeHolds', WHERE WHAT IT READS IS OF BULK AT MOST 1048576: true; the input reads as it did. -/
def bridgeHoldsUptoRow : OpenClaim := { program := "ytbfkfobfhjgphaa", sum := "209f0767d4966862d937adeaa0d42ab9c0403a55463eac8e7534f11c06fa6034", func := "soundservice/soundservicelaw19.BridgeHolds", spec := "bridgeHolds", inPlace := ["math/bits.Add64"], unfollowed := true, recurses := true, apart := false, narrowed := true }
def BridgeHoldsUptoSaid : Prop := bridgeHoldsUptoRow.holds Try.pinned (OpenSpec.upto bridgeHoldsSpec)

/-- 'soundservicelaw20.StreamPieces', WHERE WHAT IT READS IS OF BULK AT MOST 1048576: true; the input reads as it did. -/
def streamPiecesUptoRow : OpenClaim := { program := "ytbfkfobfhjgphaa", sum := "209f0767d4966862d937adeaa0d42ab9c0403a55463eac8e7534f11c06fa6034", func := "soundservice/soundservicelaw20.StreamPieces", spec := "streamPieces", unfollowed := true, recurses := true, apart := false, narrowed := true }
def StreamPiecesUptoSaid : Prop := streamPiecesUptoRow.holds Try.pinned (OpenSpec.upto streamPiecesSpec)

/-- 'soundservicelaw20.StreamDrains', WHERE WHAT IT READS IS OF BULK AT MOST 1048576: true; the input reads as it did. -/
def streamDrainsUptoRow : OpenClaim := { program := "ytbfkfobfhjgphaa", sum := "209f0767d4966862d937adeaa0d42ab9c0403a55463eac8e7534f11c06fa6034", func := "soundservice/soundservicelaw20.StreamDrains", spec := "streamDrains", unfollowed := true, recurses := true, apart := false, narrowed := true }
def StreamDrainsUptoSaid : Prop := streamDrainsUptoRow.holds Try.pinned (OpenSpec.upto streamDrainsSpec)

/-- 'soundservicelaw20.StreamCounts', WHERE WHAT IT READS IS OF BULK AT MOST 1048576: true; the input reads as it did. -/
def streamCountsUptoRow : OpenClaim := { program := "ytbfkfobfhjgphaa", sum := "209f0767d4966862d937adeaa0d42ab9c0403a55463eac8e7534f11c06fa6034", func := "soundservice/soundservicelaw20.StreamCounts", spec := "streamCounts", unfollowed := true, recurses := true, apart := false, narrowed := true }
def StreamCountsUptoSaid : Prop := streamCountsUptoRow.holds Try.pinned (OpenSpec.upto streamCountsSpec)

/-- 'soundservicelaw20.StreamGives', WHERE WHAT IT READS IS OF BULK AT MOST 1048576: true; the input reads as it did. -/
def streamGivesUptoRow : OpenClaim := { program := "ytbfkfobfhjgphaa", sum := "209f0767d4966862d937adeaa0d42ab9c0403a55463eac8e7534f11c06fa6034", func := "soundservice/soundservicelaw20.StreamGives", spec := "streamGives", unfollowed := true, recurses := true, apart := false, narrowed := true }
def StreamGivesUptoSaid : Prop := streamGivesUptoRow.holds Try.pinned (OpenSpec.upto streamGivesSpec)

end Rows
end Go.Proofs.Ytbfkfobfhjgphaa
