/-
  No cell of these rows narrows 'for every input' (looked for: loops, veiled, ifaces, maps, wideKeys, modest, calm, conditions, laid).
  DERIVED. THE GIVEN ROWS OF THIS SEAT. 13 by the template 'for every input the law returns true; each argument reads behind the call as it read before'; 0 by the template 'total and deterministic' (their statements: YtnidbincddpaaaaTotals.lean).
  GIVEN WITH THE SEED: the statements are not yours to turn. If you find one false, say at which input.
  Laid BY PROGRAM, IN A SANDBOX (cutbox-rows.mjs): the forced cells as the released guide's own fill.sh prints them over the translation db71a36019639109… (all of the seat's roots in one cut). By AI agents, Wed Nov 11 2026. No macro, syntax, notation, axiom, sorry.
-/
import Derived.Test.YtnidbincddpaaaaChecked
import GoSem.Claim
import GoSem.ClaimJoined
import GoSem.ClaimMapViews
import Derived.JoinedTies
import Derived.KernelRfl
namespace Go.Proofs.Ytnidbincddpaaaa
/- THE CELL 'sum', in the pinned program and in every row, IS THE sha256 OF THE DUMP (.gsa) THAT YtnidbincddpaaaaProg.lean LOADS. Nothing in Lean hashes anything: it is a label: what it is worth is what the hold of that sum in a sandbox is worth. -/
noncomputable def Try.pinned : Pinned := { name := "ytnidbincddpaaaa", sum := "db71a360196391090a4aa16c34539b5a9f0a60b58e05a1fe0930e448a4819653", checked := Try.checked }
namespace Rows
def none {H : Type} : Left H := { results := [], args := [] }

/-- 'bagatellelaw07.WireNames': WHATEVER THE INPUT: true; the input reads as it did. -/
def wireNamesSpec : ChangeSpec := { name := "wireNames", fn := fun _ => fun
  | [d1, d2] => { results := [.lit (.bool true)], args := [d1, d2] }
  | _ => none }
def wireNamesRow : OpenClaim := { program := "ytnidbincddpaaaa", sum := "db71a360196391090a4aa16c34539b5a9f0a60b58e05a1fe0930e448a4819653", func := "bagatelle/bagatellelaw07.WireNames", spec := "wireNames", apart := false }
def WireNamesSaid : Prop := wireNamesRow.holds Try.pinned (OpenSpec.ofChange wireNamesSpec)

/-- ITS FALSE NEIGHBOUR: 'it returns false'. Refute it at one input. -/
def wireNamesWrong : ChangeSpec := { name := "wireNames", fn := fun _ => fun
  | [d1, d2] => { results := [.lit (.bool false)], args := [d1, d2] }
  | _ => none }
def WireNamesWrongFalsely : Prop := wireNamesRow.holds Try.pinned (OpenSpec.ofChange wireNamesWrong)

/-- 'bagatellelaw07.WireFrames': WHATEVER THE INPUT: true; the input reads as it did. -/
def wireFramesSpec : ChangeSpec := { name := "wireFrames", fn := fun _ => fun
  | [d] => { results := [.lit (.bool true)], args := [d] }
  | _ => none }
def wireFramesRow : OpenClaim := { program := "ytnidbincddpaaaa", sum := "db71a360196391090a4aa16c34539b5a9f0a60b58e05a1fe0930e448a4819653", func := "bagatelle/bagatellelaw07.WireFrames", spec := "wireFrames", apart := false }
def WireFramesSaid : Prop := wireFramesRow.holds Try.pinned (OpenSpec.ofChange wireFramesSpec)

/-- ITS FALSE NEIGHBOUR: 'it returns false'. Refute it at one input. -/
def wireFramesWrong : ChangeSpec := { name := "wireFrames", fn := fun _ => fun
  | [d] => { results := [.lit (.bool false)], args := [d] }
  | _ => none }
def WireFramesWrongFalsely : Prop := wireFramesRow.holds Try.pinned (OpenSpec.ofChange wireFramesWrong)

/-- 'bagatellelaw07.WireApart': WHATEVER THE INPUT: true; the input reads as it did. -/
def wireApartSpec : ChangeSpec := { name := "wireApart", fn := fun _ => fun
  | [d1, d2, d3, d4] => { results := [.lit (.bool true)], args := [d1, d2, d3, d4] }
  | _ => none }
def wireApartRow : OpenClaim := { program := "ytnidbincddpaaaa", sum := "db71a360196391090a4aa16c34539b5a9f0a60b58e05a1fe0930e448a4819653", func := "bagatelle/bagatellelaw07.WireApart", spec := "wireApart", apart := false }
def WireApartSaid : Prop := wireApartRow.holds Try.pinned (OpenSpec.ofChange wireApartSpec)

/-- ITS FALSE NEIGHBOUR: 'it returns false'. Refute it at one input. -/
def wireApartWrong : ChangeSpec := { name := "wireApart", fn := fun _ => fun
  | [d1, d2, d3, d4] => { results := [.lit (.bool false)], args := [d1, d2, d3, d4] }
  | _ => none }
def WireApartWrongFalsely : Prop := wireApartRow.holds Try.pinned (OpenSpec.ofChange wireApartWrong)

/-- 'bagatellelaw07.WireCalls': WHATEVER THE INPUT: true; the input reads as it did. -/
def wireCallsSpec : ChangeSpec := { name := "wireCalls", fn := fun _ => fun
  | [d1, d2] => { results := [.lit (.bool true)], args := [d1, d2] }
  | _ => none }
def wireCallsRow : OpenClaim := { program := "ytnidbincddpaaaa", sum := "db71a360196391090a4aa16c34539b5a9f0a60b58e05a1fe0930e448a4819653", func := "bagatelle/bagatellelaw07.WireCalls", spec := "wireCalls", apart := false }
def WireCallsSaid : Prop := wireCallsRow.holds Try.pinned (OpenSpec.ofChange wireCallsSpec)

/-- ITS FALSE NEIGHBOUR: 'it returns false'. Refute it at one input. -/
def wireCallsWrong : ChangeSpec := { name := "wireCalls", fn := fun _ => fun
  | [d1, d2] => { results := [.lit (.bool false)], args := [d1, d2] }
  | _ => none }
def WireCallsWrongFalsely : Prop := wireCallsRow.holds Try.pinned (OpenSpec.ofChange wireCallsWrong)

/-- 'bagatellelaw07.WireReplies': WHATEVER THE INPUT: true; the input reads as it did. -/
def wireRepliesSpec : ChangeSpec := { name := "wireReplies", fn := fun _ => fun
  | [d1, d2] => { results := [.lit (.bool true)], args := [d1, d2] }
  | _ => none }
def wireRepliesRow : OpenClaim := { program := "ytnidbincddpaaaa", sum := "db71a360196391090a4aa16c34539b5a9f0a60b58e05a1fe0930e448a4819653", func := "bagatelle/bagatellelaw07.WireReplies", spec := "wireReplies", apart := false }
def WireRepliesSaid : Prop := wireRepliesRow.holds Try.pinned (OpenSpec.ofChange wireRepliesSpec)

/-- ITS FALSE NEIGHBOUR: 'it returns false'. Refute it at one input. -/
def wireRepliesWrong : ChangeSpec := { name := "wireReplies", fn := fun _ => fun
  | [d1, d2] => { results := [.lit (.bool false)], args := [d1, d2] }
  | _ => none }
def WireRepliesWrongFalsely : Prop := wireRepliesRow.holds Try.pinned (OpenSpec.ofChange wireRepliesWrong)

/-- 'bagatellelaw07.WireBack': WHATEVER THE INPUT: true; the input reads as it did. -/
def wireBackSpec : ChangeSpec := { name := "wireBack", fn := fun _ => fun
  | [d1, d2, d3, d4] => { results := [.lit (.bool true)], args := [d1, d2, d3, d4] }
  | _ => none }
def wireBackRow : OpenClaim := { program := "ytnidbincddpaaaa", sum := "db71a360196391090a4aa16c34539b5a9f0a60b58e05a1fe0930e448a4819653", func := "bagatelle/bagatellelaw07.WireBack", spec := "wireBack", apart := false }
def WireBackSaid : Prop := wireBackRow.holds Try.pinned (OpenSpec.ofChange wireBackSpec)

/-- ITS FALSE NEIGHBOUR: 'it returns false'. Refute it at one input. -/
def wireBackWrong : ChangeSpec := { name := "wireBack", fn := fun _ => fun
  | [d1, d2, d3, d4] => { results := [.lit (.bool false)], args := [d1, d2, d3, d4] }
  | _ => none }
def WireBackWrongFalsely : Prop := wireBackRow.holds Try.pinned (OpenSpec.ofChange wireBackWrong)

/-- 'bagatellelaw07.WireKnown': WHATEVER THE INPUT: true; the input reads as it did. -/
def wireKnownSpec : ChangeSpec := { name := "wireKnown", fn := fun _ => fun
  | [] => { results := [.lit (.bool true)], args := [] }
  | _ => none }
def wireKnownRow : OpenClaim := { program := "ytnidbincddpaaaa", sum := "db71a360196391090a4aa16c34539b5a9f0a60b58e05a1fe0930e448a4819653", func := "bagatelle/bagatellelaw07.WireKnown", spec := "wireKnown", apart := false }
def WireKnownSaid : Prop := wireKnownRow.holds Try.pinned (OpenSpec.ofChange wireKnownSpec)

/-- ITS FALSE NEIGHBOUR: 'it returns false'. Refute it at one input. -/
def wireKnownWrong : ChangeSpec := { name := "wireKnown", fn := fun _ => fun
  | [] => { results := [.lit (.bool false)], args := [] }
  | _ => none }
def WireKnownWrongFalsely : Prop := wireKnownRow.holds Try.pinned (OpenSpec.ofChange wireKnownWrong)

/-- 'bagatellelaw07.WirePieces': WHATEVER THE INPUT: true; the input reads as it did. -/
def wirePiecesSpec : ChangeSpec := { name := "wirePieces", fn := fun _ => fun
  | [d1, d2, d3] => { results := [.lit (.bool true)], args := [d1, d2, d3] }
  | _ => none }
def wirePiecesRow : OpenClaim := { program := "ytnidbincddpaaaa", sum := "db71a360196391090a4aa16c34539b5a9f0a60b58e05a1fe0930e448a4819653", func := "bagatelle/bagatellelaw07.WirePieces", spec := "wirePieces", apart := false }
def WirePiecesSaid : Prop := wirePiecesRow.holds Try.pinned (OpenSpec.ofChange wirePiecesSpec)

/-- ITS FALSE NEIGHBOUR: 'it returns false'. Refute it at one input. -/
def wirePiecesWrong : ChangeSpec := { name := "wirePieces", fn := fun _ => fun
  | [d1, d2, d3] => { results := [.lit (.bool false)], args := [d1, d2, d3] }
  | _ => none }
def WirePiecesWrongFalsely : Prop := wirePiecesRow.holds Try.pinned (OpenSpec.ofChange wirePiecesWrong)

/-- 'bagatellelaw07.WireNone': WHATEVER THE INPUT: true; the input reads as it did. -/
def wireNoneSpec : ChangeSpec := { name := "wireNone", fn := fun _ => fun
  | [d] => { results := [.lit (.bool true)], args := [d] }
  | _ => none }
def wireNoneRow : OpenClaim := { program := "ytnidbincddpaaaa", sum := "db71a360196391090a4aa16c34539b5a9f0a60b58e05a1fe0930e448a4819653", func := "bagatelle/bagatellelaw07.WireNone", spec := "wireNone", apart := false }
def WireNoneSaid : Prop := wireNoneRow.holds Try.pinned (OpenSpec.ofChange wireNoneSpec)

/-- ITS FALSE NEIGHBOUR: 'it returns false'. Refute it at one input. -/
def wireNoneWrong : ChangeSpec := { name := "wireNone", fn := fun _ => fun
  | [d] => { results := [.lit (.bool false)], args := [d] }
  | _ => none }
def WireNoneWrongFalsely : Prop := wireNoneRow.holds Try.pinned (OpenSpec.ofChange wireNoneWrong)

/-- 'bagatellelaw07.WireFeeds': WHATEVER THE INPUT: true; the input reads as it did. -/
def wireFeedsSpec : ChangeSpec := { name := "wireFeeds", fn := fun _ => fun
  | [d1, d2] => { results := [.lit (.bool true)], args := [d1, d2] }
  | _ => none }
def wireFeedsRow : OpenClaim := { program := "ytnidbincddpaaaa", sum := "db71a360196391090a4aa16c34539b5a9f0a60b58e05a1fe0930e448a4819653", func := "bagatelle/bagatellelaw07.WireFeeds", spec := "wireFeeds", apart := false }
def WireFeedsSaid : Prop := wireFeedsRow.holds Try.pinned (OpenSpec.ofChange wireFeedsSpec)

/-- ITS FALSE NEIGHBOUR: 'it returns false'. Refute it at one input. -/
def wireFeedsWrong : ChangeSpec := { name := "wireFeeds", fn := fun _ => fun
  | [d1, d2] => { results := [.lit (.bool false)], args := [d1, d2] }
  | _ => none }
def WireFeedsWrongFalsely : Prop := wireFeedsRow.holds Try.pinned (OpenSpec.ofChange wireFeedsWrong)

/-- 'bagatellelaw07.WireBreaks': WHATEVER THE INPUT: true; the input reads as it did. -/
def wireBreaksSpec : ChangeSpec := { name := "wireBreaks", fn := fun _ => fun
  | [d1, d2, d3] => { results := [.lit (.bool true)], args := [d1, d2, d3] }
  | _ => none }
def wireBreaksRow : OpenClaim := { program := "ytnidbincddpaaaa", sum := "db71a360196391090a4aa16c34539b5a9f0a60b58e05a1fe0930e448a4819653", func := "bagatelle/bagatellelaw07.WireBreaks", spec := "wireBreaks", apart := false }
def WireBreaksSaid : Prop := wireBreaksRow.holds Try.pinned (OpenSpec.ofChange wireBreaksSpec)

/-- ITS FALSE NEIGHBOUR: 'it returns false'. Refute it at one input. -/
def wireBreaksWrong : ChangeSpec := { name := "wireBreaks", fn := fun _ => fun
  | [d1, d2, d3] => { results := [.lit (.bool false)], args := [d1, d2, d3] }
  | _ => none }
def WireBreaksWrongFalsely : Prop := wireBreaksRow.holds Try.pinned (OpenSpec.ofChange wireBreaksWrong)

/-- 'bagatellelaw07.WireReplyBack': WHATEVER THE INPUT: true; the input reads as it did. -/
def wireReplyBackSpec : ChangeSpec := { name := "wireReplyBack", fn := fun _ => fun
  | [d1, d2, d3, d4, d5] => { results := [.lit (.bool true)], args := [d1, d2, d3, d4, d5] }
  | _ => none }
def wireReplyBackRow : OpenClaim := { program := "ytnidbincddpaaaa", sum := "db71a360196391090a4aa16c34539b5a9f0a60b58e05a1fe0930e448a4819653", func := "bagatelle/bagatellelaw07.WireReplyBack", spec := "wireReplyBack", apart := false }
def WireReplyBackSaid : Prop := wireReplyBackRow.holds Try.pinned (OpenSpec.ofChange wireReplyBackSpec)

/-- ITS FALSE NEIGHBOUR: 'it returns false'. Refute it at one input. -/
def wireReplyBackWrong : ChangeSpec := { name := "wireReplyBack", fn := fun _ => fun
  | [d1, d2, d3, d4, d5] => { results := [.lit (.bool false)], args := [d1, d2, d3, d4, d5] }
  | _ => none }
def WireReplyBackWrongFalsely : Prop := wireReplyBackRow.holds Try.pinned (OpenSpec.ofChange wireReplyBackWrong)

/-- 'bagatellelaw07.WireRead': WHATEVER THE INPUT: true; the input reads as it did. -/
def wireReadSpec : ChangeSpec := { name := "wireRead", fn := fun _ => fun
  | [d] => { results := [.lit (.bool true)], args := [d] }
  | _ => none }
def wireReadRow : OpenClaim := { program := "ytnidbincddpaaaa", sum := "db71a360196391090a4aa16c34539b5a9f0a60b58e05a1fe0930e448a4819653", func := "bagatelle/bagatellelaw07.WireRead", spec := "wireRead", apart := false }
def WireReadSaid : Prop := wireReadRow.holds Try.pinned (OpenSpec.ofChange wireReadSpec)

/-- ITS FALSE NEIGHBOUR: 'it returns false'. Refute it at one input. -/
def wireReadWrong : ChangeSpec := { name := "wireRead", fn := fun _ => fun
  | [d] => { results := [.lit (.bool false)], args := [d] }
  | _ => none }
def WireReadWrongFalsely : Prop := wireReadRow.holds Try.pinned (OpenSpec.ofChange wireReadWrong)

/- THE SECOND FORM. 'bulk': how many values and letters a reading holds, each counted each time it is reached (what is shared counts as often as it is met; a slice's spare places count too). A statement '..UptoSaid' is the law's where the arguments, and the package variables that the reading takes, are together of bulk at most 1048576: NARROWER than '..Said'. Prove '..Said' where nothing that the law and all that it calls make is longer than what came in: it says more and counts as full. Else prove '..UptoSaid'. A law counts once. -/
mutual
def uptoBulk {H : Type} : DataW H → Nat
  | .lit (.string bytes) => bytes.length + 1
  | .lit _ => 1
  | .nil => 1
  | .ptr d => uptoBulk d + 1
  | .slice elems spare => uptoBulkAll elems + uptoBulkAll spare + 1
  | .agg parts => uptoBulkAll parts + 1
  | .iface _ d => uptoBulk d + 1
  | .map entries => uptoBulkEntries entries + 1
  | .held _ => 1
def uptoBulkAll {H : Type} : List (DataW H) → Nat
  | [] => 0
  | d :: r => uptoBulk d + uptoBulkAll r
def uptoBulkEntries {H : Type} : List (Lit × DataW H) → Nat
  | [] => 0
  | x :: r => uptoBulkEntry x + uptoBulkEntries r
def uptoBulkEntry {H : Type} : Lit × DataW H → Nat
  | (.string bytes, d) => bytes.length + uptoBulk d + 1
  | (_, d) => uptoBulk d + 1
 end
def uptoSmall : (H : Type) → List (DataW H) → Bool := fun _ ds => decide (uptoBulkAll ds ≤ 1048576)
def OpenSpec.upto (s : _root_.Go.ChangeSpec) : _root_.Go.OpenSpec := { _root_.Go.OpenSpec.ofChange s with cond := some uptoSmall }

/-- 'bagatellelaw07.WireNames', WHERE WHAT IT READS IS OF BULK AT MOST 1048576: true; the input reads as it did. -/
def wireNamesUptoRow : OpenClaim := { program := "ytnidbincddpaaaa", sum := "db71a360196391090a4aa16c34539b5a9f0a60b58e05a1fe0930e448a4819653", func := "bagatelle/bagatellelaw07.WireNames", spec := "wireNames", apart := false, narrowed := true }
def WireNamesUptoSaid : Prop := wireNamesUptoRow.holds Try.pinned (OpenSpec.upto wireNamesSpec)

/-- 'bagatellelaw07.WireFrames', WHERE WHAT IT READS IS OF BULK AT MOST 1048576: true; the input reads as it did. -/
def wireFramesUptoRow : OpenClaim := { program := "ytnidbincddpaaaa", sum := "db71a360196391090a4aa16c34539b5a9f0a60b58e05a1fe0930e448a4819653", func := "bagatelle/bagatellelaw07.WireFrames", spec := "wireFrames", apart := false, narrowed := true }
def WireFramesUptoSaid : Prop := wireFramesUptoRow.holds Try.pinned (OpenSpec.upto wireFramesSpec)

/-- 'bagatellelaw07.WireApart', WHERE WHAT IT READS IS OF BULK AT MOST 1048576: true; the input reads as it did. -/
def wireApartUptoRow : OpenClaim := { program := "ytnidbincddpaaaa", sum := "db71a360196391090a4aa16c34539b5a9f0a60b58e05a1fe0930e448a4819653", func := "bagatelle/bagatellelaw07.WireApart", spec := "wireApart", apart := false, narrowed := true }
def WireApartUptoSaid : Prop := wireApartUptoRow.holds Try.pinned (OpenSpec.upto wireApartSpec)

/-- 'bagatellelaw07.WireCalls', WHERE WHAT IT READS IS OF BULK AT MOST 1048576: true; the input reads as it did. -/
def wireCallsUptoRow : OpenClaim := { program := "ytnidbincddpaaaa", sum := "db71a360196391090a4aa16c34539b5a9f0a60b58e05a1fe0930e448a4819653", func := "bagatelle/bagatellelaw07.WireCalls", spec := "wireCalls", apart := false, narrowed := true }
def WireCallsUptoSaid : Prop := wireCallsUptoRow.holds Try.pinned (OpenSpec.upto wireCallsSpec)

/-- 'bagatellelaw07.WireReplies', WHERE WHAT IT READS IS OF BULK AT MOST 1048576: true; the input reads as it did. -/
def wireRepliesUptoRow : OpenClaim := { program := "ytnidbincddpaaaa", sum := "db71a360196391090a4aa16c34539b5a9f0a60b58e05a1fe0930e448a4819653", func := "bagatelle/bagatellelaw07.WireReplies", spec := "wireReplies", apart := false, narrowed := true }
def WireRepliesUptoSaid : Prop := wireRepliesUptoRow.holds Try.pinned (OpenSpec.upto wireRepliesSpec)

/-- 'bagatellelaw07.WireBack', WHERE WHAT IT READS IS OF BULK AT MOST 1048576: true; the input reads as it did. -/
def wireBackUptoRow : OpenClaim := { program := "ytnidbincddpaaaa", sum := "db71a360196391090a4aa16c34539b5a9f0a60b58e05a1fe0930e448a4819653", func := "bagatelle/bagatellelaw07.WireBack", spec := "wireBack", apart := false, narrowed := true }
def WireBackUptoSaid : Prop := wireBackUptoRow.holds Try.pinned (OpenSpec.upto wireBackSpec)

/-- 'bagatellelaw07.WireKnown', WHERE WHAT IT READS IS OF BULK AT MOST 1048576: true; the input reads as it did. -/
def wireKnownUptoRow : OpenClaim := { program := "ytnidbincddpaaaa", sum := "db71a360196391090a4aa16c34539b5a9f0a60b58e05a1fe0930e448a4819653", func := "bagatelle/bagatellelaw07.WireKnown", spec := "wireKnown", apart := false, narrowed := true }
def WireKnownUptoSaid : Prop := wireKnownUptoRow.holds Try.pinned (OpenSpec.upto wireKnownSpec)

/-- 'bagatellelaw07.WirePieces', WHERE WHAT IT READS IS OF BULK AT MOST 1048576: true; the input reads as it did. -/
def wirePiecesUptoRow : OpenClaim := { program := "ytnidbincddpaaaa", sum := "db71a360196391090a4aa16c34539b5a9f0a60b58e05a1fe0930e448a4819653", func := "bagatelle/bagatellelaw07.WirePieces", spec := "wirePieces", apart := false, narrowed := true }
def WirePiecesUptoSaid : Prop := wirePiecesUptoRow.holds Try.pinned (OpenSpec.upto wirePiecesSpec)

/-- 'bagatellelaw07.WireNone', WHERE WHAT IT READS IS OF BULK AT MOST 1048576: true; the input reads as it did. -/
def wireNoneUptoRow : OpenClaim := { program := "ytnidbincddpaaaa", sum := "db71a360196391090a4aa16c34539b5a9f0a60b58e05a1fe0930e448a4819653", func := "bagatelle/bagatellelaw07.WireNone", spec := "wireNone", apart := false, narrowed := true }
def WireNoneUptoSaid : Prop := wireNoneUptoRow.holds Try.pinned (OpenSpec.upto wireNoneSpec)

/-- 'bagatellelaw07.WireFeeds', WHERE WHAT IT READS IS OF BULK AT MOST 1048576: true; the input reads as it did. -/
def wireFeedsUptoRow : OpenClaim := { program := "ytnidbincddpaaaa", sum := "db71a360196391090a4aa16c34539b5a9f0a60b58e05a1fe0930e448a4819653", func := "bagatelle/bagatellelaw07.WireFeeds", spec := "wireFeeds", apart := false, narrowed := true }
def WireFeedsUptoSaid : Prop := wireFeedsUptoRow.holds Try.pinned (OpenSpec.upto wireFeedsSpec)

/-- 'bagatellelaw07.WireBreaks', WHERE WHAT IT READS IS OF BULK AT MOST 1048576: true; the input reads as it did. -/
def wireBreaksUptoRow : OpenClaim := { program := "ytnidbincddpaaaa", sum := "db71a360196391090a4aa16c34539b5a9f0a60b58e05a1fe0930e448a4819653", func := "bagatelle/bagatellelaw07.WireBreaks", spec := "wireBreaks", apart := false, narrowed := true }
def WireBreaksUptoSaid : Prop := wireBreaksUptoRow.holds Try.pinned (OpenSpec.upto wireBreaksSpec)

/-- 'bagatellelaw07.WireReplyBack', WHERE WHAT IT READS IS OF BULK AT MOST 1048576: true; the input reads as it did. -/
def wireReplyBackUptoRow : OpenClaim := { program := "ytnidbincddpaaaa", sum := "db71a360196391090a4aa16c34539b5a9f0a60b58e05a1fe0930e448a4819653", func := "bagatelle/bagatellelaw07.WireReplyBack", spec := "wireReplyBack", apart := false, narrowed := true }
def WireReplyBackUptoSaid : Prop := wireReplyBackUptoRow.holds Try.pinned (OpenSpec.upto wireReplyBackSpec)

/-- 'bagatellelaw07.WireRead', WHERE WHAT IT READS IS OF BULK AT MOST 1048576: true; the input reads as it did. -/
def wireReadUptoRow : OpenClaim := { program := "ytnidbincddpaaaa", sum := "db71a360196391090a4aa16c34539b5a9f0a60b58e05a1fe0930e448a4819653", func := "bagatelle/bagatellelaw07.WireRead", spec := "wireRead", apart := false, narrowed := true }
def WireReadUptoSaid : Prop := wireReadUptoRow.holds Try.pinned (OpenSpec.upto wireReadSpec)

end Rows
end Go.Proofs.Ytnidbincddpaaaa
