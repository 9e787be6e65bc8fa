/-
  No cell of these rows narrows 'for every input' (looked for: loops, veiled, ifaces, maps, wideKeys, modest, calm, conditions, laid).
  DERIVED. THE GIVEN ROWS OF THIS SEAT. 9 by the template 'for every input the law returns true; each argument reads behind the call as it read before'; 0 by the template 'total and deterministic' (their statements: YtkgoglapagmapaaTotals.lean).
  GIVEN WITH THE SEED: the statements are not yours to turn. If you find one false, say at which input.
  Laid BY PROGRAM, IN A SANDBOX (cutbox-rows.mjs): the forced cells as the released guide's own fill.sh prints them over the translation d4905f36848802f4… (all of the seat's roots in one cut). By AI agents, Wed Nov 11 2026. No macro, syntax, notation, axiom, sorry.
-/
import Derived.Test.YtkgoglapagmapaaChecked
import GoSem.Claim
import GoSem.ClaimJoined
import GoSem.ClaimMapViews
import Derived.JoinedTies
import Derived.KernelRfl
namespace Go.Proofs.Ytkgoglapagmapaa
/- THE CELL 'sum', in the pinned program and in every row, IS THE sha256 OF THE DUMP (.gsa) THAT YtkgoglapagmapaaProg.lean LOADS. Nothing in Lean hashes anything: it is a label: what it is worth is what the hold of that sum in a sandbox is worth. -/
noncomputable def Try.pinned : Pinned := { name := "ytkgoglapagmapaa", sum := "d4905f36848802f45ec05edb3dd2b9779c81c72a3f34aae43a1a8306ebaede60", checked := Try.checked }
namespace Rows
def none {H : Type} : Left H := { results := [], args := [] }

/-- 'laws.FnExactEventOk': WHATEVER THE INPUT: true; the input reads as it did. -/
def fnExactEventOkSpec : ChangeSpec := { name := "fnExactEventOk", fn := fun _ => fun
  | [d] => { results := [.lit (.bool true)], args := [d] }
  | _ => none }
def fnExactEventOkRow : OpenClaim := { program := "ytkgoglapagmapaa", sum := "d4905f36848802f45ec05edb3dd2b9779c81c72a3f34aae43a1a8306ebaede60", func := "loop.example/s01366/laws.FnExactEventOk", spec := "fnExactEventOk", inPlace := ["internal/bytealg.IndexByteString"], unfollowed := true, recurses := true, plainKeys := false, apart := false }
def FnExactEventOkSaid : Prop := fnExactEventOkRow.holds Try.pinned (OpenSpec.ofChange fnExactEventOkSpec)

/-- ITS FALSE NEIGHBOUR: 'it returns false'. Refute it at one input. -/
def fnExactEventOkWrong : ChangeSpec := { name := "fnExactEventOk", fn := fun _ => fun
  | [d] => { results := [.lit (.bool false)], args := [d] }
  | _ => none }
def FnExactEventOkWrongFalsely : Prop := fnExactEventOkRow.holds Try.pinned (OpenSpec.ofChange fnExactEventOkWrong)

/-- 'laws.FnExactRoomOk': WHATEVER THE INPUT: true; the input reads as it did. -/
def fnExactRoomOkSpec : ChangeSpec := { name := "fnExactRoomOk", fn := fun _ => fun
  | [d] => { results := [.lit (.bool true)], args := [d] }
  | _ => none }
def fnExactRoomOkRow : OpenClaim := { program := "ytkgoglapagmapaa", sum := "d4905f36848802f45ec05edb3dd2b9779c81c72a3f34aae43a1a8306ebaede60", func := "loop.example/s01366/laws.FnExactRoomOk", spec := "fnExactRoomOk", inPlace := ["internal/bytealg.IndexByteString"], unfollowed := true, recurses := true, plainKeys := false, apart := false }
def FnExactRoomOkSaid : Prop := fnExactRoomOkRow.holds Try.pinned (OpenSpec.ofChange fnExactRoomOkSpec)

/-- ITS FALSE NEIGHBOUR: 'it returns false'. Refute it at one input. -/
def fnExactRoomOkWrong : ChangeSpec := { name := "fnExactRoomOk", fn := fun _ => fun
  | [d] => { results := [.lit (.bool false)], args := [d] }
  | _ => none }
def FnExactRoomOkWrongFalsely : Prop := fnExactRoomOkRow.holds Try.pinned (OpenSpec.ofChange fnExactRoomOkWrong)

/-- 'laws.FnExactInsert': WHATEVER THE INPUT: true; the input reads as it did. -/
def fnExactInsertSpec : ChangeSpec := { name := "fnExactInsert", fn := fun _ => fun
  | [d1, d2] => { results := [.lit (.bool true)], args := [d1, d2] }
  | _ => none }
def fnExactInsertRow : OpenClaim := { program := "ytkgoglapagmapaa", sum := "d4905f36848802f45ec05edb3dd2b9779c81c72a3f34aae43a1a8306ebaede60", func := "loop.example/s01366/laws.FnExactInsert", spec := "fnExactInsert", inPlace := ["internal/bytealg.IndexByteString"], unfollowed := true, recurses := true, plainKeys := false, apart := false }
def FnExactInsertSaid : Prop := fnExactInsertRow.holds Try.pinned (OpenSpec.ofChange fnExactInsertSpec)

/-- ITS FALSE NEIGHBOUR: 'it returns false'. Refute it at one input. -/
def fnExactInsertWrong : ChangeSpec := { name := "fnExactInsert", fn := fun _ => fun
  | [d1, d2] => { results := [.lit (.bool false)], args := [d1, d2] }
  | _ => none }
def FnExactInsertWrongFalsely : Prop := fnExactInsertRow.holds Try.pinned (OpenSpec.ofChange fnExactInsertWrong)

/-- 'laws.FnExactTips': WHATEVER THE INPUT: true; the input reads as it did. -/
def fnExactTipsSpec : ChangeSpec := { name := "fnExactTips", fn := fun _ => fun
  | [d] => { results := [.lit (.bool true)], args := [d] }
  | _ => none }
def fnExactTipsRow : OpenClaim := { program := "ytkgoglapagmapaa", sum := "d4905f36848802f45ec05edb3dd2b9779c81c72a3f34aae43a1a8306ebaede60", func := "loop.example/s01366/laws.FnExactTips", spec := "fnExactTips", inPlace := ["internal/bytealg.IndexByteString"], unfollowed := true, recurses := true, plainKeys := false, apart := false }
def FnExactTipsSaid : Prop := fnExactTipsRow.holds Try.pinned (OpenSpec.ofChange fnExactTipsSpec)

/-- ITS FALSE NEIGHBOUR: 'it returns false'. Refute it at one input. -/
def fnExactTipsWrong : ChangeSpec := { name := "fnExactTips", fn := fun _ => fun
  | [d] => { results := [.lit (.bool false)], args := [d] }
  | _ => none }
def FnExactTipsWrongFalsely : Prop := fnExactTipsRow.holds Try.pinned (OpenSpec.ofChange fnExactTipsWrong)

/-- 'laws.FnExactAuthChain': WHATEVER THE INPUT: true; the input reads as it did. -/
def fnExactAuthChainSpec : ChangeSpec := { name := "fnExactAuthChain", fn := fun _ => fun
  | [d1, d2] => { results := [.lit (.bool true)], args := [d1, d2] }
  | _ => none }
def fnExactAuthChainRow : OpenClaim := { program := "ytkgoglapagmapaa", sum := "d4905f36848802f45ec05edb3dd2b9779c81c72a3f34aae43a1a8306ebaede60", func := "loop.example/s01366/laws.FnExactAuthChain", spec := "fnExactAuthChain", inPlace := ["internal/bytealg.IndexByteString"], unfollowed := true, recurses := true, plainKeys := false, apart := false }
def FnExactAuthChainSaid : Prop := fnExactAuthChainRow.holds Try.pinned (OpenSpec.ofChange fnExactAuthChainSpec)

/-- ITS FALSE NEIGHBOUR: 'it returns false'. Refute it at one input. -/
def fnExactAuthChainWrong : ChangeSpec := { name := "fnExactAuthChain", fn := fun _ => fun
  | [d1, d2] => { results := [.lit (.bool false)], args := [d1, d2] }
  | _ => none }
def FnExactAuthChainWrongFalsely : Prop := fnExactAuthChainRow.holds Try.pinned (OpenSpec.ofChange fnExactAuthChainWrong)

/-- 'laws.FnExactMakeCover': WHATEVER THE INPUT: true; the input reads as it did. -/
def fnExactMakeCoverSpec : ChangeSpec := { name := "fnExactMakeCover", fn := fun _ => fun
  | [d] => { results := [.lit (.bool true)], args := [d] }
  | _ => none }
def fnExactMakeCoverRow : OpenClaim := { program := "ytkgoglapagmapaa", sum := "d4905f36848802f45ec05edb3dd2b9779c81c72a3f34aae43a1a8306ebaede60", func := "loop.example/s01366/laws.FnExactMakeCover", spec := "fnExactMakeCover", inPlace := ["internal/bytealg.IndexByteString"], unfollowed := true, recurses := true, plainKeys := false, apart := false }
def FnExactMakeCoverSaid : Prop := fnExactMakeCoverRow.holds Try.pinned (OpenSpec.ofChange fnExactMakeCoverSpec)

/-- ITS FALSE NEIGHBOUR: 'it returns false'. Refute it at one input. -/
def fnExactMakeCoverWrong : ChangeSpec := { name := "fnExactMakeCover", fn := fun _ => fun
  | [d] => { results := [.lit (.bool false)], args := [d] }
  | _ => none }
def FnExactMakeCoverWrongFalsely : Prop := fnExactMakeCoverRow.holds Try.pinned (OpenSpec.ofChange fnExactMakeCoverWrong)

/-- 'laws.FnExactNeeded': WHATEVER THE INPUT: true; the input reads as it did. -/
def fnExactNeededSpec : ChangeSpec := { name := "fnExactNeeded", fn := fun _ => fun
  | [d] => { results := [.lit (.bool true)], args := [d] }
  | _ => none }
def fnExactNeededRow : OpenClaim := { program := "ytkgoglapagmapaa", sum := "d4905f36848802f45ec05edb3dd2b9779c81c72a3f34aae43a1a8306ebaede60", func := "loop.example/s01366/laws.FnExactNeeded", spec := "fnExactNeeded", inPlace := ["internal/bytealg.IndexByteString"], unfollowed := true, recurses := true, plainKeys := false, apart := false }
def FnExactNeededSaid : Prop := fnExactNeededRow.holds Try.pinned (OpenSpec.ofChange fnExactNeededSpec)

/-- ITS FALSE NEIGHBOUR: 'it returns false'. Refute it at one input. -/
def fnExactNeededWrong : ChangeSpec := { name := "fnExactNeeded", fn := fun _ => fun
  | [d] => { results := [.lit (.bool false)], args := [d] }
  | _ => none }
def FnExactNeededWrongFalsely : Prop := fnExactNeededRow.holds Try.pinned (OpenSpec.ofChange fnExactNeededWrong)

/-- 'laws.FnExactLevelOf': WHATEVER THE INPUT: true; the input reads as it did. -/
def fnExactLevelOfSpec : ChangeSpec := { name := "fnExactLevelOf", fn := fun _ => fun
  | [d1, d2, d3] => { results := [.lit (.bool true)], args := [d1, d2, d3] }
  | _ => none }
def fnExactLevelOfRow : OpenClaim := { program := "ytkgoglapagmapaa", sum := "d4905f36848802f45ec05edb3dd2b9779c81c72a3f34aae43a1a8306ebaede60", func := "loop.example/s01366/laws.FnExactLevelOf", spec := "fnExactLevelOf", inPlace := ["internal/bytealg.IndexByteString"], unfollowed := true, recurses := true, plainKeys := false, apart := false }
def FnExactLevelOfSaid : Prop := fnExactLevelOfRow.holds Try.pinned (OpenSpec.ofChange fnExactLevelOfSpec)

/-- ITS FALSE NEIGHBOUR: 'it returns false'. Refute it at one input. -/
def fnExactLevelOfWrong : ChangeSpec := { name := "fnExactLevelOf", fn := fun _ => fun
  | [d1, d2, d3] => { results := [.lit (.bool false)], args := [d1, d2, d3] }
  | _ => none }
def FnExactLevelOfWrongFalsely : Prop := fnExactLevelOfRow.holds Try.pinned (OpenSpec.ofChange fnExactLevelOfWrong)

/-- 'laws.FnExactMainline': WHATEVER THE INPUT: true; the input reads as it did. -/
def fnExactMainlineSpec : ChangeSpec := { name := "fnExactMainline", fn := fun _ => fun
  | [d1, d2] => { results := [.lit (.bool true)], args := [d1, d2] }
  | _ => none }
def fnExactMainlineRow : OpenClaim := { program := "ytkgoglapagmapaa", sum := "d4905f36848802f45ec05edb3dd2b9779c81c72a3f34aae43a1a8306ebaede60", func := "loop.example/s01366/laws.FnExactMainline", spec := "fnExactMainline", inPlace := ["internal/bytealg.IndexByteString"], unfollowed := true, recurses := true, plainKeys := false, apart := false }
def FnExactMainlineSaid : Prop := fnExactMainlineRow.holds Try.pinned (OpenSpec.ofChange fnExactMainlineSpec)

/-- ITS FALSE NEIGHBOUR: 'it returns false'. Refute it at one input. -/
def fnExactMainlineWrong : ChangeSpec := { name := "fnExactMainline", fn := fun _ => fun
  | [d1, d2] => { results := [.lit (.bool false)], args := [d1, d2] }
  | _ => none }
def FnExactMainlineWrongFalsely : Prop := fnExactMainlineRow.holds Try.pinned (OpenSpec.ofChange fnExactMainlineWrong)

/- THE SECOND FORM. 'bulk': how many values and letters a reading holds, each counted each time it is reached (what is shared counts as often as it is met; a slice's spare places count too). A statement '..UptoSaid' is the law's where the arguments, and the package variables that the reading takes, are together of bulk at most 1048576: NARROWER than '..Said'. Prove '..Said' where nothing that the law and all that it calls make is longer than what came in: it says more and counts as full. Else prove '..UptoSaid'. A law counts once. -/
mutual
def uptoBulk {H : Type} : DataW H → Nat
  | .lit (.string bytes) => bytes.length + 1
  | .lit _ => 1
  | .nil => 1
  | .ptr d => uptoBulk d + 1
  | .slice elems spare => uptoBulkAll elems + uptoBulkAll spare + 1
  | .agg parts => uptoBulkAll parts + 1
  | .iface _ d => uptoBulk d + 1
  | .map entries => uptoBulkEntries entries + 1
  | .held _ => 1
def uptoBulkAll {H : Type} : List (DataW H) → Nat
  | [] => 0
  | d :: r => uptoBulk d + uptoBulkAll r
def uptoBulkEntries {H : Type} : List (Lit × DataW H) → Nat
  | [] => 0
  | x :: r => uptoBulkEntry x + uptoBulkEntries r
def uptoBulkEntry {H : Type} : Lit × DataW H → Nat
  | (.string bytes, d) => bytes.length + uptoBulk d + 1
  | (_, d) => uptoBulk d + 1
 end
def uptoSmall : (H : Type) → List (DataW H) → Bool := fun _ ds => decide (uptoBulkAll ds ≤ 1048576)
def OpenSpec.upto (s : _root_.Go.ChangeSpec) : _root_.Go.OpenSpec := { _root_.Go.OpenSpec.ofChange s with cond := some uptoSmall }

/-- 'laws.FnExactEventOk', WHERE WHAT IT READS IS OF BULK AT MOST 1048576: true; the input reads as it did. -/
def fnExactEventOkUptoRow : OpenClaim := { program := "ytkgoglapagmapaa", sum := "d4905f36848802f45ec05edb3dd2b9779c81c72a3f34aae43a1a8306ebaede60", func := "loop.example/s01366/laws.FnExactEventOk", spec := "fnExactEventOk", inPlace := ["internal/bytealg.IndexByteString"], unfollowed := true, recurses := true, plainKeys := false, apart := false, narrowed := true }
def FnExactEventOkUptoSaid : Prop := fnExactEventOkUptoRow.holds Try.pinned (OpenSpec.upto fnExactEventOkSpec)

/-- 'laws.FnExactRoomOk', WHERE WHAT IT READS IS OF BULK AT MOST 1048576: true; the input reads as it did. -/
def fnExactRoomOkUptoRow : OpenClaim := { program := "ytkgoglapagmapaa", sum := "d4905f36848802f45ec05edb3dd2b9779c81c72a3f34aae43a1a8306ebaede60", func := "loop.example/s01366/laws.FnExactRoomOk", spec := "fnExactRoomOk", inPlace := ["internal/bytealg.IndexByteString"], unfollowed := true, recurses := true, plainKeys := false, apart := false, narrowed := true }
def FnExactRoomOkUptoSaid : Prop := fnExactRoomOkUptoRow.holds Try.pinned (OpenSpec.upto fnExactRoomOkSpec)

/-- 'laws.FnExactInsert', WHERE WHAT IT READS IS OF BULK AT MOST 1048576: true; the input reads as it did. -/
def fnExactInsertUptoRow : OpenClaim := { program := "ytkgoglapagmapaa", sum := "d4905f36848802f45ec05edb3dd2b9779c81c72a3f34aae43a1a8306ebaede60", func := "loop.example/s01366/laws.FnExactInsert", spec := "fnExactInsert", inPlace := ["internal/bytealg.IndexByteString"], unfollowed := true, recurses := true, plainKeys := false, apart := false, narrowed := true }
def FnExactInsertUptoSaid : Prop := fnExactInsertUptoRow.holds Try.pinned (OpenSpec.upto fnExactInsertSpec)

/-- 'laws.FnExactTips', WHERE WHAT IT READS IS OF BULK AT MOST 1048576: true; the input reads as it did. -/
def fnExactTipsUptoRow : OpenClaim := { program := "ytkgoglapagmapaa", sum := "d4905f36848802f45ec05edb3dd2b9779c81c72a3f34aae43a1a8306ebaede60", func := "loop.example/s01366/laws.FnExactTips", spec := "fnExactTips", inPlace := ["internal/bytealg.IndexByteString"], unfollowed := true, recurses := true, plainKeys := false, apart := false, narrowed := true }
def FnExactTipsUptoSaid : Prop := fnExactTipsUptoRow.holds Try.pinned (OpenSpec.upto fnExactTipsSpec)

/-- 'laws.FnExactAuthChain', WHERE WHAT IT READS IS OF BULK AT MOST 1048576: true; the input reads as it did. -/
def fnExactAuthChainUptoRow : OpenClaim := { program := "ytkgoglapagmapaa", sum := "d4905f36848802f45ec05edb3dd2b9779c81c72a3f34aae43a1a8306ebaede60", func := "loop.example/s01366/laws.FnExactAuthChain", spec := "fnExactAuthChain", inPlace := ["internal/bytealg.IndexByteString"], unfollowed := true, recurses := true, plainKeys := false, apart := false, narrowed := true }
def FnExactAuthChainUptoSaid : Prop := fnExactAuthChainUptoRow.holds Try.pinned (OpenSpec.upto fnExactAuthChainSpec)

/-- 'laws.FnExactMakeCover', WHERE WHAT IT READS IS OF BULK AT MOST 1048576: true; the input reads as it did. -/
def fnExactMakeCoverUptoRow : OpenClaim := { program := "ytkgoglapagmapaa", sum := "d4905f36848802f45ec05edb3dd2b9779c81c72a3f34aae43a1a8306ebaede60", func := "loop.example/s01366/laws.FnExactMakeCover", spec := "fnExactMakeCover", inPlace := ["internal/bytealg.IndexByteString"], unfollowed := true, recurses := true, plainKeys := false, apart := false, narrowed := true }
def FnExactMakeCoverUptoSaid : Prop := fnExactMakeCoverUptoRow.holds Try.pinned (OpenSpec.upto fnExactMakeCoverSpec)

/-- 'laws.FnExactNeeded', WHERE WHAT IT READS IS OF BULK AT MOST 1048576: true; the input reads as it did. -/
def fnExactNeededUptoRow : OpenClaim := { program := "ytkgoglapagmapaa", sum := "d4905f36848802f45ec05edb3dd2b9779c81c72a3f34aae43a1a8306ebaede60", func := "loop.example/s01366/laws.FnExactNeeded", spec := "fnExactNeeded", inPlace := ["internal/bytealg.IndexByteString"], unfollowed := true, recurses := true, plainKeys := false, apart := false, narrowed := true }
def FnExactNeededUptoSaid : Prop := fnExactNeededUptoRow.holds Try.pinned (OpenSpec.upto fnExactNeededSpec)

/-- 'laws.FnExactLevelOf', WHERE WHAT IT READS IS OF BULK AT MOST 1048576: true; the input reads as it did. -/
def fnExactLevelOfUptoRow : OpenClaim := { program := "ytkgoglapagmapaa", sum := "d4905f36848802f45ec05edb3dd2b9779c81c72a3f34aae43a1a8306ebaede60", func := "loop.example/s01366/laws.FnExactLevelOf", spec := "fnExactLevelOf", inPlace := ["internal/bytealg.IndexByteString"], unfollowed := true, recurses := true, plainKeys := false, apart := false, narrowed := true }
def FnExactLevelOfUptoSaid : Prop := fnExactLevelOfUptoRow.holds Try.pinned (OpenSpec.upto fnExactLevelOfSpec)

/-- 'laws.FnExactMainline', WHERE WHAT IT READS IS OF BULK AT MOST 1048576: true; the input reads as it did. -/
def fnExactMainlineUptoRow : OpenClaim := { program := "ytkgoglapagmapaa", sum := "d4905f36848802f45ec05edb3dd2b9779c81c72a3f34aae43a1a8306ebaede60", func := "loop.example/s01366/laws.FnExactMainline", spec := "fnExactMainline", inPlace := ["internal/bytealg.IndexByteString"], unfollowed := true, recurses := true, plainKeys := false, apart := false, narrowed := true }
def FnExactMainlineUptoSaid : Prop := fnExactMainlineUptoRow.holds Try.pinned (OpenSpec.upto fnExactMainlineSpec)

end Rows
end Go.Proofs.Ytkgoglapagmapaa
