/-
  No cell of these rows narrows 'for every input' (looked for: loops, veiled, ifaces, maps, wideKeys, modest, calm, conditions, laid).
  DERIVED. THE GIVEN ROWS OF THIS SEAT. 6 by the template 'for every input the law returns true; each argument reads behind the call as it read before'; 0 by the template 'total and deterministic' (their statements: YthhgcklidfilfaaTotals.lean).
  GIVEN WITH THE SEED: the statements are not yours to turn. If you find one false, say at which input.
  Laid BY PROGRAM, IN A SANDBOX (cutbox-rows.mjs): the forced cells as the released guide's own fill.sh prints them over the translation f9ba616c0c2b80e0… (all of the seat's roots in one cut). By AI agents, Wed Nov 11 2026. No macro, syntax, notation, axiom, sorry.
-/
import Derived.Test.YthhgcklidfilfaaChecked
import GoSem.Claim
import GoSem.ClaimJoined
import GoSem.ClaimMapViews
import Derived.JoinedTies
import Derived.KernelRfl
namespace Go.Proofs.Ythhgcklidfilfaa
/- THE CELL 'sum', in the pinned program and in every row, IS THE sha256 OF THE DUMP (.gsa) THAT YthhgcklidfilfaaProg.lean LOADS. Nothing in Lean hashes anything: it is a label: what it is worth is what the hold of that sum in a sandbox is worth. -/
noncomputable def Try.pinned : Pinned := { name := "ythhgcklidfilfaa", sum := "f9ba616c0c2b80e081dcfc9743a18ad08259152deabf4269cf596922cb614410", checked := Try.checked }
namespace Rows
def none {H : Type} : Left H := { results := [], args := [] }

/-- 'laws.FnChanges': WHATEVER THE INPUT: true; the input reads as it did. -/
def fnChangesSpec : ChangeSpec := { name := "fnChanges", fn := fun _ => fun
  | [d] => { results := [.lit (.bool true)], args := [d] }
  | _ => none }
def fnChangesRow : OpenClaim := { program := "ythhgcklidfilfaa", sum := "f9ba616c0c2b80e081dcfc9743a18ad08259152deabf4269cf596922cb614410", func := "loop.example/s01366/laws.FnChanges", spec := "fnChanges", unfollowed := true, recurses := true, plainKeys := false, apart := false }
def FnChangesSaid : Prop := fnChangesRow.holds Try.pinned (OpenSpec.ofChange fnChangesSpec)

/-- ITS FALSE NEIGHBOUR: 'it returns false'. Refute it at one input. -/
def fnChangesWrong : ChangeSpec := { name := "fnChanges", fn := fun _ => fun
  | [d] => { results := [.lit (.bool false)], args := [d] }
  | _ => none }
def FnChangesWrongFalsely : Prop := fnChangesRow.holds Try.pinned (OpenSpec.ofChange fnChangesWrong)

/-- 'laws.FnGroups': WHATEVER THE INPUT: true; the input reads as it did. -/
def fnGroupsSpec : ChangeSpec := { name := "fnGroups", fn := fun _ => fun
  | [d] => { results := [.lit (.bool true)], args := [d] }
  | _ => none }
def fnGroupsRow : OpenClaim := { program := "ythhgcklidfilfaa", sum := "f9ba616c0c2b80e081dcfc9743a18ad08259152deabf4269cf596922cb614410", func := "loop.example/s01366/laws.FnGroups", spec := "fnGroups", inPlace := ["maps.clone"], unfollowed := true, recurses := true, plainKeys := false, apart := false }
def FnGroupsSaid : Prop := fnGroupsRow.holds Try.pinned (OpenSpec.ofChange fnGroupsSpec)

/-- ITS FALSE NEIGHBOUR: 'it returns false'. Refute it at one input. -/
def fnGroupsWrong : ChangeSpec := { name := "fnGroups", fn := fun _ => fun
  | [d] => { results := [.lit (.bool false)], args := [d] }
  | _ => none }
def FnGroupsWrongFalsely : Prop := fnGroupsRow.holds Try.pinned (OpenSpec.ofChange fnGroupsWrong)

/-- 'laws.FnExactSave': WHATEVER THE INPUT: true; the input reads as it did. -/
def fnExactSaveSpec : ChangeSpec := { name := "fnExactSave", fn := fun _ => fun
  | [d1, d2, d3] => { results := [.lit (.bool true)], args := [d1, d2, d3] }
  | _ => none }
def fnExactSaveRow : OpenClaim := { program := "ythhgcklidfilfaa", sum := "f9ba616c0c2b80e081dcfc9743a18ad08259152deabf4269cf596922cb614410", func := "loop.example/s01366/laws.FnExactSave", spec := "fnExactSave", inPlace := ["maps.clone"], unfollowed := true, recurses := true, plainKeys := false, apart := false }
def FnExactSaveSaid : Prop := fnExactSaveRow.holds Try.pinned (OpenSpec.ofChange fnExactSaveSpec)

/-- ITS FALSE NEIGHBOUR: 'it returns false'. Refute it at one input. -/
def fnExactSaveWrong : ChangeSpec := { name := "fnExactSave", fn := fun _ => fun
  | [d1, d2, d3] => { results := [.lit (.bool false)], args := [d1, d2, d3] }
  | _ => none }
def FnExactSaveWrongFalsely : Prop := fnExactSaveRow.holds Try.pinned (OpenSpec.ofChange fnExactSaveWrong)

/-- 'laws.FnExactMakeCover': WHATEVER THE INPUT: true; the input reads as it did. -/
def fnExactMakeCoverSpec : ChangeSpec := { name := "fnExactMakeCover", fn := fun _ => fun
  | [d] => { results := [.lit (.bool true)], args := [d] }
  | _ => none }
def fnExactMakeCoverRow : OpenClaim := { program := "ythhgcklidfilfaa", sum := "f9ba616c0c2b80e081dcfc9743a18ad08259152deabf4269cf596922cb614410", func := "loop.example/s01366/laws.FnExactMakeCover", spec := "fnExactMakeCover", inPlace := ["internal/bytealg.IndexByteString"], unfollowed := true, recurses := true, plainKeys := false, apart := false }
def FnExactMakeCoverSaid : Prop := fnExactMakeCoverRow.holds Try.pinned (OpenSpec.ofChange fnExactMakeCoverSpec)

/-- ITS FALSE NEIGHBOUR: 'it returns false'. Refute it at one input. -/
def fnExactMakeCoverWrong : ChangeSpec := { name := "fnExactMakeCover", fn := fun _ => fun
  | [d] => { results := [.lit (.bool false)], args := [d] }
  | _ => none }
def FnExactMakeCoverWrongFalsely : Prop := fnExactMakeCoverRow.holds Try.pinned (OpenSpec.ofChange fnExactMakeCoverWrong)

/-- 'laws.FnExactNeeded': WHATEVER THE INPUT: true; the input reads as it did. -/
def fnExactNeededSpec : ChangeSpec := { name := "fnExactNeeded", fn := fun _ => fun
  | [d] => { results := [.lit (.bool true)], args := [d] }
  | _ => none }
def fnExactNeededRow : OpenClaim := { program := "ythhgcklidfilfaa", sum := "f9ba616c0c2b80e081dcfc9743a18ad08259152deabf4269cf596922cb614410", func := "loop.example/s01366/laws.FnExactNeeded", spec := "fnExactNeeded", inPlace := ["internal/bytealg.IndexByteString"], unfollowed := true, recurses := true, plainKeys := false, apart := false }
def FnExactNeededSaid : Prop := fnExactNeededRow.holds Try.pinned (OpenSpec.ofChange fnExactNeededSpec)

/-- ITS FALSE NEIGHBOUR: 'it returns false'. Refute it at one input. -/
def fnExactNeededWrong : ChangeSpec := { name := "fnExactNeeded", fn := fun _ => fun
  | [d] => { results := [.lit (.bool false)], args := [d] }
  | _ => none }
def FnExactNeededWrongFalsely : Prop := fnExactNeededRow.holds Try.pinned (OpenSpec.ofChange fnExactNeededWrong)

/-- 'laws.FnExactSplit': WHATEVER THE INPUT: true; the input reads as it did. -/
def fnExactSplitSpec : ChangeSpec := { name := "fnExactSplit", fn := fun _ => fun
  | [d] => { results := [.lit (.bool true)], args := [d] }
  | _ => none }
def fnExactSplitRow : OpenClaim := { program := "ythhgcklidfilfaa", sum := "f9ba616c0c2b80e081dcfc9743a18ad08259152deabf4269cf596922cb614410", func := "loop.example/s01366/laws.FnExactSplit", spec := "fnExactSplit", unfollowed := true, recurses := true, plainKeys := false, apart := false }
def FnExactSplitSaid : Prop := fnExactSplitRow.holds Try.pinned (OpenSpec.ofChange fnExactSplitSpec)

/-- ITS FALSE NEIGHBOUR: 'it returns false'. Refute it at one input. -/
def fnExactSplitWrong : ChangeSpec := { name := "fnExactSplit", fn := fun _ => fun
  | [d] => { results := [.lit (.bool false)], args := [d] }
  | _ => none }
def FnExactSplitWrongFalsely : Prop := fnExactSplitRow.holds Try.pinned (OpenSpec.ofChange fnExactSplitWrong)

/- THE SECOND FORM. 'bulk': how many values and letters a reading holds, each counted each time it is reached (what is shared counts as often as it is met; a slice's spare places count too). A statement '..UptoSaid' is the law's where the arguments, and the package variables that the reading takes, are together of bulk at most 1048576: NARROWER than '..Said'. Prove '..Said' where nothing that the law and all that it calls make is longer than what came in: it says more and counts as full. Else prove '..UptoSaid'. A law counts once. -/
mutual
def uptoBulk {H : Type} : DataW H → Nat
  | .lit (.string bytes) => bytes.length + 1
  | .lit _ => 1
  | .nil => 1
  | .ptr d => uptoBulk d + 1
  | .slice elems spare => uptoBulkAll elems + uptoBulkAll spare + 1
  | .agg parts => uptoBulkAll parts + 1
  | .iface _ d => uptoBulk d + 1
  | .map entries => uptoBulkEntries entries + 1
  | .held _ => 1
def uptoBulkAll {H : Type} : List (DataW H) → Nat
  | [] => 0
  | d :: r => uptoBulk d + uptoBulkAll r
def uptoBulkEntries {H : Type} : List (Lit × DataW H) → Nat
  | [] => 0
  | x :: r => uptoBulkEntry x + uptoBulkEntries r
def uptoBulkEntry {H : Type} : Lit × DataW H → Nat
  | (.string bytes, d) => bytes.length + uptoBulk d + 1
  | (_, d) => uptoBulk d + 1
 end
def uptoSmall : (H : Type) → List (DataW H) → Bool := fun _ ds => decide (uptoBulkAll ds ≤ 1048576)
def OpenSpec.upto (s : _root_.Go.ChangeSpec) : _root_.Go.OpenSpec := { _root_.Go.OpenSpec.ofChange s with cond := some uptoSmall }

/-- 'laws.FnChanges', WHERE WHAT IT READS IS OF BULK AT MOST 1048576: true; the input reads as it did. -/
def fnChangesUptoRow : OpenClaim := { program := "ythhgcklidfilfaa", sum := "f9ba616c0c2b80e081dcfc9743a18ad08259152deabf4269cf596922cb614410", func := "loop.example/s01366/laws.FnChanges", spec := "fnChanges", unfollowed := true, recurses := true, plainKeys := false, apart := false, narrowed := true }
def FnChangesUptoSaid : Prop := fnChangesUptoRow.holds Try.pinned (OpenSpec.upto fnChangesSpec)

/-- 'laws.FnGroups', WHERE WHAT IT READS IS OF BULK AT MOST 1048576: true; the input reads as it did. -/
def fnGroupsUptoRow : OpenClaim := { program := "ythhgcklidfilfaa", sum := "f9ba616c0c2b80e081dcfc9743a18ad08259152deabf4269cf596922cb614410", func := "loop.example/s01366/laws.FnGroups", spec := "fnGroups", inPlace := ["maps.clone"], unfollowed := true, recurses := true, plainKeys := false, apart := false, narrowed := true }
def FnGroupsUptoSaid : Prop := fnGroupsUptoRow.holds Try.pinned (OpenSpec.upto fnGroupsSpec)

/-- 'laws.FnExactSave', WHERE WHAT IT READS IS OF BULK AT MOST 1048576: true; the input reads as it did. -/
def fnExactSaveUptoRow : OpenClaim := { program := "ythhgcklidfilfaa", sum := "f9ba616c0c2b80e081dcfc9743a18ad08259152deabf4269cf596922cb614410", func := "loop.example/s01366/laws.FnExactSave", spec := "fnExactSave", inPlace := ["maps.clone"], unfollowed := true, recurses := true, plainKeys := false, apart := false, narrowed := true }
def FnExactSaveUptoSaid : Prop := fnExactSaveUptoRow.holds Try.pinned (OpenSpec.upto fnExactSaveSpec)

/-- 'laws.FnExactMakeCover', WHERE WHAT IT READS IS OF BULK AT MOST 1048576: true; the input reads as it did. -/
def fnExactMakeCoverUptoRow : OpenClaim := { program := "ythhgcklidfilfaa", sum := "f9ba616c0c2b80e081dcfc9743a18ad08259152deabf4269cf596922cb614410", func := "loop.example/s01366/laws.FnExactMakeCover", spec := "fnExactMakeCover", inPlace := ["internal/bytealg.IndexByteString"], unfollowed := true, recurses := true, plainKeys := false, apart := false, narrowed := true }
def FnExactMakeCoverUptoSaid : Prop := fnExactMakeCoverUptoRow.holds Try.pinned (OpenSpec.upto fnExactMakeCoverSpec)

/-- 'laws.FnExactNeeded', WHERE WHAT IT READS IS OF BULK AT MOST 1048576: true; the input reads as it did. -/
def fnExactNeededUptoRow : OpenClaim := { program := "ythhgcklidfilfaa", sum := "f9ba616c0c2b80e081dcfc9743a18ad08259152deabf4269cf596922cb614410", func := "loop.example/s01366/laws.FnExactNeeded", spec := "fnExactNeeded", inPlace := ["internal/bytealg.IndexByteString"], unfollowed := true, recurses := true, plainKeys := false, apart := false, narrowed := true }
def FnExactNeededUptoSaid : Prop := fnExactNeededUptoRow.holds Try.pinned (OpenSpec.upto fnExactNeededSpec)

/-- 'laws.FnExactSplit', WHERE WHAT IT READS IS OF BULK AT MOST 1048576: true; the input reads as it did. -/
def fnExactSplitUptoRow : OpenClaim := { program := "ythhgcklidfilfaa", sum := "f9ba616c0c2b80e081dcfc9743a18ad08259152deabf4269cf596922cb614410", func := "loop.example/s01366/laws.FnExactSplit", spec := "fnExactSplit", unfollowed := true, recurses := true, plainKeys := false, apart := false, narrowed := true }
def FnExactSplitUptoSaid : Prop := fnExactSplitUptoRow.holds Try.pinned (OpenSpec.upto fnExactSplitSpec)

end Rows
end Go.Proofs.Ythhgcklidfilfaa
