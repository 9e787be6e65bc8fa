/-
  No cell of these rows narrows 'for every input' (looked for: loops, veiled, ifaces, maps, wideKeys, modest, calm, conditions, laid).
  DERIVED. THE GIVEN ROWS OF THIS SEAT. 9 by the template 'for every input the law returns true; each argument reads behind the call as it read before'; 0 by the template 'total and deterministic' (their statements: YtmgdkkhnjkepiaaGreatTotals.lean).
  GIVEN WITH THE SEED: the statements are not yours to turn. If you find one false, say at which input.
  Laid BY PROGRAM, IN A SANDBOX (cutbox-rows.mjs): the forced cells as the released guide's own fill.sh prints them over the translation 29255f38ec38974b… (all of the seat's roots in one cut). By AI agents, Wed Nov 11 2026. No macro, syntax, notation, axiom, sorry.
-/
import Derived.Test.YtmgdkkhnjkepiaaGreatChecked
import GoSem.Claim
import GoSem.ClaimJoined
import GoSem.ClaimMapViews
import Derived.JoinedTies
import Derived.KernelRfl
namespace Go.Proofs.YtmgdkkhnjkepiaaGreat
/- THE CELL 'sum', in the pinned program and in every row, IS THE sha256 OF THE DUMP (.gsa) THAT YtmgdkkhnjkepiaaGreatProg.lean LOADS. Nothing in Lean hashes anything: it is a label: what it is worth is what the hold of that sum in a sandbox is worth. -/
noncomputable def Tryz.pinned : Pinned := { name := "ytmgdkkhnjkepiaagreat", sum := "29255f38ec38974b7e47a95a12cfc76c88c65388913f0df96c2f57bcd274fd18", checked := Tryz.checked }
namespace Rows
def none {H : Type} : Left H := { results := [], args := [] }

/-- 'laws.FnExactAllowed': WHATEVER THE INPUT: true; the input reads as it did. -/
def fnExactAllowedSpec : ChangeSpec := { name := "fnExactAllowed", fn := fun _ => fun
  | [d1, d2, d3] => { results := [.lit (.bool true)], args := [d1, d2, d3] }
  | _ => none }
def fnExactAllowedRow : OpenClaim := { program := "ytmgdkkhnjkepiaagreat", sum := "29255f38ec38974b7e47a95a12cfc76c88c65388913f0df96c2f57bcd274fd18", func := "loop.example/s01366/laws.FnExactAllowed", spec := "fnExactAllowed", inPlace := ["internal/bytealg.IndexByteString"], unfollowed := true, recurses := true, plainKeys := false, apart := false }
def FnExactAllowedSaid : Prop := fnExactAllowedRow.holds Tryz.pinned (OpenSpec.ofChange fnExactAllowedSpec)

/-- ITS FALSE NEIGHBOUR: 'it returns false'. Refute it at one input. -/
def fnExactAllowedWrong : ChangeSpec := { name := "fnExactAllowed", fn := fun _ => fun
  | [d1, d2, d3] => { results := [.lit (.bool false)], args := [d1, d2, d3] }
  | _ => none }
def FnExactAllowedWrongFalsely : Prop := fnExactAllowedRow.holds Tryz.pinned (OpenSpec.ofChange fnExactAllowedWrong)

/-- 'laws.FnExactMainOrder': WHATEVER THE INPUT: true; the input reads as it did. -/
def fnExactMainOrderSpec : ChangeSpec := { name := "fnExactMainOrder", fn := fun _ => fun
  | [d1, d2, d3] => { results := [.lit (.bool true)], args := [d1, d2, d3] }
  | _ => none }
def fnExactMainOrderRow : OpenClaim := { program := "ytmgdkkhnjkepiaagreat", sum := "29255f38ec38974b7e47a95a12cfc76c88c65388913f0df96c2f57bcd274fd18", func := "loop.example/s01366/laws.FnExactMainOrder", spec := "fnExactMainOrder", inPlace := ["internal/bytealg.IndexByteString"], unfollowed := true, recurses := true, plainKeys := false, apart := false }
def FnExactMainOrderSaid : Prop := fnExactMainOrderRow.holds Tryz.pinned (OpenSpec.ofChange fnExactMainOrderSpec)

/-- ITS FALSE NEIGHBOUR: 'it returns false'. Refute it at one input. -/
def fnExactMainOrderWrong : ChangeSpec := { name := "fnExactMainOrder", fn := fun _ => fun
  | [d1, d2, d3] => { results := [.lit (.bool false)], args := [d1, d2, d3] }
  | _ => none }
def FnExactMainOrderWrongFalsely : Prop := fnExactMainOrderRow.holds Tryz.pinned (OpenSpec.ofChange fnExactMainOrderWrong)

/-- 'laws.FnPrefix': WHATEVER THE INPUT: true; the input reads as it did. -/
def fnPrefixSpec : ChangeSpec := { name := "fnPrefix", fn := fun _ => fun
  | [d] => { results := [.lit (.bool true)], args := [d] }
  | _ => none }
def fnPrefixRow : OpenClaim := { program := "ytmgdkkhnjkepiaagreat", sum := "29255f38ec38974b7e47a95a12cfc76c88c65388913f0df96c2f57bcd274fd18", func := "loop.example/s01366/laws.FnPrefix", spec := "fnPrefix", inPlace := ["internal/bytealg.IndexByteString"], unfollowed := true, recurses := true, plainKeys := false, apart := false }
def FnPrefixSaid : Prop := fnPrefixRow.holds Tryz.pinned (OpenSpec.ofChange fnPrefixSpec)

/-- ITS FALSE NEIGHBOUR: 'it returns false'. Refute it at one input. -/
def fnPrefixWrong : ChangeSpec := { name := "fnPrefix", fn := fun _ => fun
  | [d] => { results := [.lit (.bool false)], args := [d] }
  | _ => none }
def FnPrefixWrongFalsely : Prop := fnPrefixRow.holds Tryz.pinned (OpenSpec.ofChange fnPrefixWrong)

/-- 'laws.FnInsert': WHATEVER THE INPUT: true; the input reads as it did. -/
def fnInsertSpec : ChangeSpec := { name := "fnInsert", fn := fun _ => fun
  | [d] => { results := [.lit (.bool true)], args := [d] }
  | _ => none }
def fnInsertRow : OpenClaim := { program := "ytmgdkkhnjkepiaagreat", sum := "29255f38ec38974b7e47a95a12cfc76c88c65388913f0df96c2f57bcd274fd18", func := "loop.example/s01366/laws.FnInsert", spec := "fnInsert", inPlace := ["internal/bytealg.IndexByteString"], unfollowed := true, recurses := true, plainKeys := false, apart := false }
def FnInsertSaid : Prop := fnInsertRow.holds Tryz.pinned (OpenSpec.ofChange fnInsertSpec)

/-- ITS FALSE NEIGHBOUR: 'it returns false'. Refute it at one input. -/
def fnInsertWrong : ChangeSpec := { name := "fnInsert", fn := fun _ => fun
  | [d] => { results := [.lit (.bool false)], args := [d] }
  | _ => none }
def FnInsertWrongFalsely : Prop := fnInsertRow.holds Tryz.pinned (OpenSpec.ofChange fnInsertWrong)

/-- 'laws.FnExactPowerOrder': WHATEVER THE INPUT: true; the input reads as it did. -/
def fnExactPowerOrderSpec : ChangeSpec := { name := "fnExactPowerOrder", fn := fun _ => fun
  | [d1, d2] => { results := [.lit (.bool true)], args := [d1, d2] }
  | _ => none }
def fnExactPowerOrderRow : OpenClaim := { program := "ytmgdkkhnjkepiaagreat", sum := "29255f38ec38974b7e47a95a12cfc76c88c65388913f0df96c2f57bcd274fd18", func := "loop.example/s01366/laws.FnExactPowerOrder", spec := "fnExactPowerOrder", inPlace := ["internal/bytealg.IndexByteString"], unfollowed := true, recurses := true, plainKeys := false, apart := false }
def FnExactPowerOrderSaid : Prop := fnExactPowerOrderRow.holds Tryz.pinned (OpenSpec.ofChange fnExactPowerOrderSpec)

/-- ITS FALSE NEIGHBOUR: 'it returns false'. Refute it at one input. -/
def fnExactPowerOrderWrong : ChangeSpec := { name := "fnExactPowerOrder", fn := fun _ => fun
  | [d1, d2] => { results := [.lit (.bool false)], args := [d1, d2] }
  | _ => none }
def FnExactPowerOrderWrongFalsely : Prop := fnExactPowerOrderRow.holds Tryz.pinned (OpenSpec.ofChange fnExactPowerOrderWrong)

/-- 'laws.FnReaches': WHATEVER THE INPUT: true; the input reads as it did. -/
def fnReachesSpec : ChangeSpec := { name := "fnReaches", fn := fun _ => fun
  | [d] => { results := [.lit (.bool true)], args := [d] }
  | _ => none }
def fnReachesRow : OpenClaim := { program := "ytmgdkkhnjkepiaagreat", sum := "29255f38ec38974b7e47a95a12cfc76c88c65388913f0df96c2f57bcd274fd18", func := "loop.example/s01366/laws.FnReaches", spec := "fnReaches", inPlace := ["internal/bytealg.IndexByteString"], unfollowed := true, recurses := true, plainKeys := false, apart := false }
def FnReachesSaid : Prop := fnReachesRow.holds Tryz.pinned (OpenSpec.ofChange fnReachesSpec)

/-- ITS FALSE NEIGHBOUR: 'it returns false'. Refute it at one input. -/
def fnReachesWrong : ChangeSpec := { name := "fnReaches", fn := fun _ => fun
  | [d] => { results := [.lit (.bool false)], args := [d] }
  | _ => none }
def FnReachesWrongFalsely : Prop := fnReachesRow.holds Tryz.pinned (OpenSpec.ofChange fnReachesWrong)

/-- 'laws.FnMainOrder': WHATEVER THE INPUT: true; the input reads as it did. -/
def fnMainOrderSpec : ChangeSpec := { name := "fnMainOrder", fn := fun _ => fun
  | [d] => { results := [.lit (.bool true)], args := [d] }
  | _ => none }
def fnMainOrderRow : OpenClaim := { program := "ytmgdkkhnjkepiaagreat", sum := "29255f38ec38974b7e47a95a12cfc76c88c65388913f0df96c2f57bcd274fd18", func := "loop.example/s01366/laws.FnMainOrder", spec := "fnMainOrder", inPlace := ["internal/bytealg.IndexByteString"], unfollowed := true, recurses := true, plainKeys := false, apart := false }
def FnMainOrderSaid : Prop := fnMainOrderRow.holds Tryz.pinned (OpenSpec.ofChange fnMainOrderSpec)

/-- ITS FALSE NEIGHBOUR: 'it returns false'. Refute it at one input. -/
def fnMainOrderWrong : ChangeSpec := { name := "fnMainOrder", fn := fun _ => fun
  | [d] => { results := [.lit (.bool false)], args := [d] }
  | _ => none }
def FnMainOrderWrongFalsely : Prop := fnMainOrderRow.holds Tryz.pinned (OpenSpec.ofChange fnMainOrderWrong)

/-- 'laws.FnPowerOrder': WHATEVER THE INPUT: true; the input reads as it did. -/
def fnPowerOrderSpec : ChangeSpec := { name := "fnPowerOrder", fn := fun _ => fun
  | [d] => { results := [.lit (.bool true)], args := [d] }
  | _ => none }
def fnPowerOrderRow : OpenClaim := { program := "ytmgdkkhnjkepiaagreat", sum := "29255f38ec38974b7e47a95a12cfc76c88c65388913f0df96c2f57bcd274fd18", func := "loop.example/s01366/laws.FnPowerOrder", spec := "fnPowerOrder", inPlace := ["internal/bytealg.IndexByteString"], unfollowed := true, recurses := true, plainKeys := false, apart := false }
def FnPowerOrderSaid : Prop := fnPowerOrderRow.holds Tryz.pinned (OpenSpec.ofChange fnPowerOrderSpec)

/-- ITS FALSE NEIGHBOUR: 'it returns false'. Refute it at one input. -/
def fnPowerOrderWrong : ChangeSpec := { name := "fnPowerOrder", fn := fun _ => fun
  | [d] => { results := [.lit (.bool false)], args := [d] }
  | _ => none }
def FnPowerOrderWrongFalsely : Prop := fnPowerOrderRow.holds Tryz.pinned (OpenSpec.ofChange fnPowerOrderWrong)

/-- 'laws.FnLocal': WHATEVER THE INPUT: true; the input reads as it did. -/
def fnLocalSpec : ChangeSpec := { name := "fnLocal", fn := fun _ => fun
  | [d] => { results := [.lit (.bool true)], args := [d] }
  | _ => none }
def fnLocalRow : OpenClaim := { program := "ytmgdkkhnjkepiaagreat", sum := "29255f38ec38974b7e47a95a12cfc76c88c65388913f0df96c2f57bcd274fd18", func := "loop.example/s01366/laws.FnLocal", spec := "fnLocal", inPlace := ["internal/bytealg.IndexByteString"], unfollowed := true, recurses := true, plainKeys := false, apart := false }
def FnLocalSaid : Prop := fnLocalRow.holds Tryz.pinned (OpenSpec.ofChange fnLocalSpec)

/-- ITS FALSE NEIGHBOUR: 'it returns false'. Refute it at one input. -/
def fnLocalWrong : ChangeSpec := { name := "fnLocal", fn := fun _ => fun
  | [d] => { results := [.lit (.bool false)], args := [d] }
  | _ => none }
def FnLocalWrongFalsely : Prop := fnLocalRow.holds Tryz.pinned (OpenSpec.ofChange fnLocalWrong)

/- THE SECOND FORM. 'bulk': how many values and letters a reading holds, each counted each time it is reached (what is shared counts as often as it is met; a slice's spare places count too). A statement '..UptoSaid' is the law's where the arguments, and the package variables that the reading takes, are together of bulk at most 1048576: NARROWER than '..Said'. Prove '..Said' where nothing that the law and all that it calls make is longer than what came in: it says more and counts as full. Else prove '..UptoSaid'. A law counts once. -/
mutual
def uptoBulk {H : Type} : DataW H → Nat
  | .lit (.string bytes) => bytes.length + 1
  | .lit _ => 1
  | .nil => 1
  | .ptr d => uptoBulk d + 1
  | .slice elems spare => uptoBulkAll elems + uptoBulkAll spare + 1
  | .agg parts => uptoBulkAll parts + 1
  | .iface _ d => uptoBulk d + 1
  | .map entries => uptoBulkEntries entries + 1
  | .held _ => 1
def uptoBulkAll {H : Type} : List (DataW H) → Nat
  | [] => 0
  | d :: r => uptoBulk d + uptoBulkAll r
def uptoBulkEntries {H : Type} : List (Lit × DataW H) → Nat
  | [] => 0
  | x :: r => uptoBulkEntry x + uptoBulkEntries r
def uptoBulkEntry {H : Type} : Lit × DataW H → Nat
  | (.string bytes, d) => bytes.length + uptoBulk d + 1
  | (_, d) => uptoBulk d + 1
 end
def uptoSmall : (H : Type) → List (DataW H) → Bool := fun _ ds => decide (uptoBulkAll ds ≤ 1048576)
def OpenSpec.upto (s : _root_.Go.ChangeSpec) : _root_.Go.OpenSpec := { _root_.Go.OpenSpec.ofChange s with cond := some uptoSmall }

/-- 'laws.FnExactAllowed', WHERE WHAT IT READS IS OF BULK AT MOST 1048576: true; the input reads as it did. -/
def fnExactAllowedUptoRow : OpenClaim := { program := "ytmgdkkhnjkepiaagreat", sum := "29255f38ec38974b7e47a95a12cfc76c88c65388913f0df96c2f57bcd274fd18", func := "loop.example/s01366/laws.FnExactAllowed", spec := "fnExactAllowed", inPlace := ["internal/bytealg.IndexByteString"], unfollowed := true, recurses := true, plainKeys := false, apart := false, narrowed := true }
def FnExactAllowedUptoSaid : Prop := fnExactAllowedUptoRow.holds Tryz.pinned (OpenSpec.upto fnExactAllowedSpec)

/-- 'laws.FnExactMainOrder', WHERE WHAT IT READS IS OF BULK AT MOST 1048576: true; the input reads as it did. -/
def fnExactMainOrderUptoRow : OpenClaim := { program := "ytmgdkkhnjkepiaagreat", sum := "29255f38ec38974b7e47a95a12cfc76c88c65388913f0df96c2f57bcd274fd18", func := "loop.example/s01366/laws.FnExactMainOrder", spec := "fnExactMainOrder", inPlace := ["internal/bytealg.IndexByteString"], unfollowed := true, recurses := true, plainKeys := false, apart := false, narrowed := true }
def FnExactMainOrderUptoSaid : Prop := fnExactMainOrderUptoRow.holds Tryz.pinned (OpenSpec.upto fnExactMainOrderSpec)

/-- 'laws.FnPrefix', WHERE WHAT IT READS IS OF BULK AT MOST 1048576: true; the input reads as it did. -/
def fnPrefixUptoRow : OpenClaim := { program := "ytmgdkkhnjkepiaagreat", sum := "29255f38ec38974b7e47a95a12cfc76c88c65388913f0df96c2f57bcd274fd18", func := "loop.example/s01366/laws.FnPrefix", spec := "fnPrefix", inPlace := ["internal/bytealg.IndexByteString"], unfollowed := true, recurses := true, plainKeys := false, apart := false, narrowed := true }
def FnPrefixUptoSaid : Prop := fnPrefixUptoRow.holds Tryz.pinned (OpenSpec.upto fnPrefixSpec)

/-- 'laws.FnInsert', WHERE WHAT IT READS IS OF BULK AT MOST 1048576: true; the input reads as it did. -/
def fnInsertUptoRow : OpenClaim := { program := "ytmgdkkhnjkepiaagreat", sum := "29255f38ec38974b7e47a95a12cfc76c88c65388913f0df96c2f57bcd274fd18", func := "loop.example/s01366/laws.FnInsert", spec := "fnInsert", inPlace := ["internal/bytealg.IndexByteString"], unfollowed := true, recurses := true, plainKeys := false, apart := false, narrowed := true }
def FnInsertUptoSaid : Prop := fnInsertUptoRow.holds Tryz.pinned (OpenSpec.upto fnInsertSpec)

/-- 'laws.FnExactPowerOrder', WHERE WHAT IT READS IS OF BULK AT MOST 1048576: true; the input reads as it did. -/
def fnExactPowerOrderUptoRow : OpenClaim := { program := "ytmgdkkhnjkepiaagreat", sum := "29255f38ec38974b7e47a95a12cfc76c88c65388913f0df96c2f57bcd274fd18", func := "loop.example/s01366/laws.FnExactPowerOrder", spec := "fnExactPowerOrder", inPlace := ["internal/bytealg.IndexByteString"], unfollowed := true, recurses := true, plainKeys := false, apart := false, narrowed := true }
def FnExactPowerOrderUptoSaid : Prop := fnExactPowerOrderUptoRow.holds Tryz.pinned (OpenSpec.upto fnExactPowerOrderSpec)

/-- 'laws.FnReaches', WHERE WHAT IT READS IS OF BULK AT MOST 1048576: true; the input reads as it did. -/
def fnReachesUptoRow : OpenClaim := { program := "ytmgdkkhnjkepiaagreat", sum := "29255f38ec38974b7e47a95a12cfc76c88c65388913f0df96c2f57bcd274fd18", func := "loop.example/s01366/laws.FnReaches", spec := "fnReaches", inPlace := ["internal/bytealg.IndexByteString"], unfollowed := true, recurses := true, plainKeys := false, apart := false, narrowed := true }
def FnReachesUptoSaid : Prop := fnReachesUptoRow.holds Tryz.pinned (OpenSpec.upto fnReachesSpec)

/-- 'laws.FnMainOrder', WHERE WHAT IT READS IS OF BULK AT MOST 1048576: true; the input reads as it did. -/
def fnMainOrderUptoRow : OpenClaim := { program := "ytmgdkkhnjkepiaagreat", sum := "29255f38ec38974b7e47a95a12cfc76c88c65388913f0df96c2f57bcd274fd18", func := "loop.example/s01366/laws.FnMainOrder", spec := "fnMainOrder", inPlace := ["internal/bytealg.IndexByteString"], unfollowed := true, recurses := true, plainKeys := false, apart := false, narrowed := true }
def FnMainOrderUptoSaid : Prop := fnMainOrderUptoRow.holds Tryz.pinned (OpenSpec.upto fnMainOrderSpec)

/-- 'laws.FnPowerOrder', WHERE WHAT IT READS IS OF BULK AT MOST 1048576: true; the input reads as it did. -/
def fnPowerOrderUptoRow : OpenClaim := { program := "ytmgdkkhnjkepiaagreat", sum := "29255f38ec38974b7e47a95a12cfc76c88c65388913f0df96c2f57bcd274fd18", func := "loop.example/s01366/laws.FnPowerOrder", spec := "fnPowerOrder", inPlace := ["internal/bytealg.IndexByteString"], unfollowed := true, recurses := true, plainKeys := false, apart := false, narrowed := true }
def FnPowerOrderUptoSaid : Prop := fnPowerOrderUptoRow.holds Tryz.pinned (OpenSpec.upto fnPowerOrderSpec)

/-- 'laws.FnLocal', WHERE WHAT IT READS IS OF BULK AT MOST 1048576: true; the input reads as it did. -/
def fnLocalUptoRow : OpenClaim := { program := "ytmgdkkhnjkepiaagreat", sum := "29255f38ec38974b7e47a95a12cfc76c88c65388913f0df96c2f57bcd274fd18", func := "loop.example/s01366/laws.FnLocal", spec := "fnLocal", inPlace := ["internal/bytealg.IndexByteString"], unfollowed := true, recurses := true, plainKeys := false, apart := false, narrowed := true }
def FnLocalUptoSaid : Prop := fnLocalUptoRow.holds Tryz.pinned (OpenSpec.upto fnLocalSpec)

end Rows
end Go.Proofs.YtmgdkkhnjkepiaaGreat
