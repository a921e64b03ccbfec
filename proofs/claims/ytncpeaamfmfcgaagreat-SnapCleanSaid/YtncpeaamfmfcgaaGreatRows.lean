/-
  No cell of these rows narrows 'for every input' (looked for: loops, veiled, ifaces, maps, wideKeys, modest, calm, conditions, laid).
  DERIVED. THE GIVEN ROWS OF THIS SEAT. 8 by the template 'for every input the law returns true; each argument reads behind the call as it read before'; 0 by the template 'total and deterministic' (their statements: YtncpeaamfmfcgaaGreatTotals.lean).
  GIVEN WITH THE SEED: the statements are not yours to turn. If you find one false, say at which input.
  Laid BY PROGRAM, IN A SANDBOX (cutbox-rows.mjs): the forced cells as the released guide's own fill.sh prints them over the translation 22bac4de93241023… (all of the seat's roots in one cut). By AI agents, Wed Nov 11 2026. No macro, syntax, notation, axiom, sorry.
-/
import Derived.Test.YtncpeaamfmfcgaaGreatChecked
import GoSem.Claim
import GoSem.ClaimJoined
import GoSem.ClaimMapViews
import Derived.JoinedTies
import Derived.KernelRfl
namespace Go.Proofs.YtncpeaamfmfcgaaGreat
/- THE CELL 'sum', in the pinned program and in every row, IS THE sha256 OF THE DUMP (.gsa) THAT YtncpeaamfmfcgaaGreatProg.lean LOADS. Nothing in Lean hashes anything: it is a label: what it is worth is what the hold of that sum in a sandbox is worth. -/
noncomputable def Tryz.pinned : Pinned := { name := "ytncpeaamfmfcgaagreat", sum := "22bac4de93241023d326fc166147a051181e683b23cdd154ff763b1da4fd057c", checked := Tryz.checked }
namespace Rows
def none {H : Type} : Left H := { results := [], args := [] }

/-- 'complinelaw6.WalNone': WHATEVER THE INPUT: true; the input reads as it did. -/
def walNoneSpec : ChangeSpec := { name := "walNone", fn := fun _ => fun
  | [d1, d2] => { results := [.lit (.bool true)], args := [d1, d2] }
  | _ => none }
def walNoneRow : OpenClaim := { program := "ytncpeaamfmfcgaagreat", sum := "22bac4de93241023d326fc166147a051181e683b23cdd154ff763b1da4fd057c", func := "compline/complinelaw6.WalNone", spec := "walNone", inPlace := ["internal/abi.NoEscape"], unfollowed := true, recurses := true, apart := false }
def WalNoneSaid : Prop := walNoneRow.holds Tryz.pinned (OpenSpec.ofChange walNoneSpec)

/-- ITS FALSE NEIGHBOUR: 'it returns false'. Refute it at one input. -/
def walNoneWrong : ChangeSpec := { name := "walNone", fn := fun _ => fun
  | [d1, d2] => { results := [.lit (.bool false)], args := [d1, d2] }
  | _ => none }
def WalNoneWrongFalsely : Prop := walNoneRow.holds Tryz.pinned (OpenSpec.ofChange walNoneWrong)

/-- 'complinelaw6.WalMends': WHATEVER THE INPUT: true; the input reads as it did. -/
def walMendsSpec : ChangeSpec := { name := "walMends", fn := fun _ => fun
  | [d1, d2, d3] => { results := [.lit (.bool true)], args := [d1, d2, d3] }
  | _ => none }
def walMendsRow : OpenClaim := { program := "ytncpeaamfmfcgaagreat", sum := "22bac4de93241023d326fc166147a051181e683b23cdd154ff763b1da4fd057c", func := "compline/complinelaw6.WalMends", spec := "walMends", inPlace := ["internal/abi.NoEscape"], unfollowed := true, recurses := true, apart := false }
def WalMendsSaid : Prop := walMendsRow.holds Tryz.pinned (OpenSpec.ofChange walMendsSpec)

/-- ITS FALSE NEIGHBOUR: 'it returns false'. Refute it at one input. -/
def walMendsWrong : ChangeSpec := { name := "walMends", fn := fun _ => fun
  | [d1, d2, d3] => { results := [.lit (.bool false)], args := [d1, d2, d3] }
  | _ => none }
def WalMendsWrongFalsely : Prop := walMendsRow.holds Tryz.pinned (OpenSpec.ofChange walMendsWrong)

/-- 'complinelaw6.WalEmpty': WHATEVER THE INPUT: true; the input reads as it did. -/
def walEmptySpec : ChangeSpec := { name := "walEmpty", fn := fun _ => fun
  | [d1, d2] => { results := [.lit (.bool true)], args := [d1, d2] }
  | _ => none }
def walEmptyRow : OpenClaim := { program := "ytncpeaamfmfcgaagreat", sum := "22bac4de93241023d326fc166147a051181e683b23cdd154ff763b1da4fd057c", func := "compline/complinelaw6.WalEmpty", spec := "walEmpty", inPlace := ["internal/abi.NoEscape"], unfollowed := true, recurses := true, apart := false }
def WalEmptySaid : Prop := walEmptyRow.holds Tryz.pinned (OpenSpec.ofChange walEmptySpec)

/-- ITS FALSE NEIGHBOUR: 'it returns false'. Refute it at one input. -/
def walEmptyWrong : ChangeSpec := { name := "walEmpty", fn := fun _ => fun
  | [d1, d2] => { results := [.lit (.bool false)], args := [d1, d2] }
  | _ => none }
def WalEmptyWrongFalsely : Prop := walEmptyRow.holds Tryz.pinned (OpenSpec.ofChange walEmptyWrong)

/-- 'complinelaw6.WalWhole': WHATEVER THE INPUT: true; the input reads as it did. -/
def walWholeSpec : ChangeSpec := { name := "walWhole", fn := fun _ => fun
  | [d1, d2, d3] => { results := [.lit (.bool true)], args := [d1, d2, d3] }
  | _ => none }
def walWholeRow : OpenClaim := { program := "ytncpeaamfmfcgaagreat", sum := "22bac4de93241023d326fc166147a051181e683b23cdd154ff763b1da4fd057c", func := "compline/complinelaw6.WalWhole", spec := "walWhole", inPlace := ["internal/abi.NoEscape"], unfollowed := true, recurses := true, apart := false }
def WalWholeSaid : Prop := walWholeRow.holds Tryz.pinned (OpenSpec.ofChange walWholeSpec)

/-- ITS FALSE NEIGHBOUR: 'it returns false'. Refute it at one input. -/
def walWholeWrong : ChangeSpec := { name := "walWhole", fn := fun _ => fun
  | [d1, d2, d3] => { results := [.lit (.bool false)], args := [d1, d2, d3] }
  | _ => none }
def WalWholeWrongFalsely : Prop := walWholeRow.holds Tryz.pinned (OpenSpec.ofChange walWholeWrong)

/-- 'complinelaw6.WalBroken': WHATEVER THE INPUT: true; the input reads as it did. -/
def walBrokenSpec : ChangeSpec := { name := "walBroken", fn := fun _ => fun
  | [d1, d2, d3] => { results := [.lit (.bool true)], args := [d1, d2, d3] }
  | _ => none }
def walBrokenRow : OpenClaim := { program := "ytncpeaamfmfcgaagreat", sum := "22bac4de93241023d326fc166147a051181e683b23cdd154ff763b1da4fd057c", func := "compline/complinelaw6.WalBroken", spec := "walBroken", inPlace := ["internal/abi.NoEscape"], unfollowed := true, recurses := true, apart := false }
def WalBrokenSaid : Prop := walBrokenRow.holds Tryz.pinned (OpenSpec.ofChange walBrokenSpec)

/-- ITS FALSE NEIGHBOUR: 'it returns false'. Refute it at one input. -/
def walBrokenWrong : ChangeSpec := { name := "walBroken", fn := fun _ => fun
  | [d1, d2, d3] => { results := [.lit (.bool false)], args := [d1, d2, d3] }
  | _ => none }
def WalBrokenWrongFalsely : Prop := walBrokenRow.holds Tryz.pinned (OpenSpec.ofChange walBrokenWrong)

/-- 'complinelaw7.SnapNone': WHATEVER THE INPUT: true; the input reads as it did. -/
def snapNoneSpec : ChangeSpec := { name := "snapNone", fn := fun _ => fun
  | [d1, d2, d3] => { results := [.lit (.bool true)], args := [d1, d2, d3] }
  | _ => none }
def snapNoneRow : OpenClaim := { program := "ytncpeaamfmfcgaagreat", sum := "22bac4de93241023d326fc166147a051181e683b23cdd154ff763b1da4fd057c", func := "compline/complinelaw7.SnapNone", spec := "snapNone", inPlace := ["internal/abi.NoEscape", "internal/bytealg.MakeNoZero"], unfollowed := true, recurses := true, apart := false }
def SnapNoneSaid : Prop := snapNoneRow.holds Tryz.pinned (OpenSpec.ofChange snapNoneSpec)

/-- ITS FALSE NEIGHBOUR: 'it returns false'. Refute it at one input. -/
def snapNoneWrong : ChangeSpec := { name := "snapNone", fn := fun _ => fun
  | [d1, d2, d3] => { results := [.lit (.bool false)], args := [d1, d2, d3] }
  | _ => none }
def SnapNoneWrongFalsely : Prop := snapNoneRow.holds Tryz.pinned (OpenSpec.ofChange snapNoneWrong)

/-- 'complinelaw7.SnapClean': WHATEVER THE INPUT: true; the input reads as it did. -/
def snapCleanSpec : ChangeSpec := { name := "snapClean", fn := fun _ => fun
  | [d1, d2] => { results := [.lit (.bool true)], args := [d1, d2] }
  | _ => none }
def snapCleanRow : OpenClaim := { program := "ytncpeaamfmfcgaagreat", sum := "22bac4de93241023d326fc166147a051181e683b23cdd154ff763b1da4fd057c", func := "compline/complinelaw7.SnapClean", spec := "snapClean", inPlace := ["internal/abi.NoEscape", "internal/bytealg.MakeNoZero"], unfollowed := true, recurses := true, apart := false }
def SnapCleanSaid : Prop := snapCleanRow.holds Tryz.pinned (OpenSpec.ofChange snapCleanSpec)

/-- ITS FALSE NEIGHBOUR: 'it returns false'. Refute it at one input. -/
def snapCleanWrong : ChangeSpec := { name := "snapClean", fn := fun _ => fun
  | [d1, d2] => { results := [.lit (.bool false)], args := [d1, d2] }
  | _ => none }
def SnapCleanWrongFalsely : Prop := snapCleanRow.holds Tryz.pinned (OpenSpec.ofChange snapCleanWrong)

/-- 'complinelaw7.SnapWhole': WHATEVER THE INPUT: true; the input reads as it did. -/
def snapWholeSpec : ChangeSpec := { name := "snapWhole", fn := fun _ => fun
  | [d1, d2, d3] => { results := [.lit (.bool true)], args := [d1, d2, d3] }
  | _ => none }
def snapWholeRow : OpenClaim := { program := "ytncpeaamfmfcgaagreat", sum := "22bac4de93241023d326fc166147a051181e683b23cdd154ff763b1da4fd057c", func := "compline/complinelaw7.SnapWhole", spec := "snapWhole", inPlace := ["internal/abi.NoEscape", "internal/bytealg.MakeNoZero"], unfollowed := true, recurses := true, apart := false }
def SnapWholeSaid : Prop := snapWholeRow.holds Tryz.pinned (OpenSpec.ofChange snapWholeSpec)

/-- ITS FALSE NEIGHBOUR: 'it returns false'. Refute it at one input. -/
def snapWholeWrong : ChangeSpec := { name := "snapWhole", fn := fun _ => fun
  | [d1, d2, d3] => { results := [.lit (.bool false)], args := [d1, d2, d3] }
  | _ => none }
def SnapWholeWrongFalsely : Prop := snapWholeRow.holds Tryz.pinned (OpenSpec.ofChange snapWholeWrong)

/- THE SECOND FORM. 'bulk': how many values and letters a reading holds, each counted each time it is reached (what is shared counts as often as it is met; a slice's spare places count too). A statement '..UptoSaid' is the law's where the arguments, and the package variables that the reading takes, are together of bulk at most 1048576: NARROWER than '..Said'. Prove '..Said' where nothing that the law and all that it calls make is longer than what came in: it says more and counts as full. Else prove '..UptoSaid'. A law counts once. -/
mutual
def uptoBulk {H : Type} : DataW H → Nat
  | .lit (.string bytes) => bytes.length + 1
  | .lit _ => 1
  | .nil => 1
  | .ptr d => uptoBulk d + 1
  | .slice elems spare => uptoBulkAll elems + uptoBulkAll spare + 1
  | .agg parts => uptoBulkAll parts + 1
  | .iface _ d => uptoBulk d + 1
  | .map entries => uptoBulkEntries entries + 1
  | .held _ => 1
def uptoBulkAll {H : Type} : List (DataW H) → Nat
  | [] => 0
  | d :: r => uptoBulk d + uptoBulkAll r
def uptoBulkEntries {H : Type} : List (Lit × DataW H) → Nat
  | [] => 0
  | x :: r => uptoBulkEntry x + uptoBulkEntries r
def uptoBulkEntry {H : Type} : Lit × DataW H → Nat
  | (.string bytes, d) => bytes.length + uptoBulk d + 1
  | (_, d) => uptoBulk d + 1
 end
def uptoSmall : (H : Type) → List (DataW H) → Bool := fun _ ds => decide (uptoBulkAll ds ≤ 1048576)
def OpenSpec.upto (s : _root_.Go.ChangeSpec) : _root_.Go.OpenSpec := { _root_.Go.OpenSpec.ofChange s with cond := some uptoSmall }

/-- 'complinelaw6.WalNone', WHERE WHAT IT READS IS OF BULK AT MOST 1048576: true; the input reads as it did. -/
def walNoneUptoRow : OpenClaim := { program := "ytncpeaamfmfcgaagreat", sum := "22bac4de93241023d326fc166147a051181e683b23cdd154ff763b1da4fd057c", func := "compline/complinelaw6.WalNone", spec := "walNone", inPlace := ["internal/abi.NoEscape"], unfollowed := true, recurses := true, apart := false, narrowed := true }
def WalNoneUptoSaid : Prop := walNoneUptoRow.holds Tryz.pinned (OpenSpec.upto walNoneSpec)

/-- 'complinelaw6.WalMends', WHERE WHAT IT READS IS OF BULK AT MOST 1048576: true; the input reads as it did. -/
def walMendsUptoRow : OpenClaim := { program := "ytncpeaamfmfcgaagreat", sum := "22bac4de93241023d326fc166147a051181e683b23cdd154ff763b1da4fd057c", func := "compline/complinelaw6.WalMends", spec := "walMends", inPlace := ["internal/abi.NoEscape"], unfollowed := true, recurses := true, apart := false, narrowed := true }
def WalMendsUptoSaid : Prop := walMendsUptoRow.holds Tryz.pinned (OpenSpec.upto walMendsSpec)

/-- 'complinelaw6.WalEmpty', WHERE WHAT IT READS IS OF BULK AT MOST 1048576: true; the input reads as it did. -/
def walEmptyUptoRow : OpenClaim := { program := "ytncpeaamfmfcgaagreat", sum := "22bac4de93241023d326fc166147a051181e683b23cdd154ff763b1da4fd057c", func := "compline/complinelaw6.WalEmpty", spec := "walEmpty", inPlace := ["internal/abi.NoEscape"], unfollowed := true, recurses := true, apart := false, narrowed := true }
def WalEmptyUptoSaid : Prop := walEmptyUptoRow.holds Tryz.pinned (OpenSpec.upto walEmptySpec)

/-- 'complinelaw6.WalWhole', WHERE WHAT IT READS IS OF BULK AT MOST 1048576: true; the input reads as it did. -/
def walWholeUptoRow : OpenClaim := { program := "ytncpeaamfmfcgaagreat", sum := "22bac4de93241023d326fc166147a051181e683b23cdd154ff763b1da4fd057c", func := "compline/complinelaw6.WalWhole", spec := "walWhole", inPlace := ["internal/abi.NoEscape"], unfollowed := true, recurses := true, apart := false, narrowed := true }
def WalWholeUptoSaid : Prop := walWholeUptoRow.holds Tryz.pinned (OpenSpec.upto walWholeSpec)

/-- 'complinelaw6.WalBroken', WHERE WHAT IT READS IS OF BULK AT MOST 1048576: true; the input reads as it did. -/
def walBrokenUptoRow : OpenClaim := { program := "ytncpeaamfmfcgaagreat", sum := "22bac4de93241023d326fc166147a051181e683b23cdd154ff763b1da4fd057c", func := "compline/complinelaw6.WalBroken", spec := "walBroken", inPlace := ["internal/abi.NoEscape"], unfollowed := true, recurses := true, apart := false, narrowed := true }
def WalBrokenUptoSaid : Prop := walBrokenUptoRow.holds Tryz.pinned (OpenSpec.upto walBrokenSpec)

/-- 'complinelaw7.SnapNone', WHERE WHAT IT READS IS OF BULK AT MOST 1048576: true; the input reads as it did. -/
def snapNoneUptoRow : OpenClaim := { program := "ytncpeaamfmfcgaagreat", sum := "22bac4de93241023d326fc166147a051181e683b23cdd154ff763b1da4fd057c", func := "compline/complinelaw7.SnapNone", spec := "snapNone", inPlace := ["internal/abi.NoEscape", "internal/bytealg.MakeNoZero"], unfollowed := true, recurses := true, apart := false, narrowed := true }
def SnapNoneUptoSaid : Prop := snapNoneUptoRow.holds Tryz.pinned (OpenSpec.upto snapNoneSpec)

/-- 'complinelaw7.SnapClean', WHERE WHAT IT READS IS OF BULK AT MOST 1048576: true; the input reads as it did. -/
def snapCleanUptoRow : OpenClaim := { program := "ytncpeaamfmfcgaagreat", sum := "22bac4de93241023d326fc166147a051181e683b23cdd154ff763b1da4fd057c", func := "compline/complinelaw7.SnapClean", spec := "snapClean", inPlace := ["internal/abi.NoEscape", "internal/bytealg.MakeNoZero"], unfollowed := true, recurses := true, apart := false, narrowed := true }
def SnapCleanUptoSaid : Prop := snapCleanUptoRow.holds Tryz.pinned (OpenSpec.upto snapCleanSpec)

/-- 'complinelaw7.SnapWhole', WHERE WHAT IT READS IS OF BULK AT MOST 1048576: true; the input reads as it did. -/
def snapWholeUptoRow : OpenClaim := { program := "ytncpeaamfmfcgaagreat", sum := "22bac4de93241023d326fc166147a051181e683b23cdd154ff763b1da4fd057c", func := "compline/complinelaw7.SnapWhole", spec := "snapWhole", inPlace := ["internal/abi.NoEscape", "internal/bytealg.MakeNoZero"], unfollowed := true, recurses := true, apart := false, narrowed := true }
def SnapWholeUptoSaid : Prop := snapWholeUptoRow.holds Tryz.pinned (OpenSpec.upto snapWholeSpec)

end Rows
end Go.Proofs.YtncpeaamfmfcgaaGreat
