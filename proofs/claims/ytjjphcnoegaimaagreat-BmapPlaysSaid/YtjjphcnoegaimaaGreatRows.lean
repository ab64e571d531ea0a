/-
  No cell of these rows narrows 'for every input' (looked for: loops, veiled, ifaces, maps, wideKeys, modest, calm, conditions, laid).
  DERIVED. THE GIVEN ROWS OF THIS SEAT. 5 by the template 'for every input the law returns true; each argument reads behind the call as it read before'; 0 by the template 'total and deterministic' (their statements: YtjjphcnoegaimaaGreatTotals.lean).
  GIVEN WITH THE SEED: the statements are not yours to turn. If you find one false, say at which input.
  Laid BY PROGRAM, IN A SANDBOX (cutbox-rows.mjs): the forced cells as the released guide's own fill.sh prints them over the translation da8fae68d38480c0… (all of the seat's roots in one cut). By AI agents, Wed Nov 11 2026. No macro, syntax, notation, axiom, sorry.
-/
import Derived.Test.YtjjphcnoegaimaaGreatChecked
import GoSem.Claim
import GoSem.ClaimJoined
import GoSem.ClaimMapViews
import Derived.JoinedTies
import Derived.KernelRfl
namespace Go.Proofs.YtjjphcnoegaimaaGreat
/- THE CELL 'sum', in the pinned program and in every row, IS THE sha256 OF THE DUMP (.gsa) THAT YtjjphcnoegaimaaGreatProg.lean LOADS. Nothing in Lean hashes anything: it is a label: what it is worth is what the hold of that sum in a sandbox is worth. -/
noncomputable def Tryz.pinned : Pinned := { name := "ytjjphcnoegaimaagreat", sum := "da8fae68d38480c055bac57c71b08feb86a875916827188f1c689abd316d80b4", checked := Tryz.checked }
namespace Rows
def none {H : Type} : Left H := { results := [], args := [] }

/-- 'lunettelaw08.TxAtomic': WHATEVER THE INPUT: true; the input reads as it did. -/
def txAtomicSpec : ChangeSpec := { name := "txAtomic", fn := fun _ => fun
  | [d1, d2, d3] => { results := [.lit (.bool true)], args := [d1, d2, d3] }
  | _ => none }
def txAtomicRow : OpenClaim := { program := "ytjjphcnoegaimaagreat", sum := "da8fae68d38480c055bac57c71b08feb86a875916827188f1c689abd316d80b4", func := "lunette/lunettelaw08.TxAtomic", spec := "txAtomic", inPlace := ["internal/abi.NoEscape", "internal/bytealg.MakeNoZero"], unfollowed := true, recurses := true, apart := false }
def TxAtomicSaid : Prop := txAtomicRow.holds Tryz.pinned (OpenSpec.ofChange txAtomicSpec)

/-- ITS FALSE NEIGHBOUR: 'it returns false'. Refute it at one input. -/
def txAtomicWrong : ChangeSpec := { name := "txAtomic", fn := fun _ => fun
  | [d1, d2, d3] => { results := [.lit (.bool false)], args := [d1, d2, d3] }
  | _ => none }
def TxAtomicWrongFalsely : Prop := txAtomicRow.holds Tryz.pinned (OpenSpec.ofChange txAtomicWrong)

/-- 'lunettelaw09.BmapPlays': WHATEVER THE INPUT: true; the input reads as it did. -/
def bmapPlaysSpec : ChangeSpec := { name := "bmapPlays", fn := fun _ => fun
  | [d1, d2, d3] => { results := [.lit (.bool true)], args := [d1, d2, d3] }
  | _ => none }
def bmapPlaysRow : OpenClaim := { program := "ytjjphcnoegaimaagreat", sum := "da8fae68d38480c055bac57c71b08feb86a875916827188f1c689abd316d80b4", func := "lunette/lunettelaw09.BmapPlays", spec := "bmapPlays", inPlace := ["internal/abi.NoEscape", "internal/bytealg.MakeNoZero"], unfollowed := true, recurses := true, apart := false }
def BmapPlaysSaid : Prop := bmapPlaysRow.holds Tryz.pinned (OpenSpec.ofChange bmapPlaysSpec)

/-- ITS FALSE NEIGHBOUR: 'it returns false'. Refute it at one input. -/
def bmapPlaysWrong : ChangeSpec := { name := "bmapPlays", fn := fun _ => fun
  | [d1, d2, d3] => { results := [.lit (.bool false)], args := [d1, d2, d3] }
  | _ => none }
def BmapPlaysWrongFalsely : Prop := bmapPlaysRow.holds Tryz.pinned (OpenSpec.ofChange bmapPlaysWrong)

/-- 'lunettelaw09.BmapCuts': WHATEVER THE INPUT: true; the input reads as it did. -/
def bmapCutsSpec : ChangeSpec := { name := "bmapCuts", fn := fun _ => fun
  | [d1, d2] => { results := [.lit (.bool true)], args := [d1, d2] }
  | _ => none }
def bmapCutsRow : OpenClaim := { program := "ytjjphcnoegaimaagreat", sum := "da8fae68d38480c055bac57c71b08feb86a875916827188f1c689abd316d80b4", func := "lunette/lunettelaw09.BmapCuts", spec := "bmapCuts", inPlace := ["internal/abi.NoEscape", "internal/bytealg.MakeNoZero"], unfollowed := true, recurses := true, apart := false }
def BmapCutsSaid : Prop := bmapCutsRow.holds Tryz.pinned (OpenSpec.ofChange bmapCutsSpec)

/-- ITS FALSE NEIGHBOUR: 'it returns false'. Refute it at one input. -/
def bmapCutsWrong : ChangeSpec := { name := "bmapCuts", fn := fun _ => fun
  | [d1, d2] => { results := [.lit (.bool false)], args := [d1, d2] }
  | _ => none }
def BmapCutsWrongFalsely : Prop := bmapCutsRow.holds Tryz.pinned (OpenSpec.ofChange bmapCutsWrong)

/-- 'lunettelaw09.BmapKeeps': WHATEVER THE INPUT: true; the input reads as it did. -/
def bmapKeepsSpec : ChangeSpec := { name := "bmapKeeps", fn := fun _ => fun
  | [d] => { results := [.lit (.bool true)], args := [d] }
  | _ => none }
def bmapKeepsRow : OpenClaim := { program := "ytjjphcnoegaimaagreat", sum := "da8fae68d38480c055bac57c71b08feb86a875916827188f1c689abd316d80b4", func := "lunette/lunettelaw09.BmapKeeps", spec := "bmapKeeps", inPlace := ["internal/abi.NoEscape", "internal/bytealg.MakeNoZero"], unfollowed := true, recurses := true, apart := false }
def BmapKeepsSaid : Prop := bmapKeepsRow.holds Tryz.pinned (OpenSpec.ofChange bmapKeepsSpec)

/-- ITS FALSE NEIGHBOUR: 'it returns false'. Refute it at one input. -/
def bmapKeepsWrong : ChangeSpec := { name := "bmapKeeps", fn := fun _ => fun
  | [d] => { results := [.lit (.bool false)], args := [d] }
  | _ => none }
def BmapKeepsWrongFalsely : Prop := bmapKeepsRow.holds Tryz.pinned (OpenSpec.ofChange bmapKeepsWrong)

/-- 'lunettelaw09.BmapTwice': WHATEVER THE INPUT: true; the input reads as it did. -/
def bmapTwiceSpec : ChangeSpec := { name := "bmapTwice", fn := fun _ => fun
  | [d1, d2, d3] => { results := [.lit (.bool true)], args := [d1, d2, d3] }
  | _ => none }
def bmapTwiceRow : OpenClaim := { program := "ytjjphcnoegaimaagreat", sum := "da8fae68d38480c055bac57c71b08feb86a875916827188f1c689abd316d80b4", func := "lunette/lunettelaw09.BmapTwice", spec := "bmapTwice", inPlace := ["internal/abi.NoEscape", "internal/bytealg.MakeNoZero"], unfollowed := true, recurses := true, apart := false }
def BmapTwiceSaid : Prop := bmapTwiceRow.holds Tryz.pinned (OpenSpec.ofChange bmapTwiceSpec)

/-- ITS FALSE NEIGHBOUR: 'it returns false'. Refute it at one input. -/
def bmapTwiceWrong : ChangeSpec := { name := "bmapTwice", fn := fun _ => fun
  | [d1, d2, d3] => { results := [.lit (.bool false)], args := [d1, d2, d3] }
  | _ => none }
def BmapTwiceWrongFalsely : Prop := bmapTwiceRow.holds Tryz.pinned (OpenSpec.ofChange bmapTwiceWrong)

/- THE SECOND FORM. 'bulk': how many values and letters a reading holds, each counted each time it is reached (what is shared counts as often as it is met; a slice's spare places count too). A statement '..UptoSaid' is the law's where the arguments, and the package variables that the reading takes, are together of bulk at most 1048576: NARROWER than '..Said'. Prove '..Said' where nothing that the law and all that it calls make is longer than what came in: it says more and counts as full. Else prove '..UptoSaid'. A law counts once. -/
mutual
def uptoBulk {H : Type} : DataW H → Nat
  | .lit (.string bytes) => bytes.length + 1
  | .lit _ => 1
  | .nil => 1
  | .ptr d => uptoBulk d + 1
  | .slice elems spare => uptoBulkAll elems + uptoBulkAll spare + 1
  | .agg parts => uptoBulkAll parts + 1
  | .iface _ d => uptoBulk d + 1
  | .map entries => uptoBulkEntries entries + 1
  | .held _ => 1
def uptoBulkAll {H : Type} : List (DataW H) → Nat
  | [] => 0
  | d :: r => uptoBulk d + uptoBulkAll r
def uptoBulkEntries {H : Type} : List (Lit × DataW H) → Nat
  | [] => 0
  | x :: r => uptoBulkEntry x + uptoBulkEntries r
def uptoBulkEntry {H : Type} : Lit × DataW H → Nat
  | (.string bytes, d) => bytes.length + uptoBulk d + 1
  | (_, d) => uptoBulk d + 1
 end
def uptoSmall : (H : Type) → List (DataW H) → Bool := fun _ ds => decide (uptoBulkAll ds ≤ 1048576)
def OpenSpec.upto (s : _root_.Go.ChangeSpec) : _root_.Go.OpenSpec := { _root_.Go.OpenSpec.ofChange s with cond := some uptoSmall }

/-- 'lunettelaw08.TxAtomic', WHERE WHAT IT READS IS OF BULK AT MOST 1048576: true; the input reads as it did. -/
def txAtomicUptoRow : OpenClaim := { program := "ytjjphcnoegaimaagreat", sum := "da8fae68d38480c055bac57c71b08feb86a875916827188f1c689abd316d80b4", func := "lunette/lunettelaw08.TxAtomic", spec := "txAtomic", inPlace := ["internal/abi.NoEscape", "internal/bytealg.MakeNoZero"], unfollowed := true, recurses := true, apart := false, narrowed := true }
def TxAtomicUptoSaid : Prop := txAtomicUptoRow.holds Tryz.pinned (OpenSpec.upto txAtomicSpec)

/-- 'lunettelaw09.BmapPlays', WHERE WHAT IT READS IS OF BULK AT MOST 1048576: true; the input reads as it did. -/
def bmapPlaysUptoRow : OpenClaim := { program := "ytjjphcnoegaimaagreat", sum := "da8fae68d38480c055bac57c71b08feb86a875916827188f1c689abd316d80b4", func := "lunette/lunettelaw09.BmapPlays", spec := "bmapPlays", inPlace := ["internal/abi.NoEscape", "internal/bytealg.MakeNoZero"], unfollowed := true, recurses := true, apart := false, narrowed := true }
def BmapPlaysUptoSaid : Prop := bmapPlaysUptoRow.holds Tryz.pinned (OpenSpec.upto bmapPlaysSpec)

/-- 'lunettelaw09.BmapCuts', WHERE WHAT IT READS IS OF BULK AT MOST 1048576: true; the input reads as it did. -/
def bmapCutsUptoRow : OpenClaim := { program := "ytjjphcnoegaimaagreat", sum := "da8fae68d38480c055bac57c71b08feb86a875916827188f1c689abd316d80b4", func := "lunette/lunettelaw09.BmapCuts", spec := "bmapCuts", inPlace := ["internal/abi.NoEscape", "internal/bytealg.MakeNoZero"], unfollowed := true, recurses := true, apart := false, narrowed := true }
def BmapCutsUptoSaid : Prop := bmapCutsUptoRow.holds Tryz.pinned (OpenSpec.upto bmapCutsSpec)

/-- 'lunettelaw09.BmapKeeps', WHERE WHAT IT READS IS OF BULK AT MOST 1048576: true; the input reads as it did. -/
def bmapKeepsUptoRow : OpenClaim := { program := "ytjjphcnoegaimaagreat", sum := "da8fae68d38480c055bac57c71b08feb86a875916827188f1c689abd316d80b4", func := "lunette/lunettelaw09.BmapKeeps", spec := "bmapKeeps", inPlace := ["internal/abi.NoEscape", "internal/bytealg.MakeNoZero"], unfollowed := true, recurses := true, apart := false, narrowed := true }
def BmapKeepsUptoSaid : Prop := bmapKeepsUptoRow.holds Tryz.pinned (OpenSpec.upto bmapKeepsSpec)

/-- 'lunettelaw09.BmapTwice', WHERE WHAT IT READS IS OF BULK AT MOST 1048576: true; the input reads as it did. -/
def bmapTwiceUptoRow : OpenClaim := { program := "ytjjphcnoegaimaagreat", sum := "da8fae68d38480c055bac57c71b08feb86a875916827188f1c689abd316d80b4", func := "lunette/lunettelaw09.BmapTwice", spec := "bmapTwice", inPlace := ["internal/abi.NoEscape", "internal/bytealg.MakeNoZero"], unfollowed := true, recurses := true, apart := false, narrowed := true }
def BmapTwiceUptoSaid : Prop := bmapTwiceUptoRow.holds Tryz.pinned (OpenSpec.upto bmapTwiceSpec)

end Rows
end Go.Proofs.YtjjphcnoegaimaaGreat
