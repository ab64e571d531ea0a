/-
  No cell of these rows narrows 'for every input' (looked for: loops, veiled, ifaces, maps, wideKeys, modest, calm, conditions, laid).
  DERIVED. THE GIVEN ROWS OF THIS SEAT. 9 by the template 'for every input the law returns true; each argument reads behind the call as it read before'; 0 by the template 'total and deterministic' (their statements: YthmabnigdnbdkaaTotals.lean).
  GIVEN WITH THE SEED: the statements are not yours to turn. If you find one false, say at which input.
  Laid BY PROGRAM, IN A SANDBOX (cutbox-rows.mjs): the forced cells as the released guide's own fill.sh prints them over the translation 9aa0a96dd5aa8885… (all of the seat's roots in one cut). By AI agents, Wed Nov 11 2026. No macro, syntax, notation, axiom, sorry.
-/
import Derived.Test.YthmabnigdnbdkaaChecked
import GoSem.Claim
import GoSem.ClaimJoined
import GoSem.ClaimMapViews
import Derived.JoinedTies
import Derived.KernelRfl
namespace Go.Proofs.Ythmabnigdnbdkaa
/- THE CELL 'sum', in the pinned program and in every row, IS THE sha256 OF THE DUMP (.gsa) THAT YthmabnigdnbdkaaProg.lean LOADS. Nothing in Lean hashes anything: it is a label: what it is worth is what the hold of that sum in a sandbox is worth. -/
noncomputable def Try.pinned : Pinned := { name := "ythmabnigdnbdkaa", sum := "9aa0a96dd5aa8885d25b1199b174e8f828714163dfe5e3d521ffb54fb96aa3c3", checked := Try.checked }
namespace Rows
def none {H : Type} : Left H := { results := [], args := [] }

/-- 'lunettelaw13.CellsApart': WHATEVER THE INPUT: true; the input reads as it did. -/
def cellsApartSpec : ChangeSpec := { name := "cellsApart", fn := fun _ => fun
  | [d1, d2, d3] => { results := [.lit (.bool true)], args := [d1, d2, d3] }
  | _ => none }
def cellsApartRow : OpenClaim := { program := "ythmabnigdnbdkaa", sum := "9aa0a96dd5aa8885d25b1199b174e8f828714163dfe5e3d521ffb54fb96aa3c3", func := "lunette/lunettelaw13.CellsApart", spec := "cellsApart", unfollowed := true, recurses := true, apart := false }
def CellsApartSaid : Prop := cellsApartRow.holds Try.pinned (OpenSpec.ofChange cellsApartSpec)

/-- ITS FALSE NEIGHBOUR: 'it returns false'. Refute it at one input. -/
def cellsApartWrong : ChangeSpec := { name := "cellsApart", fn := fun _ => fun
  | [d1, d2, d3] => { results := [.lit (.bool false)], args := [d1, d2, d3] }
  | _ => none }
def CellsApartWrongFalsely : Prop := cellsApartRow.holds Try.pinned (OpenSpec.ofChange cellsApartWrong)

/-- 'lunettelaw13.CellsSum': WHATEVER THE INPUT: true; the input reads as it did. -/
def cellsSumSpec : ChangeSpec := { name := "cellsSum", fn := fun _ => fun
  | [d1, d2] => { results := [.lit (.bool true)], args := [d1, d2] }
  | _ => none }
def cellsSumRow : OpenClaim := { program := "ythmabnigdnbdkaa", sum := "9aa0a96dd5aa8885d25b1199b174e8f828714163dfe5e3d521ffb54fb96aa3c3", func := "lunette/lunettelaw13.CellsSum", spec := "cellsSum", unfollowed := true, recurses := true, apart := false }
def CellsSumSaid : Prop := cellsSumRow.holds Try.pinned (OpenSpec.ofChange cellsSumSpec)

/-- ITS FALSE NEIGHBOUR: 'it returns false'. Refute it at one input. -/
def cellsSumWrong : ChangeSpec := { name := "cellsSum", fn := fun _ => fun
  | [d1, d2] => { results := [.lit (.bool false)], args := [d1, d2] }
  | _ => none }
def CellsSumWrongFalsely : Prop := cellsSumRow.holds Try.pinned (OpenSpec.ofChange cellsSumWrong)

/-- 'lunettelaw13.CellsPlay': WHATEVER THE INPUT: true; the input reads as it did. -/
def cellsPlaySpec : ChangeSpec := { name := "cellsPlay", fn := fun _ => fun
  | [d1, d2, d3, d4] => { results := [.lit (.bool true)], args := [d1, d2, d3, d4] }
  | _ => none }
def cellsPlayRow : OpenClaim := { program := "ythmabnigdnbdkaa", sum := "9aa0a96dd5aa8885d25b1199b174e8f828714163dfe5e3d521ffb54fb96aa3c3", func := "lunette/lunettelaw13.CellsPlay", spec := "cellsPlay", inPlace := ["maps.clone"], unfollowed := true, recurses := true, apart := false }
def CellsPlaySaid : Prop := cellsPlayRow.holds Try.pinned (OpenSpec.ofChange cellsPlaySpec)

/-- ITS FALSE NEIGHBOUR: 'it returns false'. Refute it at one input. -/
def cellsPlayWrong : ChangeSpec := { name := "cellsPlay", fn := fun _ => fun
  | [d1, d2, d3, d4] => { results := [.lit (.bool false)], args := [d1, d2, d3, d4] }
  | _ => none }
def CellsPlayWrongFalsely : Prop := cellsPlayRow.holds Try.pinned (OpenSpec.ofChange cellsPlayWrong)

/-- 'lunettelaw15.SeqWhole': WHATEVER THE INPUT: true; the input reads as it did. -/
def seqWholeSpec : ChangeSpec := { name := "seqWhole", fn := fun _ => fun
  | [d1, d2] => { results := [.lit (.bool true)], args := [d1, d2] }
  | _ => none }
def seqWholeRow : OpenClaim := { program := "ythmabnigdnbdkaa", sum := "9aa0a96dd5aa8885d25b1199b174e8f828714163dfe5e3d521ffb54fb96aa3c3", func := "lunette/lunettelaw15.SeqWhole", spec := "seqWhole", unfollowed := true, recurses := true, apart := false }
def SeqWholeSaid : Prop := seqWholeRow.holds Try.pinned (OpenSpec.ofChange seqWholeSpec)

/-- ITS FALSE NEIGHBOUR: 'it returns false'. Refute it at one input. -/
def seqWholeWrong : ChangeSpec := { name := "seqWhole", fn := fun _ => fun
  | [d1, d2] => { results := [.lit (.bool false)], args := [d1, d2] }
  | _ => none }
def SeqWholeWrongFalsely : Prop := seqWholeRow.holds Try.pinned (OpenSpec.ofChange seqWholeWrong)

/-- 'lunettelaw15.SeqPlays': WHATEVER THE INPUT: true; the input reads as it did. -/
def seqPlaysSpec : ChangeSpec := { name := "seqPlays", fn := fun _ => fun
  | [d1, d2, d3] => { results := [.lit (.bool true)], args := [d1, d2, d3] }
  | _ => none }
def seqPlaysRow : OpenClaim := { program := "ythmabnigdnbdkaa", sum := "9aa0a96dd5aa8885d25b1199b174e8f828714163dfe5e3d521ffb54fb96aa3c3", func := "lunette/lunettelaw15.SeqPlays", spec := "seqPlays", unfollowed := true, recurses := true, apart := false }
def SeqPlaysSaid : Prop := seqPlaysRow.holds Try.pinned (OpenSpec.ofChange seqPlaysSpec)

/-- ITS FALSE NEIGHBOUR: 'it returns false'. Refute it at one input. -/
def seqPlaysWrong : ChangeSpec := { name := "seqPlays", fn := fun _ => fun
  | [d1, d2, d3] => { results := [.lit (.bool false)], args := [d1, d2, d3] }
  | _ => none }
def SeqPlaysWrongFalsely : Prop := seqPlaysRow.holds Try.pinned (OpenSpec.ofChange seqPlaysWrong)

/-- 'lunettelaw15.SeqAlone': WHATEVER THE INPUT: true; the input reads as it did. -/
def seqAloneSpec : ChangeSpec := { name := "seqAlone", fn := fun _ => fun
  | [d1, d2] => { results := [.lit (.bool true)], args := [d1, d2] }
  | _ => none }
def seqAloneRow : OpenClaim := { program := "ythmabnigdnbdkaa", sum := "9aa0a96dd5aa8885d25b1199b174e8f828714163dfe5e3d521ffb54fb96aa3c3", func := "lunette/lunettelaw15.SeqAlone", spec := "seqAlone", unfollowed := true, recurses := true, apart := false }
def SeqAloneSaid : Prop := seqAloneRow.holds Try.pinned (OpenSpec.ofChange seqAloneSpec)

/-- ITS FALSE NEIGHBOUR: 'it returns false'. Refute it at one input. -/
def seqAloneWrong : ChangeSpec := { name := "seqAlone", fn := fun _ => fun
  | [d1, d2] => { results := [.lit (.bool false)], args := [d1, d2] }
  | _ => none }
def SeqAloneWrongFalsely : Prop := seqAloneRow.holds Try.pinned (OpenSpec.ofChange seqAloneWrong)

/-- 'lunettelaw16.ClockAfter': WHATEVER THE INPUT: true; the input reads as it did. -/
def clockAfterSpec : ChangeSpec := { name := "clockAfter", fn := fun _ => fun
  | [d1, d2] => { results := [.lit (.bool true)], args := [d1, d2] }
  | _ => none }
def clockAfterRow : OpenClaim := { program := "ythmabnigdnbdkaa", sum := "9aa0a96dd5aa8885d25b1199b174e8f828714163dfe5e3d521ffb54fb96aa3c3", func := "lunette/lunettelaw16.ClockAfter", spec := "clockAfter", unfollowed := true, recurses := true, apart := false }
def ClockAfterSaid : Prop := clockAfterRow.holds Try.pinned (OpenSpec.ofChange clockAfterSpec)

/-- ITS FALSE NEIGHBOUR: 'it returns false'. Refute it at one input. -/
def clockAfterWrong : ChangeSpec := { name := "clockAfter", fn := fun _ => fun
  | [d1, d2] => { results := [.lit (.bool false)], args := [d1, d2] }
  | _ => none }
def ClockAfterWrongFalsely : Prop := clockAfterRow.holds Try.pinned (OpenSpec.ofChange clockAfterWrong)

/-- 'lunettelaw16.ClockPlays': WHATEVER THE INPUT: true; the input reads as it did. -/
def clockPlaysSpec : ChangeSpec := { name := "clockPlays", fn := fun _ => fun
  | [d1, d2, d3, d4] => { results := [.lit (.bool true)], args := [d1, d2, d3, d4] }
  | _ => none }
def clockPlaysRow : OpenClaim := { program := "ythmabnigdnbdkaa", sum := "9aa0a96dd5aa8885d25b1199b174e8f828714163dfe5e3d521ffb54fb96aa3c3", func := "lunette/lunettelaw16.ClockPlays", spec := "clockPlays", unfollowed := true, recurses := true, apart := false }
def ClockPlaysSaid : Prop := clockPlaysRow.holds Try.pinned (OpenSpec.ofChange clockPlaysSpec)

/-- ITS FALSE NEIGHBOUR: 'it returns false'. Refute it at one input. -/
def clockPlaysWrong : ChangeSpec := { name := "clockPlays", fn := fun _ => fun
  | [d1, d2, d3, d4] => { results := [.lit (.bool false)], args := [d1, d2, d3, d4] }
  | _ => none }
def ClockPlaysWrongFalsely : Prop := clockPlaysRow.holds Try.pinned (OpenSpec.ofChange clockPlaysWrong)

/-- 'lunettelaw16.ClockApart': WHATEVER THE INPUT: true; the input reads as it did. -/
def clockApartSpec : ChangeSpec := { name := "clockApart", fn := fun _ => fun
  | [d] => { results := [.lit (.bool true)], args := [d] }
  | _ => none }
def clockApartRow : OpenClaim := { program := "ythmabnigdnbdkaa", sum := "9aa0a96dd5aa8885d25b1199b174e8f828714163dfe5e3d521ffb54fb96aa3c3", func := "lunette/lunettelaw16.ClockApart", spec := "clockApart", unfollowed := true, recurses := true, apart := false }
def ClockApartSaid : Prop := clockApartRow.holds Try.pinned (OpenSpec.ofChange clockApartSpec)

/-- ITS FALSE NEIGHBOUR: 'it returns false'. Refute it at one input. -/
def clockApartWrong : ChangeSpec := { name := "clockApart", fn := fun _ => fun
  | [d] => { results := [.lit (.bool false)], args := [d] }
  | _ => none }
def ClockApartWrongFalsely : Prop := clockApartRow.holds Try.pinned (OpenSpec.ofChange clockApartWrong)

/- THE SECOND FORM. 'bulk': how many values and letters a reading holds, each counted each time it is reached (what is shared counts as often as it is met; a slice's spare places count too). A statement '..UptoSaid' is the law's where the arguments, and the package variables that the reading takes, are together of bulk at most 1048576: NARROWER than '..Said'. Prove '..Said' where nothing that the law and all that it calls make is longer than what came in: it says more and counts as full. Else prove '..UptoSaid'. A law counts once. -/
mutual
def uptoBulk {H : Type} : DataW H → Nat
  | .lit (.string bytes) => bytes.length + 1
  | .lit _ => 1
  | .nil => 1
  | .ptr d => uptoBulk d + 1
  | .slice elems spare => uptoBulkAll elems + uptoBulkAll spare + 1
  | .agg parts => uptoBulkAll parts + 1
  | .iface _ d => uptoBulk d + 1
  | .map entries => uptoBulkEntries entries + 1
  | .held _ => 1
def uptoBulkAll {H : Type} : List (DataW H) → Nat
  | [] => 0
  | d :: r => uptoBulk d + uptoBulkAll r
def uptoBulkEntries {H : Type} : List (Lit × DataW H) → Nat
  | [] => 0
  | x :: r => uptoBulkEntry x + uptoBulkEntries r
def uptoBulkEntry {H : Type} : Lit × DataW H → Nat
  | (.string bytes, d) => bytes.length + uptoBulk d + 1
  | (_, d) => uptoBulk d + 1
 end
def uptoSmall : (H : Type) → List (DataW H) → Bool := fun _ ds => decide (uptoBulkAll ds ≤ 1048576)
def OpenSpec.upto (s : _root_.Go.ChangeSpec) : _root_.Go.OpenSpec := { _root_.Go.OpenSpec.ofChange s with cond := some uptoSmall }

/-- 'lunettelaw13.CellsApart', WHERE WHAT IT READS IS OF BULK AT MOST 1048576: true; the input reads as it did. -/
def cellsApartUptoRow : OpenClaim := { program := "ythmabnigdnbdkaa", sum := "9aa0a96dd5aa8885d25b1199b174e8f828714163dfe5e3d521ffb54fb96aa3c3", func := "lunette/lunettelaw13.CellsApart", spec := "cellsApart", unfollowed := true, recurses := true, apart := false, narrowed := true }
def CellsApartUptoSaid : Prop := cellsApartUptoRow.holds Try.pinned (OpenSpec.upto cellsApartSpec)

/-- 'lunettelaw13.CellsSum', WHERE WHAT IT READS IS OF BULK AT MOST 1048576: true; the input reads as it did. -/
def cellsSumUptoRow : OpenClaim := { program := "ythmabnigdnbdkaa", sum := "9aa0a96dd5aa8885d25b1199b174e8f828714163dfe5e3d521ffb54fb96aa3c3", func := "lunette/lunettelaw13.CellsSum", spec := "cellsSum", unfollowed := true, recurses := true, apart := false, narrowed := true }
def CellsSumUptoSaid : Prop := cellsSumUptoRow.holds Try.pinned (OpenSpec.upto cellsSumSpec)

/-- 'lunettelaw13.CellsPlay', WHERE WHAT IT READS IS OF BULK AT MOST 1048576: true; the input reads as it did. -/
def cellsPlayUptoRow : OpenClaim := { program := "ythmabnigdnbdkaa", sum := "9aa0a96dd5aa8885d25b1199b174e8f828714163dfe5e3d521ffb54fb96aa3c3", func := "lunette/lunettelaw13.CellsPlay", spec := "cellsPlay", inPlace := ["maps.clone"], unfollowed := true, recurses := true, apart := false, narrowed := true }
def CellsPlayUptoSaid : Prop := cellsPlayUptoRow.holds Try.pinned (OpenSpec.upto cellsPlaySpec)

/-- 'lunettelaw15.SeqWhole', WHERE WHAT IT READS IS OF BULK AT MOST 1048576: true; the input reads as it did. -/
def seqWholeUptoRow : OpenClaim := { program := "ythmabnigdnbdkaa", sum := "9aa0a96dd5aa8885d25b1199b174e8f828714163dfe5e3d521ffb54fb96aa3c3", func := "lunette/lunettelaw15.SeqWhole", spec := "seqWhole", unfollowed := true, recurses := true, apart := false, narrowed := true }
def SeqWholeUptoSaid : Prop := seqWholeUptoRow.holds Try.pinned (OpenSpec.upto seqWholeSpec)

/-- 'lunettelaw15.SeqPlays', WHERE WHAT IT READS IS OF BULK AT MOST 1048576: true; the input reads as it did. -/
def seqPlaysUptoRow : OpenClaim := { program := "ythmabnigdnbdkaa", sum := "9aa0a96dd5aa8885d25b1199b174e8f828714163dfe5e3d521ffb54fb96aa3c3", func := "lunette/lunettelaw15.SeqPlays", spec := "seqPlays", unfollowed := true, recurses := true, apart := false, narrowed := true }
def SeqPlaysUptoSaid : Prop := seqPlaysUptoRow.holds Try.pinned (OpenSpec.upto seqPlaysSpec)

/-- 'lunettelaw15.SeqAlone', WHERE WHAT IT READS IS OF BULK AT MOST 1048576: true; the input reads as it did. -/
def seqAloneUptoRow : OpenClaim := { program := "ythmabnigdnbdkaa", sum := "9aa0a96dd5aa8885d25b1199b174e8f828714163dfe5e3d521ffb54fb96aa3c3", func := "lunette/lunettelaw15.SeqAlone", spec := "seqAlone", unfollowed := true, recurses := true, apart := false, narrowed := true }
def SeqAloneUptoSaid : Prop := seqAloneUptoRow.holds Try.pinned (OpenSpec.upto seqAloneSpec)

/-- 'lunettelaw16.ClockAfter', WHERE WHAT IT READS IS OF BULK AT MOST 1048576: true; the input reads as it did. -/
def clockAfterUptoRow : OpenClaim := { program := "ythmabnigdnbdkaa", sum := "9aa0a96dd5aa8885d25b1199b174e8f828714163dfe5e3d521ffb54fb96aa3c3", func := "lunette/lunettelaw16.ClockAfter", spec := "clockAfter", unfollowed := true, recurses := true, apart := false, narrowed := true }
def ClockAfterUptoSaid : Prop := clockAfterUptoRow.holds Try.pinned (OpenSpec.upto clockAfterSpec)

/-- 'lunettelaw16.ClockPlays', WHERE WHAT IT READS IS OF BULK AT MOST 1048576: true; the input reads as it did. -/
def clockPlaysUptoRow : OpenClaim := { program := "ythmabnigdnbdkaa", sum := "9aa0a96dd5aa8885d25b1199b174e8f828714163dfe5e3d521ffb54fb96aa3c3", func := "lunette/lunettelaw16.ClockPlays", spec := "clockPlays", unfollowed := true, recurses := true, apart := false, narrowed := true }
def ClockPlaysUptoSaid : Prop := clockPlaysUptoRow.holds Try.pinned (OpenSpec.upto clockPlaysSpec)

/-- 'lunettelaw16.ClockApart', WHERE WHAT IT READS IS OF BULK AT MOST 1048576: true; the input reads as it did. -/
def clockApartUptoRow : OpenClaim := { program := "ythmabnigdnbdkaa", sum := "9aa0a96dd5aa8885d25b1199b174e8f828714163dfe5e3d521ffb54fb96aa3c3", func := "lunette/lunettelaw16.ClockApart", spec := "clockApart", unfollowed := true, recurses := true, apart := false, narrowed := true }
def ClockApartUptoSaid : Prop := clockApartUptoRow.holds Try.pinned (OpenSpec.upto clockApartSpec)

end Rows
end Go.Proofs.Ythmabnigdnbdkaa
