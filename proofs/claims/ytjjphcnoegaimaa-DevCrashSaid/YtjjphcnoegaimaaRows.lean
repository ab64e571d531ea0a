/-
  No cell of these rows narrows 'for every input' (looked for: loops, veiled, ifaces, maps, wideKeys, modest, calm, conditions, laid).
  DERIVED. THE GIVEN ROWS OF THIS SEAT. 9 by the template 'for every input the law returns true; each argument reads behind the call as it read before'; 0 by the template 'total and deterministic' (their statements: YtjjphcnoegaimaaTotals.lean).
  GIVEN WITH THE SEED: the statements are not yours to turn. If you find one false, say at which input.
  Laid BY PROGRAM, IN A SANDBOX (cutbox-rows.mjs): the forced cells as the released guide's own fill.sh prints them over the translation 31638aa7aa250758… (all of the seat's roots in one cut). By AI agents, Wed Nov 11 2026. No macro, syntax, notation, axiom, sorry.
-/
import Derived.Test.YtjjphcnoegaimaaChecked
import GoSem.Claim
import GoSem.ClaimJoined
import GoSem.ClaimMapViews
import Derived.JoinedTies
import Derived.KernelRfl
namespace Go.Proofs.Ytjjphcnoegaimaa
/- THE CELL 'sum', in the pinned program and in every row, IS THE sha256 OF THE DUMP (.gsa) THAT YtjjphcnoegaimaaProg.lean LOADS. Nothing in Lean hashes anything: it is a label: what it is worth is what the hold of that sum in a sandbox is worth. -/
noncomputable def Try.pinned : Pinned := { name := "ytjjphcnoegaimaa", sum := "31638aa7aa250758fa677b9dc26ce2daccc90c575abbcfb2d2738e7c3ce4a155", checked := Try.checked }
namespace Rows
def none {H : Type} : Left H := { results := [], args := [] }

/-- 'lunettelaw03.DevLast': WHATEVER THE INPUT: true; the input reads as it did. -/
def devLastSpec : ChangeSpec := { name := "devLast", fn := fun _ => fun
  | [d1, d2] => { results := [.lit (.bool true)], args := [d1, d2] }
  | _ => none }
def devLastRow : OpenClaim := { program := "ytjjphcnoegaimaa", sum := "31638aa7aa250758fa677b9dc26ce2daccc90c575abbcfb2d2738e7c3ce4a155", func := "lunette/lunettelaw03.DevLast", spec := "devLast", inPlace := ["internal/abi.NoEscape", "internal/bytealg.MakeNoZero"], unfollowed := true, recurses := true, apart := false }
def DevLastSaid : Prop := devLastRow.holds Try.pinned (OpenSpec.ofChange devLastSpec)

/-- ITS FALSE NEIGHBOUR: 'it returns false'. Refute it at one input. -/
def devLastWrong : ChangeSpec := { name := "devLast", fn := fun _ => fun
  | [d1, d2] => { results := [.lit (.bool false)], args := [d1, d2] }
  | _ => none }
def DevLastWrongFalsely : Prop := devLastRow.holds Try.pinned (OpenSpec.ofChange devLastWrong)

/-- 'lunettelaw03.DevFuse': WHATEVER THE INPUT: true; the input reads as it did. -/
def devFuseSpec : ChangeSpec := { name := "devFuse", fn := fun _ => fun
  | [d1, d2] => { results := [.lit (.bool true)], args := [d1, d2] }
  | _ => none }
def devFuseRow : OpenClaim := { program := "ytjjphcnoegaimaa", sum := "31638aa7aa250758fa677b9dc26ce2daccc90c575abbcfb2d2738e7c3ce4a155", func := "lunette/lunettelaw03.DevFuse", spec := "devFuse", inPlace := ["internal/abi.NoEscape", "internal/bytealg.MakeNoZero"], unfollowed := true, recurses := true, apart := false }
def DevFuseSaid : Prop := devFuseRow.holds Try.pinned (OpenSpec.ofChange devFuseSpec)

/-- ITS FALSE NEIGHBOUR: 'it returns false'. Refute it at one input. -/
def devFuseWrong : ChangeSpec := { name := "devFuse", fn := fun _ => fun
  | [d1, d2] => { results := [.lit (.bool false)], args := [d1, d2] }
  | _ => none }
def DevFuseWrongFalsely : Prop := devFuseRow.holds Try.pinned (OpenSpec.ofChange devFuseWrong)

/-- 'lunettelaw03.DevCrash': WHATEVER THE INPUT: true; the input reads as it did. -/
def devCrashSpec : ChangeSpec := { name := "devCrash", fn := fun _ => fun
  | [d1, d2] => { results := [.lit (.bool true)], args := [d1, d2] }
  | _ => none }
def devCrashRow : OpenClaim := { program := "ytjjphcnoegaimaa", sum := "31638aa7aa250758fa677b9dc26ce2daccc90c575abbcfb2d2738e7c3ce4a155", func := "lunette/lunettelaw03.DevCrash", spec := "devCrash", inPlace := ["internal/abi.NoEscape", "internal/bytealg.MakeNoZero"], unfollowed := true, recurses := true, apart := false }
def DevCrashSaid : Prop := devCrashRow.holds Try.pinned (OpenSpec.ofChange devCrashSpec)

/-- ITS FALSE NEIGHBOUR: 'it returns false'. Refute it at one input. -/
def devCrashWrong : ChangeSpec := { name := "devCrash", fn := fun _ => fun
  | [d1, d2] => { results := [.lit (.bool false)], args := [d1, d2] }
  | _ => none }
def DevCrashWrongFalsely : Prop := devCrashRow.holds Try.pinned (OpenSpec.ofChange devCrashWrong)

/-- 'lunettelaw04.JournalAtomic': WHATEVER THE INPUT: true; the input reads as it did. -/
def journalAtomicSpec : ChangeSpec := { name := "journalAtomic", fn := fun _ => fun
  | [d1, d2, d3, d4] => { results := [.lit (.bool true)], args := [d1, d2, d3, d4] }
  | _ => none }
def journalAtomicRow : OpenClaim := { program := "ytjjphcnoegaimaa", sum := "31638aa7aa250758fa677b9dc26ce2daccc90c575abbcfb2d2738e7c3ce4a155", func := "lunette/lunettelaw04.JournalAtomic", spec := "journalAtomic", inPlace := ["internal/abi.NoEscape", "internal/bytealg.MakeNoZero"], unfollowed := true, recurses := true, apart := false }
def JournalAtomicSaid : Prop := journalAtomicRow.holds Try.pinned (OpenSpec.ofChange journalAtomicSpec)

/-- ITS FALSE NEIGHBOUR: 'it returns false'. Refute it at one input. -/
def journalAtomicWrong : ChangeSpec := { name := "journalAtomic", fn := fun _ => fun
  | [d1, d2, d3, d4] => { results := [.lit (.bool false)], args := [d1, d2, d3, d4] }
  | _ => none }
def JournalAtomicWrongFalsely : Prop := journalAtomicRow.holds Try.pinned (OpenSpec.ofChange journalAtomicWrong)

/-- 'lunettelaw04.JournalPlays': WHATEVER THE INPUT: true; the input reads as it did. -/
def journalPlaysSpec : ChangeSpec := { name := "journalPlays", fn := fun _ => fun
  | [d1, d2, d3] => { results := [.lit (.bool true)], args := [d1, d2, d3] }
  | _ => none }
def journalPlaysRow : OpenClaim := { program := "ytjjphcnoegaimaa", sum := "31638aa7aa250758fa677b9dc26ce2daccc90c575abbcfb2d2738e7c3ce4a155", func := "lunette/lunettelaw04.JournalPlays", spec := "journalPlays", inPlace := ["internal/abi.NoEscape", "internal/bytealg.MakeNoZero"], unfollowed := true, recurses := true, apart := false }
def JournalPlaysSaid : Prop := journalPlaysRow.holds Try.pinned (OpenSpec.ofChange journalPlaysSpec)

/-- ITS FALSE NEIGHBOUR: 'it returns false'. Refute it at one input. -/
def journalPlaysWrong : ChangeSpec := { name := "journalPlays", fn := fun _ => fun
  | [d1, d2, d3] => { results := [.lit (.bool false)], args := [d1, d2, d3] }
  | _ => none }
def JournalPlaysWrongFalsely : Prop := journalPlaysRow.holds Try.pinned (OpenSpec.ofChange journalPlaysWrong)

/-- 'lunettelaw04.JournalAgain': WHATEVER THE INPUT: true; the input reads as it did. -/
def journalAgainSpec : ChangeSpec := { name := "journalAgain", fn := fun _ => fun
  | [d1, d2, d3, d4, d5, d6] => { results := [.lit (.bool true)], args := [d1, d2, d3, d4, d5, d6] }
  | _ => none }
def journalAgainRow : OpenClaim := { program := "ytjjphcnoegaimaa", sum := "31638aa7aa250758fa677b9dc26ce2daccc90c575abbcfb2d2738e7c3ce4a155", func := "lunette/lunettelaw04.JournalAgain", spec := "journalAgain", inPlace := ["internal/abi.NoEscape", "internal/bytealg.MakeNoZero"], unfollowed := true, recurses := true, apart := false }
def JournalAgainSaid : Prop := journalAgainRow.holds Try.pinned (OpenSpec.ofChange journalAgainSpec)

/-- ITS FALSE NEIGHBOUR: 'it returns false'. Refute it at one input. -/
def journalAgainWrong : ChangeSpec := { name := "journalAgain", fn := fun _ => fun
  | [d1, d2, d3, d4, d5, d6] => { results := [.lit (.bool false)], args := [d1, d2, d3, d4, d5, d6] }
  | _ => none }
def JournalAgainWrongFalsely : Prop := journalAgainRow.holds Try.pinned (OpenSpec.ofChange journalAgainWrong)

/-- 'lunettelaw04.JournalSure': WHATEVER THE INPUT: true; the input reads as it did. -/
def journalSureSpec : ChangeSpec := { name := "journalSure", fn := fun _ => fun
  | [d1, d2, d3, d4] => { results := [.lit (.bool true)], args := [d1, d2, d3, d4] }
  | _ => none }
def journalSureRow : OpenClaim := { program := "ytjjphcnoegaimaa", sum := "31638aa7aa250758fa677b9dc26ce2daccc90c575abbcfb2d2738e7c3ce4a155", func := "lunette/lunettelaw04.JournalSure", spec := "journalSure", inPlace := ["internal/abi.NoEscape", "internal/bytealg.MakeNoZero"], unfollowed := true, recurses := true, apart := false }
def JournalSureSaid : Prop := journalSureRow.holds Try.pinned (OpenSpec.ofChange journalSureSpec)

/-- ITS FALSE NEIGHBOUR: 'it returns false'. Refute it at one input. -/
def journalSureWrong : ChangeSpec := { name := "journalSure", fn := fun _ => fun
  | [d1, d2, d3, d4] => { results := [.lit (.bool false)], args := [d1, d2, d3, d4] }
  | _ => none }
def JournalSureWrongFalsely : Prop := journalSureRow.holds Try.pinned (OpenSpec.ofChange journalSureWrong)

/-- 'lunettelaw08.TxOrder': WHATEVER THE INPUT: true; the input reads as it did. -/
def txOrderSpec : ChangeSpec := { name := "txOrder", fn := fun _ => fun
  | [d] => { results := [.lit (.bool true)], args := [d] }
  | _ => none }
def txOrderRow : OpenClaim := { program := "ytjjphcnoegaimaa", sum := "31638aa7aa250758fa677b9dc26ce2daccc90c575abbcfb2d2738e7c3ce4a155", func := "lunette/lunettelaw08.TxOrder", spec := "txOrder", inPlace := ["internal/abi.NoEscape", "internal/bytealg.MakeNoZero"], unfollowed := true, recurses := true, apart := false }
def TxOrderSaid : Prop := txOrderRow.holds Try.pinned (OpenSpec.ofChange txOrderSpec)

/-- ITS FALSE NEIGHBOUR: 'it returns false'. Refute it at one input. -/
def txOrderWrong : ChangeSpec := { name := "txOrder", fn := fun _ => fun
  | [d] => { results := [.lit (.bool false)], args := [d] }
  | _ => none }
def TxOrderWrongFalsely : Prop := txOrderRow.holds Try.pinned (OpenSpec.ofChange txOrderWrong)

/-- 'lunettelaw08.TxRoom': WHATEVER THE INPUT: true; the input reads as it did. -/
def txRoomSpec : ChangeSpec := { name := "txRoom", fn := fun _ => fun
  | [d] => { results := [.lit (.bool true)], args := [d] }
  | _ => none }
def txRoomRow : OpenClaim := { program := "ytjjphcnoegaimaa", sum := "31638aa7aa250758fa677b9dc26ce2daccc90c575abbcfb2d2738e7c3ce4a155", func := "lunette/lunettelaw08.TxRoom", spec := "txRoom", inPlace := ["internal/abi.NoEscape", "internal/bytealg.MakeNoZero"], unfollowed := true, recurses := true, apart := false }
def TxRoomSaid : Prop := txRoomRow.holds Try.pinned (OpenSpec.ofChange txRoomSpec)

/-- ITS FALSE NEIGHBOUR: 'it returns false'. Refute it at one input. -/
def txRoomWrong : ChangeSpec := { name := "txRoom", fn := fun _ => fun
  | [d] => { results := [.lit (.bool false)], args := [d] }
  | _ => none }
def TxRoomWrongFalsely : Prop := txRoomRow.holds Try.pinned (OpenSpec.ofChange txRoomWrong)

/- THE SECOND FORM. 'bulk': how many values and letters a reading holds, each counted each time it is reached (what is shared counts as often as it is met; a slice's spare places count too). A statement '..UptoSaid' is the law's where the arguments, and the package variables that the reading takes, are together of bulk at most 1048576: NARROWER than '..Said'. Prove '..Said' where nothing that the law and all that it calls make is longer than what came in: it says more and counts as full. Else prove '..UptoSaid'. A law counts once. -/
mutual
def uptoBulk {H : Type} : DataW H → Nat
  | .lit (.string bytes) => bytes.length + 1
  | .lit _ => 1
  | .nil => 1
  | .ptr d => uptoBulk d + 1
  | .slice elems spare => uptoBulkAll elems + uptoBulkAll spare + 1
  | .agg parts => uptoBulkAll parts + 1
  | .iface _ d => uptoBulk d + 1
  | .map entries => uptoBulkEntries entries + 1
  | .held _ => 1
def uptoBulkAll {H : Type} : List (DataW H) → Nat
  | [] => 0
  | d :: r => uptoBulk d + uptoBulkAll r
def uptoBulkEntries {H : Type} : List (Lit × DataW H) → Nat
  | [] => 0
  | x :: r => uptoBulkEntry x + uptoBulkEntries r
def uptoBulkEntry {H : Type} : Lit × DataW H → Nat
  | (.string bytes, d) => bytes.length + uptoBulk d + 1
  | (_, d) => uptoBulk d + 1
 end
def uptoSmall : (H : Type) → List (DataW H) → Bool := fun _ ds => decide (uptoBulkAll ds ≤ 1048576)
def OpenSpec.upto (s : _root_.Go.ChangeSpec) : _root_.Go.OpenSpec := { _root_.Go.OpenSpec.ofChange s with cond := some uptoSmall }

/-- 'lunettelaw03.DevLast', WHERE WHAT IT READS IS OF BULK AT MOST 1048576: true; the input reads as it did. -/
def devLastUptoRow : OpenClaim := { program := "ytjjphcnoegaimaa", sum := "31638aa7aa250758fa677b9dc26ce2daccc90c575abbcfb2d2738e7c3ce4a155", func := "lunette/lunettelaw03.DevLast", spec := "devLast", inPlace := ["internal/abi.NoEscape", "internal/bytealg.MakeNoZero"], unfollowed := true, recurses := true, apart := false, narrowed := true }
def DevLastUptoSaid : Prop := devLastUptoRow.holds Try.pinned (OpenSpec.upto devLastSpec)

/-- 'lunettelaw03.DevFuse', WHERE WHAT IT READS IS OF BULK AT MOST 1048576: true; the input reads as it did. -/
def devFuseUptoRow : OpenClaim := { program := "ytjjphcnoegaimaa", sum := "31638aa7aa250758fa677b9dc26ce2daccc90c575abbcfb2d2738e7c3ce4a155", func := "lunette/lunettelaw03.DevFuse", spec := "devFuse", inPlace := ["internal/abi.NoEscape", "internal/bytealg.MakeNoZero"], unfollowed := true, recurses := true, apart := false, narrowed := true }
def DevFuseUptoSaid : Prop := devFuseUptoRow.holds Try.pinned (OpenSpec.upto devFuseSpec)

/-- 'lunettelaw03.DevCrash', WHERE WHAT IT READS IS OF BULK AT MOST 1048576: true; the input reads as it did. -/
def devCrashUptoRow : OpenClaim := { program := "ytjjphcnoegaimaa", sum := "31638aa7aa250758fa677b9dc26ce2daccc90c575abbcfb2d2738e7c3ce4a155", func := "lunette/lunettelaw03.DevCrash", spec := "devCrash", inPlace := ["internal/abi.NoEscape", "internal/bytealg.MakeNoZero"], unfollowed := true, recurses := true, apart := false, narrowed := true }
def DevCrashUptoSaid : Prop := devCrashUptoRow.holds Try.pinned (OpenSpec.upto devCrashSpec)

/-- 'lunettelaw04.JournalAtomic', WHERE WHAT IT READS IS OF BULK AT MOST 1048576: true; the input reads as it did. -/
def journalAtomicUptoRow : OpenClaim := { program := "ytjjphcnoegaimaa", sum := "31638aa7aa250758fa677b9dc26ce2daccc90c575abbcfb2d2738e7c3ce4a155", func := "lunette/lunettelaw04.JournalAtomic", spec := "journalAtomic", inPlace := ["internal/abi.NoEscape", "internal/bytealg.MakeNoZero"], unfollowed := true, recurses := true, apart := false, narrowed := true }
def JournalAtomicUptoSaid : Prop := journalAtomicUptoRow.holds Try.pinned (OpenSpec.upto journalAtomicSpec)

/-- 'lunettelaw04.JournalPlays', WHERE WHAT IT READS IS OF BULK AT MOST 1048576: true; the input reads as it did. -/
def journalPlaysUptoRow : OpenClaim := { program := "ytjjphcnoegaimaa", sum := "31638aa7aa250758fa677b9dc26ce2daccc90c575abbcfb2d2738e7c3ce4a155", func := "lunette/lunettelaw04.JournalPlays", spec := "journalPlays", inPlace := ["internal/abi.NoEscape", "internal/bytealg.MakeNoZero"], unfollowed := true, recurses := true, apart := false, narrowed := true }
def JournalPlaysUptoSaid : Prop := journalPlaysUptoRow.holds Try.pinned (OpenSpec.upto journalPlaysSpec)

/-- 'lunettelaw04.JournalAgain', WHERE WHAT IT READS IS OF BULK AT MOST 1048576: true; the input reads as it did. -/
def journalAgainUptoRow : OpenClaim := { program := "ytjjphcnoegaimaa", sum := "31638aa7aa250758fa677b9dc26ce2daccc90c575abbcfb2d2738e7c3ce4a155", func := "lunette/lunettelaw04.JournalAgain", spec := "journalAgain", inPlace := ["internal/abi.NoEscape", "internal/bytealg.MakeNoZero"], unfollowed := true, recurses := true, apart := false, narrowed := true }
def JournalAgainUptoSaid : Prop := journalAgainUptoRow.holds Try.pinned (OpenSpec.upto journalAgainSpec)

/-- 'lunettelaw04.JournalSure', WHERE WHAT IT READS IS OF BULK AT MOST 1048576: true; the input reads as it did. -/
def journalSureUptoRow : OpenClaim := { program := "ytjjphcnoegaimaa", sum := "31638aa7aa250758fa677b9dc26ce2daccc90c575abbcfb2d2738e7c3ce4a155", func := "lunette/lunettelaw04.JournalSure", spec := "journalSure", inPlace := ["internal/abi.NoEscape", "internal/bytealg.MakeNoZero"], unfollowed := true, recurses := true, apart := false, narrowed := true }
def JournalSureUptoSaid : Prop := journalSureUptoRow.holds Try.pinned (OpenSpec.upto journalSureSpec)

/-- 'lunettelaw08.TxOrder', WHERE WHAT IT READS IS OF BULK AT MOST 1048576: true; the input reads as it did. -/
def txOrderUptoRow : OpenClaim := { program := "ytjjphcnoegaimaa", sum := "31638aa7aa250758fa677b9dc26ce2daccc90c575abbcfb2d2738e7c3ce4a155", func := "lunette/lunettelaw08.TxOrder", spec := "txOrder", inPlace := ["internal/abi.NoEscape", "internal/bytealg.MakeNoZero"], unfollowed := true, recurses := true, apart := false, narrowed := true }
def TxOrderUptoSaid : Prop := txOrderUptoRow.holds Try.pinned (OpenSpec.upto txOrderSpec)

/-- 'lunettelaw08.TxRoom', WHERE WHAT IT READS IS OF BULK AT MOST 1048576: true; the input reads as it did. -/
def txRoomUptoRow : OpenClaim := { program := "ytjjphcnoegaimaa", sum := "31638aa7aa250758fa677b9dc26ce2daccc90c575abbcfb2d2738e7c3ce4a155", func := "lunette/lunettelaw08.TxRoom", spec := "txRoom", inPlace := ["internal/abi.NoEscape", "internal/bytealg.MakeNoZero"], unfollowed := true, recurses := true, apart := false, narrowed := true }
def TxRoomUptoSaid : Prop := txRoomUptoRow.holds Try.pinned (OpenSpec.upto txRoomSpec)

end Rows
end Go.Proofs.Ytjjphcnoegaimaa
