/-
  No cell of these rows narrows 'for every input' (looked for: loops, veiled, ifaces, maps, wideKeys, modest, calm, conditions, laid).
  DERIVED. THE GIVEN ROWS OF THIS SEAT. 8 by the template 'for every input the law returns true; each argument reads behind the call as it read before'; 0 by the template 'total and deterministic' (their statements: YtcdmipgopffaaaaTotals.lean).
  GIVEN WITH THE SEED: the statements are not yours to turn. If you find one false, say at which input.
  Laid BY PROGRAM, IN A SANDBOX (cutbox-rows.mjs): the forced cells as the released guide's own fill.sh prints them over the translation f937ad76fa00a5f5… (all of the seat's roots in one cut). By AI agents, Wed Nov 11 2026. No macro, syntax, notation, axiom, sorry.
-/
import Derived.Test.YtcdmipgopffaaaaChecked
import GoSem.Claim
import GoSem.ClaimJoined
import GoSem.ClaimMapViews
import Derived.JoinedTies
import Derived.KernelRfl
namespace Go.Proofs.Ytcdmipgopffaaaa
/- THE CELL 'sum', in the pinned program and in every row, IS THE sha256 OF THE DUMP (.gsa) THAT YtcdmipgopffaaaaProg.lean LOADS. Nothing in Lean hashes anything: it is a label: what it is worth is what the hold of that sum in a sandbox is worth. -/
noncomputable def Try.pinned : Pinned := { name := "ytcdmipgopffaaaa", sum := "f937ad76fa00a5f59b690f6e4aa7cee133145a3998972eb966d17b9583fe5812", checked := Try.checked }
namespace Rows
def none {H : Type} : Left H := { results := [], args := [] }

/-- 'lunettelaw05.GeoBack': WHATEVER THE INPUT: true; the input reads as it did. -/
def geoBackSpec : ChangeSpec := { name := "geoBack", fn := fun _ => fun
  | [d1, d2, d3, d4] => { results := [.lit (.bool true)], args := [d1, d2, d3, d4] }
  | _ => none }
def geoBackRow : OpenClaim := { program := "ytcdmipgopffaaaa", sum := "f937ad76fa00a5f59b690f6e4aa7cee133145a3998972eb966d17b9583fe5812", func := "lunette/lunettelaw05.GeoBack", spec := "geoBack", unfollowed := true, recurses := true, apart := false }
def GeoBackSaid : Prop := geoBackRow.holds Try.pinned (OpenSpec.ofChange geoBackSpec)

/-- ITS FALSE NEIGHBOUR: 'it returns false'. Refute it at one input. -/
def geoBackWrong : ChangeSpec := { name := "geoBack", fn := fun _ => fun
  | [d1, d2, d3, d4] => { results := [.lit (.bool false)], args := [d1, d2, d3, d4] }
  | _ => none }
def GeoBackWrongFalsely : Prop := geoBackRow.holds Try.pinned (OpenSpec.ofChange geoBackWrong)

/-- 'lunettelaw05.GeoRises': WHATEVER THE INPUT: true; the input reads as it did. -/
def geoRisesSpec : ChangeSpec := { name := "geoRises", fn := fun _ => fun
  | [d1, d2, d3, d4] => { results := [.lit (.bool true)], args := [d1, d2, d3, d4] }
  | _ => none }
def geoRisesRow : OpenClaim := { program := "ytcdmipgopffaaaa", sum := "f937ad76fa00a5f59b690f6e4aa7cee133145a3998972eb966d17b9583fe5812", func := "lunette/lunettelaw05.GeoRises", spec := "geoRises", unfollowed := true, recurses := true, apart := false }
def GeoRisesSaid : Prop := geoRisesRow.holds Try.pinned (OpenSpec.ofChange geoRisesSpec)

/-- ITS FALSE NEIGHBOUR: 'it returns false'. Refute it at one input. -/
def geoRisesWrong : ChangeSpec := { name := "geoRises", fn := fun _ => fun
  | [d1, d2, d3, d4] => { results := [.lit (.bool false)], args := [d1, d2, d3, d4] }
  | _ => none }
def GeoRisesWrongFalsely : Prop := geoRisesRow.holds Try.pinned (OpenSpec.ofChange geoRisesWrong)

/-- 'lunettelaw05.GeoTells': WHATEVER THE INPUT: true; the input reads as it did. -/
def geoTellsSpec : ChangeSpec := { name := "geoTells", fn := fun _ => fun
  | [d1, d2, d3, d4, d5, d6] => { results := [.lit (.bool true)], args := [d1, d2, d3, d4, d5, d6] }
  | _ => none }
def geoTellsRow : OpenClaim := { program := "ytcdmipgopffaaaa", sum := "f937ad76fa00a5f59b690f6e4aa7cee133145a3998972eb966d17b9583fe5812", func := "lunette/lunettelaw05.GeoTells", spec := "geoTells", unfollowed := true, recurses := true, apart := false }
def GeoTellsSaid : Prop := geoTellsRow.holds Try.pinned (OpenSpec.ofChange geoTellsSpec)

/-- ITS FALSE NEIGHBOUR: 'it returns false'. Refute it at one input. -/
def geoTellsWrong : ChangeSpec := { name := "geoTells", fn := fun _ => fun
  | [d1, d2, d3, d4, d5, d6] => { results := [.lit (.bool false)], args := [d1, d2, d3, d4, d5, d6] }
  | _ => none }
def GeoTellsWrongFalsely : Prop := geoTellsRow.holds Try.pinned (OpenSpec.ofChange geoTellsWrong)

/-- 'lunettelaw05.GeoApart': WHATEVER THE INPUT: true; the input reads as it did. -/
def geoApartSpec : ChangeSpec := { name := "geoApart", fn := fun _ => fun
  | [d1, d2, d3, d4, d5] => { results := [.lit (.bool true)], args := [d1, d2, d3, d4, d5] }
  | _ => none }
def geoApartRow : OpenClaim := { program := "ytcdmipgopffaaaa", sum := "f937ad76fa00a5f59b690f6e4aa7cee133145a3998972eb966d17b9583fe5812", func := "lunette/lunettelaw05.GeoApart", spec := "geoApart", unfollowed := true, recurses := true, apart := false }
def GeoApartSaid : Prop := geoApartRow.holds Try.pinned (OpenSpec.ofChange geoApartSpec)

/-- ITS FALSE NEIGHBOUR: 'it returns false'. Refute it at one input. -/
def geoApartWrong : ChangeSpec := { name := "geoApart", fn := fun _ => fun
  | [d1, d2, d3, d4, d5] => { results := [.lit (.bool false)], args := [d1, d2, d3, d4, d5] }
  | _ => none }
def GeoApartWrongFalsely : Prop := geoApartRow.holds Try.pinned (OpenSpec.ofChange geoApartWrong)

/-- 'lunettelaw07.InodeBack': WHATEVER THE INPUT: true; the input reads as it did. -/
def inodeBackSpec : ChangeSpec := { name := "inodeBack", fn := fun _ => fun
  | [d1, d2, d3] => { results := [.lit (.bool true)], args := [d1, d2, d3] }
  | _ => none }
def inodeBackRow : OpenClaim := { program := "ytcdmipgopffaaaa", sum := "f937ad76fa00a5f59b690f6e4aa7cee133145a3998972eb966d17b9583fe5812", func := "lunette/lunettelaw07.InodeBack", spec := "inodeBack", apart := false }
def InodeBackSaid : Prop := inodeBackRow.holds Try.pinned (OpenSpec.ofChange inodeBackSpec)

/-- ITS FALSE NEIGHBOUR: 'it returns false'. Refute it at one input. -/
def inodeBackWrong : ChangeSpec := { name := "inodeBack", fn := fun _ => fun
  | [d1, d2, d3] => { results := [.lit (.bool false)], args := [d1, d2, d3] }
  | _ => none }
def InodeBackWrongFalsely : Prop := inodeBackRow.holds Try.pinned (OpenSpec.ofChange inodeBackWrong)

/-- 'lunettelaw07.InodeSizes': WHATEVER THE INPUT: true; the input reads as it did. -/
def inodeSizesSpec : ChangeSpec := { name := "inodeSizes", fn := fun _ => fun
  | [d1, d2] => { results := [.lit (.bool true)], args := [d1, d2] }
  | _ => none }
def inodeSizesRow : OpenClaim := { program := "ytcdmipgopffaaaa", sum := "f937ad76fa00a5f59b690f6e4aa7cee133145a3998972eb966d17b9583fe5812", func := "lunette/lunettelaw07.InodeSizes", spec := "inodeSizes", apart := false }
def InodeSizesSaid : Prop := inodeSizesRow.holds Try.pinned (OpenSpec.ofChange inodeSizesSpec)

/-- ITS FALSE NEIGHBOUR: 'it returns false'. Refute it at one input. -/
def inodeSizesWrong : ChangeSpec := { name := "inodeSizes", fn := fun _ => fun
  | [d1, d2] => { results := [.lit (.bool false)], args := [d1, d2] }
  | _ => none }
def InodeSizesWrongFalsely : Prop := inodeSizesRow.holds Try.pinned (OpenSpec.ofChange inodeSizesWrong)

/-- 'lunettelaw07.InodeTells': WHATEVER THE INPUT: true; the input reads as it did. -/
def inodeTellsSpec : ChangeSpec := { name := "inodeTells", fn := fun _ => fun
  | [d1, d2, d3, d4] => { results := [.lit (.bool true)], args := [d1, d2, d3, d4] }
  | _ => none }
def inodeTellsRow : OpenClaim := { program := "ytcdmipgopffaaaa", sum := "f937ad76fa00a5f59b690f6e4aa7cee133145a3998972eb966d17b9583fe5812", func := "lunette/lunettelaw07.InodeTells", spec := "inodeTells", apart := false }
def InodeTellsSaid : Prop := inodeTellsRow.holds Try.pinned (OpenSpec.ofChange inodeTellsSpec)

/-- ITS FALSE NEIGHBOUR: 'it returns false'. Refute it at one input. -/
def inodeTellsWrong : ChangeSpec := { name := "inodeTells", fn := fun _ => fun
  | [d1, d2, d3, d4] => { results := [.lit (.bool false)], args := [d1, d2, d3, d4] }
  | _ => none }
def InodeTellsWrongFalsely : Prop := inodeTellsRow.holds Try.pinned (OpenSpec.ofChange inodeTellsWrong)

/-- 'lunettelaw07.InodeTold': WHATEVER THE INPUT: true; the input reads as it did. -/
def inodeToldSpec : ChangeSpec := { name := "inodeTold", fn := fun _ => fun
  | [d1, d2] => { results := [.lit (.bool true)], args := [d1, d2] }
  | _ => none }
def inodeToldRow : OpenClaim := { program := "ytcdmipgopffaaaa", sum := "f937ad76fa00a5f59b690f6e4aa7cee133145a3998972eb966d17b9583fe5812", func := "lunette/lunettelaw07.InodeTold", spec := "inodeTold", apart := false }
def InodeToldSaid : Prop := inodeToldRow.holds Try.pinned (OpenSpec.ofChange inodeToldSpec)

/-- ITS FALSE NEIGHBOUR: 'it returns false'. Refute it at one input. -/
def inodeToldWrong : ChangeSpec := { name := "inodeTold", fn := fun _ => fun
  | [d1, d2] => { results := [.lit (.bool false)], args := [d1, d2] }
  | _ => none }
def InodeToldWrongFalsely : Prop := inodeToldRow.holds Try.pinned (OpenSpec.ofChange inodeToldWrong)

/- THE SECOND FORM. 'bulk': how many values and letters a reading holds, each counted each time it is reached (what is shared counts as often as it is met; a slice's spare places count too). A statement '..UptoSaid' is the law's where the arguments, and the package variables that the reading takes, are together of bulk at most 1048576: NARROWER than '..Said'. Prove '..Said' where nothing that the law and all that it calls make is longer than what came in: it says more and counts as full. Else prove '..UptoSaid'. A law counts once. -/
mutual
def uptoBulk {H : Type} : DataW H → Nat
  | .lit (.string bytes) => bytes.length + 1
  | .lit _ => 1
  | .nil => 1
  | .ptr d => uptoBulk d + 1
  | .slice elems spare => uptoBulkAll elems + uptoBulkAll spare + 1
  | .agg parts => uptoBulkAll parts + 1
  | .iface _ d => uptoBulk d + 1
  | .map entries => uptoBulkEntries entries + 1
  | .held _ => 1
def uptoBulkAll {H : Type} : List (DataW H) → Nat
  | [] => 0
  | d :: r => uptoBulk d + uptoBulkAll r
def uptoBulkEntries {H : Type} : List (Lit × DataW H) → Nat
  | [] => 0
  | x :: r => uptoBulkEntry x + uptoBulkEntries r
def uptoBulkEntry {H : Type} : Lit × DataW H → Nat
  | (.string bytes, d) => bytes.length + uptoBulk d + 1
  | (_, d) => uptoBulk d + 1
 end
def uptoSmall : (H : Type) → List (DataW H) → Bool := fun _ ds => decide (uptoBulkAll ds ≤ 1048576)
def OpenSpec.upto (s : _root_.Go.ChangeSpec) : _root_.Go.OpenSpec := { _root_.Go.OpenSpec.ofChange s with cond := some uptoSmall }

/-- 'lunettelaw05.GeoBack', WHERE WHAT IT READS IS OF BULK AT MOST 1048576: true; the input reads as it did. -/
def geoBackUptoRow : OpenClaim := { program := "ytcdmipgopffaaaa", sum := "f937ad76fa00a5f59b690f6e4aa7cee133145a3998972eb966d17b9583fe5812", func := "lunette/lunettelaw05.GeoBack", spec := "geoBack", unfollowed := true, recurses := true, apart := false, narrowed := true }
def GeoBackUptoSaid : Prop := geoBackUptoRow.holds Try.pinned (OpenSpec.upto geoBackSpec)

/-- 'lunettelaw05.GeoRises', WHERE WHAT IT READS IS OF BULK AT MOST 1048576: true; the input reads as it did. -/
def geoRisesUptoRow : OpenClaim := { program := "ytcdmipgopffaaaa", sum := "f937ad76fa00a5f59b690f6e4aa7cee133145a3998972eb966d17b9583fe5812", func := "lunette/lunettelaw05.GeoRises", spec := "geoRises", unfollowed := true, recurses := true, apart := false, narrowed := true }
def GeoRisesUptoSaid : Prop := geoRisesUptoRow.holds Try.pinned (OpenSpec.upto geoRisesSpec)

/-- 'lunettelaw05.GeoTells', WHERE WHAT IT READS IS OF BULK AT MOST 1048576: true; the input reads as it did. -/
def geoTellsUptoRow : OpenClaim := { program := "ytcdmipgopffaaaa", sum := "f937ad76fa00a5f59b690f6e4aa7cee133145a3998972eb966d17b9583fe5812", func := "lunette/lunettelaw05.GeoTells", spec := "geoTells", unfollowed := true, recurses := true, apart := false, narrowed := true }
def GeoTellsUptoSaid : Prop := geoTellsUptoRow.holds Try.pinned (OpenSpec.upto geoTellsSpec)

/-- 'lunettelaw05.GeoApart', WHERE WHAT IT READS IS OF BULK AT MOST 1048576: true; the input reads as it did. -/
def geoApartUptoRow : OpenClaim := { program := "ytcdmipgopffaaaa", sum := "f937ad76fa00a5f59b690f6e4aa7cee133145a3998972eb966d17b9583fe5812", func := "lunette/lunettelaw05.GeoApart", spec := "geoApart", unfollowed := true, recurses := true, apart := false, narrowed := true }
def GeoApartUptoSaid : Prop := geoApartUptoRow.holds Try.pinned (OpenSpec.upto geoApartSpec)

/-- 'lunettelaw07.InodeBack', WHERE WHAT IT READS IS OF BULK AT MOST 1048576: true; the input reads as it did. -/
def inodeBackUptoRow : OpenClaim := { program := "ytcdmipgopffaaaa", sum := "f937ad76fa00a5f59b690f6e4aa7cee133145a3998972eb966d17b9583fe5812", func := "lunette/lunettelaw07.InodeBack", spec := "inodeBack", apart := false, narrowed := true }
def InodeBackUptoSaid : Prop := inodeBackUptoRow.holds Try.pinned (OpenSpec.upto inodeBackSpec)

/-- 'lunettelaw07.InodeSizes', WHERE WHAT IT READS IS OF BULK AT MOST 1048576: true; the input reads as it did. -/
def inodeSizesUptoRow : OpenClaim := { program := "ytcdmipgopffaaaa", sum := "f937ad76fa00a5f59b690f6e4aa7cee133145a3998972eb966d17b9583fe5812", func := "lunette/lunettelaw07.InodeSizes", spec := "inodeSizes", apart := false, narrowed := true }
def InodeSizesUptoSaid : Prop := inodeSizesUptoRow.holds Try.pinned (OpenSpec.upto inodeSizesSpec)

/-- 'lunettelaw07.InodeTells', WHERE WHAT IT READS IS OF BULK AT MOST 1048576: true; the input reads as it did. -/
def inodeTellsUptoRow : OpenClaim := { program := "ytcdmipgopffaaaa", sum := "f937ad76fa00a5f59b690f6e4aa7cee133145a3998972eb966d17b9583fe5812", func := "lunette/lunettelaw07.InodeTells", spec := "inodeTells", apart := false, narrowed := true }
def InodeTellsUptoSaid : Prop := inodeTellsUptoRow.holds Try.pinned (OpenSpec.upto inodeTellsSpec)

/-- 'lunettelaw07.InodeTold', WHERE WHAT IT READS IS OF BULK AT MOST 1048576: true; the input reads as it did. -/
def inodeToldUptoRow : OpenClaim := { program := "ytcdmipgopffaaaa", sum := "f937ad76fa00a5f59b690f6e4aa7cee133145a3998972eb966d17b9583fe5812", func := "lunette/lunettelaw07.InodeTold", spec := "inodeTold", apart := false, narrowed := true }
def InodeToldUptoSaid : Prop := inodeToldUptoRow.holds Try.pinned (OpenSpec.upto inodeToldSpec)

end Rows
end Go.Proofs.Ytcdmipgopffaaaa
