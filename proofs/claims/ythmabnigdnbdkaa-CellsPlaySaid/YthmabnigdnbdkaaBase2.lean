/- Small words on what a call leaves below: steps of 'Below' without numbers. -/
import Derived.Test.YthmabnigdnbdkaaBase
namespace Go.Proofs.Ythmabnigdnbdkaa
open Go.RowKit

theorem bt {a b c : World} (h : Below a.heap.size a b) (k : Below b.heap.size b c) : Below a.heap.size a c := h.trans (k.mono h.size)
theorem bal {a b : World} (h : Below a.heap.size a b) (o : Obj) : Below a.heap.size a (b.alloc o) := h.alloc h.size o
theorem bnew (a : World) (o : Obj) : Below a.heap.size a (a.alloc o) := (Below.refl _ _).alloc (Nat.le_refl _) o
/-- A block that lay in the middle world lies in the last. -/
theorem bblk {b c : World} (k : Below b.heap.size b c) {l : Nat} {o : Obj} (h : b.heap[l]? = some o) : c.heap[l]? = some o := (k.block l (Array.getElem?_eq_some_iff.1 h).1).trans h
theorem blk_lt {b : World} {l : Nat} {o : Obj} (h : b.heap[l]? = some o) : l < b.heap.size := (Array.getElem?_eq_some_iff.1 h).1
theorem blk_old {b : World} {l : Nat} {o : Obj} (h : b.heap[l]? = some o) (x : Obj) : (b.alloc x).heap[l]? = some o := (hp_old b x (blk_lt h)).trans h
theorem blk_set {b : World} {l : Nat} {o : Obj} (h : b.heap[l]? = some o) {p : Addr} (hp : l ≠ p.block) (v : Value) : (b.setCell p v).heap[l]? = some o := (Below.heap_setCell b p v l hp).trans h
theorem blk_here {w : World} {b : Nat} {cs : Array Value} {t : TypeId} {fz : Nat × Nat} (h : w.heap[b]? = some (.cells cs t fz)) (i : Nat) (u : Value) : (w.setCell ⟨b, i, none⟩ u).heap[b]? = some (.cells (cs.setIfInBounds i u) t fz) := by
  obtain ⟨hlt, _⟩ := Array.getElem?_eq_some_iff.1 h
  simp [World.setCell, Array.getElem?_modify, h]
theorem bcell {W w1 : World} (hb : Below W.heap.size W w1) : (∀ b o, b < W.heap.size → w1.cell? ⟨b, o, none⟩ = W.cell? ⟨b, o, none⟩) ∧ (∀ b o, b < W.heap.size → w1.frozen? ⟨b, o, none⟩ = W.frozen? ⟨b, o, none⟩) :=
  ⟨fun b o h => hb.cell (p := ⟨b, o, none⟩) h, fun b o h => hb.frozen (p := ⟨b, o, none⟩) h⟩
end Go.Proofs.Ythmabnigdnbdkaa
