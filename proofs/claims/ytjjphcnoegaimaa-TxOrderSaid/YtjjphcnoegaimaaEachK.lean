/- What a body keeps that appends while a transaction's iterator goes. -/
import Derived.Test.YtjjphcnoegaimaaEach
namespace Go.Proofs.Ytjjphcnoegaimaa
open Go.RowKit Go.Shelf Go.Maps
attribute [local go_sem] Oper.semAt_some
set_option maxRecDepth 20000
set_option linter.unusedVariables false

/-- What a round keeps that appends to the row in box B: the row, the box, and new blocks aside, all. -/
def EaKp (B : Nat) (W W' : World) : Prop := ApKp B W W' ∧ ∀ k, k < B → W'.heap[k]? = W.heap[k]?
def EaQ (B : Nat) (W : World) (k : Nat) : Prop := k < B ∨ (k ≠ B ∧ ¬ InRow W B k ∧ ∃ cs, W.heap[k]? = some (.cells cs 3 (0, 0)))
theorem EaKp.t {B : Nat} {X Y Z : World} (h : EaKp B X Y) (k : EaKp B Y Z) : EaKp B X Z := ⟨h.1.t k.1, fun i hi => (k.2 i hi).trans (h.2 i hi)⟩
theorem EaKp.b {B : Nat} {w : World} (hB : B < w.heap.size) (W : World) (l : Nat) (o o' : Obj) (hl : w.heap.size ≤ l) (h : W.heap[l]? = some o) (hc : o.isCells = false) (hw : o.isWalk = false) : EaKp B W (W.putObj l o') :=
  ⟨ApKp.b hB W l o o' hl h hc hw, fun k hk => World.putObj_heap_other (by omega)⟩
theorem EaKp.q {B : Nat} (W1 W' : World) (g : Nat) (hk : EaKp B W1 W') (h : EaQ B W1 g) : EaQ B W' g ∧ W'.heap[g]? = W1.heap[g]? := by
  rcases h with h | ⟨q1, q2, cs, q3⟩
  · exact ⟨.inl h, hk.2 g h⟩
  · have hs := hk.1.same g cs _ _ q3 q1 q2
    refine ⟨.inr ⟨q1, fun e => ?_, cs, hs⟩, hs.trans q3.symm⟩
    rcases hk.1.row g e with e | e
    · exact q2 e
    · have := blk_lt q3; omega
theorem eaQ_new {B : Nat} {w W' : World} {g : Nat} {cur : Array Value} (hb : w.cell? ⟨B, 0, none⟩ = some (.slice none 0 0)) (hlt : B < w.heap.size) (hB : Below w.heap.size w W') (hg : w.heap.size ≤ g) (hc : W'.heap[g]? = some (.cells cur 3 (0, 0))) : EaQ B W' g := by
  refine .inr ⟨by omega, fun e => ?_, cur, hc⟩
  have hcc := hB.cell (p := ⟨B, 0, none⟩) hlt
  rw [hb] at hcc
  have := InRow.iff_slice hcc g e
  cases this

theorem ownsRow_blockB {W W' : World} {b : Nat} {e : TypeId} {size : Nat} {v : Value} {n : Nat} {xs : List Value} (h : W.ownsRow b e size v n xs) (hb : ∀ k, v.ownBlock = some k → W'.heap[k]? = W.heap[k]?) : W'.ownsRow b e size v n xs := by
  obtain ⟨hlen, hrow⟩ := h
  refine ⟨hlen, ?_⟩
  rcases hrow with h' | ⟨g, cap, cur, rfl, h0, hh, hr⟩
  · exact .inl h'
  · exact .inr ⟨g, cap, cur, rfl, h0, (hb g rfl).trans hh, hr⟩
end Go.Proofs.Ytjjphcnoegaimaa
