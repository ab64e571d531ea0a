/- Cells, and the document's cells beside them: one predicate of a world. -/
import Derived.Test.YthmabnigdnbdkaaRefCells
namespace Go.Proofs.Ythmabnigdnbdkaa
open Go.RowKit
set_option maxRecDepth 20000

/-- Blocks of other types are kept. -/
def Kt2 (w w' : World) : Prop := ∀ (l : Nat) (cs : Array Value) (t : TypeId) (fz : Nat × Nat), w.heap[l]? = some (Obj.cells cs t fz) → t ≠ 91 → t ≠ 88 → t ≠ 44 → t ≠ 109 → w'.heap[l]? = w.heap[l]?
theorem Kt2.refl (w : World) : Kt2 w w := fun _ _ _ _ _ _ _ _ _ => rfl
theorem Kt2.trans {a b c : World} (h : Kt2 a b) (k : Kt2 b c) : Kt2 a c := fun l cs t fz hl h1 h2 h3 h4 => by
  have e := h l cs t fz hl h1 h2 h3 h4
  exact (k l cs t fz (e.trans hl) h1 h2 h3 h4).trans e
theorem Kt2.fr {w w' : World} (h : Fr (fun _ => False) w w') : Kt2 w w' := fun l _ _ _ hl _ _ _ _ => h.block l (Array.getElem?_eq_some_iff.1 hl).1 id

theorem CellsAt.away2 {W : World} {p m : Nat} {sv : Value} {on : Bool} {N : List (Int × Int)} {S : List Touch} (h : CellsAt W p m sv on N S) {l : Nat} {cs : Array Value} {t : TypeId} {fz : Nat × Nat} (hl : W.heap[l]? = some (.cells cs t fz)) (h1 : t ≠ 91) (h2 : t ≠ 88) : ¬ cfoot p m sv l := by
  rintro (rfl | rfl | hk)
  · have := h.obj
    rw [hl] at this
    simp only [Option.some.injEq, Obj.cells.injEq] at this
    exact h2 this.2.1
  · obtain ⟨es, c, hb, _⟩ := h.map
    rw [hl] at hb; cases hb
  · obtain ⟨cur, hb⟩ := ownsRow_type h.row hk
    rw [hl] at hb
    simp only [Option.some.injEq, Obj.cells.injEq] at hb
    exact h1 hb.2.1
theorem RefAt.away {W : World} {q : Nat} {vL vS : Value} {on : Bool} {L : List (Int × Int)} {S : List Touch} (h : RefAt W q vL vS on L S) {l : Nat} {cs : Array Value} {t : TypeId} {fz : Nat × Nat} (hl : W.heap[l]? = some (.cells cs t fz)) (h1 : t ≠ 91) (h3 : t ≠ 44) (h4 : t ≠ 109) : ¬ rfoot q vL vS l := by
  rintro (rfl | hk | hk)
  · have := h.obj
    rw [hl] at this
    simp only [Option.some.injEq, Obj.cells.injEq] at this
    exact h3 this.2.1
  · obtain ⟨cur, hb⟩ := ownsRow_type h.rowL hk
    rw [hl] at hb
    simp only [Option.some.injEq, Obj.cells.injEq] at hb
    exact h4 hb.2.1
  · obtain ⟨cur, hb⟩ := ownsRow_type h.rowS hk
    rw [hl] at hb
    simp only [Option.some.injEq, Obj.cells.injEq] at hb
    exact h1 hb.2.1

structure Duo (w0 : World) (p m q : Nat) (on : Bool) (N : List (Int × Int)) (S : List Touch) (on2 : Bool) (L : List (Int × Int)) (S2 : List Touch) (W : World) : Prop where
  ex : ∃ sv vL vS, CellsAt W p m sv on N S ∧ RefAt W q vL vS on2 L S2 ∧ (∀ k, cfoot p m sv k → w0.heap.size ≤ k ∧ ¬ rfoot q vL vS k) ∧ ∀ k, rfoot q vL vS k → w0.heap.size ≤ k
  below : Below w0.heap.size w0 W

theorem Duo.fr {w0 w w' : World} {p m q : Nat} {on on2 : Bool} {N L : List (Int × Int)} {S S2 : List Touch} (h : Duo w0 p m q on N S on2 L S2 w) (hf : Fr (fun _ => False) w w') : Duo w0 p m q on N S on2 L S2 w' := by
  obtain ⟨sv, vL, vS, hc, hr, h1, h2⟩ := h.ex
  exact ⟨⟨sv, vL, vS, hc.fr hf fun _ _ => id, hr.fr hf fun _ _ => id, h1, h2⟩, Fr.step h.below hf h.below.size fun _ h => h.elim⟩
theorem Duo.drew {w0 w : World} {p m q : Nat} {on on2 : Bool} {N L : List (Int × Int)} {S S2 : List Touch} (h : Duo w0 p m q on N S on2 L S2 w) : Duo w0 p m q on N S on2 L S2 w.drew := h.fr (Fr.refl _ _).drew
theorem Duo.alloc {w0 w : World} {p m q : Nat} {on on2 : Bool} {N L : List (Int × Int)} {S S2 : List Touch} (h : Duo w0 p m q on N S on2 L S2 w) (o : Obj) : Duo w0 p m q on N S on2 L S2 (w.alloc o) := h.fr ((Fr.refl _ _).alloc o)
/-- A step of the cells. -/
theorem Duo.c {w0 w : World} {p m q : Nat} {on on2 : Bool} {N L : List (Int × Int)} {S S2 : List Touch} (h : Duo w0 p m q on N S on2 L S2 w) : ∃ sv, CellsAt w p m sv on N S ∧ ∀ (w' : World) (on' : Bool) (N' : List (Int × Int)) (S' : List Touch), CStep w p m sv on' N' S' w' → Duo w0 p m q on' N' S' on2 L S2 w' ∧ Kt2 w w' := by
  obtain ⟨sv, vL, vS, hc, hr, h1, h2⟩ := h.ex
  refine ⟨sv, hc, fun w' on' N' S' hst => ?_⟩
  obtain ⟨sv', a, b, c⟩ := hst
  have hsz := h.below.size
  refine ⟨⟨⟨sv', vL, vS, a, hr.fr b fun k hk hc' => (h1 k hc').2 hk, ?_, h2⟩, Fr.step h.below b hsz fun k hk => (h1 k hk).1⟩, ?_⟩
  · rintro k (rfl | rfl | hg)
    · exact h1 _ (.inl rfl)
    · exact h1 _ (.inr (.inl rfl))
    · rcases c with c | ⟨g, hg', hl⟩
      · exact h1 _ (.inr (.inr (c ▸ hg)))
      · rw [hg] at hg'
        cases hg'
        exact ⟨by omega, fun hk => by have := hr.lt hk; omega⟩
  · intro l cs t fz hl t1 t2 t3 t4
    exact b.block l (Array.getElem?_eq_some_iff.1 hl).1 (hc.away2 hl t1 t2)
/-- A step of the document's cells. -/
theorem Duo.r {w0 w : World} {p m q : Nat} {on on2 : Bool} {N L : List (Int × Int)} {S S2 : List Touch} (h : Duo w0 p m q on N S on2 L S2 w) : ∃ vL vS, RefAt w q vL vS on2 L S2 ∧ ∀ (w' : World) (on' : Bool) (L' : List (Int × Int)) (S' : List Touch), RStep w q vL vS on' L' S' w' → Duo w0 p m q on N S on' L' S' w' ∧ Kt2 w w' := by
  obtain ⟨sv, vL, vS, hc, hr, h1, h2⟩ := h.ex
  refine ⟨vL, vS, hr, fun w' on' L' S' hst => ?_⟩
  obtain ⟨vL', vS', a, b, c, d⟩ := hst
  have hsz := h.below.size
  have hnew : ∀ k, rfoot q vL' vS' k → rfoot q vL vS k ∨ w.heap.size ≤ k := by
    rintro k (rfl | hg | hg)
    · exact .inl (.inl rfl)
    · rcases c with c | ⟨g, hg', hl⟩
      · exact .inl (.inr (.inl (c ▸ hg)))
      · rw [hg] at hg'; cases hg'; exact .inr hl
    · rcases d with d | ⟨g, hg', hl⟩
      · exact .inl (.inr (.inr (d ▸ hg)))
      · rw [hg] at hg'; cases hg'; exact .inr hl
  refine ⟨⟨⟨sv, vL', vS', hc.fr b fun k hk hk' => (h1 k hk).2 hk', a, fun k hk => ⟨(h1 k hk).1, fun hk' => ?_⟩, fun k hk => ?_⟩, Fr.step h.below b hsz fun k hk => h2 k hk⟩, ?_⟩
  · rcases hnew k hk' with h' | h'
    · exact (h1 k hk).2 h'
    · have := hc.lt hk; omega
  · rcases hnew k hk with h' | h'
    · exact h2 k h'
    · omega
  · intro l cs t fz hl t1 t2 t3 t4
    exact b.block l (Array.getElem?_eq_some_iff.1 hl).1 (hr.away hl t1 t3 t4)
/-- How they begin. -/
theorem Duo.start {w0 w : World} {p m q : Nat} {sv : Value} {on on2 : Bool} {N : List (Int × Int)} {S : List Touch} (hc : CellsAt w p m sv on N S) (hk : ∀ k, cfoot p m sv k → w0.heap.size ≤ k) (hb : Below w0.heap.size w0 w) (hq : q = w.heap.size) :
    Duo w0 p m q on N S on2 [] [] (w.alloc (.cells #[.slice none 0 0, .slice none 0 0, .bool on2] 44 (0, 0))) := by
  subst hq
  have hf : ∀ k, rfoot w.heap.size (.slice none 0 0) (.slice none 0 0) k → k = w.heap.size := by
    rintro k (rfl | hg | hg)
    · rfl
    · cases hg
    · cases hg
  refine ⟨⟨sv, _, _, hc.alloc _, ⟨hp_new _ _ rfl, ⟨rfl, .inl ⟨rfl, rfl⟩⟩, ⟨rfl, .inl ⟨rfl, rfl⟩⟩⟩, fun k h => ⟨hk k h, fun h' => ?_⟩, fun k h => ?_⟩, hb.alloc hb.size _⟩
  · have := hf k h'; have := hc.lt h; omega
  · rw [hf k h]; exact hb.size
end Go.Proofs.Ythmabnigdnbdkaa
