/- A slice of strings that comes in, as a list. -/
import Derived.Test.YtjjphcnoegaimaaGreatSlice
import Derived.SliceStrings
namespace Go.Proofs.YtjjphcnoegaimaaGreat
open Go.RowKit Go.ChangeShapes Go.WideShapes

structure SlS (W : World) (v : Value) (zs : List ByteArray) : Prop where
  val : ∃ ao cap, v = .slice ao zs.length cap ∧ (0 < zs.length → ∃ b off, ao = some ⟨b, off, none⟩ ∧ b < W.heap.size ∧ ∀ j, j < zs.length → W.cell? ⟨b, off + j, none⟩ = some (.string (zs.getD j ByteArray.empty)))
  small : ∀ s ∈ zs, s.size ≤ maxLen

theorem open_strs {H : Type} {P : Program} {enc : TypeId × Value → H} {w : World} {base : Nat} {held : Bool} {spare : Nat → Bool} {t e : TypeId} {v : Value} {d : DataW H} {ps : List MemPlace}
    (ht : P.underlying t = some (.slice e)) (he : P.underlying e = some .string) (hc : P.cellsOf e = 1) {r : Reach} {b0 : Nat} (hval : Value.okWide P w r b0 t v) (hd : DataW.Trod enc P w base spare held t v d ps) : ∃ zs, SlS w v zs := by
  obtain ⟨fuel, hf⟩ := hd
  obtain ⟨ao, n, c, hv⟩ : ∃ ao n c, v = .slice ao n c := okWide_slice ht hval
  subst hv
  rcases open_strings ht he hc hf with ⟨h1, h2⟩ | ⟨a, len, cap, zs, hv, hb, hl, hm, hlen, hx, hcell, hsm⟩
  · have : Value.slice ao n c = .slice none 0 0 := by simpa [Value.cells] using h1
    cases this
    exact ⟨[], ⟨⟨_, _, rfl, fun h => absurd h (by simp)⟩, fun n hn => absurd hn (by simp)⟩⟩
  · have : Value.slice ao n c = .slice (some a) len cap := by simpa [Value.cells] using hv
    cases this
    have hln : n ≤ zs.length := by split at hlen <;> omega
    refine ⟨zs.take n, ⟨⟨_, c, by rw [List.length_take, Nat.min_eq_left hln], fun h => ?_⟩, fun x hn => hsm x (List.mem_of_mem_take hn)⟩⟩
    rw [List.length_take, Nat.min_eq_left hln] at h ⊢
    have h0 := hcell 0 (by omega)
    obtain ⟨b, off, spot⟩ := a
    have hspot : spot = none := by simpa [Addr.add] using World.cell?_spot h0
    subst hspot
    have hcs : ∀ j, j < zs.length → w.cell? ⟨b, off + j, none⟩ = some (.string (zs.getD j ByteArray.empty)) := fun j hj => by
      have := hcell j hj
      rwa [Go.WideShapes.add_plain] at this
    refine ⟨b, off, rfl, lt_of_cell (hcs 0 (by omega)), fun j hj => ?_⟩
    rw [hcs j (by omega), List.getD_eq_getElem?_getD, List.getD_eq_getElem?_getD, List.getElem?_take_of_lt hj]
end Go.Proofs.YtjjphcnoegaimaaGreat
