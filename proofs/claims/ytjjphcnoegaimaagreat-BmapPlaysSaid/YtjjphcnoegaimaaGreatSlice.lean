/- A slice of numbers that comes in, as a list. -/
import Derived.Test.YtjjphcnoegaimaaGreatGA
import Derived.ChangeSlices
import Derived.OpenShut
namespace Go.Proofs.YtjjphcnoegaimaaGreat
open Go.RowKit Go.ChangeShapes Go.WideShapes

/-- A slice of numbers of the kind k. -/
structure SlI (k : IntKind) (W : World) (v : Value) (zs : List Int) : Prop where
  val : ∃ ao cap, v = .slice ao zs.length cap ∧ (0 < zs.length → ∃ b off, ao = some ⟨b, off, none⟩ ∧ b < W.heap.size ∧ ∀ j, j < zs.length → W.cell? ⟨b, off + j, none⟩ = some (.int k (zs.getD j 0)))
  wf : ∀ n ∈ zs, (Lit.int k n).wf = true

theorem lt_of_cell {w : World} {b i : Nat} {v : Value} (hc : w.cell? ⟨b, i, none⟩ = some v) : b < w.heap.size := by
  rcases Nat.lt_or_ge b w.heap.size with h' | h'
  · exact h'
  · simp [World.cell?, Array.getElem?_eq_none h'] at hc

theorem open_nums {H : Type} {P : Program} {enc : TypeId × Value → H} {w : World} {base : Nat} {held : Bool} {spare : Nat → Bool} {t e : TypeId} {k : IntKind} {v : Value} {d : DataW H} {ps : List MemPlace}
    (ht : P.underlying t = some (.slice e)) (he : P.underlying e = some (.int k)) (hc : P.cellsOf e = 1) {r : Reach} {b0 : Nat} (hval : Value.okWide P w r b0 t v) (hd : DataW.Trod enc P w base spare held t v d ps) : ∃ zs, SlI k w v zs := by
  obtain ⟨fuel, hf⟩ := hd
  obtain ⟨ao, n, c, hv⟩ : ∃ ao n c, v = .slice ao n c := okWide_slice ht hval
  subst hv
  rcases open_ints ht he hc hf with ⟨h1, h2⟩ | ⟨a, len, cap, zs, hv, hb, hl, hm, hlen, hx, hcell, hwf⟩
  · have : Value.slice ao n c = .slice none 0 0 := by simpa [Value.cells] using h1
    cases this
    exact ⟨[], ⟨⟨_, _, rfl, fun h => absurd h (by simp)⟩, fun n hn => absurd hn (by simp)⟩⟩
  · have : Value.slice ao n c = .slice (some a) len cap := by simpa [Value.cells] using hv
    cases this
    have hln : n ≤ zs.length := by split at hlen <;> omega
    refine ⟨zs.take n, ⟨⟨_, c, by rw [List.length_take, Nat.min_eq_left hln], fun h => ?_⟩, fun x hn => hwf x (List.mem_of_mem_take hn)⟩⟩
    rw [List.length_take, Nat.min_eq_left hln] at h ⊢
    obtain ⟨b, off, rfl, hcs⟩ := ints_at hcell (by omega)
    have h0 := hcs 0 (by omega)
    refine ⟨b, off, rfl, lt_of_cell h0, fun j hj => ?_⟩
    rw [hcs j (by omega), List.getD_eq_getElem?_getD, List.getD_eq_getElem?_getD, List.getElem?_take_of_lt hj]
end Go.Proofs.YtjjphcnoegaimaaGreat
