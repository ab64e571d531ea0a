/- Bytes of a text that are turned one by one; numbers' bounds. -/
import Derived.Test.YtcdmipgopffaaaaZero
import Derived.Laws.BitsAllLaws
namespace Go.Proofs.Ytcdmipgopffaaaa
open Go.RowKit

theorem wfu8 {x : Int} (h : (Lit.int .u8 x).wf = true) : 0 ≤ x ∧ x < 256 := by
  simp [Lit.wf, IntKind.min, IntKind.max, IntKind.signed, IntKind.bits] at h
  omega
theorem wfu16 {x : Int} (h : (Lit.int .u16 x).wf = true) : 0 ≤ x ∧ x < 65536 := by
  simp [Lit.wf, IntKind.min, IntKind.max, IntKind.signed, IntKind.bits] at h
  omega
theorem wfu32 {x : Int} (h : (Lit.int .u32 x).wf = true) : 0 ≤ x ∧ x < 4294967296 := by
  simp [Lit.wf, IntKind.min, IntKind.max, IntKind.signed, IntKind.bits] at h
  omega
theorem wfi64 {x : Int} (h : (Lit.int .i64 x).wf = true) : -9223372036854775808 ≤ x ∧ x < 9223372036854775808 := by
  simp [Lit.wf, IntKind.min, IntKind.max, IntKind.signed, IntKind.bits] at h
  omega

/-- Bytes that lie in a block. -/
def BB (W : World) (b : Nat) (l : List UInt8) : Prop := ∀ i (h : i < l.length), W.cell? ⟨b, i, none⟩ = some (.int .u8 (l[i].toNat : Int)) ∧ W.frozen? ⟨b, i, none⟩ = false

theorem bytes_of' {P : Program} (w : World) (src dst e : TypeId) (l : List UInt8) (hs : P.underlying src = some .string) (hd : P.underlying dst = some (.slice e)) (he : P.underlying e = some (.int .u8)) :
    ∃ cap W0, (convert src dst (.string (bs l))).run P w = .ok (.slice (some ⟨w.heap.size, 0, none⟩) l.length cap) W0 ∧ BB W0 w.heap.size l ∧ Below w.heap.size w W0 ∧ w.heap.size < W0.heap.size := by
  have h := run_bytes_of_string (P := P) w src dst e (bs l) hs hd he
  rw [bs_size] at h
  refine ⟨_, _, h, ?_, ((Below.refl _ w).drew.alloc (Nat.le_refl _) _), by simp⟩
  intro i hi
  have hb := bytesRow_at (bs l) (grownCap w l.length 0 e) i (by simpa [bs] using hi)
  have hsz : i < (bytesRow (bs l) (grownCap w l.length 0 e)).size := by
    rcases Nat.lt_or_ge i (bytesRow (bs l) (grownCap w l.length 0 e)).size with h' | h'
    · exact h'
    · rw [Array.getElem?_eq_none h'] at hb; cases hb
  refine ⟨?_, ?_⟩
  · have := World.cell?_alloc_mark w.drew (bytesRow (bs l) (grownCap w l.length 0 e)) e ((bytesRow (bs l) (grownCap w l.length 0 e)).size, (bytesRow (bs l) (grownCap w l.length 0 e)).size + 1) i
    refine this.trans (hb.trans ?_)
    simp [bs]
  · have := World.frozen?_alloc_mark w.drew (bytesRow (bs l) (grownCap w l.length 0 e)) e (bytesRow (bs l) (grownCap w l.length 0 e)).size ((bytesRow (bs l) (grownCap w l.length 0 e)).size + 1) i
    refine this.trans ?_
    simp; omega

theorem BB.set {W : World} {b : Nat} {l : List UInt8} (h : BB W b l) {i : Nat} (_hi : i < l.length) (v : UInt8) : BB (W.setCell ⟨b, i, none⟩ (.int .u8 (v.toNat : Int))) b (l.set i v) := by
  intro j hj
  rw [List.length_set] at hj
  obtain ⟨hc, hf⟩ := h j hj
  refine ⟨?_, by rw [World.frozen?_setCell]; exact hf⟩
  by_cases e : i = j
  · subst e
    rw [List.getElem_set_self]
    exact World.cell?_setCell_same' W ⟨b, i, none⟩ _ (by rw [hc]; rfl)
  · rw [List.getElem_set_ne e]
    exact (World.cell?_setCell_other _ _ _ _ (fun h => e (by cases h; rfl))).trans hc
theorem BB.below {W W' : World} {b : Nat} {l : List UInt8} (h : BB W b l) (hb : Below W.heap.size W W') (hlt : b < W.heap.size) : BB W' b l := by
  intro i hi
  obtain ⟨h1, h2⟩ := h i hi
  exact ⟨(hb.cell (p := ⟨b, i, none⟩) hlt).trans h1, (hb.frozen (p := ⟨b, i, none⟩) hlt).trans h2⟩
theorem BB.back {P : Program} {W : World} {b : Nat} {l : List UInt8} (h : BB W b l) (n cap : Nat) (hn : l.length = n) {src dst e : TypeId} (hs : P.underlying src = some (.slice e)) (he : P.underlying e = some (.int .u8)) (hd : P.underlying dst = some .string) :
    (convert src dst (.slice (some ⟨b, 0, none⟩) n cap)).run P W = .ok (.string (bs l)) W := by
  subst hn
  exact run_convert_bytes_back (P := P) W src dst e ⟨b, 0, none⟩ cap l hs he hd (fun j hj => by
    rw [Addr.add_lit, Nat.zero_add]; exact (h j hj).1)
end Go.Proofs.Ytcdmipgopffaaaa
