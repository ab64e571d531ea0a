/- lunetteref01.Pad, lunettelaw03.Sector, lunetteref03.Same. A device of the caller's own, as one predicate of a world; blocks X of the caller's own besides. -/
import Derived.Test.YtjjphcnoegaimaaGreatGE
import Derived.Test.YtjjphcnoegaimaaGreatGF
namespace Go.Proofs.YtjjphcnoegaimaaGreat
open Go.RowKit Go.Shelf Go.Maps
set_option maxRecDepth 20000

/-- A text as a sector's bytes. -/
def sec (s : ByteArray) : ByteArray := bs (s.data.toList.take 64 ++ zeros (64 - (s.data.toList.take 64).length))
theorem sec_size (s : ByteArray) : (sec s).size = 64 := by
  rw [sec, bs_size]
  simp only [List.length_append, zeros_length, List.length_take]
  omega

/-- A row of numbers, as its slice lies. -/
def IntsAt (W : World) (v : Value) (l : List Int) : Prop := ∃ a c, v = .slice a l.length c ∧ ∀ g, a = some g → ∀ (j : Nat) (x : Int), l[j]? = some x → W.cell? (g.add j) = some (.int .i64 x)
theorem IntsAt.of_own {W : World} {B : Nat} {v : Value} {l : List Int} (h : W.ownsRow B 3 1 v l.length (l.map (Value.int .i64))) : ∃ g c, (v = .slice (some ⟨g, 0, none⟩) l.length c ∧ ∀ (j : Nat) (x : Int), l[j]? = some x → W.cell? ⟨g, j, none⟩ = some (.int .i64 x)) ∨ (v = .slice none 0 0 ∧ l = []) := by
  rcases h.2 with ⟨rfl, h0⟩ | ⟨g, c, cur, rfl, hg, hh, hr⟩
  · exact ⟨0, 0, .inr ⟨rfl, List.eq_nil_of_length_eq_zero h0⟩⟩
  · refine ⟨g, c, .inl ⟨rfl, fun j x hj => ?_⟩⟩
    have h' : W.ownsRow 0 3 1 (.slice (some ⟨g, 0, none⟩) l.length c) l.length (l.map (Value.int .i64)) := ownsRow_base h
    exact ownsRow_cell h' rfl (by rw [List.getElem?_map, hj]; rfl)

end Go.Proofs.YtjjphcnoegaimaaGreat

namespace Go.Proofs.YtjjphcnoegaimaaGreat
open Go.RowKit Go.Shelf Go.Maps
set_option maxRecDepth 20000

structure DvO (w0 : World) (X : Nat → Prop) (p : Nat) (s : DS) (W : World) : Prop where
  dev : Dv W p (fun k => w0.heap.size ≤ k ∧ ¬ X k) s
  below : Below w0.heap.size w0 W
  lt : ∀ k, X k → k < W.heap.size
/-- The caller's own blocks lie as they lay. -/
def KX (X : Nat → Prop) (W W' : World) : Prop := ∀ k, X k → W'.heap[k]? = W.heap[k]?
theorem KX.t {X : Nat → Prop} {A B C : World} (h : KX X A B) (k : KX X B C) : KX X A C := fun i hi => (k i hi).trans (h i hi)
theorem KX.refl (X : Nat → Prop) (W : World) : KX X W W := fun _ _ => rfl
theorem KX.cell {X : Nat → Prop} {W W' : World} (h : KX X W W') {g : Nat} (hg : X g) (j : Nat) : W'.cell? ⟨g, j, none⟩ = W.cell? ⟨g, j, none⟩ := World.cell?_of_block (w := W) (h g hg)
theorem KX.of_below {X : Nat → Prop} {W W' : World} (h : Below W.heap.size W W') (hx : ∀ k, X k → k < W.heap.size) : KX X W W' := fun k hk => h.block k (hx k hk)

section
variable {w0 W W' : World} {X : Nat → Prop} {p : Nat} {s s' : DS}
theorem Dv.tight {F : Nat → Prop} (h : Dv W p F s) : Dv W p (fun k => F k ∧ k < W.heap.size) s := by
  obtain ⟨hb, hc, m, L, h1, h2⟩ := h
  exact ⟨hb, hc, m, L, h1, fun k hk => ⟨h2 k hk, h1.lt hk⟩⟩
theorem DvO.of (h : DvO w0 X p s W) (hB : Below W.heap.size W W') : DvO w0 X p s W' := ⟨h.dev.below hB, bt h.below hB, fun k hk => Nat.lt_of_lt_of_le (h.lt k hk) hB.size⟩
/-- What a call laid anew is the caller's. -/
theorem DvO.take (h : DvO w0 X p s W) (hB : Below W.heap.size W W') : DvO w0 (fun k => X k ∨ W.heap.size ≤ k ∧ k < W'.heap.size) p s W' := by
  refine ⟨(h.dev.tight.below hB).weak (fun k hk => ⟨hk.1.1, fun e => ?_⟩), bt h.below hB, fun k hk => ?_⟩
  · rcases e with e | e
    · exact hk.1.2 e
    · have := hk.2; omega
  · rcases hk with hk | hk
    · exact Nat.lt_of_lt_of_le (h.lt k hk) hB.size
    · exact hk.2
theorem DvO.step (h : DvO w0 X p s W) (hs : DvS W p (fun k => w0.heap.size ≤ k ∧ ¬ X k) s' W') : DvO w0 X p s' W' ∧ KX X W W' := by
  obtain ⟨h1, h2, -⟩ := hs
  have hx : KX X W W' := fun k hk => h2.block k (h.lt k hk) (fun e => e.2 hk)
  refine ⟨⟨h1.weak (fun k hk => ?_), h.below.trans (h2.below h.below.size (fun k hk => hk.1)), fun k hk => Nat.lt_of_lt_of_le (h.lt k hk) h2.size⟩, hx⟩
  rcases hk with hk | hk
  · exact hk
  · exact ⟨Nat.le_trans h.below.size hk, fun e => by have := h.lt k e; omega⟩
theorem DvO.less {Y : Nat → Prop} (h : DvO w0 X p s W) (hY : ∀ k, Y k → X k) : DvO w0 Y p s W := ⟨h.dev.weak (fun _ hk => ⟨hk.1, fun e => hk.2 (hY _ e)⟩), h.below, fun k hk => h.lt k (hY k hk)⟩

theorem o_new (n : Nat) (h8 : 8 ≤ n) (hn : n ≤ 4096) (w0 : World) (W : World) (hB : Below w0.heap.size w0 W) : Calls Tryz.prog 42 #[.int .i64 n] W fun e W' => e = .returned (.tuple #[.pointer (some ⟨W.heap.size + 1, 0, none⟩), .int .i64 0]) ∧ DvO w0 (fun k => w0.heap.size ≤ k ∧ k < W.heap.size) (W.heap.size + 1) (newS n) W' ∧ Below W.heap.size W W' := by
  refine (dev_new n h8 hn W).mono ?_
  rintro e W' ⟨rfl, h1, h2⟩
  refine ⟨rfl, ⟨h1.weak (fun k hk => ⟨Nat.le_trans hB.size hk, fun e => by omega⟩), bt hB h2, fun k hk => Nat.lt_of_lt_of_le hk.2 h2.size⟩, h2⟩
theorem o_write (h : DvO w0 X p s W) (hd : s.dead = false) (i : Nat) (hi : i < s.hard.length) (b : ByteArray) (hb : b.size = 64) (hn : (s.rows i).length < 100000) (hw : IntKind.u64.wrap (s.writes + 1) = s.writes + 1) (hl : IntKind.i64.wrap (s.left - 1) = s.left - 1) :
    Calls Tryz.prog 107 #[.pointer (some ⟨p, 0, none⟩), .int .i64 i, .string b] W fun e W' => e = .returned (.int .i64 0) ∧ DvO w0 X p (wrS s i b) W' ∧ KX X W W' := by
  refine (dev_write h.dev hd i hi b hb hn hw hl).mono ?_
  rintro e W' ⟨rfl, hs⟩
  exact ⟨rfl, h.step hs⟩
theorem o_flush (h : DvO w0 X p s W) (hd : s.dead = false) (hn : ∀ j, (s.rows j).length ≤ 100000) :
    Calls Tryz.prog 78 #[.pointer (some ⟨p, 0, none⟩)] W fun e W' => e = .returned (.int .i64 0) ∧ DvO w0 X p (flushL s (looseF s)) W' ∧ KX X W W' := by
  refine (dev_flush h.dev hd hn).mono ?_
  rintro e W' ⟨rfl, hs⟩
  exact ⟨rfl, h.step hs⟩
theorem o_fuse (h : DvO w0 X p s W) (n : Int) (hn : 0 ≤ n) : Calls Tryz.prog 19 #[.pointer (some ⟨p, 0, none⟩), .int .i64 n] W fun e W' => e = .returned (.int .i64 0) ∧ DvO w0 X p (fuseS s n) W' ∧ KX X W W' := by
  refine (dev_fuse h.dev n hn).mono ?_
  rintro e W' ⟨rfl, hs⟩
  exact ⟨rfl, h.step hs⟩
theorem o_crash (h : DvO w0 X p s W) (keep : ByteArray) (hn : ∀ j, (s.rows j).length ≤ 100000) : Calls Tryz.prog 21 #[.pointer (some ⟨p, 0, none⟩), .string keep] W fun e W' => e = .returned (.int .i64 0) ∧ DvO w0 X p (crashS keep s) W' ∧ KX X W W' := by
  refine (dev_crash h.dev keep hn).mono ?_
  rintro e W' ⟨rfl, hs⟩
  exact ⟨rfl, h.step hs⟩
theorem o_read (h : DvO w0 X p s W) (hd : s.dead = false) (i : Nat) (hi : i < s.hard.length) : Calls Tryz.prog 40 #[.pointer (some ⟨p, 0, none⟩), .int .i64 i] W fun e W' => e = .returned (.tuple #[.string (newest s i), .int .i64 0]) ∧ DvO w0 X p s W' ∧ KX X W W' := by
  have h' := h
  obtain ⟨hb, hc, m, L, h1, h2⟩ := h.dev
  refine (dev_read h1 hd i hi).mono ?_
  rintro e W' ⟨rfl, hB⟩
  exact ⟨rfl, h'.of hB, KX.of_below hB h'.lt⟩
end
end Go.Proofs.YtjjphcnoegaimaaGreat
