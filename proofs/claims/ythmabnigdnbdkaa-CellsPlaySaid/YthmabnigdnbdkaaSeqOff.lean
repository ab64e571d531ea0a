/- Counters over cells of which nothing is noted, as one predicate of a world; the chapter's example. -/
import Derived.Test.YthmabnigdnbdkaaSeq
namespace Go.Proofs.Ythmabnigdnbdkaa
open Go.RowKit
set_option maxRecDepth 100000

/-- Blocks of other types are kept. -/
def Kt (w w' : World) : Prop := ∀ (l : Nat) (cs : Array Value) (t : TypeId) (fz : Nat × Nat), w.heap[l]? = some (Obj.cells cs t fz) → t ≠ 91 → t ≠ 88 → w'.heap[l]? = w.heap[l]?
theorem Kt.refl (w : World) : Kt w w := fun _ _ _ _ _ _ _ => rfl
theorem CellsAt.away {W : World} {p m : Nat} {sv : Value} {on : Bool} {N : List (Int × Int)} {S : List Touch} (h : CellsAt W p m sv on N S) {l : Nat} {cs : Array Value} {t : TypeId} {fz : Nat × Nat} (hl : W.heap[l]? = some (.cells cs t fz)) (h1 : t ≠ 91) (h2 : t ≠ 88) : ¬ cfoot p m sv l := by
  rintro (rfl | rfl | hk)
  · have := h.obj
    rw [hl] at this
    simp only [Option.some.injEq, Obj.cells.injEq] at this
    exact h2 this.2.1
  · obtain ⟨es, c, hb, _⟩ := h.map
    rw [hl] at hb; cases hb
  · obtain ⟨cur, hb⟩ := ownsRow_type h.row hk
    rw [hl] at hb
    simp only [Option.some.injEq, Obj.cells.injEq] at hb
    exact h1 hb.2.1
theorem CStep.kt {w w' : World} {p m : Nat} {sv : Value} {on : Bool} {N N0 : List (Int × Int)} {S S0 : List Touch} (h0 : CellsAt w p m sv on N0 S0) (h : CStep w p m sv on N S w') : Kt w w' := by
  obtain ⟨sv', _, hf, _⟩ := h
  intro l cs t fz hl h1 h2
  exact hf.block l (Array.getElem?_eq_some_iff.1 hl).1 (h0.away hl h1 h2)

structure Off (w0 : World) (p m s : Nat) (base : Int) (N : List (Int × Int)) (W : World) : Prop where
  ex : ∃ sv, CellsAt W p m sv false N [] ∧ ∀ k, cfoot p m sv k → w0.heap.size ≤ k
  seq : SeqAt W s p base
  s : w0.heap.size ≤ s
  below : Below w0.heap.size w0 W

theorem few0 : Few [] := ⟨by simp⟩
theorem Off.step {w0 w w' : World} {p m s : Nat} {base : Int} {N N' : List (Int × Int)} {sv : Value} (h : Off w0 p m s base N w) (hc : CellsAt w p m sv false N []) (hk : ∀ k, cfoot p m sv k → w0.heap.size ≤ k) (hst : CStep w p m sv false N' [] w') : Off w0 p m s base N' w' := by
  have hd := h.seq.apart hc
  obtain ⟨sv', a, b, c⟩ := hst
  have hsz := h.below.size
  refine ⟨⟨sv', a, ?_⟩, h.seq.fr b hd, h.s, Fr.step h.below b hsz hk⟩
  rintro k (rfl | rfl | hg)
  · exact hk _ (.inl rfl)
  · exact hk _ (.inr (.inl rfl))
  · rcases c with c | ⟨g, hg', hl⟩
    · exact hk _ (.inr (.inr (c ▸ hg)))
    · rw [hg] at hg'
      cases hg'
      omega

theorem off_begin {w0 w : World} {p m s : Nat} {base : Int} {N : List (Int × Int)} (h : Off w0 p m s base N w) (core k v : Int) (hv : nget (u64s base k) N = v) :
    Calls Try.prog 36 #[.pointer (some ⟨s, 0, none⟩), .int .i64 core, .int .u64 k] w fun e w' => e = .returned (.int .i64 v) ∧ Off w0 p m s base N w' ∧ Kt w w' := by
  subst hv
  obtain ⟨sv, hc, hk⟩ := h.ex
  refine (seq_begin h.seq hc few0 core k).mono ?_
  rintro e w' ⟨rfl, hst⟩
  exact ⟨rfl, h.step hc hk hst, hst.kt hc⟩
theorem off_same {w0 w : World} {p m s : Nat} {base : Int} {N : List (Int × Int)} (h : Off w0 p m s base N w) (core k v : Int) (b : Bool) (hv : decide (nget (u64s base k) N = v ∧ v.tmod 2 = 0) = b) :
    Calls Try.prog 37 #[.pointer (some ⟨s, 0, none⟩), .int .i64 core, .int .u64 k, .int .i64 v] w fun e w' => e = .returned (.bool b) ∧ Off w0 p m s base N w' ∧ Kt w w' := by
  subst hv
  obtain ⟨sv, hc, hk⟩ := h.ex
  refine (seq_same h.seq hc few0 core k v).mono ?_
  rintro e w' ⟨rfl, hst⟩
  exact ⟨rfl, h.step hc hk hst, hst.kt hc⟩
theorem off_open {w0 w : World} {p m s : Nat} {base : Int} {N : List (Int × Int)} (h : Off w0 p m s base N w) (core k : Int) (N' : List (Int × Int)) (hv : nput (u64s base k) (wrap64 (nget (u64s base k) N + 1)) N = N') :
    Calls Try.prog 34 #[.pointer (some ⟨s, 0, none⟩), .int .i64 core, .int .u64 k] w fun e w' => e = .returned (.tuple #[]) ∧ Off w0 p m s base N' w' ∧ Kt w w' := by
  subst hv
  obtain ⟨sv, hc, hk⟩ := h.ex
  refine (seq_open h.seq hc few0 core k).mono ?_
  rintro e w' ⟨rfl, hst⟩
  exact ⟨rfl, h.step hc hk hst, hst.kt hc⟩
theorem off_close {w0 w : World} {p m s : Nat} {base : Int} {N : List (Int × Int)} (h : Off w0 p m s base N w) (core k : Int) (N' : List (Int × Int)) (hv : nput (u64s base k) (wrap64 (nget (u64s base k) N + 1)) N = N') :
    Calls Try.prog 35 #[.pointer (some ⟨s, 0, none⟩), .int .i64 core, .int .u64 k] w fun e w' => e = .returned (.tuple #[]) ∧ Off w0 p m s base N' w' ∧ Kt w w' := by
  subst hv
  obtain ⟨sv, hc, hk⟩ := h.ex
  refine (seq_close h.seq hc few0 core k).mono ?_
  rintro e w' ⟨rfl, hst⟩
  exact ⟨rfl, h.step hc hk hst, hst.kt hc⟩
theorem off_write {w0 w : World} {p m s : Nat} {base : Int} {N : List (Int × Int)} (h : Off w0 p m s base N w) (core cell v : Int) :
    Calls Try.prog 22 #[.pointer (some ⟨p, 0, none⟩), .int .i64 core, .int .u64 cell, .int .i64 v] w fun e w' => e = .returned (.tuple #[]) ∧ Off w0 p m s base (nput cell v N) w' ∧ Kt w w' := by
  obtain ⟨sv, hc, hk⟩ := h.ex
  refine (write_any hc few0 core cell v).mono ?_
  rintro e w' ⟨rfl, hst⟩
  exact ⟨rfl, h.step hc hk hst, hst.kt hc⟩
theorem off_read {w0 w : World} {p m s : Nat} {base : Int} {N : List (Int × Int)} (h : Off w0 p m s base N w) (core cell : Int) :
    Calls Try.prog 19 #[.pointer (some ⟨p, 0, none⟩), .int .i64 core, .int .u64 cell] w fun e w' => e = .returned (.int .i64 (nget cell N)) ∧ Off w0 p m s base N w' ∧ Kt w w' := by
  obtain ⟨sv, hc, hk⟩ := h.ex
  refine (read_any hc few0 core cell).mono ?_
  rintro e w' ⟨rfl, hst⟩
  exact ⟨rfl, h.step hc hk hst, hst.kt hc⟩
theorem Off.drew {w0 w : World} {p m s : Nat} {base : Int} {N : List (Int × Int)} (h : Off w0 p m s base N w) : Off w0 p m s base N w.drew := by
  obtain ⟨sv, hc, hk⟩ := h.ex
  exact ⟨⟨sv, hc.drew, hk⟩, h.seq, h.s, h.below.drew⟩
theorem Off.alloc {w0 w : World} {p m s : Nat} {base : Int} {N : List (Int × Int)} (h : Off w0 p m s base N w) (o : Obj) : Off w0 p m s base N (w.alloc o) := by
  obtain ⟨sv, hc, hk⟩ := h.ex
  exact ⟨⟨sv, hc.alloc o, hk⟩, (hp_old w o h.seq.lt).trans h.seq, h.s, h.below.alloc h.below.size o⟩
theorem off_busy {w0 w : World} {p m s : Nat} {base : Int} {N : List (Int × Int)} (h : Off w0 p m s base N w) (k : Int) (b : Bool) (hv : decide (nget (u64s base k) N % 2 = 1) = b) :
    Calls Try.prog 38 #[.pointer (some ⟨s, 0, none⟩), .int .u64 k] w fun e w' => e = .returned (.bool b) ∧ Off w0 p m s base N w' ∧ Kt w w' := by
  subst hv
  obtain ⟨sv, hc, hk⟩ := h.ex
  refine (seq_busy h.seq hc k).mono ?_
  rintro e w' ⟨rfl, rfl⟩
  exact ⟨rfl, h.drew, fun _ _ _ _ _ _ _ => rfl⟩
theorem off_peek {w0 w : World} {p m s : Nat} {base : Int} {N : List (Int × Int)} (h : Off w0 p m s base N w) (k v : Int) (hv : nget k N = v) :
    Calls Try.prog 17 #[.pointer (some ⟨p, 0, none⟩), .int .u64 k] w fun e w' => e = .returned (.int .i64 v) ∧ Off w0 p m s base N w' ∧ Kt w w' := by
  subst hv
  obtain ⟨sv, hc, hk⟩ := h.ex
  refine (peek_any hc k).mono ?_
  rintro e w' ⟨rfl, rfl⟩
  exact ⟨rfl, h, Kt.refl w⟩
theorem off_new {w w1 : World} {p m : Nat} {base : Int} (hc : CellsAt w1 p m (.slice none 0 0) false [] []) (hb : Below w.heap.size w w1) (hp : w.heap.size ≤ p) (hm : w.heap.size ≤ m) :
    Calls Try.prog 33 #[.pointer (some ⟨p, 0, none⟩), .int .u64 base] w1 fun e w' => e = .returned (.pointer (some ⟨w1.heap.size, 0, none⟩)) ∧ Off w p m w1.heap.size base [] w' := by
  refine (seq_new w1 p base).mono ?_
  rintro e w2 ⟨rfl, hq, rfl⟩
  refine ⟨rfl, ⟨_, hc.alloc _, ?_⟩, hq, hb.size, hb.alloc hb.size _⟩
  rintro k (rfl | rfl | hg)
  · exact hp
  · exact hm
  · cases hg

theorem u103 : u64s 100 3 = 103 := by decide

set_option maxHeartbeats 1000000 in
theorem alive15 (w : World) : Calls Try.prog 32 #[] w fun e w' => e = .returned (.bool true) ∧ Below w.heap.size w w' := by
  go_enter Try.func32, Try.ntmps32
  go_wp2_with fail
  refine (cells_new w).mono ?_
  rintro e w1 ⟨p, m, rfl, hc, hb, hp, hm⟩
  go_wp2_with fail
  refine (off_new (base := 100) hc hb hp hm).mono ?_
  rintro e w2 ⟨rfl, h2⟩
  go_wp2_with fail
  refine (seq_new_nil w2 0).mono ?_
  rintro e w3 ⟨rfl, rfl⟩
  go_wp2_with fail
  refine (off_begin h2 0 3 0 (by decide)).mono ?_
  rintro e w3 ⟨rfl, h3, -⟩
  go_wp2_with fail
  refine (off_open h3 1 3 [(103, 1)] (by rw [u103]; simp [nget, nput, wrap64])).mono ?_
  rintro e w4 ⟨rfl, h4, -⟩
  go_wp2_with fail
  refine (off_same h4 0 3 0 false (by decide)).mono ?_
  rintro e w5 ⟨rfl, h5, -⟩
  go_wp2_with fail
  refine (off_begin h5 0 3 1 (by decide)).mono ?_
  rintro e w6 ⟨rfl, h6, -⟩
  go_wp2_with fail
  refine (off_busy h6 3 true (by decide)).mono ?_
  rintro e w7 ⟨rfl, h7, -⟩
  go_wp2_with fail
  refine (off_close h7 1 3 [(103, 2)] (by rw [u103]; simp [nget, nput, wrap64])).mono ?_
  rintro e w8 ⟨rfl, h8, -⟩
  go_wp2_with fail
  refine (off_same h8 0 3 1 false (by decide)).mono ?_
  rintro e w9 ⟨rfl, h9, -⟩
  go_wp2_with fail
  refine (off_same h9 0 3 0 false (by decide)).mono ?_
  rintro e wa ⟨rfl, ha, -⟩
  go_wp2_with fail
  refine (off_begin ha 0 3 2 (by decide)).mono ?_
  rintro e wb ⟨rfl, hb', -⟩
  go_wp2_with fail
  refine (off_same hb' 0 3 2 true (by decide)).mono ?_
  rintro e wc ⟨rfl, hc', -⟩
  go_wp2_with fail
  refine (off_busy hc' 3 false (by decide)).mono ?_
  rintro e wd ⟨rfl, hd, -⟩
  go_wp2_with fail
  refine (off_peek hd 103 2 (by decide)).mono ?_
  rintro e we ⟨rfl, he, -⟩
  go_wp2_with fail
  go_ret
  exact ⟨rfl, he.below⟩
end Go.Proofs.Ythmabnigdnbdkaa
