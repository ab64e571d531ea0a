/- package lunetteref15: the document's counters over the document's cells. -/
import Derived.Test.YthmabnigdnbdkaaDuo
import Derived.Test.YthmabnigdnbdkaaSeq
namespace Go.Proofs.Ythmabnigdnbdkaa
open Go.RowKit
set_option maxRecDepth 20000

def RSeq (W : World) (t q : Nat) (base : Int) : Prop := W.heap[t]? = some (.cells #[.pointer (some ⟨q, 0, none⟩), .int .u64 base] 64 (0, 0))
theorem RSeq.lt {W : World} {t q : Nat} {base : Int} (h : RSeq W t q base) : t < W.heap.size := (Array.getElem?_eq_some_iff.1 h).1
theorem RSeq.kt {W W' : World} {t q : Nat} {base : Int} (h : RSeq W t q base) (k : Kt2 W W') : RSeq W' t q base := (k t _ _ _ h (by decide) (by decide) (by decide) (by decide)).trans h
theorem SeqAt.kt {W W' : World} {s p : Nat} {base : Int} (h : SeqAt W s p base) (k : Kt2 W W') : SeqAt W' s p base := (k s _ _ _ h (by decide) (by decide) (by decide) (by decide)).trans h

section
variable {w : World} {t q : Nat} {base : Int} {vL vS : Value} {on : Bool} {L : List (Int × Int)} {S : List Touch}
theorem rs_keep (hq : RSeq w t q base) (h : RefAt w q vL vS on L S) {L' : List (Int × Int)} {S' : List Touch} {w' : World} (hst : RStep w q vL vS on L' S' w') : w'.cell? ⟨t, 0, none⟩ = some (.pointer (some ⟨q, 0, none⟩)) ∧ w'.cell? ⟨t, 1, none⟩ = some (.int .u64 base) := by
  obtain ⟨vL', vS', a, b, _⟩ := hst
  have hd := h.away hq (by decide) (by decide) (by decide)
  exact ⟨(b.cell (p := ⟨t, 0, none⟩) hq.lt hd).trans (cl_of hq 0), (b.cell (p := ⟨t, 1, none⟩) hq.lt hd).trans (cl_of hq 1)⟩
theorem RStep.undrew {L' : List (Int × Int)} {S' : List Touch} {w' : World} (h : RStep w.drew q vL vS on L' S' w') : RStep w q vL vS on L' S' w' := by
  obtain ⟨vL', vS', a, b, c⟩ := h
  exact ⟨vL', vS', a, ⟨b.os, b.tape, b.output, b.size, b.block⟩, c⟩

set_option maxHeartbeats 400000 in
theorem rseq_begin (hq : RSeq w t q base) (h : RefAt w q vL vS on L S) (hn : Few S) (hl : L.length ≤ 10000) (core k : Int) :
    Calls Try.prog 39 #[.pointer (some ⟨t, 0, none⟩), .int .i64 core, .int .u64 k] w fun e w' => e = .returned (.int .i64 (nget (u64s base k) L)) ∧ RStep w q vL vS on L (logged on S ⟨core, u64s base k, false⟩) w' := by
  have h0 := cl_of hq 0
  have h1 := cl_of hq 1
  have hd := h.keep (W' := w.drew) fun _ _ => rfl
  go_enter Try.func39, Try.ntmps39
  go_wp2_with fail
  go_region_held3 (fun W => W.cell? ⟨t, 0, none⟩ = some (.pointer (some ⟨q, 0, none⟩)) ∧ W.cell? ⟨t, 1, none⟩ = some (.int .u64 base)) (first | exact ⟨h0, h1⟩ | exact rs_keep hq h (by assumption)) (first | (go_at_call 21; refine (ref_read (by first | exact h | exact hd) hn hl core (u64s base k)).mono ?_; rintro e w' ⟨rfl, hst⟩; replace hst := hst.undrew))
  first | (rename_i hK; refine hK _ _ ?_; clear hK) | (rename_i hK _; refine hK _ _ ?_; clear hK) | (rename_i hK _ _; refine hK _ _ ?_; clear hK) | skip
  go_wp2_with fail
  go_ret
  exact ⟨rfl, by assumption⟩

set_option maxHeartbeats 400000 in
theorem rseq_same (hq : RSeq w t q base) (h : RefAt w q vL vS on L S) (hn : Few S) (hl : L.length ≤ 10000) (core k v : Int) :
    Calls Try.prog 40 #[.pointer (some ⟨t, 0, none⟩), .int .i64 core, .int .u64 k, .int .i64 v] w fun e w' => e = .returned (.bool (decide (nget (u64s base k) L = v ∧ v.tmod 2 = 0))) ∧ RStep w q vL vS on L (logged on S ⟨core, u64s base k, false⟩) w' := by
  have h0 := cl_of hq 0
  have h1 := cl_of hq 1
  have hd := h.keep (W' := w.drew) fun _ _ => rfl
  go_enter Try.func40, Try.ntmps40
  go_wp2_with fail
  go_region_held3 (fun W => W.cell? ⟨t, 0, none⟩ = some (.pointer (some ⟨q, 0, none⟩)) ∧ W.cell? ⟨t, 1, none⟩ = some (.int .u64 base)) (first | exact ⟨h0, h1⟩ | exact rs_keep hq h (by assumption)) (first | (go_at_call 21; refine (ref_read (by first | exact h | exact hd) hn hl core (u64s base k)).mono ?_; rintro e w' ⟨rfl, hst⟩; replace hst := hst.undrew))
  first | (rename_i hK; refine hK _ _ ?_; clear hK) | (rename_i hK _; refine hK _ _ ?_; clear hK) | (rename_i hK _ _; refine hK _ _ ?_; clear hK) | skip
  by_cases e1 : v.tmod 2 = 0
  · by_cases e2 : nget (u64s base k) L = v
    · go_wp2_with fail
      go_ret
      exact ⟨by simp [e1, e2], by assumption⟩
    · go_wp2_with fail
      go_ret
      exact ⟨by simp [e2], by assumption⟩
  · go_wp2_with fail
    go_ret
    exact ⟨by simp [e1], by assumption⟩

set_option maxHeartbeats 400000 in
theorem rseq_turn (hq : RSeq w t q base) (h : RefAt w q vL vS on L S) (hn : Few S) (hl : L.length ≤ 10000) (core k : Int) :
    Calls Try.prog 41 #[.pointer (some ⟨t, 0, none⟩), .int .i64 core, .int .u64 k] w fun e w' => e = .returned (.tuple #[]) ∧ RStep w q vL vS on (lset (u64s base k) (wrap64 (nget (u64s base k) L + 1)) L) (logged on S ⟨core, u64s base k, true⟩) w' := by
  have h0 := cl_of hq 0
  have h1 := cl_of hq 1
  have hd := h.keep (W' := w.drew) fun _ _ => rfl
  go_enter Try.func41, Try.ntmps41
  go_wp2_with fail
  go_region_held3 (fun W => W.cell? ⟨t, 0, none⟩ = some (.pointer (some ⟨q, 0, none⟩)) ∧ W.cell? ⟨t, 1, none⟩ = some (.int .u64 base)) (first | exact ⟨h0, h1⟩ | exact rs_keep hq h (by assumption)) (first | (go_at_call 24; refine (ref_add (by first | exact h | exact hd) hn hl core (u64s base k) 1).mono ?_; rintro e w' ⟨rfl, hst⟩; replace hst := hst.undrew))
  first | (rename_i hK; refine hK _ _ ?_; clear hK) | (rename_i hK _; refine hK _ _ ?_; clear hK) | (rename_i hK _ _; refine hK _ _ ?_; clear hK) | skip
  first | (go_wp2_with fail; go_end0) | go_end0
  exact ⟨rfl, by assumption⟩

theorem odd_tmod (x : Int) : (!(x.tmod 2 == 0)) = decide (x % 2 = 1) := by
  by_cases h : x % 2 = 1
  · have : ¬ x.tmod 2 = 0 := by have := Int.tmod_def x 2; omega
    simp [h, this]
  · obtain ⟨y, rfl⟩ : ∃ y, x = 2 * y := ⟨x / 2, by omega⟩
    have : (2 * y).tmod 2 = 0 := Int.mul_tmod_right 2 y
    simp [this]
set_option maxHeartbeats 400000 in
theorem rseq_busy (hq : RSeq w t q base) (h : RefAt w q vL vS on L S) (hl : L.length ≤ 10000) (k : Int) :
    Calls Try.prog 42 #[.pointer (some ⟨t, 0, none⟩), .int .u64 k] w fun e w' => e = .returned (.bool (decide (nget (u64s base k) L % 2 = 1))) ∧ w.drew = w' := by
  have h0 := cl_of hq 0
  have h1 := cl_of hq 1
  have hd := h.keep (W' := w.drew) fun _ _ => rfl
  go_enter Try.func42, Try.ntmps42
  go_wp2_with fail
  go_region_held3 (fun W => W.cell? ⟨t, 0, none⟩ = some (.pointer (some ⟨q, 0, none⟩)) ∧ W.cell? ⟨t, 1, none⟩ = some (.int .u64 base)) (first | exact ⟨h0, h1⟩ | (simp only [*]; exact ⟨h0, h1⟩)) (first | (go_at_call 27; refine (ref_peek (by first | exact h | exact hd) (u64s base k) hl).mono ?_; rintro e w' ⟨rfl, hst⟩; subst hst))
  first | (rename_i hK; refine hK _ _ ?_; clear hK) | (rename_i hK _; refine hK _ _ ?_; clear hK) | (rename_i hK _ _; refine hK _ _ ?_; clear hK) | skip
  go_wp2_with fail
  go_ret
  exact ⟨by rw [← odd_tmod]; rfl, rfl⟩
end
end Go.Proofs.Ythmabnigdnbdkaa
