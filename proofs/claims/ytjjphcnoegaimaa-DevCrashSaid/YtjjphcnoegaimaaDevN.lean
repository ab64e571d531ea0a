/- package dev: New. -/
import Derived.Test.YtjjphcnoegaimaaDevC
namespace Go.Proofs.Ytjjphcnoegaimaa
open Go.RowKit Go.Shelf Go.Maps
set_option maxRecDepth 20000

/-- A sector of noughts. -/
def zsec : ByteArray := ⟨(List.replicate 64 (0 : UInt8)).toArray⟩
theorem repeat_zero (c : Nat) : Lib.repeatL [(0 : UInt8)] c = List.replicate c 0 := by
  induction c with
  | zero => rfl
  | succ c ih => rw [Lib.repeatL, ih]; rfl
/-- A new device. -/
def newS (n : Nat) : DS := { armed := false, left := 0, dead := false, hard := List.replicate n zsec, rows := fun _ => [], writes := 0 }

set_option maxHeartbeats 400000 in
theorem new_no (n : Int) (h : n < 8 ∨ 4096 < n) (w : World) : Calls Try.prog 14 #[.int .i64 n] w fun e w' => e = .returned (.tuple #[.pointer none, .int .i64 2]) ∧ w = w' := by
  by_cases h8 : n < 8
  · go_enter Try.func14, Try.ntmps14
    go_wp2_with fail
    go_ret2
    exact ⟨rfl, rfl⟩
  · have d1 : decide (n < 8) = false := decide_eq_false h8
    have d2 : decide (n > 4096) = true := decide_eq_true (by omega)
    go_enter Try.func14, Try.ntmps14
    go_wp2_with fail
    go_ret2
    exact ⟨rfl, rfl⟩

/-- What holds in the loop. -/
structure NwI (w : World) (v : Value) (k : Nat) (W : World) : Prop where
  obj : W.heap[w.heap.size + 1]? = some (.cells #[.bool false, .int .i64 0, .bool false, v, .map (some w.heap.size), .int .u64 0] 98 (0, 0))
  row : W.ownsRow (w.heap.size + 2) 9 1 v k (sv (List.replicate k zsec))
  map : MapS W w.heap.size .i64 []
  below : Below w.heap.size w W
theorem NwI.step {w W W1 : World} {v v' : Value} {k : Nat} (h : NwI w v k W) (hg : W.grownBy W1 v.ownBlock) (hown : W1.ownsRow (w.heap.size + 2) 9 1 v' (k + 1) (sv (List.replicate k zsec) ++ [Value.string zsec])) : NwI w v' (k + 1) (W1.setCell ⟨w.heap.size + 1, 3, none⟩ v') := by
  have hvb : ∀ g, v.ownBlock = some g → w.heap.size + 2 ≤ g := by
    intro g e
    rcases h.row.2 with ⟨rfl, _⟩ | ⟨g', c, cur, rfl, h0, _⟩
    · cases e
    · cases e; exact h0
  have hvb' : ∀ g, v'.ownBlock = some g → w.heap.size + 2 ≤ g := by
    intro g e
    rcases hown.2 with ⟨rfl, _⟩ | ⟨g', c, cur, rfl, h0, _⟩
    · cases e
    · cases e; exact h0
  have ho := (hg.block (w.heap.size + 1) (blk_lt h.obj) (fun e => by have := hvb _ e.symm; omega)).trans h.obj
  refine ⟨?_, ?_, ?_, ?_⟩
  · rw [blk_here ho 3 v']
    rfl
  · have e : sv (List.replicate (k + 1) zsec) = sv (List.replicate k zsec) ++ [Value.string zsec] := by
      rw [List.replicate_succ']
      simp [sv]
    rw [e]
    obtain ⟨r1, r2⟩ := hown
    refine ⟨r1, ?_⟩
    rcases r2 with r2 | ⟨g, c, cur, e, h0, hh, hr⟩
    · exact .inl r2
    · exact .inr ⟨g, c, cur, e, h0, (Below.heap_setCell W1 _ _ g (by show g ≠ w.heap.size + 1; omega)).trans hh, hr⟩
  · exact h.map.of_block ((Below.heap_setCell W1 _ _ _ (by show w.heap.size ≠ w.heap.size + 1; omega)).trans (hg.block _ h.map.lt (fun e => by have := hvb _ e.symm; omega)))
  · refine (h.below.grown hg (by have := h.below.size; omega) (fun k e => by have := hvb _ e; omega)).setCell (by show w.heap.size ≤ w.heap.size + 1; omega) _
theorem NwI.of {w W W1 : World} {v : Value} {k : Nat} (h : NwI w v k W) (hB : Below W.heap.size W W1) : NwI w v k W1 := by
  refine ⟨(hB.block _ (blk_lt h.obj)).trans h.obj, ?_, h.map.of_block (hB.block _ h.map.lt), bt h.below hB⟩
  obtain ⟨r1, r2⟩ := h.row
  refine ⟨r1, ?_⟩
  rcases r2 with r2 | ⟨g, c, cur, e, h0, hh, hr⟩
  · exact .inl r2
  · exact .inr ⟨g, c, cur, e, h0, (hB.block g (blk_lt hh)).trans hh, hr⟩
theorem NwI.q3 {w W : World} {v : Value} {k : Nat} (h : NwI w v k W) : W.cell? ⟨w.heap.size + 1, 3, none⟩ = some v := cl_of h.obj 3
theorem NwI.f3 {w W : World} {v : Value} {k : Nat} (h : NwI w v k W) : W.frozen? ⟨w.heap.size + 1, 3, none⟩ = false := fz_of h.obj 3
theorem NwI.o4 {w W W1 : World} {v : Value} {k : Nat} (h : NwI w v k W) (hg : W.grownBy W1 v.ownBlock) : W1.heap[w.heap.size + 1]? = W.heap[w.heap.size + 1]? := hg.block _ (blk_lt h.obj) (fun e => by
  rcases h.row.2 with ⟨rfl, _⟩ | ⟨g', c, cur, rfl, h0, _⟩
  · cases e
  · have e' : w.heap.size + 1 = g' := Option.some.inj (show some (w.heap.size + 1) = some g' from e)
    omega)
theorem NwI.q4 {w W W1 : World} {v : Value} {k : Nat} (h : NwI w v k W) (hg : W.grownBy W1 v.ownBlock) : W1.cell? ⟨w.heap.size + 1, 3, none⟩ = some v := cl_of ((h.o4 hg).trans h.obj) 3
theorem NwI.f4 {w W W1 : World} {v : Value} {k : Nat} (h : NwI w v k W) (hg : W.grownBy W1 v.ownBlock) : W1.frozen? ⟨w.heap.size + 1, 3, none⟩ = false := fz_of ((h.o4 hg).trans h.obj) 3
theorem NwI.dev {w W : World} {v : Value} {n : Nat} (h : NwI w v n W) (hn : 8 ≤ n) (hn2 : n ≤ 4096) : Dv W (w.heap.size + 1) (fun k => w.heap.size ≤ k) (newS n) := by
  have hr := h.row
  obtain ⟨g, c, rfl, hg, hl⟩ := hr.form (by omega)
  refine ⟨g, c, w.heap.size, [], ⟨?_, ?_, h.map, fun x hx => (by cases hx), fun _ _ => rfl, fun x hx => (by cases hx), fun x hx => (by cases hx), ?_⟩, ?_⟩
  · have := h.obj
    simpa [newS] using this
  · simpa [newS] using ownsRow_base hr
  · simp only [newS, List.length_replicate]
    omega
  · rintro k (rfl | rfl | rfl | ⟨x, hx, _⟩)
    · show w.heap.size ≤ w.heap.size + 1
      omega
    · show w.heap.size ≤ k
      omega
    · exact Nat.le_refl _
    · cases hx

set_option maxHeartbeats 4000000 in
theorem dev_new (n : Nat) (h8 : 8 ≤ n) (hn : n ≤ 4096) (w : World) : Calls Try.prog 14 #[.int .i64 n] w fun e w' => e = .returned (.tuple #[.pointer (some ⟨w.heap.size + 1, 0, none⟩), .int .i64 0]) ∧ Dv w' (w.heap.size + 1) (fun k => w.heap.size ≤ k) (newS n) ∧ Below w.heap.size w w' := by
  have d1 : decide ((n : Int) < 8) = false := decide_eq_false (by omega)
  have d2 : decide ((n : Int) > 4096) = false := decide_eq_false (by omega)
  have hmm := @run_makeMap Try.prog
  obtain ⟨i0, ii, hz0, hz1, hz2⟩ := infoStr
  have hone : ∀ u ∈ [Value.string zsec], u.oneCell' = true := by simp [Value.oneCell']
  go_enter Try.func14, Try.ntmps14
  go_wp2_with fail
  go_loopw [15] (fun v15 wr => ∃ k : Nat, ∃ v : Value, k ≤ n ∧ v15 = .int .i64 k ∧ NwI w v k wr) (fun v15 _ => n - (intOf v15).toNat)
  case atStart =>
    refine ⟨0, _, Nat.zero_le _, rfl, hp_new _ _ (by simp), World.ownsRow_nil _ _ _ _, (MapS.new w .i64).of_block (hp_old _ _ (by simp)), bal (bnew _ _) _⟩
  case round =>
    obtain ⟨k, v, hk, rfl, hI⟩ := hrel
    by_cases hlt : k < n
    · have q3 : wr.cell? ⟨w.heap.size + 1, 3, none⟩ = some v := cl_of hI.obj 3
      have f3 := fz_of hI.obj 3
      have hrep : ∀ W : World, Calls Try.prog 59 #[.string ⟨#[0]⟩, .int .i64 64] W fun e w' => e = .returned (.string zsec) ∧ Below W.heap.size W w' := by
        intro W
        have := Try.strings_Repeat ⟨#[0]⟩ 64 W (by decide) (by decide)
        rw [show Lib.repeatL (⟨#[0]⟩ : ByteArray).data.toList 64 = List.replicate 64 0 from repeat_zero 64] at this
        exact this
      have HR := Lib.hid hrep
      clear hrep
      go_upto_region 6 with (fail)
      have HI := Lib.hid hI
      have h63 : k + 1 ≤ maxLen := by unfold maxLen; omega
      have hby : (k + 1) * 16 ≤ 140737488355328 := by omega
      have hnx : ∀ W2, Below wr.drew.heap.size wr.drew W2 → NwI w v k W2 := fun W2 hB => hI.of (bt (Below.drew (Below.refl wr.heap.size wr)) hB)
      have HX := Lib.hid hnx
      clear hI hnx
      go_region_law (first | ((refine step_append_lies _ (by rfl) (.tmp 21) (.tmp 23) 42 (by rfl) (w.heap.size + 2) 9 i0 (.string ByteArray.empty) 1 16 Try.underlying42 ii hz0 hz1 hz2 (by rfl) (by decide) v k (sv (List.replicate k zsec)) (by rfl) (HI2.out.of (bnew _ _)).row ⟨_, 0, none⟩ 1 1 [.string zsec] (by rfl) (by rfl) (World.news_of_block (by first | exact hp_new _ _ rfl | exact hp_new _ _ (by simp))) hone (by decide) h63 hby (by have := HI2.out.below.size; have := blk_lt HI2.out.obj; simp; omega) _ rfl ?_); intro g cap w1 hown hgrow hlie hglt; have hst := Lib.hid (NwI.step (HI2.out.of (bnew _ _)) hgrow hown); have q4 := NwI.q4 (HI2.out.of (bnew _ _)) hgrow; have f4 := NwI.f4 (HI2.out.of (bnew _ _)) hgrow) | (go_simp; refine (HR.out _).mono ?_; rintro e w2 ⟨rfl, hB2⟩; have HI2 := Lib.hid (HX.out _ hB2); have q2 := HI2.out.q3; have f2 := HI2.out.f3; have q2a := (HI2.out.of (bnew _ (.cells #[.string zsec] 9))).q3))
      all_goals
        go_wp2_with fail
        go_roundw
        case rel => exact ⟨k + 1, _, by omega, by go_num, hst.out⟩
        case measure => simp [intOf]; omega
    · obtain rfl : k = n := by omega
      have hdv := hI.dev h8 hn
      go_wp2_with fail
      go_ret2
      exact ⟨rfl, hdv, hI.below⟩
end Go.Proofs.Ytjjphcnoegaimaa
