/- The chapter's example of package geo. -/
import Derived.Test.YtcdmipgopffaaaaGeoSuper
namespace Go.Proofs.Ytcdmipgopffaaaa
open Go.RowKit
set_option maxRecDepth 20000

theorem mays_small : Mays 8 16 40 := ⟨by decide, by decide, by decide, by decide, by decide, by decide⟩
def frc : Array Value := #[.int .i64 0, .int .i64 1, .int .i64 41, .int .i64 42, .int .i64 43, .int .i64 47]
theorem frc_get {k : Nat} (hk : k < 6) : frc[k]? = some (.int .i64 (fr 8 16 40 k)) := by
  rcases (by omega : k = 0 ∨ k = 1 ∨ k = 2 ∨ k = 3 ∨ k = 4 ∨ k = 5) with rfl | rfl | rfl | rfl | rfl | rfl <;> rfl

set_option maxHeartbeats 400000 in
theorem small_any (w : World) : Calls Try.prog 44 #[] w fun e w' => e = .returned (.agg #[.int .i64 8, .int .i64 16, .int .i64 40]) ∧ Below w.heap.size w w' := by
  go_enter Try.func44, Try.ntmps44
  go_wp2_with fail
  exact bodyPost_ret (v := .agg #[.int .i64 8, .int .i64 16, .int .i64 40]) (by simp [results, Try.results44, go_sem]) rfl ⟨rfl, bnew _ _⟩

set_option maxHeartbeats 2000000 in
theorem alive05 (w : World) : Calls Try.prog 13 #[] w fun e w' => e = .returned (.bool true) ∧ Below w.heap.size w w' := by
  go_enter Try.func13, Try.ntmps13
  go_wp2_with fail
  refine (small_any _).mono ?_
  rintro e w1 ⟨rfl, hB⟩
  go_wp2_with fail
  go_loopw [3] (fun v wr => ∃ k : Nat, k ≤ 6 ∧ v = .int .i64 k ∧ wr.heap[w1.heap.size]? = some (.cells #[.int .i64 8, .int .i64 16, .int .i64 40] 23 (0, 0)) ∧ wr.heap[w1.heap.size + 1]? = some (.cells frc 3 (0, 0)) ∧ Below w.heap.size w wr) (fun v _ => 6 - (intOf v).toNat)
  case atStart => exact ⟨0, by omega, rfl, (hp_old _ _ (by simp)).trans (hp_new _ _ rfl), hp_new _ _ (by simp), bal (bal hB _) _⟩
  case round =>
    obtain ⟨k, hk, rfl, hg, hf, hBr⟩ := hrel
    have g0 := cl_of hg 0
    have g1 := cl_of hg 1
    have g2 := cl_of hg 2
    by_cases hlt : k < 6
    · go_wp2_with fail
      refine (part_yes mays_small k hlt _).mono ?_
      rintro e w2 ⟨rfl, hB2⟩
      have hg2 := bblk hB2 hg
      have hf2 := bblk hB2 hf
      have hc := (cl_of hf2 k).trans (frc_get hlt)
      have hlg := blk_lt hf2
      have B2 := bt hBr hB2
      clear hB2 hBr hB hg hf g0 g1 g2
      have i0 : (0 : Int) ≤ (k : Int) := by omega
      have i6 : (k : Int) < 6 := by omega
      go_wp2_with fail
      go_region
      all_goals go_wp2_with fail
      go_roundw
      case rel => exact ⟨k + 1, by omega, by go_num, blk_old hg2 _, blk_old hf2 _, (bal B2 _).drew⟩
      case measure => simp [intOf]; omega
    · obtain rfl : k = 6 := by omega
      go_wp2_with fail
      refine (inode_yes mays_small (n := 3) (by decide) (by decide) _).mono ?_
      rintro e w2 ⟨rfl, hB2⟩
      have hg2 := bblk hB2 hg
      have B2 := bt hBr hB2
      clear hB2 hg g0 g1 g2 hBr hf
      have g0 := cl_of hg2 0
      have g1 := cl_of hg2 1
      have g2 := cl_of hg2 2
      go_wp2_with fail
      refine (block_yes mays_small (n := 1) (by decide) (by decide) _).mono ?_
      rintro e w3 ⟨rfl, hB3⟩
      have hg3 := bblk hB3 hg2
      have B3 := bt B2 hB3
      clear hB3 hg2 g0 g1 g2 B2
      have g0 := cl_of hg3 0
      have g1 := cl_of hg3 1
      have g2 := cl_of hg3 2
      go_wp2_with fail
      refine (block_no (n := 0) (i := 8) (b := 16) (j := 40) (fun h => by omega) (by decide) (by decide) _).mono ?_
      rintro e w4 ⟨rfl, hB4⟩
      have hg4 := bblk hB4 hg3
      have B4 := bt B3 hB4
      clear hB4 hg3 g0 g1 g2 B3
      go_wp2_with fail
      refine (read_no (l := []) (by decide) (fun i b j _ h => by have := congrArg List.length h; rw [sup_length] at this; simp at this) _).mono ?_
      rintro e w5 ⟨rfl, hB5⟩
      have hg5 := bblk hB5 hg4
      have hl5 := blk_lt hg5
      have B5 := bt B4 hB5
      clear hB5 hg4 B4
      have g0 := cl_of hg5 0
      have g1 := cl_of hg5 1
      have g2 := cl_of hg5 2
      have f6 : fr 8 16 40 6 = 63 := by decide
      have f4 : fr 8 16 40 4 = 43 := by decide
      have f5 : fr 8 16 40 5 = 47 := by decide
      go_wp2_with fail
      refine (sectors_yes mays_small _).mono ?_
      rintro e w6 ⟨rfl, hB6⟩
      go_wp2_with fail
      go_ret
      exact ⟨rfl, bt (bal B5 _) hB6⟩
end Go.Proofs.Ytcdmipgopffaaaa
