/- The walk through crc.table: 256 numbers. -/
import Derived.Test.YtjjphcnoegaimaaGreatProg
import Derived.WalkKit
import Derived.WalkLawsBesides
import Derived.WalkSpells
import Derived.Lib.Hide
import Derived.Deep.WholeRow
import Derived.Test.YtjjphcnoegaimaaGreatGF
namespace Go.Proofs.YtjjphcnoegaimaaGreat
open Go.RowKit
/-- The table when k of its places are filled. -/
def tab (k : Nat) : Array Value := (List.range 256).toArray.map fun i => if i < k then Value.int .u32 (stn 8 i : Nat) else .int .u32 0
theorem zero_tab (w : World) : (zeroValue 231).run Tryz.prog w = .ok (.agg (tab 0)) w := by kernel_rfl
theorem tab_set (k : Nat) : (tab k).setIfInBounds k (.int .u32 (stn 8 k : Nat)) = tab (k + 1) := by
  apply Array.ext
  · simp [tab]
  · intro i h1 h2
    rw [Array.getElem_setIfInBounds (by simpa [tab] using h1)]
    simp only [tab, Array.getElem_map, List.getElem_toArray, List.getElem_range]
    by_cases h : k = i
    · subst h; simp
    · simp [h, show (i < k + 1) = (i < k) by apply propext; omega]
theorem tab_size (k : Nat) : (tab k).size = 256 := by simp [tab]
theorem stn_succ (n : Nat) : ∀ x, stn (n + 1) x = st (stn n x) := by
  intro x; rw [stn_add]; rfl
theorem tab_get {k i : Nat} (h : i < 256) : (tab k)[i]? = some (if i < k then Value.int .u32 (stn 8 i : Nat) else .int .u32 0) := by
  have : i < (tab k).size := by rw [tab_size]; exact h
  rw [Array.getElem?_eq_getElem this]
  simp [tab]
theorem stn_and1 (x : Nat) (h : x < 4294967296) : bits .and .u32 (x : Int) 1 = ((x % 2 : Nat) : Int) := by
  have := u32_and_nat x 1 h (by decide)
  rw [nat_mask1] at this
  simpa using this
theorem st_odd {x : Nat} (h : x < 4294967296) (h1 : (bits .and .u32 (x : Int) 1 == 1) = true) : (bits .xor .u32 ((x : Int) / 2) 3988292384 : Int) = ((st x : Nat) : Int) := by
  rw [stn_and1 x h] at h1
  have h1' : x % 2 = 1 := by have := eq_of_beq h1; omega
  have := u32_xor_nat (x / 2) 3988292384 (by omega) (by decide)
  unfold st
  rw [if_pos h1', ← this]
  rfl
theorem st_even' {x : Nat} (h : x < 4294967296) (h1 : (bits .and .u32 (x : Int) 1 == 1) = false) : ((x : Int) / 2 : Int) = ((st x : Nat) : Int) := by
  rw [stn_and1 x h] at h1
  have h1' : ¬ x % 2 = 1 := by intro e; rw [e] at h1; simp at h1
  unfold st
  rw [if_neg h1']
  rfl
set_option maxRecDepth 100000 in
set_option maxHeartbeats 400000 in
theorem table_any (w : World) : Calls Tryz.prog 159 #[] w fun e w' => e = .returned (.agg (tab 256)) ∧ w.alloc (.cells (tab 256) 231) = w' := by
  have z := zero_tab
  go_enter Tryz.func159, Tryz.ntmps159
  go_wp2_with fail
  go_loopw [3] (fun i wr => ∃ k : Nat, k ≤ 256 ∧ i = .int .i64 k ∧ wr = w.alloc (.cells (tab k) 231)) (fun i _ => 256 - (intOf i).toNat)
  case atStart => exact ⟨0, by omega, rfl, rfl⟩
  case round =>
    obtain ⟨k, hk, rfl, rfl⟩ := hrel
    by_cases hlt : k < 256
    · go_wp2_with fail
      go_loop [2, 8] (fun x i => ∃ j : Nat, j ≤ 8 ∧ i = .int .i64 j ∧ x = .int .u32 (stn j k : Nat)) (fun _ i => 8 - (intOf i).toNat)
      case atStart => exact ⟨0, by omega, rfl, rfl⟩
      case round =>
        obtain ⟨j, hj, rfl, rfl⟩ := hrel
        have hb : stn j k < 4294967296 := stn_lt j (by omega)
        by_cases hlj : j < 8
        · go_wp2_with fail
          · have h1 : (bits .and .u32 ((stn j k : Nat) : Int) 1 == 1) = true := by assumption
            go_round
            case rel => exact ⟨j + 1, by omega, by go_num, by rw [st_odd hb h1, stn_succ]⟩
            case measure => simp [intOf]; omega
          · have h1 : (bits .and .u32 ((stn j k : Nat) : Int) 1 == 1) = false := by assumption
            go_round
            case rel => exact ⟨j + 1, by omega, by go_num, by rw [st_even' hb h1, stn_succ]⟩
            case measure => simp [intOf]; omega
        · obtain rfl : j = 8 := by omega
          have hg := tab_get (k := k) hlt
          go_wp2_with fail
          go_roundw
          case rel => exact ⟨k + 1, by omega, by go_num, by rw [tab_set]⟩
          case measure => simp [intOf]; omega
    · obtain rfl : k = 256 := by omega
      go_wp2_with (first | (refine wpList_load_row rfl 231 _ rfl _ rfl _ _ (0, 0) _ (heap_alloc_new w _) Tryz.underlying231 rfl (by kernel_rfl) ?_) | (refine wpList_store_row rfl 231 _ _ rfl w.heap.size (tab 256) rfl rfl 231 (tab 256) (heap_alloc_new w _) (by kernel_rfl) rfl (by kernel_rfl) ?_))
      rw [World.setRow_alloc_new]
      exact bodyPost_ret (results_cell_row rfl _ _ w.heap.size 231 (tab 256) (0, 0) _ rfl (heap_alloc_new w _) Tryz.underlying231 rfl (by kernel_rfl)) rfl ⟨rfl, rfl⟩
end Go.Proofs.YtjjphcnoegaimaaGreat
