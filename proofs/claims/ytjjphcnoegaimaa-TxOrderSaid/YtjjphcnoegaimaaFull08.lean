/- lunettelaw08.full, Made. -/
import Derived.Test.YtjjphcnoegaimaaTx
import Derived.Test.YtjjphcnoegaimaaZero
namespace Go.Proofs.Ytjjphcnoegaimaa
open Go.RowKit Go.Shelf Go.Maps
set_option maxRecDepth 20000
set_option linter.unusedVariables false

/-- A text, again and again: its first k bytes; noughts behind. -/
def fillB (s : ByteArray) (k : Nat) : List UInt8 := (List.range 64).map fun i => if i < k ∧ 0 < s.size then s.data.toList.getD (i % s.size) 0 else 0
def fullB (s : ByteArray) : ByteArray := bs (fillB s 64)
theorem fillB_length (s : ByteArray) (k : Nat) : (fillB s k).length = 64 := by simp [fillB]
theorem fullB_size (s : ByteArray) : (fullB s).size = 64 := by rw [fullB, bs_size, fillB_length]
theorem fillB_zero (s : ByteArray) : fillB s 0 = zeros 64 := by
  apply List.ext_getElem
  · simp [fillB_length, zeros]
  · intro i h1 h2
    rw [show (zeros 64)[i] = 0 from List.eq_of_mem_replicate (n := 64) (List.getElem_mem h2)]
    simp [fillB]
theorem fillB_none (s : ByteArray) (h : s.size = 0) (k : Nat) : fillB s k = zeros 64 := by
  apply List.ext_getElem
  · simp [fillB_length, zeros]
  · intro i h1 h2
    rw [show (zeros 64)[i] = 0 from List.eq_of_mem_replicate (n := 64) (List.getElem_mem h2)]
    simp [fillB, h]
theorem fillB_step (s : ByteArray) (k : Nat) (hk : k < 64) (hs : 0 < s.size) (b : Nat) (hb : (s.data.toList.getD (k % s.size) 0).toNat = b) : (bc (fillB s k)).setIfInBounds k (.int .u8 (b : Int)) = bc (fillB s (k + 1)) := by
  subst hb
  rw [bc_set]
  congr 1
  apply List.ext_getElem
  · simp [fillB_length]
  · intro i h1 h2
    rw [fillB_length] at h2
    rw [List.getElem_set]
    by_cases e : k = i
    · subst e
      rw [if_pos rfl]
      simp [fillB, hs]
    · rw [if_neg e]
      simp only [fillB, List.getElem_map, List.getElem_range]
      by_cases h : i < k
      · rw [if_pos ⟨h, hs⟩, if_pos ⟨by omega, hs⟩]
      · rw [if_neg (fun x => h x.1), if_neg (fun x => by omega)]

set_option maxHeartbeats 1000000 in
theorem full_any (s : ByteArray) (hsz : s.size ≤ maxLen) (w : World) : Calls Try.prog 50 #[.string s] w fun e w' => e = .returned (.string (fullB s)) ∧ Below w.heap.size w w' := by
  have hmk : (Instr.makeSlice 50 (.int .i64 64) (.int .i64 64)).run Try.prog w = .ok (.slice (some ⟨w.heap.size, 0, none⟩) 64 64) (w.alloc (.cells (bc (zeros 64)) 5)) := make_zeros 64 (by decide) w
  have hcv := conv_new (fillB s 64) 64 (fillB_length s 64) w
  unfold maxLen at hsz
  by_cases h0 : s.size = 0
  · have e0 : s.toList.isEmpty = true := by
      have : s = ByteArray.empty := by
        apply ByteArray.ext
        exact Array.eq_empty_of_size_eq_zero h0
      rw [this, Go.ByteArray.toList_eq]; rfl
    rw [fillB_none s h0] at hcv
    have hfb : fullB s = bs (zeros 64) := by rw [fullB, fillB_none s h0]
    have HF := Lib.hid hfb
    clear hfb
    go_enter Try.func50, Try.ntmps50
    go_wp2_with fail
    go_loopw [4] (fun v4 wr => v4 = .int .i64 0 ∧ wr = w.alloc (.cells (bc (zeros 64)) 5)) (fun _ _ => 0)
    case atStart => exact ⟨rfl, rfl⟩
    case round =>
      obtain ⟨rfl, rfl⟩ := hrel
      go_wp2_with fail
      go_ret
      exact ⟨by rw [HF.out]; rfl, bnew _ _⟩
  · have hpos : 0 < s.size := by omega
    have e0 : s.toList.isEmpty = false := by
      have : s.toList ≠ [] := by
        intro e
        rw [Go.ByteArray.toList_eq] at e
        have e2 : s.data.toList.length = 0 := by rw [e]; rfl
        rw [Array.length_toList] at e2
        exact h0 e2
      simpa using this
    have hfb : fullB s = bs (fillB s 64) := rfl
    have HF := Lib.hid hfb
    clear hfb
    go_enter Try.func50, Try.ntmps50
    go_wp2_with fail
    go_loopw [4] (fun v4 wr => ∃ k : Nat, k ≤ 64 ∧ v4 = .int .i64 k ∧ wr = w.alloc (.cells (bc (fillB s k)) 5)) (fun v4 _ => 64 - (intOf v4).toNat)
    case atStart => exact ⟨0, by omega, rfl, by rw [fillB_zero]⟩
    case round =>
      obtain ⟨k, hk, rfl, rfl⟩ := hrel
      by_cases hlt : k < 64
      · have hst := fillB_step s k hlt hpos
        have hkm : k % s.size < s.size := Nat.mod_lt k hpos
        have hcell : ((w.alloc (.cells (bc (fillB s k)) 5)).cell? ⟨w.heap.size, k, none⟩) = some (.int .u8 ((fillB s k)[k]'(by rw [fillB_length]; exact hlt)).toNat) := by rw [cl_of (hp_new w _ rfl), bc_get (by rw [fillB_length]; exact hlt)]
        obtain ⟨q, hq⟩ : ∃ q : Nat, k % s.size = q := ⟨_, rfl⟩
        have hm : (k : Int) % (s.size : Int) = (q : Int) := by rw [← hq]; push_cast; rfl
        obtain ⟨b, hb⟩ : ∃ b : Nat, (s.data.toList.getD (k % s.size) 0).toNat = b := ⟨_, rfl⟩
        have hst' := hst b hb
        have hqs : q < s.size := by omega
        have hidx : s[q].toNat = b := by
          rw [← hb, hq]
          have hk' : q < s.data.toList.length := by rw [Array.length_toList]; exact hqs
          rw [List.getD_eq_getElem?_getD, List.getElem?_eq_getElem hk']
          rfl
        have HST := Lib.hid hst'
        clear hst hst' hkm hb hq
        go_wp2_with fail
        exact ⟨⟨k + 1, by omega, by go_num, by rw [HST.out]⟩, by simp [intOf]; omega⟩
      · obtain rfl : k = 64 := by omega
        go_wp2_with fail
        go_ret
        exact ⟨by rw [HF.out]; rfl, bnew _ _⟩
end Go.Proofs.Ytjjphcnoegaimaa
