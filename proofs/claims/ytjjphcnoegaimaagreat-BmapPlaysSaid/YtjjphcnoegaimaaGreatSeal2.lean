/- The walks through crc.Sum, Seal, Open (without the reference's). -/
import Derived.Test.YtjjphcnoegaimaaGreatCrcMore
import Derived.Test.YtjjphcnoegaimaaGreatGF
namespace Go.Proofs.YtjjphcnoegaimaaGreat
open Go.RowKit

theorem more_go (c : Int) (h0 : 0 ≤ c) (hc : c < 4294967296) (s : ByteArray) (hs : s.size ≤ maxLen) (w : World) :
    Calls Tryz.prog 157 #[.int .u32 c, .string s] w fun e w' => e = .returned (.int .u32 (more c.toNat s.data.toList : Nat)) ∧ Below w.heap.size w w' := by
  obtain ⟨n, rfl⟩ := Int.eq_ofNat_of_zero_le h0
  exact more_any n (by omega) s hs w
theorem ones_xor {m : Nat} (h : m < 4294967296) : bits .xor .u32 IntKind.u32.max (m : Int) = ((m ^^^ ones : Nat) : Int) := by
  rw [Nat.xor_comm]
  exact u32_xor_nat 4294967295 m (by decide) h
theorem bs_sealed (s : ByteArray) : s ++ bs (bytesLE (sum s.data.toList) 4) = bs (sealed s.data.toList) := by
  rw [sealed, ← bs_append, bs_of]

/-- Texts one behind the other. -/
def joined (ls : List ByteArray) : List UInt8 := ls.flatMap fun s => s.data.toList
theorem joined_snoc {ls : List ByteArray} {k : Nat} (h : k < ls.length) : joined (ls.take (k + 1)) = joined (ls.take k) ++ ls[k].data.toList := by
  rw [joined, List.take_succ_eq_append_getElem h, List.flatMap_append]
  simp [joined]

set_option maxHeartbeats 400000 in
theorem sum_any (b cap : Nat) (ls : List ByteArray) (w : World) (hn : ls.length ≤ 1000) (hb : b < w.heap.size) (hcell : ∀ i (h : i < ls.length), w.cell? ⟨b, i, none⟩ = some (.string ls[i])) (hsz : ∀ s ∈ ls, s.size ≤ maxLen) :
    Calls Tryz.prog 149 #[.slice (some ⟨b, 0, none⟩) ls.length cap] w fun e w' => e = .returned (.int .u32 (sum (joined ls) : Nat)) ∧ Below w.heap.size w w' := by
  go_enter Tryz.func149, Tryz.ntmps149
  go_wp2_with fail
  go_loopw [3, 8] (fun x i wr => ∃ k y : Nat, k ≤ ls.length ∧ i = .int .i64 k ∧ y < 4294967296 ∧ x = .int .u32 y ∧ Hid (y = more ones (joined (ls.take k))) ∧ Below w.heap.size w wr) (fun _ i _ => ls.length - (intOf i).toNat)
  case atStart => exact ⟨0, ones, by omega, rfl, by decide, rfl, rfl, Below.refl _ _⟩
  case round =>
    obtain ⟨k, y, hk, rfl, hy, rfl, HY, hB⟩ := hrel
    by_cases hlt : k < ls.length
    · have hc := (hB.cell (p := ⟨b, k, none⟩) hb).trans (hcell k hlt)
      have hs := hsz _ (List.getElem_mem hlt)
      have HC := Lib.hid hcell
      clear hcell
      go_wp2_with fail
      refine (more_go _ (by omega) (by omega) _ hs _).mono ?_
      rintro e w1 ⟨rfl, hB1⟩
      go_wp2_with fail
      go_roundw
      case rel => exact ⟨k + 1, _, by omega, by go_num, more_lt _ (by omega), rfl, by rw [joined_snoc hlt, more_append, ← HY.out]; rfl, hB.trans (hB1.mono hB.size)⟩
      case measure => simp [intOf]; omega
    · obtain rfl : k = ls.length := by omega
      have hx := ones_xor hy
      go_wp2_with fail
      go_ret
      exact ⟨by rw [HY.out, List.take_of_length_le (by simp)]; rfl, hB⟩

set_option maxHeartbeats 400000 in
theorem sum_nil (w : World) :
    Calls Tryz.prog 149 #[.slice none 0 0] w fun e w' => e = .returned (.int .u32 0) ∧ w = w' := by
  go_enter Tryz.func149, Tryz.ntmps149
  go_wp2_with fail
  go_loop [3, 8] (fun x i => x = .int .u32 4294967295 ∧ i = .int .i64 0) (fun _ _ => 0)
  case atStart => exact ⟨rfl, rfl⟩
  case round =>
    obtain ⟨rfl, rfl⟩ := hrel
    have hx := ones_xor (m := 4294967295) (by decide)
    go_wp2_with fail
    go_ret
    exact ⟨rfl, rfl⟩

set_option maxHeartbeats 400000 in
theorem seal_any (s : ByteArray) (hs : s.size + 4 ≤ maxLen) (w : World) :
    Calls Tryz.prog 133 #[.string s] w fun e w' => e = .returned (.string (bs (sealed s.data.toList))) ∧ Below w.heap.size w w' := by
  unfold maxLen at hs
  have hsum := sum_lt s.data.toList
  have hb4 : (bs (bytesLE (sum s.data.toList) 4)).size ≤ 4 := by rw [bs_size, bytesLE_length]; omega
  go_enter Tryz.func133, Tryz.ntmps133
  go_wp2_with fail
  refine (sum_any w.heap.size 1 [s] _ (by simp) (by simp) (by intro i hi; obtain rfl : i = 0 := (by simpa using hi); exact cl_of (hp_new w _ rfl) 0) (by simp; unfold maxLen; omega)).mono ?_
  rintro e w1 ⟨rfl, hB⟩
  have ej : joined [s] = s.data.toList := by simp [joined]
  rw [ej]
  clear ej
  go_wp2_with fail
  refine (num_any' _ _ (by omega) (by omega) (by decide) (by decide) (.inr (by simpa using hsum)) _).mono ?_
  rintro e w2 ⟨rfl, hB2⟩
  go_wp2_with fail
  go_ret
  exact ⟨by rw [← bs_sealed]; rfl, (((Below.refl _ w).alloc (Nat.le_refl _) _).trans (hB.mono (by simp))).trans (hB2.mono (by have := hB.size; simp at this; omega))⟩
/-- What opens. -/
def opened (l : List UInt8) : List UInt8 × Int :=
  if l.length < 4 then ([], 6) else if sealed (l.take (l.length - 4)) = l then (l.take (l.length - 4), 0) else ([], 7)

set_option maxHeartbeats 400000 in
theorem open_any (l : List UInt8) (hl : l.length ≤ maxLen) (w : World) :
    Calls Tryz.prog 112 #[.string (bs l)] w fun e w' => e = .returned (.tuple #[.string (bs (opened l).1), .int .i64 (opened l).2]) ∧ Below w.heap.size w w' := by
  unfold maxLen at hl
  have hs : (bs l).size = l.length := bs_size l
  by_cases h4 : l.length < 4
  · have e : opened l = ([], 6) := by rw [opened, if_pos h4]
    rw [e]
    go_enter Tryz.func112, Tryz.ntmps112
    go_wp2_with fail
    go_ret2
    exact ⟨rfl, Below.refl _ _⟩
  · have ht := bs_take' l (l.length - 4)
    have hd := bs_data (l.take (l.length - 4))
    have htl : (l.take (l.length - 4)).length ≤ l.length - 4 := List.length_take_le _ _
    by_cases he : sealed (l.take (l.length - 4)) = l
    · have e : opened l = (l.take (l.length - 4), 0) := by rw [opened, if_neg h4, if_pos he]
      rw [e]
      have HE := Lib.hid he
      clear he e
      go_enter Tryz.func112, Tryz.ntmps112
      go_wp2_with fail
      refine (seal_any _ (by rw [bs_size]; unfold maxLen; omega) _).mono ?_
      rintro e w1 ⟨rfl, hB⟩
      rw [hd, HE.out]
      go_wp2_with fail
      go_ret2
      exact ⟨rfl, hB⟩
    · have e : opened l = ([], 7) := by rw [opened, if_neg h4, if_neg he]
      rw [e]
      have HE := Lib.hid he
      clear he e
      go_enter Tryz.func112, Tryz.ntmps112
      go_wp2_with fail
      refine (seal_any _ (by rw [bs_size]; unfold maxLen; omega) _).mono ?_
      rintro e w1 ⟨rfl, hB⟩
      rw [hd]
      have hq := bs_ne' HE.out
      go_wp2_with fail
      go_ret2
      exact ⟨rfl, hB⟩

end Go.Proofs.YtjjphcnoegaimaaGreat
