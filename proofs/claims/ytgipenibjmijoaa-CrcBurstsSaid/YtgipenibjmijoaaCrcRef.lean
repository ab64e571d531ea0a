/- The walks through the reference of the sum: lunetteref01.Bytes, lunetteref02.More, Sum. -/
import Derived.Test.YtgipenibjmijoaaOctet
import Derived.Test.YtgipenibjmijoaaCrcTable
namespace Go.Proofs.Ytgipenibjmijoaa
open Go.RowKit

/-- One byte as a text. -/
theorem conv1 (W : World) (z : Int) (b : Nat) (hz : z = b) (hb : b < 256) :
    (convert 34 9 (.slice (some ⟨W.heap.size, 0, none⟩) 1 1)).run Try.prog (W.alloc (.cells #[.int .u8 z] 5)) = .ok (.string (bs [UInt8.ofNat b])) (W.alloc (.cells #[.int .u8 z] 5)) := by
  have := run_convert_bytes_back (P := Try.prog) (W.alloc (.cells #[.int .u8 z] 5)) 34 9 5 ⟨W.heap.size, 0, none⟩ 1 [UInt8.ofNat b] Try.underlying34 Try.underlying5 Try.underlying9 (fun j hj => by
    obtain rfl : j = 0 := by simpa using hj
    rw [Addr.add_lit, Nat.zero_add, cl_of (hp_new W _ rfl)]
    simp; omega)
  exact this

set_option maxHeartbeats 400000 in
theorem bytes_go (v n : Nat) (hn : n ≤ 8) (hv : v < 18446744073709551616) (w : World) :
    Calls Try.prog 19 #[.int .u64 v, .int .i64 n] w fun e w' => e = .returned (.string (bs (bytesLE v n))) ∧ Below w.heap.size w w' := by
  go_enter Try.func19, Try.ntmps19
  go_wp2_with fail
  go_loopw [0, 5, 6] (fun x s i wr => ∃ k y : Nat, ∃ l : List UInt8, k ≤ n ∧ i = .int .i64 k ∧ y ≤ v ∧ x = .int .u64 y ∧ s = .string (bs l) ∧ y = v / 256 ^ k ∧ l = bytesLE v k ∧ Below w.heap.size w wr) (fun _ _ i _ => n - (intOf i).toNat)
  case atStart => exact ⟨0, v, [], by omega, rfl, Nat.le_refl _, rfl, rfl, by simp, rfl, Below.refl _ _⟩
  case round =>
    obtain ⟨k, y, l, hk, rfl, hyv, rfl, rfl, hy, hl, hB⟩ := hrel
    have hb1 : (bs l).size ≤ 8 := by rw [bs_size, hl, bytesLE_length]; omega
    have HY := Lib.hid hy
    have HL := Lib.hid hl
    clear hy hl
    by_cases hlt : k < n
    · have hc := conv1 wr ((y : Int) % 256) (y % 256) (by omega) (by omega)
      have hb2 : (bs [UInt8.ofNat (y % 256)]).size ≤ 1 := by rw [bs_size]; simp
      go_wp2_with fail
      go_roundw
      case rel =>
        refine ⟨k + 1, y / 256, l ++ [UInt8.ofNat (y % 256)], by omega, by go_num, by omega, by go_num, by rw [bs_append], ?_, ?_, hB.alloc hB.size _⟩
        · rw [HY.out, Nat.div_div_eq_div_mul, Nat.pow_succ]
        · rw [bytesLE_snoc, ← HY.out, ← HL.out]
      case measure => simp [intOf]; omega
    · obtain rfl : k = n := by omega
      go_wp2_with fail
      go_ret
      exact ⟨by rw [← HL.out]; rfl, hB⟩

theorem refC_step0 {z d j y b : Nat} (h : z = refN j y b ∧ d = b / 2 ^ j) (hp : z % 2 = d % 2) : z / 2 = refN (j + 1) y b ∧ d / 2 = b / 2 ^ (j + 1) := by
  obtain ⟨rfl, rfl⟩ := h
  refine ⟨?_, by rw [Nat.div_div_eq_div_mul, Nat.pow_succ]⟩
  rw [refN_succ, refC, if_pos hp]
theorem refC_step1 {z d j y b : Nat} (h : z = refN j y b ∧ d = b / 2 ^ j) (hp : ¬ z % 2 = d % 2) : z / 2 ^^^ 3988292384 = refN (j + 1) y b ∧ d / 2 = b / 2 ^ (j + 1) := by
  obtain ⟨rfl, rfl⟩ := h
  refine ⟨?_, by rw [Nat.div_div_eq_div_mul, Nat.pow_succ]⟩
  rw [refN_succ, refC, if_neg hp]
theorem refC_byte {s : ByteArray} {c y z k : Nat} (hk : k < s.data.toList.length) (hy : y = more c (s.data.toList.take k)) (hz : z = refN 8 y (s.data.toList[k]).toNat) : z = more c (s.data.toList.take (k + 1)) := by
  rw [List.take_succ_eq_append_getElem hk, more_snoc, ← hy, hz, refN_upd (s.data.toList[k]).toNat_lt]

set_option maxHeartbeats 400000 in
theorem refMore_go (c : Nat) (hc : c < 4294967296) (s : ByteArray) (hs : s.size ≤ maxLen) (w : World) :
    Calls Try.prog 11 #[.int .u32 c, .string s] w fun e w' => e = .returned (.int .u32 (more c s.data.toList : Nat)) ∧ w = w' := by
  unfold maxLen at hs
  go_enter Try.func11, Try.ntmps11
  go_wp2_with fail
  go_loop [0, 5] (fun x i => ∃ k y : Nat, k ≤ s.size ∧ i = .int .i64 k ∧ y < 4294967296 ∧ x = .int .u32 y ∧ Hid (y = more c (s.data.toList.take k))) (fun _ i => s.size - (intOf i).toNat)
  case atStart => exact ⟨0, c, by omega, rfl, hc, rfl, rfl⟩
  case round =>
    obtain ⟨k, y, hk, rfl, hy, rfl, HY⟩ := hrel
    by_cases hlt : k < s.size
    · have hb8 := s[k].toNat_lt
      go_wp2_with fail
      go_loop [0, 6, 7] (fun x b i => ∃ j z d : Nat, j ≤ 8 ∧ i = .int .i64 j ∧ z < 4294967296 ∧ x = .int .u32 z ∧ d < 256 ∧ b = .int .u32 d ∧ Hid (z = refN j y s[k].toNat ∧ d = s[k].toNat / 2 ^ j)) (fun _ _ i => 8 - (intOf i).toNat)
      case atStart => exact ⟨0, y, s[k].toNat, by omega, rfl, hy, rfl, by omega, rfl, rfl, by simp⟩
      case round =>
        obtain ⟨j, z, d, hj, rfl, hz, rfl, hd, rfl, HZ⟩ := hrel
        by_cases hlj : j < 8
        · by_cases hpar : z % 2 = d % 2
          · have hp : (((z : Int) % 2 != (d : Int) % 2)) = false := by simp; omega
            go_wp2_with fail
            go_round
            case rel => exact ⟨j + 1, z / 2, d / 2, by omega, by go_num, by omega, by go_num, by omega, by go_num, refC_step0 HZ.out hpar⟩
            case measure => simp [intOf]; omega
          · have hp : (((z : Int) % 2 != (d : Int) % 2)) = true := by simp; omega
            have hx := u32_xor_nat (z / 2) 3988292384 (by omega) (by decide)
            have hx' : bits .xor .u32 ((z : Int) / 2) 3988292384 = ((z / 2 ^^^ 3988292384 : Nat) : Int) := hx
            clear hx
            go_wp2_with fail
            go_round
            case rel => exact ⟨j + 1, z / 2 ^^^ 3988292384, d / 2, by omega, by go_num, Nat.xor_lt_two_pow (n := 32) (by omega) (by decide), rfl, by omega, by go_num, refC_step1 HZ.out hpar⟩
            case measure => simp [intOf]; omega
        · obtain rfl : j = 8 := by omega
          go_wp2_with fail
          go_round
          case rel => exact ⟨k + 1, z, by omega, by go_num, hz, rfl, refC_byte (by simpa using hlt) HY.out HZ.out.1⟩
          case measure => simp [intOf]; omega
    · obtain rfl : k = s.size := by omega
      go_wp2_with fail
      go_ret
      exact ⟨by rw [HY.out, List.take_of_length_le (by simp)]; rfl, rfl⟩
end Go.Proofs.Ytgipenibjmijoaa
