/- The walk through octet.Get: the number of bytes. -/
import Derived.Test.YtcdmipgopffaaaaOctet
import Derived.Laws.BitsAllLaws
namespace Go.Proofs.Ytcdmipgopffaaaa
open Go.RowKit

theorem take_snoc (s : ByteArray) (k : Nat) (h : k < s.size) : s.data.toList.take (k + 1) = s.data.toList.take k ++ [s[k]] := by
  rw [List.take_succ_eq_append_getElem (by simpa using h)]; rfl
theorem le_snoc (l : List UInt8) (b : UInt8) : le (l ++ [b]) = le l + 256 ^ l.length * b.toNat := by rw [le_append]; simp [le]

theorem or_step {x k b : Nat} (hx : x < 256 ^ k) (hk : k < 8) (hb : b < 256) : bits .or .u64 (x : Int) (IntKind.u64.wrap (IntKind.u64.wrap (b : Int) * 2 ^ (8 * k))) = ((x + 256 ^ k * b : Nat) : Int) := by
  have e1 : IntKind.u64.wrap (b : Int) = b := IntWalk.u64_in _ (by omega)
  have h8 : 256 ^ (k + 1) ≤ 256 ^ 8 := Nat.pow_le_pow_right (by decide) (by omega)
  have h9 : 256 ^ k * b + 256 ^ k ≤ 256 ^ (k + 1) := by rw [Nat.pow_succ, ← Nat.mul_succ]; exact Nat.mul_le_mul_left _ (by omega)
  have h64 : (256 : Nat) ^ 8 = 18446744073709551616 := by decide
  have e2 : (b : Int) * 2 ^ (8 * k) = ((256 ^ k * b : Nat) : Int) := by
    rw [Int.natCast_mul, Int.natCast_pow, Int.mul_comm, Int.pow_mul]; rfl
  have h0 : 0 < 256 ^ k := Nat.pow_pos (by decide)
  rw [e1, e2, IntWalk.u64_in _ (by omega), u64_or_nat _ _ (by omega) (by omega)]
  congr 1
  rw [show 256 ^ k = 2 ^ (8 * k) by rw [Nat.pow_mul]] at hx ⊢
  rw [Nat.or_comm, ← Nat.two_pow_add_eq_or_of_lt hx, Nat.add_comm]

set_option maxHeartbeats 400000 in
theorem get_go (s : ByteArray) (hs : s.size ≤ 8) (w : World) :
    Calls Try.prog 45 #[.string s] w fun e w' => e = .returned (.tuple #[.int .u64 (le s.data.toList : Nat), .int .i64 0]) ∧ w = w' := by
  go_enter Try.func45, Try.ntmps45
  go_wp2_with fail
  go_loop [2, 10] (fun v i => ∃ k x : Nat, k ≤ s.size ∧ i = .int .i64 k ∧ v = .int .u64 x ∧ Hid (x = le (s.data.toList.take k)) ∧ x < 256 ^ k) (fun _ i => s.size - (intOf i).toNat)
  case atStart => exact ⟨0, 0, by omega, rfl, rfl, rfl, by decide⟩
  case round =>
    obtain ⟨k, x, hk, rfl, rfl, HX, hx⟩ := hrel
    by_cases hlt : k < s.size
    · go_wp2_with fail
      go_round
      case rel =>
        have hb := s[k].toNat_lt
        have hl : (s.data.toList.take k).length = k := by rw [List.length_take]; simp; omega
        refine ⟨k + 1, x + 256 ^ k * s[k].toNat, by omega, by go_num, by rw [or_step hx (by omega) (by omega)], Lib.hid ?_, ?_⟩
        · rw [take_snoc s k hlt, le_snoc, HX.out, hl]
        · have : 256 ^ k * s[k].toNat + 256 ^ k ≤ 256 ^ (k + 1) := by rw [Nat.pow_succ, ← Nat.mul_succ]; exact Nat.mul_le_mul_left _ (by omega)
          omega
      case measure => simp [intOf]; omega
    · obtain rfl : k = s.size := by omega
      go_wp2_with fail
      go_ret2
      exact ⟨by rw [HX.out, List.take_of_length_le (by simp)]; rfl, rfl⟩
theorem get_bs (l : List UInt8) (hl : l.length ≤ 8) (w : World) :
    Calls Try.prog 45 #[.string (bs l)] w fun e w' => e = .returned (.tuple #[.int .u64 (le l : Nat), .int .i64 0]) ∧ w = w' := by
  have h := get_go (bs l) (by rw [bs_size]; exact hl) w
  rw [bs_data] at h
  exact h
end Go.Proofs.Ytcdmipgopffaaaa
