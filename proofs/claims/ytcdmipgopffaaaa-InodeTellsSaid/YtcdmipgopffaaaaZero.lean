/- Noughts as bytes: 'string(make([]byte, n))'; a number's bytes for whole numbers. -/
import Derived.Test.YtcdmipgopffaaaaOctet
import Derived.Test.YtcdmipgopffaaaaBase2
namespace Go.Proofs.Ytcdmipgopffaaaa
open Go.RowKit

def zeros (n : Nat) : List UInt8 := List.replicate n 0
theorem zeros_length (n : Nat) : (zeros n).length = n := by simp [zeros]
theorem made_zeros (n : Nat) : madeCells #[Value.int .u8 0] n = bc (zeros n) := by
  apply Array.ext'
  simp [madeCells, bc, zeros, Array.toList_range]
  apply List.ext_getElem <;> simp [Nat.mod_one]
theorem make_zeros (n : Nat) (hn : n ≤ 1000000) (w : World) : (Instr.makeSlice 31 (.int .i64 n) (.int .i64 n)).run Try.prog w = .ok (.slice (some ⟨w.heap.size, 0, none⟩) n n) (w.alloc (.cells (bc (zeros n)) 5)) := by
  have h := run_make_row' (P := Try.prog) 31 5 (.int .u8 0) 1 Try.underlying31 Try.infoU8 rfl .i64 .i64 n (by omega) (by omega) w
  rw [made_zeros] at h
  exact h
theorem conv_new (l : List UInt8) (n : Nat) (hn : l.length = n) (w : World) : (convert 31 9 (.slice (some ⟨w.heap.size, 0, none⟩) n n)).run Try.prog (w.alloc (.cells (bc l) 5)) = .ok (.string (bs l)) (w.alloc (.cells (bc l) 5)) := by
  subst hn
  exact run_convert_bytes_back (P := Try.prog) (w.alloc (.cells (bc l) 5)) 31 9 5 ⟨w.heap.size, 0, none⟩ l.length l Try.underlying31 Try.underlying5 Try.underlying9 (fun j hj => by
    rw [Addr.add_lit, Nat.zero_add, cl_of (hp_new w _ rfl), bc_get hj])

theorem num_any' (v n : Int) (h0 : 0 ≤ v) (hv : v < 18446744073709551616) (hn : 0 ≤ n) (hn8 : n ≤ 8) (hfit : n = 8 ∨ v.toNat < 256 ^ n.toNat) (w : World) :
    Calls Try.prog 42 #[.int .u64 v, .int .i64 n] w fun e w' => e = .returned (.tuple #[.string (bs (bytesLE v.toNat n.toNat)), .int .i64 0]) ∧ Below w.heap.size w w' := by
  obtain ⟨v, rfl⟩ := Int.eq_ofNat_of_zero_le h0
  obtain ⟨n, rfl⟩ := Int.eq_ofNat_of_zero_le hn
  exact num_ok v n (by omega) (by omega) (by rcases hfit with h | h; exact .inl (by omega); exact .inr (by simpa using h)) w

theorem bs_toList' (l : List UInt8) : (bs l).toList = l := by rw [Go.ByteArray.toList_eq]; simp [bs]
theorem bs_take' (l : List UInt8) (k : Nat) : (bs l).extract 0 k = bs (l.take k) := by
  apply ByteArray.ext
  simp [bs, ByteArray.data_extract]
theorem bs_extract (l : List UInt8) (i k : Nat) : (bs l).extract i k = bs ((l.take k).drop i) := by
  apply ByteArray.ext
  simp only [bs, ByteArray.data_extract]
  apply Array.ext'
  simp
  rw [List.take_drop]
  by_cases h : i ≤ k
  · rw [show i + (k - i) = k by omega]
  · rw [List.drop_eq_nil_of_le (by simp; omega), List.drop_eq_nil_of_le (by simp; omega)]
theorem bs_eq' {a b : List UInt8} (h : a = b) : ((bs a).toList == (bs b).toList) = true := by rw [h]; simp
theorem bs_ne' {a b : List UInt8} (h : ¬ a = b) : ((bs a).toList == (bs b).toList) = false := by
  rw [bs_toList', bs_toList']; simpa using h
end Go.Proofs.Ytcdmipgopffaaaa
