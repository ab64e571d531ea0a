/- The walk through octet.Num: n bytes of a number. -/
import Derived.Test.YtcdmipgopffaaaaProg
import Derived.Deep.OwnRows
import Derived.Test.YtcdmipgopffaaaaBase
import Derived.Test.YtcdmipgopffaaaaCrcPlain
namespace Go.Proofs.Ytcdmipgopffaaaa
open Go.RowKit
set_option maxRecDepth 20000

theorem bs_append (l m : List UInt8) : bs l ++ bs m = bs (l ++ m) := by
  apply ByteArray.ext
  simp [bs, ByteArray.data_append]

/-- Bytes as cells. -/
def bc (l : List UInt8) : Array Value := (l.map fun b => Value.int .u8 (b.toNat : Int)).toArray
theorem bc_size (l : List UInt8) : (bc l).size = l.length := by simp [bc]
theorem bc_get {l : List UInt8} {i : Nat} (h : i < l.length) : (bc l)[i]? = some (.int .u8 (l[i].toNat : Int)) := by
  simp [bc, h]
theorem bc_set (l : List UInt8) (i : Nat) (b : UInt8) : (bc l).setIfInBounds i (.int .u8 (b.toNat : Int)) = bc (l.set i b) := by
  apply Array.ext'
  simp [bc, List.map_set]

/-- A number's bytes when k of n are laid. -/
def numK (v n k : Nat) : List UInt8 := bytesLE v k ++ List.replicate (n - k) 0
theorem numK_length {v n k : Nat} (h : k ≤ n) : (numK v n k).length = n := by simp [numK, bytesLE_length]; omega
theorem numK_all (v n : Nat) : numK v n n = bytesLE v n := by simp [numK]
theorem numK_set {v n k : Nat} (h : k < n) : (numK v n k).set k (UInt8.ofNat (v / 256 ^ k % 256)) = numK v n (k + 1) := by
  have e : n - k = (n - (k + 1)) + 1 := by omega
  rw [numK, e, List.replicate_succ, List.set_append_right _ _ (by rw [bytesLE_length]; omega), bytesLE_length, Nat.sub_self, List.set_cons_zero, numK, bytesLE_snoc, List.append_assoc]
  rfl
theorem made_bytes (n v : Nat) : madeCells #[Value.int .u8 0] n = bc (numK v n 0) := by
  apply Array.ext'
  simp [madeCells, bc, numK, bytesLE, Array.toList_range]
  apply List.ext_getElem <;> simp [Nat.mod_one]

theorem Try.infoU8 : (Try.prog.info? 5).map (fun i => (i.zero, i.size, i.bytes)) = some (some (.int .u8 0), 1, 1) := by kernel_rfl

theorem numK_step {v n k : Nat} (h : k < n) : (bc (numK v n k)).setIfInBounds k (.int .u8 ((v : Int) / 256 ^ k % 256)) = bc (numK v n (k + 1)) := by
  rw [← numK_set h, ← bc_set]
  congr 2
  simp

theorem pow_mul_int (v k : Nat) : (v : Int) / 2 ^ (8 * k) = ((v / 256 ^ k : Nat) : Int) := by
  rw [show 256 ^ k = 2 ^ (8 * k) by rw [Nat.pow_mul]]
  simp

set_option maxHeartbeats 400000 in
theorem num_ok (v n : Nat) (_hv : v < 18446744073709551616) (hn : n ≤ 8) (hfit : n = 8 ∨ v < 256 ^ n) (w : World) :
    Calls Try.prog 42 #[.int .u64 v, .int .i64 n] w fun e w' => e = .returned (.tuple #[.string (bs (bytesLE v n)), .int .i64 0]) ∧ Below w.heap.size w w' := by
  have hmk := run_make_row' (P := Try.prog) 31 5 (.int .u8 0) 1 Try.underlying31 Try.infoU8 rfl .i64 .i64 n (by omega) (by omega)
  rw [made_bytes n v] at hmk
  have hsh : n < 8 → ((v : Int) / 2 ^ (8 * n) != 0) = false := by
    intro h
    have hp : v < 256 ^ n := by rcases hfit with e | e <;> omega
    have : (v : Int) / 2 ^ (8 * n) = 0 := by
      have e1 : v / 2 ^ (8 * n) = 0 := Nat.div_eq_of_lt (by rw [Nat.pow_mul]; exact hp)
      have := congrArg (Int.ofNat) e1
      simpa using this
    rw [this]; rfl
  have hbyte : ∀ k, IntKind.u8.wrap ((v : Int) / 2 ^ (8 * k)) = ((UInt8.ofNat (v / 256 ^ k % 256)).toNat : Int) := by
    intro k
    rw [IntKind.wrap_u8', pow_mul_int v k]
    simp
  have hback := fun (W : World) (h : ∀ j (hj : j < (bytesLE v n).length), W.cell? ((⟨w.heap.size, 0, none⟩ : Addr).add j) = some (.int .u8 ((bytesLE v n)[j].toNat : Int))) => run_convert_bytes_back (P := Try.prog) W 31 9 5 ⟨w.heap.size, 0, none⟩ n (bytesLE v n) Try.underlying31 Try.underlying5 Try.underlying9 h
  have hback' : (convert 31 9 (.slice (some ⟨w.heap.size, 0, none⟩) n n)).run Try.prog (w.alloc (.cells (bc (bytesLE v n)) 5)) = .ok (.string (bs (bytesLE v n))) (w.alloc (.cells (bc (bytesLE v n)) 5)) := by
    have := hback (w.alloc (.cells (bc (bytesLE v n)) 5)) (fun j hj => by
      rw [Addr.add_lit, Nat.zero_add, cl_of (hp_new w _ rfl), bc_get hj])
    rw [bytesLE_length] at this
    exact this
  clear hback
  rcases Nat.lt_or_ge n 8 with h8 | h8
  all_goals
    try (have hs := hsh h8)
    clear hsh
    go_enter Try.func42, Try.ntmps42
    go_wp2_with fail
    go_loopw [28] (fun i wr => ∃ k : Nat, k ≤ n ∧ i = .int .i64 k ∧ wr = w.alloc (.cells (bc (numK v n k)) 5)) (fun i _ => n - (intOf i).toNat)
    case atStart => exact ⟨0, by omega, rfl, rfl⟩
    case round =>
      obtain ⟨k, hk, rfl, rfl⟩ := hrel
      by_cases hlt : k < n
      · have hb := hbyte k
        have hkl : k < (numK v n k).length := by rw [numK_length hk]; exact hlt
        have hg := bc_get hkl
        go_wp2_with fail
        go_roundw
        case rel => exact ⟨k + 1, by omega, by go_num, by rw [numK_step hlt]⟩
        case measure => simp [intOf]; omega
      · obtain rfl : k = n := by omega
        have HC := hback'
        rw [← numK_all] at HC
        go_wp2_with fail
        go_ret2
        exact ⟨by rw [← numK_all v k]; rfl, (Below.refl _ _).alloc (Nat.le_refl _) _⟩

set_option maxHeartbeats 400000 in
/-- .. and what has no such bytes has none. -/
theorem num_no (v : Nat) (n : Int) (_hv : v < 18446744073709551616) (hn : -9223372036854775808 ≤ n) (hn' : n ≤ 9223372036854775807) (hfit : n < 0 ∨ 8 < n ∨ (n < 8 ∧ 256 ^ n.toNat ≤ v)) (w : World) :
    Calls Try.prog 42 #[.int .u64 v, .int .i64 n] w fun e w' => e = .returned (.tuple #[.string (bs []), .int .i64 2]) ∧ w' = w := by
  by_cases h0 : n < 0
  · go_enter Try.func42, Try.ntmps42
    go_wp2_with fail
    go_ret2
    exact ⟨rfl, rfl⟩
  · by_cases h8 : 8 < n
    · go_enter Try.func42, Try.ntmps42
      go_wp2_with fail
      go_ret2
      exact ⟨rfl, rfl⟩
    · obtain ⟨m, rfl⟩ := Int.eq_ofNat_of_zero_le (Int.not_lt.1 h0)
      have hm : m < 8 ∧ 256 ^ m ≤ v := by
        rcases hfit with h | h | ⟨h, k⟩
        · omega
        · omega
        · exact ⟨by omega, by simpa using k⟩
      have hs : ((v : Int) / 2 ^ (8 * m) != 0) = true := by
        rw [pow_mul_int, bne_iff_ne]
        have := Nat.div_pos hm.2 (Nat.pow_pos (by decide))
        omega
      have hm8 := hm.1
      clear hm hfit
      go_enter Try.func42, Try.ntmps42
      go_wp2_with fail
      go_ret2
      exact ⟨rfl, rfl⟩
end Go.Proofs.Ytcdmipgopffaaaa
