/- What an indirect block tells: plain laws. -/
import Derived.Test.YtjjphcnoegaimaaGreatGS
namespace Go.Proofs.YtjjphcnoegaimaaGreat
open Go.RowKit
set_option maxRecDepth 20000

theorem wf_u16 {n : Int} (h0 : 0 ≤ n) (h1 : n < 65536) : (Lit.int .u16 n).wf = true := by
  simp [Lit.wf, IntKind.min, IntKind.max, IntKind.signed, IntKind.bits]
  omega
theorem gots_bd : ∀ (l : List UInt8) (k : Nat), 0 ≤ (gots l).getD k 0 ∧ (gots l).getD k 0 < 65536
  | [], k => by simp [gots]
  | [_], k => by simp [gots]
  | a :: b :: l, k => by
    rw [gots_two]
    cases k with
    | zero => have := a.toNat_lt; have := b.toNat_lt; simp; omega
    | succ k => simpa using gots_bd l k
theorem gots_two_bytes {z : Int} (h0 : 0 ≤ z) (h1 : z < 65536) (l : List UInt8) : gots (bytesLE z.toNat 2 ++ l) = z :: gots l := by
  obtain ⟨n, rfl⟩ := Int.eq_ofNat_of_zero_le h0
  have e : bytesLE (n : Int).toNat 2 = [UInt8.ofNat (n % 256), UInt8.ofNat (n / 256 % 256)] := by simp [bytesLE]
  rw [e]
  show gots (_ :: _ :: l) = _
  rw [gots_two]
  have e1 : (UInt8.ofNat (n % 256)).toNat = n % 256 := by simp
  have e2 : (UInt8.ofNat (n / 256 % 256)).toNat = n / 256 % 256 := by simp
  rw [e1, e2]
  congr 1
  omega
theorem gots_pby {zs : List Int} (h : ∀ z ∈ zs, (Lit.int .u16 z).wf = true) (l : List UInt8) : gots (pby zs ++ l) = zs ++ gots l := by
  induction zs with
  | nil => rfl
  | cons z zs ih =>
    obtain ⟨h0, h1⟩ := wfu16 (h z (List.mem_cons_self ..))
    rw [pby, List.flatMap_cons, List.append_assoc, gots_two_bytes h0 h1]
    have := ih (fun y hy => h y (List.mem_cons_of_mem _ hy))
    rw [pby] at this
    rw [this, List.cons_append]
theorem gots_zeros : ∀ n : Nat, gots (zeros (2 * n)) = List.replicate n 0
  | 0 => rfl
  | n + 1 => by
    have e : zeros (2 * (n + 1)) = 0 :: 0 :: zeros (2 * n) := by simp [zeros, Nat.mul_add, List.replicate_succ]
    rw [e, gots_two, gots_zeros n, List.replicate_succ]
    rfl
theorem gots_wf (l : List UInt8) : ∀ n ∈ gots l, (Lit.int .u16 n).wf = true := by
  intro n hn
  obtain ⟨k, hk, rfl⟩ := List.getElem_of_mem hn
  have h := gots_bd l k
  rw [List.getD_eq_getElem?_getD, List.getElem?_eq_getElem hk, Option.getD_some] at h
  exact wf_u16 h.1 h.2
def tolds (zs : List Int) : List Int := zs ++ List.replicate (32 - zs.length) 0
theorem gots_told {zs : List Int} (h : ∀ z ∈ zs, (Lit.int .u16 z).wf = true) (hl : zs.length ≤ 32) : gots (pby zs ++ zeros (64 - 2 * zs.length)) = tolds zs := by
  rw [gots_pby h, show 64 - 2 * zs.length = 2 * (32 - zs.length) by omega, gots_zeros]
  rfl
theorem u16s_get (zs : List Int) {k : Nat} (hk : k < zs.length) : (u16s zs)[k]? = some (.int .u16 (zs.getD k 0)) := by
  rw [u16s, List.getElem?_map, List.getElem?_eq_getElem hk, List.getD_eq_getElem?_getD, List.getElem?_eq_getElem hk]
  rfl
theorem tellB_told {zs : List Int} (h : ∀ z ∈ zs, (Lit.int .u16 z).wf = true) (hl : zs.length = 32) : gots (pby zs ++ zeros (64 - 2 * zs.length)) = zs := by
  rw [gots_told h (by omega), tolds, hl]
  simp
end Go.Proofs.YtjjphcnoegaimaaGreat
