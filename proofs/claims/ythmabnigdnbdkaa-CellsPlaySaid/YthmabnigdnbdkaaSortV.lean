/- Sorting rows of uint64: the walks through reverseRangeOrdered, order2Ordered, medianOrdered, medianAdjacentOrdered, choosePivotOrdered. -/
import Derived.Test.YthmabnigdnbdkaaSortU
import Derived.Test.YthmabnigdnbdkaaBase2
import Derived.Test.YthmabnigdnbdkaaPdqPlain
namespace Go.Proofs.Ythmabnigdnbdkaa
open Go.RowKit Go.Sort
set_option maxRecDepth 20000
set_option linter.unusedVariables false
set_option linter.unusedSimpArgs false

set_option maxHeartbeats 2000000 in
theorem reverse_any {w : World} {g cap : Nat} {d : Array Int} (h : URow w g cap d) (hz : d.size ≤ 1000000) (a b : Nat) (hab : a ≤ b) (hb : b ≤ d.size) :
    Calls Try.prog 81 #[.slice (some ⟨g, 0, none⟩) d.size cap, .int .i64 a, .int .i64 b] w fun e w' => e = .returned (.tuple #[]) ∧ (∃ d', URow w' g cap d' ∧ PermIn a b d d') ∧ Fr (· = g) w w' := by
  generalize hN : d.size = N at *
  go_enter Try.func81, Try.ntmps81
  go_wp2_with fail
  go_loopw [6, 7] (fun v6 v7 wr => ∃ (i : Nat) (J : Int) (d' : Array Int), a ≤ i ∧ (i : Int) ≤ b ∧ -1 ≤ J ∧ J < b ∧ v6 = .int .i64 i ∧ v7 = .int .i64 J ∧ URow wr g cap d' ∧ Hid (PermIn a b d d') ∧ Fr (· = g) w wr) (fun v6 v7 _ => (intOf v7 - intOf v6 + 1).toNat)
  case atStart => exact ⟨a, (b : Int) - 1, d, Nat.le_refl _, by omega, by omega, by omega, rfl, by go_num, h, Lib.hid (permIn_refl _ _ _), Fr.refl _ _⟩
  case round =>
    obtain ⟨i, J, d', hai, hib, hJ0, hJb, rfl, rfl, hr, HP, hf⟩ := hrel
    by_cases hlt : (i : Int) < J
    · obtain ⟨j, rfl⟩ := Int.eq_ofNat_of_zero_le (show 0 ≤ J by omega)
      have dl : decide ((i : Int) < (j : Int)) = true := decide_eq_true hlt
      have hsz : d'.size = N := HP.out.1.trans hN
      have hci := hr.cell (i := i) (by omega)
      have hcj := hr.cell (i := j) (by omega)
      have hzi := hr.frz i
      have hzj := hr.frz j
      obtain ⟨x, hx⟩ : ∃ x, d'[i]! = x := ⟨_, rfl⟩
      obtain ⟨y, hy⟩ : ∃ y, d'[j]! = y := ⟨_, rfl⟩
      rw [hx] at hci
      rw [hy] at hcj
      have HX := Lib.hid hx
      have HY := Lib.hid hy
      have HS := Lib.hid hsz
      have k1 : (i : Int) < (N : Int) := by omega
      have k2 : (j : Int) < (N : Int) := by omega
      clear hx hy hsz
      go_wp2_with fail
      go_region
      go_wp2_with fail
      go_roundw
      case rel => exact ⟨i + 1, (j : Int) - 1, swp d' i j, by omega, by omega, by omega, by omega, by go_num, by go_num, hr.drew.swp _ _ HY.out HX.out, Lib.hid (permIn_trans _ _ _ _ _ HP.out (swp_permIn d' a b i j hai (by omega) (by omega) (by omega) (by have := HS.out; omega))), frg_set (frg_set (frg_drew hf) _ _) _ _⟩
      case measure => simp [intOf]; omega
    · have dl : decide ((i : Int) < J) = false := decide_eq_false hlt
      go_wp2_with fail
      go_end0
      exact ⟨rfl, ⟨d', hr, HP.out⟩, hf⟩

/-- A row, and a count beside it. -/
def RC (W : World) (g cap : Nat) (d : Array Int) (s : Nat) : Prop := URow W g cap d ∧ ∃ n : Int, W.heap[s]? = some (.cells #[.int .i64 n] 3 (0, 0))
set_option maxHeartbeats 1000000 in
theorem order2_any {w : World} {g cap s : Nat} {d : Array Int} (h : RC w g cap d s) (hsg : s ≠ g) (hz : d.size ≤ 1000000) (a b : Nat) (ha : a < d.size) (hb : b < d.size) :
    Calls Try.prog 94 #[.slice (some ⟨g, 0, none⟩) d.size cap, .int .i64 a, .int .i64 b, .pointer (some ⟨s, 0, none⟩)] w fun e w' => (∃ u v : Nat, e = .returned (.tuple #[.int .i64 u, .int .i64 v]) ∧ (u = a ∧ v = b ∨ u = b ∧ v = a)) ∧ RC w' g cap d s ∧ Fr (· = s) w w' := by
  obtain ⟨hr, n, hn⟩ := h
  have hca := hr.cell ha
  have hcb := hr.cell hb
  obtain ⟨x, hx⟩ : ∃ x, d[a]! = x := ⟨_, rfl⟩
  obtain ⟨y, hy⟩ : ∃ y, d[b]! = y := ⟨_, rfl⟩
  rw [hx] at hca
  rw [hy] at hcb
  have k1 : (a : Int) < (d.size : Int) := by omega
  have k2 : (b : Int) < (d.size : Int) := by omega
  have s0 := cl_of hn 0
  have z0 := fz_of hn 0
  clear hx hy ha hb
  generalize hN : d.size = N at *
  clear hN
  by_cases hxy : y < x
  · go_enter Try.func94, Try.ntmps94
    go_wp2_with fail
    go_quiet ((go_at_call 83; exact Calls.quiet_of_same (less_yes hxy _)))
    go_wp2_with fail
    go_ret2
    refine ⟨⟨b, a, rfl, .inr ⟨rfl, rfl⟩⟩, ⟨?_, _, blk_here hn 0 _⟩, frg_set (fr_drewN _ _) _ _⟩
    obtain ⟨cur, hb2, h2⟩ := hr
    exact ⟨cur, (Below.heap_setCell _ _ _ g (fun e => hsg e.symm)).trans hb2, h2⟩
  · go_enter Try.func94, Try.ntmps94
    go_wp2_with fail
    go_quiet ((go_at_call 83; exact Calls.quiet_of_same (less_no (by omega) _)))
    go_wp2_with fail
    go_ret2
    exact ⟨⟨a, b, rfl, .inl ⟨rfl, rfl⟩⟩, ⟨hr.drewN, n, hn⟩, fr_drewN _ _⟩
end Go.Proofs.Ythmabnigdnbdkaa
