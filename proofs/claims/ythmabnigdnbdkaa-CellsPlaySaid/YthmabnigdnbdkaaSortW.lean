/- Sorting rows of uint64: the walks through medianOrdered, medianAdjacentOrdered, choosePivotOrdered. -/
import Derived.Test.YthmabnigdnbdkaaSortV
namespace Go.Proofs.Ythmabnigdnbdkaa
open Go.RowKit Go.Sort
set_option maxRecDepth 20000
set_option linter.unusedVariables false
set_option linter.unusedSimpArgs false

set_option maxHeartbeats 1000000 in
theorem median_any {w : World} {g cap s : Nat} {d : Array Int} (h : RC w g cap d s) (hsg : s ≠ g) (hz : d.size ≤ 1000000) (a b c : Nat) (ha : a < d.size) (hb : b < d.size) (hc : c < d.size) :
    Calls Try.prog 92 #[.slice (some ⟨g, 0, none⟩) d.size cap, .int .i64 a, .int .i64 b, .int .i64 c, .pointer (some ⟨s, 0, none⟩)] w fun e w' => (∃ r : Nat, e = .returned (.int .i64 r) ∧ (r = a ∨ r = b ∨ r = c)) ∧ RC w' g cap d s ∧ Fr (· = s) w w' := by
  go_enter Try.func92, Try.ntmps92
  go_wp2_with fail
  refine (order2_any h hsg hz a b ha hb).mono ?_
  rintro e w1 ⟨⟨u1, v1, rfl, h1⟩, hr1, hf1⟩
  have hu1 : u1 < d.size := by omega
  have hv1 : v1 < d.size := by omega
  go_wp2_with fail
  refine (order2_any hr1 hsg hz v1 c hv1 hc).mono ?_
  rintro e w2 ⟨⟨u2, v2, rfl, h2⟩, hr2, hf2⟩
  have hu2 : u2 < d.size := by omega
  go_wp2_with fail
  refine (order2_any hr2 hsg hz u1 u2 hu1 hu2).mono ?_
  rintro e w3 ⟨⟨u3, v3, rfl, h3⟩, hr3, hf3⟩
  go_wp2_with fail
  go_ret
  exact ⟨⟨v3, rfl, by omega⟩, hr3, (hf1.trans hf2).trans hf3⟩
set_option maxHeartbeats 1000000 in
theorem medadj_any {w : World} {g cap s : Nat} {d : Array Int} (h : RC w g cap d s) (hsg : s ≠ g) (hz : d.size ≤ 1000000) (a : Nat) (ha : a + 1 < d.size) (h1 : 1 ≤ a) :
    Calls Try.prog 91 #[.slice (some ⟨g, 0, none⟩) d.size cap, .int .i64 a, .pointer (some ⟨s, 0, none⟩)] w fun e w' => (∃ r : Nat, e = .returned (.int .i64 r) ∧ a ≤ r + 1 ∧ r ≤ a + 1) ∧ RC w' g cap d s ∧ Fr (· = s) w w' := by
  have hm := median_any h hsg hz (a - 1) a (a + 1) (by omega) (by omega) ha
  have e1 : (((a - 1 : Nat)) : Int) = (a : Int) - 1 := by omega
  have e2 : (((a + 1 : Nat)) : Int) = (a : Int) + 1 := by omega
  rw [e1, e2] at hm
  have w1 : IntKind.i64.wrap ((a : Int) - 1) = (a : Int) - 1 := IntWalk.i64_in _ (by omega)
  have HM := Lib.hid hm
  clear hm e1 e2
  go_enter Try.func91, Try.ntmps91
  go_wp2_with fail
  refine HM.out.mono ?_
  rintro e w1 ⟨⟨r, rfl, h2⟩, hr, hf⟩
  go_wp2_with fail
  go_ret
  exact ⟨⟨r, rfl, by omega, by omega⟩, hr, hf⟩

set_option maxHeartbeats 4000000 in
theorem pivot_any {w : World} {g cap : Nat} {d : Array Int} (h : URow w g cap d) (hz : d.size ≤ 1000000) (a b : Nat) (hab : a < b) (hb : b ≤ d.size) :
    Calls Try.prog 80 #[.slice (some ⟨g, 0, none⟩) d.size cap, .int .i64 a, .int .i64 b] w fun e w' => (∃ (p : Nat) (hn : Int), e = .returned (.tuple #[.int .i64 p, .int .i64 hn]) ∧ a ≤ p ∧ p < b) ∧ URow w' g cap d ∧ Below w.heap.size w w' := by
  have hgl : g < w.heap.size := by
    obtain ⟨cur, hb2, -⟩ := h
    exact (Array.getElem?_eq_some_iff.1 hb2).1
  have hsg : w.heap.size ≠ g := by omega
  have hB0 := bnew w (.cells #[.int .i64 0] 3)
  have h0 : RC (w.alloc (.cells #[.int .i64 0] 3)) g cap d w.heap.size := by
    refine ⟨?_, 0, hp_new _ _ rfl⟩
    obtain ⟨cur, hb2, h2⟩ := h
    exact ⟨cur, (hp_old _ _ hgl).trans hb2, h2⟩
  have hfin : ∀ W, RC W g cap d w.heap.size → Fr (· = w.heap.size) (w.alloc (.cells #[.int .i64 0] 3)) W → URow W g cap d ∧ Below w.heap.size w W := fun W h1 h2 =>
    ⟨h1.1, Fr.step hB0 h2 (by simp) (fun k hk => by omega)⟩
  have HFIN := Lib.hid hfin
  obtain ⟨q, hq⟩ : ∃ q, (b - a) / 4 = q := ⟨_, rfl⟩
  have e0 : ((b : Int) - (a : Int)) / 4 = (q : Int) := by omega
  have hq4 : 4 * q ≤ b - a := by omega
  have E0 := Lib.hid e0
  obtain ⟨i, hi⟩ : ∃ i, a + q = i := ⟨_, rfl⟩
  obtain ⟨j, hj⟩ : ∃ j, a + q * 2 = j := ⟨_, rfl⟩
  obtain ⟨k, hk⟩ : ∃ k, a + q * 3 = k := ⟨_, rfl⟩
  have eI : (a : Int) + (q : Int) = (i : Int) := by omega
  have eJ : (a : Int) + (q : Int) * 2 = (j : Int) := by omega
  have eK : (a : Int) + (q : Int) * 3 = (k : Int) := by omega
  have i1 : a ≤ i ∧ i < b := by omega
  have j1 : a ≤ j ∧ j < b := by omega
  have k1 : a ≤ k ∧ k < b := by omega
  have hq12 : 50 ≤ b - a → 12 ≤ q := by omega
  clear hq
  by_cases h8 : 8 ≤ b - a
  · have d8 : decide ((b : Int) - (a : Int) ≥ 8) = true := decide_eq_true (by omega)
    by_cases h50 : 50 ≤ b - a
    · have d50 : decide ((b : Int) - (a : Int) ≥ 50) = true := decide_eq_true (by omega)
      have q12 := hq12 h50
      have i2 : 1 ≤ i ∧ i + 1 < d.size := by omega
      have j2 : 1 ≤ j ∧ j + 1 < d.size := by omega
      have k2 : 1 ≤ k ∧ k + 1 < d.size := by omega
      have i3 : a + 1 ≤ i ∧ i + 1 < b := by omega
      have j3 : a + 1 ≤ j ∧ j + 1 < b := by omega
      have k3 : a + 1 ≤ k ∧ k + 1 < b := by omega
      clear hq12 hi hj hk hq4 q12
      go_enter Try.func80, Try.ntmps80
      go_wp2_with fail
      refine (medadj_any h0 hsg hz i i2.2 i2.1).mono ?_
      rintro e w1 ⟨⟨r1, rfl, p1, p2⟩, hr1, hf1⟩
      go_wp2_with fail
      refine (medadj_any hr1 hsg hz j j2.2 j2.1).mono ?_
      rintro e w2 ⟨⟨r2, rfl, p3, p4⟩, hr2, hf2⟩
      go_wp2_with fail
      refine (medadj_any hr2 hsg hz k k2.2 k2.1).mono ?_
      rintro e w3 ⟨⟨r3, rfl, p5, p6⟩, hr3, hf3⟩
      go_wp2_with fail
      refine (median_any hr3 hsg hz r1 r2 r3 (by omega) (by omega) (by omega)).mono ?_
      rintro e w4 ⟨⟨r, rfl, hrr⟩, hr4, hf4⟩
      have hF := HFIN.out w4 hr4 (((hf1.trans hf2).trans hf3).trans hf4)
      obtain ⟨hur, n, hn⟩ := hr4
      have s0 := cl_of hn 0
      have hrb : a ≤ r ∧ r < b := by omega
      by_cases n0 : n = 0
      · have b0 : (n == 0) = true := by simp [n0]
        go_wp2_with fail
        go_ret2
        exact ⟨⟨r, _, rfl, hrb.1, hrb.2⟩, hF⟩
      · have b0 : (n == 0) = false := by simp [n0]
        by_cases n12 : n = 12
        · have b1 : (n == 12) = true := by simp [n12]
          go_wp2_with fail
          go_ret2
          exact ⟨⟨r, _, rfl, hrb.1, hrb.2⟩, hF⟩
        · have b1 : (n == 12) = false := by simp [n12]
          go_wp2_with fail
          go_ret2
          exact ⟨⟨r, _, rfl, hrb.1, hrb.2⟩, hF⟩
    · have d50 : decide ((b : Int) - (a : Int) ≥ 50) = false := decide_eq_false (by omega)
      clear hq12 hi hj hk hq4
      go_enter Try.func80, Try.ntmps80
      go_wp2_with fail
      refine (median_any h0 hsg hz i j k (by omega) (by omega) (by omega)).mono ?_
      rintro e w4 ⟨⟨r, rfl, hrr⟩, hr4, hf4⟩
      have hF := HFIN.out w4 hr4 hf4
      obtain ⟨hur, n, hn⟩ := hr4
      have s0 := cl_of hn 0
      have hrb : a ≤ r ∧ r < b := by omega
      by_cases n0 : n = 0
      · have b0 : (n == 0) = true := by simp [n0]
        go_wp2_with fail
        go_ret2
        exact ⟨⟨r, _, rfl, hrb.1, hrb.2⟩, hF⟩
      · have b0 : (n == 0) = false := by simp [n0]
        by_cases n12 : n = 12
        · have b1 : (n == 12) = true := by simp [n12]
          go_wp2_with fail
          go_ret2
          exact ⟨⟨r, _, rfl, hrb.1, hrb.2⟩, hF⟩
        · have b1 : (n == 12) = false := by simp [n12]
          go_wp2_with fail
          go_ret2
          exact ⟨⟨r, _, rfl, hrb.1, hrb.2⟩, hF⟩
  · have d8 : decide ((b : Int) - (a : Int) ≥ 8) = false := decide_eq_false (by omega)
    have hF := HFIN.out _ h0 (Fr.refl _ _)
    clear hq12 hi hj hk hq4
    go_enter Try.func80, Try.ntmps80
    go_wp2_with fail
    go_ret2
    exact ⟨⟨j, _, rfl, j1.1, j1.2⟩, hF⟩
end Go.Proofs.Ythmabnigdnbdkaa
