/- The document's answer for package geo: its walks. -/
import Derived.Test.YtcdmipgopffaaaaGeoRises
import Derived.Deep.DeepCutAuto
namespace Go.Proofs.Ytcdmipgopffaaaa
open Go.RowKit
set_option maxRecDepth 20000

set_option maxHeartbeats 1000000 in
theorem rmay_yes {i b j : Int} (h : Mays i b j) (w : World) : Calls Try.prog 21 #[.agg #[.int .i64 i, .int .i64 b, .int .i64 j]] w fun e w' => e = .returned (.bool true) ∧ Below w.heap.size w w' := by
  obtain ⟨i0, i1, b0, b1, j0, j1⟩ := h
  go_enter Try.func21, Try.ntmps21
  go_wp2_with fail
  go_ret
  exact ⟨rfl, bnew _ _⟩
set_option maxHeartbeats 1000000 in
theorem rmay_no {i b j : Int} (h : ¬ Mays i b j) (w : World) : Calls Try.prog 21 #[.agg #[.int .i64 i, .int .i64 b, .int .i64 j]] w fun e w' => e = .returned (.bool false) ∧ Below w.heap.size w w' := by
  have H := Lib.hid h
  clear h
  by_cases h1 : 2 ≤ i
  · by_cases h2 : i ≤ 256
    · by_cases h3 : 8 ≤ b
      · by_cases h4 : b ≤ 1024
        · by_cases h5 : 40 ≤ j
          · by_cases h6 : j ≤ 256
            · exact absurd ⟨h1, h2, h3, h4, h5, h6⟩ H.out
            · go_enter Try.func21, Try.ntmps21
              go_wp2_with fail
              go_ret
              exact ⟨rfl, bnew _ _⟩
          · go_enter Try.func21, Try.ntmps21
            go_wp2_with fail
            go_ret
            exact ⟨rfl, bnew _ _⟩
        · go_enter Try.func21, Try.ntmps21
          go_wp2_with fail
          go_ret
          exact ⟨rfl, bnew _ _⟩
      · go_enter Try.func21, Try.ntmps21
        go_wp2_with fail
        go_ret
        exact ⟨rfl, bnew _ _⟩
    · go_enter Try.func21, Try.ntmps21
      go_wp2_with fail
      go_ret
      exact ⟨rfl, bnew _ _⟩
  · go_enter Try.func21, Try.ntmps21
    go_wp2_with fail
    go_ret
    exact ⟨rfl, bnew _ _⟩

set_option maxHeartbeats 1000000 in
theorem rsizes_any {i b j : Int} (h : Mays i b j) (w : World) : Calls Try.prog 48 #[.agg #[.int .i64 i, .int .i64 b, .int .i64 j]] w fun e w' => (∃ g, e = .returned (.slice (some ⟨g, 0, none⟩) 6 6) ∧ w.heap.size ≤ g ∧ w'.heap[g]? = some (.cells (szc i b j) 3 (0, 0))) ∧ Below w.heap.size w w' := by
  obtain ⟨i0, i1, b0, b1, j0, j1⟩ := h
  go_enter Try.func48, Try.ntmps48
  go_wp2_with fail
  rw [show i + 1 + 511 = i + 512 by omega, show b + 1 + 511 = b + 512 by omega]
  go_wp2_with fail
  go_ret
  exact ⟨⟨w.heap.size + 1, rfl, by omega, hp_new _ _ (by simp)⟩, bal (bnew _ _) _⟩

set_option maxHeartbeats 1000000 in
theorem rpart_no {i b j part : Int} (h : ¬ (0 ≤ part ∧ part < 6)) (w : World) : Calls Try.prog 23 #[.agg #[.int .i64 i, .int .i64 b, .int .i64 j], .int .i64 part] w fun e w' => e = .returned (.tuple #[.agg #[.int .i64 0, .int .i64 0], .int .i64 2]) ∧ Below w.heap.size w w' := by
  by_cases h0 : part < 0
  · go_enter Try.func23, Try.ntmps23
    go_wp2_with fail
    exact bodyPost_ret (v := .tuple #[.agg #[.int .i64 0, .int .i64 0], .int .i64 2]) (by simp [results, Try.results23, go_sem]) rfl ⟨rfl, bal (bnew _ _) _⟩
  · have h6 : 6 ≤ part := by omega
    go_enter Try.func23, Try.ntmps23
    go_wp2_with fail
    exact bodyPost_ret (v := .tuple #[.agg #[.int .i64 0, .int .i64 0], .int .i64 2]) (by simp [results, Try.results23, go_sem]) rfl ⟨rfl, bal (bnew _ _) _⟩

set_option maxHeartbeats 2000000 in
theorem rpart_yes {i b j : Int} (h : Mays i b j) (p : Nat) (hp : p < 6) (w : World) : Calls Try.prog 23 #[.agg #[.int .i64 i, .int .i64 b, .int .i64 j], .int .i64 p] w fun e w' => e = .returned (.tuple #[.agg #[.int .i64 (fr i b j p), .int .i64 (sz i b j p)], .int .i64 0]) ∧ Below w.heap.size w w' := by
  have c0 : ((w.alloc (.cells #[.int .i64 i, .int .i64 b, .int .i64 j] 23)).alloc (.cells #[.int .i64 0, .int .i64 0] 34)).heap[w.heap.size + 1]? = some (.cells #[.int .i64 0, .int .i64 0] 34 (0, 0)) := hp_new _ _ (by simp)
  go_enter Try.func23, Try.ntmps23
  go_wp2_with fail
  refine (rsizes_any h _).mono ?_
  rintro e w2 ⟨⟨g, rfl, hgb, hg⟩, hB2⟩
  have hS := bblk hB2 c0
  have B2 := bt (bal (bnew w (.cells #[.int .i64 i, .int .i64 b, .int .i64 j] 23)) (.cells #[.int .i64 0, .int .i64 0] 34)) hB2
  have s0 := cl_of hS 0
  have s1 := cl_of hS 1
  have z0 := fz_of hS 0
  have z1 := fz_of hS 1
  clear c0 hB2
  go_wp2_with fail
  go_loop [7, 8] (fun n v => ∃ k : Nat, ∃ F : Int, k ≤ p ∧ v = .int .i64 k ∧ n = .int .i64 F ∧ Hid (F = fr i b j k) ∧ 0 ≤ F ∧ F ≤ 2000) (fun _ v => p - (intOf v).toNat)
  case atStart => exact ⟨0, 0, by omega, rfl, rfl, Lib.hid rfl, by omega, by omega⟩
  case round =>
    obtain ⟨k, F, hk, rfl, rfl, HF, f0, f1⟩ := hrel
    have hk6 : k < 6 := by omega
    have hq := (cl_of hg k).trans (szc_get i b j hk6)
    have hsb := sz_bd h hk6
    have HS := Lib.hid (fr_succ i b j hk6)
    generalize hz : sz i b j k = Z at *
    have HZ := Lib.hid hz
    clear hz
    by_cases hlt : k < p
    · go_wp2_with fail
      go_round
      case rel => exact ⟨k + 1, F + Z, by omega, by go_num, rfl, Lib.hid (by rw [HS.out, HF.out]), by omega, by have := fr_bd h (k := k + 1) (by omega); rw [HS.out, ← HF.out] at this; omega⟩
      case measure => simp [intOf]; omega
    · obtain rfl : k = p := by omega
      clear hlt
      go_wp2_with fail
      exact bodyPost_ret (v := .tuple #[.agg #[.int .i64 F, .int .i64 Z], .int .i64 0]) (by simp [results, Try.results23, go_sem, s0, s1]) rfl ⟨by rw [HF.out, HZ.out], (B2.setCell (by simp) _).setCell (by simp) _⟩

set_option maxHeartbeats 1000000 in
theorem rsectors_no {i b j : Int} (h : ¬ Mays i b j) (w : World) : Calls Try.prog 22 #[.agg #[.int .i64 i, .int .i64 b, .int .i64 j]] w fun e w' => e = .returned (.int .i64 0) ∧ Below w.heap.size w w' := by
  go_enter Try.func22, Try.ntmps22
  go_wp2_with fail
  refine (rmay_no h _).mono ?_
  rintro e w1 ⟨rfl, hB⟩
  go_wp2_with fail
  go_ret
  exact ⟨rfl, bt (bnew _ _) hB⟩
set_option maxHeartbeats 1000000 in
theorem rsectors_yes {i b j : Int} (h : Mays i b j) (w : World) : Calls Try.prog 22 #[.agg #[.int .i64 i, .int .i64 b, .int .i64 j]] w fun e w' => e = .returned (.int .i64 (fr i b j 6)) ∧ Below w.heap.size w w' := by
  have d0 := hp_new w (.cells #[.int .i64 i, .int .i64 b, .int .i64 j] 23) rfl
  go_enter Try.func22, Try.ntmps22
  go_wp2_with fail
  refine (rmay_yes h _).mono ?_
  rintro e w1 ⟨rfl, hB⟩
  have hG := bblk hB d0
  have g0 := cl_of hG 0
  have g1 := cl_of hG 1
  have g2 := cl_of hG 2
  have B1 := bt (bnew w (.cells #[.int .i64 i, .int .i64 b, .int .i64 j] 23)) hB
  go_wp2_with fail
  refine (rpart_yes h 5 (by decide) _).mono ?_
  have hf5 := fr_bd h (k := 5) (by decide)
  have hs5 := sz_bd h (k := 5) (by decide)
  have HS := Lib.hid (fr_succ i b j (k := 5) (by decide))
  rintro e w2 ⟨rfl, hB2⟩
  generalize fr i b j 5 = F at *
  generalize sz i b j 5 = Z at *
  go_wp2_with fail
  go_ret
  exact ⟨by rw [HS.out]; rfl, bal (bt B1 hB2) _⟩
end Go.Proofs.Ytcdmipgopffaaaa
