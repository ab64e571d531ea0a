/- Sorting rows of uint64: the walk through partialInsertionSortOrdered. -/
import Derived.Test.YthmabnigdnbdkaaSortV
import Derived.Deep.DeepCutAuto
import Derived.Deep.CutBlock
namespace Go.Proofs.Ythmabnigdnbdkaa
open Go.RowKit Go.Sort
set_option maxRecDepth 20000
set_option linter.unusedVariables false
set_option linter.unusedSimpArgs false

theorem size_shiftDown : ∀ (j : Nat) (d : Array Int), (shiftDown ltInt j d).size = d.size
  | 0, d => rfl
  | j + 1, d => by
    rw [shiftDown]
    split
    · rfl
    · rw [size_shiftDown j, size_swp]
theorem size_shiftUp (b : Nat) : ∀ (n j : Nat) (d : Array Int), b - j ≤ n → (shiftUp ltInt b j d).size = d.size := by
  intro n
  induction n with
  | zero => intro j d h; rw [shiftUp, if_neg (by omega)]
  | succ n ih =>
    intro j d h
    rw [shiftUp]
    split
    · split
      · rfl
      · rw [ih _ _ (by omega), size_swp]
    · rfl
set_option maxHeartbeats 16000000 in
theorem partins_any {w : World} {g cap : Nat} {d : Array Int} (h : URow w g cap d) (hz : d.size ≤ 1000000) (a b : Nat) (hab : a < b) (hb : b ≤ d.size) :
    Calls Try.prog 82 #[.slice (some ⟨g, 0, none⟩) d.size cap, .int .i64 a, .int .i64 b] w fun e w' => (∃ q : Bool, e = .returned (.bool q) ∧ ∃ D, URow w' g cap D ∧ partialInsertionSort ltInt d a b = (D, q)) ∧ Fr (· = g) w w' := by
  have hS : partialInsertionSort ltInt d a b = partialIns ltInt a b 5 (a + 1) d := rfl
  rw [hS]
  obtain ⟨R, hR⟩ : ∃ R, partialIns ltInt a b 5 (a + 1) d = R := ⟨_, rfl⟩
  have HR := Lib.hid hR
  rw [hR]
  clear hR hS
  generalize hN : d.size = N at *
  have HNd : Hid (d.size = N) := hN
  clear hN
  have hba : ((b : Int) - (a : Int)) = (((b - a : Nat)) : Int) := by omega
  go_enter Try.func82, Try.ntmps82
  go_wp2_with fail
  go_loopw [7, 8] (fun v7 v8 wr => ∃ (i s : Nat) (D : Array Int), v7 = .int .i64 i ∧ v8 = .int .i64 (5 - (s : Int)) ∧ s ≤ 5 ∧ a + 1 ≤ i ∧ i ≤ b ∧ URow wr g cap D ∧ Hid (D.size = N) ∧ Hid (partialIns ltInt a b s i D = R) ∧ Fr (· = g) w wr) (fun _ v8 _ => (5 - intOf v8).toNat)
  case atStart => exact ⟨a + 1, 5, d, by go_num, by go_num, by omega, by omega, by omega, h, HNd, HR, Fr.refl _ _⟩
  case round =>
    obtain ⟨i, s, D, rfl, rfl, hs5, hai, hib, hr, HS, HI, hf⟩ := hrel
    clear h
    cases s with
    | zero =>
      have e5 : (5 : Int) - (((0 : Nat)) : Int) = 5 := by omega
      rw [e5]
      have hR : (D, false) = R := HI.out
      go_wp2_with fail
      go_ret
      exact ⟨⟨false, rfl, D, hr, hR.symm⟩, hf⟩
    | succ s =>
      have e5 : (5 : Int) - (((s + 1 : Nat)) : Int) = 4 - (s : Int) := by omega
      rw [e5]
      have d5 : decide (4 - (s : Int) < 5) = true := decide_eq_true (by omega)
      obtain ⟨I, hI⟩ : ∃ I, scanSorted ltInt D b i = I := ⟨_, rfl⟩
      have HSC := Lib.hid hI
      rw [partialIns] at HI
      dsimp only at HI
      rw [hI] at HI
      clear hI
      obtain ⟨wo, rfl⟩ : ∃ wo : World, wo = wr := ⟨_, rfl⟩
      go_upto_block 2 with (fail)
      go_cut [7] (fun s7 wx => s7 = .int .i64 I ∧ i ≤ I ∧ I ≤ b ∧ URow wx g cap D ∧ Fr (· = g) w wx)
      case first =>
        go_wp2_with fail
        go_loopw [7] (fun v7 wr => ∃ i' : Nat, v7 = .int .i64 i' ∧ i ≤ i' ∧ i' ≤ b ∧ Hid (scanSorted ltInt D b i' = I) ∧ URow wr g cap D ∧ Fr (· = g) w wr) (fun v7 _ => b + 1 - (intOf v7).toNat)
        case atStart => exact ⟨i, rfl, Nat.le_refl _, hib, HSC, hr, hf⟩
        case round =>
          obtain ⟨i', rfl, hii, hib', HQ, hr2, hf2⟩ := hrel
          clear hr hf
          rw [scanSorted] at HQ
          by_cases hlt : i' < b
          · obtain ⟨k, rfl⟩ : ∃ k, i' = k + 1 := ⟨i' - 1, by omega⟩
            rw [Nat.add_sub_cancel] at HQ
            have dl : decide ((k : Int) + 1 < (b : Int)) = true := decide_eq_true (by omega)
            have dln : decide (k + 1 < b) = true := decide_eq_true hlt
            have hc1 := hr2.cell (i := k + 1) (by rw [HS.out]; omega)
            have hc0 := hr2.cell (i := k) (by rw [HS.out]; omega)
            obtain ⟨x, hx⟩ : ∃ x, D[k + 1]! = x := ⟨_, rfl⟩
            obtain ⟨y, hy⟩ : ∃ y, D[k]! = y := ⟨_, rfl⟩
            rw [hx] at hc1
            rw [hy] at hc0
            have HX := Lib.hid hx
            have HY := Lib.hid hy
            clear hx hy
            have hn0 : (k : Int) + 1 < (N : Int) := by omega
            have hn1 : (0 : Int) ≤ (k : Int) + 1 := by omega
            have hn2 : (k : Int) < (N : Int) := by omega
            have hn3 : ((k : Int) + 1).toNat = k + 1 := by omega
            have hn4 : IntKind.i64.wrap ((k : Int) + 1 - 1) = k := by rw [IntWalk.i64_in _ (by omega)]; omega
            have hn5 : IntKind.i64.wrap (k : Int) = k := IntWalk.i64_in _ (by omega)
            have hn6 : IntKind.i64.wrap ((k : Int) + 1) = (k : Int) + 1 := IntWalk.i64_in _ (by omega)
            by_cases hxy : x < y
            · rw [if_neg (by rw [HX.out, HY.out]; simp [ltInt, hxy])] at HQ
              go_wp2_with fail
              go_quiet ((go_at_call 83; exact Calls.quiet_of_same (less_yes hxy _)))
              go_wp2_with fail
              go_meet
              exact ⟨by rw [← HQ.out], by have := HQ.out; omega, by have := HQ.out; omega, hr2.drewN, hf2.trans (fr_drewN _ _)⟩
            · rw [if_pos (by rw [HX.out, HY.out]; simp [ltInt, hxy, hlt])] at HQ
              go_wp2_with fail
              go_quiet ((go_at_call 83; exact Calls.quiet_of_same (less_no (by omega) _)))
              go_wp2_with fail
              go_roundw
              case rel => exact ⟨k + 1 + 1, by go_num, by omega, by omega, HQ, hr2.drewN, hf2.trans (fr_drewN _ _)⟩
              case measure => simp [intOf]; omega
          · rw [if_neg (by simp [hlt])] at HQ
            have dl : decide ((i' : Int) < (b : Int)) = false := decide_eq_false (by omega)
            have dln : decide (i' < b) = false := decide_eq_false hlt
            go_wp2_with fail
            go_quiet (fail)
            go_wp2_with fail
            go_meet
            exact ⟨by rw [← HQ.out], by have := HQ.out; omega, by have := HQ.out; omega, hr2.drewN, hf2.trans (fr_drewN _ _)⟩
      case rest =>
        obtain ⟨rfl, hiI, hIb, hr1, hf1⟩ := hcut
        clear hr hf
        by_cases hIe : I = b
        · rw [if_pos hIe] at HI
          have hR := HI.out
          have dI : ((I : Int) == (b : Int)) = true := by simp [hIe]
          have HIe := Lib.hid hIe
          clear hIe
          go_wp2_with fail
          go_ret
          exact ⟨⟨true, rfl, D, hr1, hR.symm⟩, hf1⟩
        rw [if_neg hIe] at HI
        have dI : ((I : Int) == (b : Int)) = false := by simp; omega
        have hIlt : I < b := by omega
        by_cases h50 : b - a < 50
        · rw [if_pos h50] at HI
          have hR := HI.out
          have d50 : decide ((((b - a : Nat)) : Int) < 50) = true := decide_eq_true (by omega)
          have d50n : decide (b - a < 50) = true := decide_eq_true h50
          clear hIe
          go_wp2_with fail
          go_ret
          exact ⟨⟨false, rfl, D, hr1, hR.symm⟩, hf1⟩
        rw [if_neg h50] at HI
        have d50 : decide ((((b - a : Nat)) : Int) < 50) = false := decide_eq_false (by omega)
        have d50n : decide (b - a < 50) = false := decide_eq_false h50
        obtain ⟨k, rfl⟩ : ∃ k, I = k + 1 := ⟨I - 1, by omega⟩
        rw [Nat.add_sub_cancel] at HI
        clear hIe
        have hc1 := hr1.cell (i := k + 1) (by rw [HS.out]; omega)
        have hc0 := hr1.cell (i := k) (by rw [HS.out]; omega)
        have hz1 := hr1.frz (k + 1)
        have hz0 := hr1.frz k
        obtain ⟨x, hx⟩ : ∃ x, D[k + 1]! = x := ⟨_, rfl⟩
        obtain ⟨y, hy⟩ : ∃ y, D[k]! = y := ⟨_, rfl⟩
        rw [hx] at hc1
        rw [hy] at hc0
        have HX := Lib.hid hx
        have HY := Lib.hid hy
        clear hx hy
        have hn0 : (k : Int) + 1 < (N : Int) := by omega
        have hn1 : (0 : Int) ≤ (k : Int) + 1 := by omega
        have hn2 : (k : Int) < (N : Int) := by omega
        have hn3 : ((k : Int) + 1).toNat = k + 1 := by omega
        have hn4 : IntKind.i64.wrap ((k : Int) + 1 - 1) = k := by rw [IntWalk.i64_in _ (by omega)]; omega
        have hn5 : IntKind.i64.wrap (k : Int) = k := IntWalk.i64_in _ (by omega)
        have hn6 : IntKind.i64.wrap ((k : Int) + 1) = (k : Int) + 1 := IntWalk.i64_in _ (by omega)
        obtain ⟨D2, hD2⟩ : ∃ D2, (if k + 1 - a ≥ 2 then shiftDown ltInt k (swp D (k + 1) k) else swp D (k + 1) k) = D2 := ⟨_, rfl⟩
        have HD2 := Lib.hid hD2
        rw [hD2] at HI
        have hD2s : D2.size = N := by
          rw [← hD2]
          split
          · rw [size_shiftDown, size_swp]; exact HS.out
          · rw [size_swp]; exact HS.out
        have HS2 := Lib.hid hD2s
        obtain ⟨D3, hD3⟩ : ∃ D3, (if b - (k + 1) ≥ 2 then shiftUp ltInt b (k + 1 + 1) D2 else D2) = D3 := ⟨_, rfl⟩
        have HD3 := Lib.hid hD3
        rw [hD3] at HI
        have hD3s : D3.size = N := by
          rw [← hD3]
          split
          · rw [size_shiftUp b b _ _ (by omega)]; exact HS2.out
          · exact HS2.out
        have HS3 := Lib.hid hD3s
        clear hD2 hD2s hD3 hD3s
        go_upto_region 11 with (fail)
        go_region
        have hrs := hr1.drew.swp (k + 1) k HY.out HX.out
        have hfs := frg_set (frg_set (frg_drew hf1) (k + 1) (.int .u64 y)) k (.int .u64 x)
        have HSw : Hid ((swp D (k + 1) k).size = N) := by show _ = _; rw [size_swp]; exact HS.out
        clear hc1 hc0 hz1 hz0 hr1 hf1 HX HY
        have ik1 : (k : Int) + 1 - (a : Int) = (((k + 1 - a : Nat)) : Int) := by omega
        have ik2 : (b : Int) - ((k : Int) + 1) = (((b - (k + 1) : Nat)) : Int) := by omega
        generalize hT : swp D (k + 1) k = T at *
        clear hT
        go_upto_if 61 with (fail)
        go_cut [] (fun wx => URow wx g cap D2 ∧ Fr (· = g) w wx)
        case first =>
          by_cases h2 : k + 1 - a ≥ 2
          · have hD2 := HD2.out
            rw [if_pos h2] at hD2
            have HQ0 := Lib.hid hD2
            have d2 : decide ((((k + 1 - a : Nat)) : Int) ≥ 2) = true := decide_eq_true (by omega)
            have d2n : decide (2 ≤ k + 1 - a) = true := decide_eq_true h2
            clear hD2
            go_wp2_with fail
            go_loopw [9] (fun v9 wr => ∃ (j : Nat) (Dj : Array Int), v9 = .int .i64 j ∧ j ≤ k ∧ URow wr g cap Dj ∧ Hid (Dj.size = N) ∧ Hid (shiftDown ltInt j Dj = D2) ∧ Fr (· = g) w wr) (fun v9 _ => (intOf v9).toNat)
            case atStart => exact ⟨k, T, by go_num, Nat.le_refl _, hrs, HSw, HQ0, hfs⟩
            case round =>
              obtain ⟨j, Dj, rfl, hjk, hr2, HS4, HQ, hf2⟩ := hrel
              clear hrs hfs
              cases j with
              | zero =>
                have hq : Dj = D2 := HQ.out
                rw [hq] at hr2
                go_wp2_with fail
                go_meet
                exact ⟨hr2, hf2⟩
              | succ j =>
                have dj : decide ((j : Int) + 1 ≥ 1) = true := decide_eq_true (by omega)
                have djn : decide (1 ≤ j + 1) = true := decide_eq_true (by omega)
                rw [shiftDown] at HQ
                have hc1j := hr2.cell (i := j + 1) (by rw [HS4.out]; omega)
                have hc0j := hr2.cell (i := j) (by rw [HS4.out]; omega)
                have hz1j := hr2.frz (j + 1)
                have hz0j := hr2.frz j
                obtain ⟨xj, hxj⟩ : ∃ xj, Dj[j + 1]! = xj := ⟨_, rfl⟩
                obtain ⟨yj, hyj⟩ : ∃ yj, Dj[j]! = yj := ⟨_, rfl⟩
                rw [hxj] at hc1j
                rw [hyj] at hc0j
                have HXj := Lib.hid hxj
                have HYj := Lib.hid hyj
                clear hxj hyj
                have hn0j : (j : Int) + 1 < (N : Int) := by omega
                have hn1j : (0 : Int) ≤ (j : Int) + 1 := by omega
                have hn2j : (j : Int) < (N : Int) := by omega
                have hn3j : ((j : Int) + 1).toNat = j + 1 := by omega
                have hn4j : IntKind.i64.wrap ((j : Int) + 1 - 1) = j := by rw [IntWalk.i64_in _ (by omega)]; omega
                have hn5j : IntKind.i64.wrap (j : Int) = j := IntWalk.i64_in _ (by omega)
                have hn6j : IntKind.i64.wrap ((j : Int) + 1) = (j : Int) + 1 := IntWalk.i64_in _ (by omega)
                by_cases hxy : xj < yj
                · rw [if_neg (by rw [HXj.out, HYj.out]; simp [ltInt, hxy])] at HQ
                  go_wp2_with fail
                  go_quiet ((go_at_call 83; exact Calls.quiet_of_same (less_yes hxy _)))
                  go_wp2_with fail
                  obtain ⟨wq, hwq⟩ : ∃ wq, wr.drewN nq = wq := ⟨_, rfl⟩
                  have hrq : URow wq g cap Dj := hwq ▸ hr2.drewN
                  have hfq : Fr (· = g) w wq := hwq ▸ hf2.trans (fr_drewN _ _)
                  rw [hwq]
                  have c1 := hrq.cell (i := j + 1) (by rw [HS4.out]; omega)
                  have c0 := hrq.cell (i := j) (by rw [HS4.out]; omega)
                  have y1 := hrq.frz (j + 1)
                  have y0 := hrq.frz j
                  rw [HXj.out] at c1
                  rw [HYj.out] at c0
                  clear hwq hc1j hc0j hz1j hz0j
                  go_region
                  go_wp2_with fail
                  go_roundw
                  case rel => exact ⟨j, swp Dj (j + 1) j, by go_num, by omega, hrq.drew.swp _ _ HYj.out HXj.out, Lib.hid (by rw [size_swp]; exact HS4.out), HQ, frg_set (frg_set (frg_drew hfq) _ _) _ _⟩
                  case measure => simp [intOf]
                · rw [if_pos (by rw [HXj.out, HYj.out]; simp [ltInt, hxy])] at HQ
                  have hq : Dj = D2 := HQ.out
                  rw [hq] at hr2
                  go_wp2_with fail
                  go_quiet ((go_at_call 83; exact Calls.quiet_of_same (less_no (by omega) _)))
                  go_wp2_with fail
                  go_meet
                  exact ⟨hr2.drewN, hf2.trans (fr_drewN _ _)⟩
          · have hD2 := HD2.out
            rw [if_neg h2] at hD2
            have d2 : decide ((((k + 1 - a : Nat)) : Int) ≥ 2) = false := decide_eq_false (by omega)
            have d2n : decide (2 ≤ k + 1 - a) = false := decide_eq_false h2
            rw [hD2] at hrs
            clear hD2
            go_wp2_with fail
            go_meet
            exact ⟨hrs, hfs⟩
        case rest =>
          obtain ⟨hr2, hf2⟩ := hcut
          clear hrs hfs
          have HEND : Hid (∀ W, URow W g cap D3 ∧ Fr (· = g) w W → ∃ (i s' : Nat) (D : Array Int), Value.int .i64 ((k : Int) + 1) = .int .i64 i ∧ Value.int .i64 (4 - (s : Int) + 1) = .int .i64 (5 - (s' : Int)) ∧ s' ≤ 5 ∧ a + 1 ≤ i ∧ i ≤ b ∧ URow W g cap D ∧ Hid (D.size = N) ∧ Hid (partialIns ltInt a b s' i D = R) ∧ Fr (· = g) w W) := fun W hW => ⟨k + 1, s, D3, (by go_num), (by congr 1; omega), by omega, by omega, by omega, hW.1, HS3, HI, hW.2⟩
          by_cases h2 : b - (k + 1) ≥ 2
          · have hD3 := HD3.out
            rw [if_pos h2] at hD3
            have HQ0 := Lib.hid hD3
            have d2 : decide ((((b - (k + 1) : Nat)) : Int) ≥ 2) = true := decide_eq_true (by omega)
            have d2n : decide (2 ≤ b - (k + 1)) = true := decide_eq_true h2
            clear hD3
            go_wp2_with fail
            go_loopw [10] (fun v10 wr => ∃ (j : Nat) (Dj : Array Int), v10 = .int .i64 j ∧ 1 ≤ j ∧ j ≤ b ∧ URow wr g cap Dj ∧ Hid (Dj.size = N) ∧ Hid (shiftUp ltInt b j Dj = D3) ∧ Fr (· = g) w wr) (fun v10 _ => b + 1 - (intOf v10).toNat)
            case atStart => exact ⟨k + 1 + 1, D2, by go_num, by omega, by omega, hr2, HS2, HQ0, hf2⟩
            case round =>
              obtain ⟨j, Dj, rfl, hj1, hjb, hr3, HS4, HQ, hf3⟩ := hrel
              clear hr2 hf2
              have hr2 := hr3
              have hf2 := hf3
              clear hr3 hf3
              rw [shiftUp] at HQ
              by_cases hlt : j < b
              · rw [if_pos hlt] at HQ
                obtain ⟨j, rfl⟩ : ∃ k, j = k + 1 := ⟨j - 1, by omega⟩
                rw [Nat.add_sub_cancel] at HQ
                have dl : decide ((j : Int) + 1 < (b : Int)) = true := decide_eq_true (by omega)
                have dln : decide (j + 1 < b) = true := decide_eq_true hlt
                have hc1j := hr2.cell (i := j + 1) (by rw [HS4.out]; omega)
                have hc0j := hr2.cell (i := j) (by rw [HS4.out]; omega)
                have hz1j := hr2.frz (j + 1)
                have hz0j := hr2.frz j
                obtain ⟨xj, hxj⟩ : ∃ xj, Dj[j + 1]! = xj := ⟨_, rfl⟩
                obtain ⟨yj, hyj⟩ : ∃ yj, Dj[j]! = yj := ⟨_, rfl⟩
                rw [hxj] at hc1j
                rw [hyj] at hc0j
                have HXj := Lib.hid hxj
                have HYj := Lib.hid hyj
                clear hxj hyj
                have hn0j : (j : Int) + 1 < (N : Int) := by omega
                have hn1j : (0 : Int) ≤ (j : Int) + 1 := by omega
                have hn2j : (j : Int) < (N : Int) := by omega
                have hn3j : ((j : Int) + 1).toNat = j + 1 := by omega
                have hn4j : IntKind.i64.wrap ((j : Int) + 1 - 1) = j := by rw [IntWalk.i64_in _ (by omega)]; omega
                have hn5j : IntKind.i64.wrap (j : Int) = j := IntWalk.i64_in _ (by omega)
                have hn6j : IntKind.i64.wrap ((j : Int) + 1) = (j : Int) + 1 := IntWalk.i64_in _ (by omega)
                by_cases hxy : xj < yj
                · rw [if_neg (by rw [HXj.out, HYj.out]; simp [ltInt, hxy])] at HQ
                  go_wp2_with fail
                  go_quiet ((go_at_call 83; exact Calls.quiet_of_same (less_yes hxy _)))
                  go_wp2_with fail
                  obtain ⟨wq, hwq⟩ : ∃ wq, wr.drewN nq = wq := ⟨_, rfl⟩
                  have hrq : URow wq g cap Dj := hwq ▸ hr2.drewN
                  have hfq : Fr (· = g) w wq := hwq ▸ hf2.trans (fr_drewN _ _)
                  rw [hwq]
                  have c1 := hrq.cell (i := j + 1) (by rw [HS4.out]; omega)
                  have c0 := hrq.cell (i := j) (by rw [HS4.out]; omega)
                  have y1 := hrq.frz (j + 1)
                  have y0 := hrq.frz j
                  rw [HXj.out] at c1
                  rw [HYj.out] at c0
                  clear hwq hc1j hc0j hz1j hz0j
                  go_region
                  go_wp2_with fail
                  go_roundw
                  case rel => exact ⟨j + 1 + 1, swp Dj (j + 1) j, by go_num, by omega, by omega, hrq.drew.swp _ _ HYj.out HXj.out, Lib.hid (by rw [size_swp]; exact HS4.out), HQ, frg_set (frg_set (frg_drew hfq) _ _) _ _⟩
                  case measure => simp [intOf]; omega
                · rw [if_pos (by rw [HXj.out, HYj.out]; simp [ltInt, hxy])] at HQ
                  have hq : Dj = D3 := HQ.out
                  rw [hq] at hr2
                  go_wp2_with fail
                  go_quiet ((go_at_call 83; exact Calls.quiet_of_same (less_no (by omega) _)))
                  go_wp2_with fail
                  go_roundw
                  case rel => exact HEND.out _ ⟨hr2.drewN, hf2.trans (fr_drewN _ _)⟩
                  case measure => simp [intOf]; omega
              · rw [if_neg hlt] at HQ
                have dl : decide ((j : Int) < (b : Int)) = false := decide_eq_false (by omega)
                have dln : decide (j < b) = false := decide_eq_false hlt
                have hq : Dj = D3 := HQ.out
                rw [hq] at hr2
                go_wp2_with fail
                go_roundw
                case rel => exact HEND.out _ ⟨hr2, hf2⟩
                case measure => simp [intOf]; omega
          · have hD3 := HD3.out
            rw [if_neg h2] at hD3
            have d2 : decide ((((b - (k + 1) : Nat)) : Int) ≥ 2) = false := decide_eq_false (by omega)
            have d2n : decide (2 ≤ b - (k + 1)) = false := decide_eq_false h2
            rw [hD3] at hr2
            clear hD3
            go_wp2_with fail
            go_roundw
            case rel => exact HEND.out _ ⟨hr2, hf2⟩
            case measure => simp [intOf]; omega
end Go.Proofs.Ythmabnigdnbdkaa
