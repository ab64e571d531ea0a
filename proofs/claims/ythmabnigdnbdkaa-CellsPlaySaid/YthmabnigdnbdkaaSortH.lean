/- Sorting rows of uint64: the walks through siftDownOrdered and heapSortOrdered. -/
import Derived.Test.YthmabnigdnbdkaaSortU
namespace Go.Proofs.Ythmabnigdnbdkaa
open Go.RowKit Go.Sort
set_option maxRecDepth 20000
set_option linter.unusedVariables false
set_option linter.unusedSimpArgs false

theorem size_siftDown (lt : Int → Int → Bool) (hi first : Nat) : ∀ (n root : Nat) (d : Array Int), hi - root ≤ n → (siftDown lt hi first root d).size = d.size := by
  intro n
  induction n with
  | zero =>
    intro root d h
    rw [siftDown, dif_pos (by omega)]
  | succ n ih =>
    intro root d h
    rw [siftDown]
    split
    · rfl
    · split
      · split
        · rfl
        · split
          · rw [ih _ _ (by omega), size_swp]
          · rfl
      · split
        · rfl
        · rw [ih _ _ (by omega), size_swp]

set_option maxHeartbeats 8000000 in
theorem sift_any {w : World} {g cap : Nat} {d : Array Int} (h : URow w g cap d) (hz : d.size ≤ 1000000) (lo hi first : Nat) (hlo : lo ≤ 1000000) (hf1 : first + hi ≤ d.size) :
    Calls Try.prog 88 #[.slice (some ⟨g, 0, none⟩) d.size cap, .int .i64 lo, .int .i64 hi, .int .i64 first] w fun e w' => e = .returned (.tuple #[]) ∧ URow w' g cap (siftDown ltInt hi first lo d) ∧ Fr (· = g) w w' := by
  generalize hD : siftDown ltInt hi first lo d = D
  have HD := Lib.hid hD
  clear hD
  generalize hN : d.size = N at *
  go_enter Try.func88, Try.ntmps88
  go_wp2_with fail
  go_loopw [8] (fun v8 wr => ∃ (r : Nat) (d' : Array Int), r ≤ 1000000 ∧ v8 = .int .i64 r ∧ URow wr g cap d' ∧ Hid (d'.size = N) ∧ Hid (siftDown ltInt hi first r d' = D) ∧ Fr (· = g) w wr) (fun v8 _ => hi + 1 - (intOf v8).toNat)
  case atStart => exact ⟨lo, d, hlo, rfl, h, Lib.hid hN, HD, Fr.refl _ _⟩
  case round =>
    obtain ⟨r, d', hr1, rfl, hr, HZ, HI, hf⟩ := hrel
    clear h HD
    rw [siftDown] at HI
    obtain ⟨c, hc⟩ : ∃ c, 2 * r + 1 = c := ⟨_, rfl⟩
    have eC : 2 * (r : Int) + 1 = (c : Int) := by omega
    have hc2 : 2 * r + 2 = c + 1 := by omega
    rw [hc, hc2] at HI
    have hrc : r < c := by omega
    have hcb : c ≤ 2000001 := by omega
    clear hc hc2
    by_cases h1 : c ≥ hi
    · rw [dif_pos h1] at HI
      have d1 : decide ((c : Int) ≥ (hi : Int)) = true := decide_eq_true (by omega)
      go_wp2_with fail
      go_end0
      exact ⟨rfl, HI.out ▸ hr, hf⟩
    rw [dif_neg h1] at HI
    have d1 : decide ((c : Int) ≥ (hi : Int)) = false := decide_eq_false (by omega)
    obtain ⟨F0, h0⟩ : ∃ F0, first + r = F0 := ⟨_, rfl⟩
    obtain ⟨F1, hF1⟩ : ∃ F1, first + c = F1 := ⟨_, rfl⟩
    have e0 : (first : Int) + (r : Int) = (F0 : Int) := by omega
    have e1 : (first : Int) + (c : Int) = (F1 : Int) := by omega
    have hF2 : first + (c + 1) = F1 + 1 := by omega
    have hF3 : first + c + 1 = F1 + 1 := by omega
    have e2 : (first : Int) + ((c : Int) + 1) = (F1 : Int) + 1 := by omega
    rw [h0, hF2, hF1] at HI
    have hb0 : F0 < N ∧ F1 < N ∧ F0 < F1 := by omega
    obtain ⟨b0, b1, b01⟩ := hb0
    have hlt2 : c + 1 < hi → F1 + 1 < N := by omega
    have k0 : (F0 : Int) < (N : Int) := by omega
    have w0 : IntKind.i64.wrap (F0 : Int) = F0 := IntWalk.i64_in _ (by omega)
    have w1 : IntKind.i64.wrap (F1 : Int) = F1 := IntWalk.i64_in _ (by omega)
    have w2 : IntKind.i64.wrap ((F1 : Int) + 1) = (F1 : Int) + 1 := IntWalk.i64_in _ (by omega)
    have k1 : (F1 : Int) < (N : Int) := by omega
    have c0 := hr.cell (i := F0) (by rw [HZ.out]; exact b0)
    have c1 := hr.cell (i := F1) (by rw [HZ.out]; exact b1)
    have z0 := hr.frz F0
    have z1 := hr.frz F1
    obtain ⟨x0, hx0⟩ : ∃ x0, d'[F0]! = x0 := ⟨_, rfl⟩
    obtain ⟨x1, hx1⟩ : ∃ x1, d'[F1]! = x1 := ⟨_, rfl⟩
    rw [hx0] at c0 HI
    rw [hx1] at c1 HI
    have X0 := Lib.hid hx0
    have X1 := Lib.hid hx1
    have HC : Hid (∀ W, URow W g cap d' → (W.cell? ⟨g, F0, none⟩ = some (.int .u64 x0) ∧ W.cell? ⟨g, F1, none⟩ = some (.int .u64 x1)) ∧ (W.frozen? ⟨g, F0, none⟩ = false ∧ W.frozen? ⟨g, F1, none⟩ = false)) := fun W hW => by
      rw [← hx0, ← hx1]
      exact ⟨⟨hW.cell (by rw [HZ.out]; exact b0), hW.cell (by rw [HZ.out]; exact b1)⟩, hW.frz _, hW.frz _⟩
    clear hx0 hx1 h0 hF1 hF2 hF3
    by_cases h2 : c + 1 < hi ∧ ltInt x1 d'[F1 + 1]! = true
    · obtain ⟨h2a, h2b⟩ := h2
      rw [if_pos (by rw [h2b]; simp [h2a])] at HI
      have d2 : decide ((c : Int) + 1 < (hi : Int)) = true := decide_eq_true (by omega)
      have b2 := hlt2 h2a
      have k2 : (F1 : Int) + 1 < (N : Int) := by omega
      have c2 := hr.cell (i := F1 + 1) (by rw [HZ.out]; exact b2)
      have z2 := hr.frz (F1 + 1)
      have t2 : ((F1 : Int) + 1).toNat = F1 + 1 := by omega
      obtain ⟨x2, hx2⟩ : ∃ x2, d'[F1 + 1]! = x2 := ⟨_, rfl⟩
      rw [hx2] at c2 HI h2b
      have X2 := Lib.hid hx2
      have HC2 : Hid (∀ W, URow W g cap d' → W.cell? ⟨g, F1 + 1, none⟩ = some (.int .u64 x2) ∧ W.frozen? ⟨g, F1 + 1, none⟩ = false) := fun W hW => by
        rw [← hx2]
        exact ⟨hW.cell (by rw [HZ.out]; exact b2), hW.frz _⟩
      clear hx2
      have hx12 : x1 < x2 := by simpa [ltInt] using h2b
      clear h2b
      by_cases h3 : x0 < x2
      · rw [if_neg (by simp [ltInt, h3]), dif_pos h2a] at HI
        go_wp2_with fail
        go_quiet ((go_at_call 83; exact Calls.quiet_of_same (less_yes hx12 _)))
        go_wp2_with fail
        obtain ⟨wq, hwq⟩ : ∃ wq, wr.drewN nq = wq := ⟨_, rfl⟩
        have hrq : URow wq g cap d' := hwq ▸ hr.drewN
        have hfq : Fr (· = g) w wq := hwq ▸ hf.trans (fr_drewN _ _)
        rw [hwq]
        clear hwq c0 c1 z0 z1 c2 z2
        obtain ⟨⟨c0, c1⟩, z0, z1⟩ := HC.out wq hrq
        obtain ⟨c2, z2⟩ := HC2.out wq hrq
        go_quiet ((go_at_call 83; exact Calls.quiet_of_same (less_yes h3 _)))
        go_wp2_with fail
        go_region
        go_wp2_with fail
        go_roundw
        case rel => exact ⟨c + 1, swp d' F0 (F1 + 1), by omega, by go_num, hrq.drewN.swp _ _ X2.out X0.out, Lib.hid (by rw [size_swp]; exact HZ.out), HI, frg_set (frg_set (hfq.trans (fr_drewN _ _)) _ _) _ _⟩
        case measure => simp [intOf]; omega
      · rw [if_pos (by simp [ltInt, h3])] at HI
        go_wp2_with fail
        go_quiet ((go_at_call 83; exact Calls.quiet_of_same (less_yes hx12 _)))
        go_wp2_with fail
        obtain ⟨wq, hwq⟩ : ∃ wq, wr.drewN nq = wq := ⟨_, rfl⟩
        have hrq : URow wq g cap d' := hwq ▸ hr.drewN
        have hfq : Fr (· = g) w wq := hwq ▸ hf.trans (fr_drewN _ _)
        rw [hwq]
        clear hwq c0 c1 z0 z1 c2 z2
        obtain ⟨⟨c0, c1⟩, z0, z1⟩ := HC.out wq hrq
        obtain ⟨c2, z2⟩ := HC2.out wq hrq
        go_quiet ((go_at_call 83; exact Calls.quiet_of_same (less_no (by omega) _)))
        go_wp2_with fail
        exact bodyPost_ret (results_none rfl _ _ _) rfl ⟨rfl, HI.out ▸ hrq.drewN, hfq.trans (fr_drewN _ _)⟩
    · rw [if_neg (by simpa using h2)] at HI
      by_cases h2a : c + 1 < hi
      · have h2b : ¬ x1 < d'[F1 + 1]! := fun e => h2 ⟨h2a, by simp [ltInt, e]⟩
        have d2 : decide ((c : Int) + 1 < (hi : Int)) = true := decide_eq_true (by omega)
        have b2 := hlt2 h2a
        have k2 : (F1 : Int) + 1 < (N : Int) := by omega
        have c2 := hr.cell (i := F1 + 1) (by rw [HZ.out]; exact b2)
        have t2 : ((F1 : Int) + 1).toNat = F1 + 1 := by omega
        obtain ⟨x2, hx2⟩ : ∃ x2, d'[F1 + 1]! = x2 := ⟨_, rfl⟩
        rw [hx2] at c2 h2b
        clear hx2 h2
        by_cases h3 : x0 < x1
        · rw [if_neg (by simp [ltInt, h3])] at HI
          go_wp2_with fail
          go_quiet ((go_at_call 83; exact Calls.quiet_of_same (less_no (by omega) _)))
          go_wp2_with fail
          obtain ⟨wq, hwq⟩ : ∃ wq, wr.drewN nq = wq := ⟨_, rfl⟩
          have hrq : URow wq g cap d' := hwq ▸ hr.drewN
          have hfq : Fr (· = g) w wq := hwq ▸ hf.trans (fr_drewN _ _)
          rw [hwq]
          clear hwq c0 c1 z0 z1
          obtain ⟨⟨c0, c1⟩, z0, z1⟩ := HC.out wq hrq
          go_quiet ((go_at_call 83; exact Calls.quiet_of_same (less_yes h3 _)))
          go_wp2_with fail
          go_region
          go_wp2_with fail
          go_roundw
          case rel => exact ⟨c, swp d' F0 F1, by omega, by go_num, hrq.drewN.swp _ _ X1.out X0.out, Lib.hid (by rw [size_swp]; exact HZ.out), HI, frg_set (frg_set (hfq.trans (fr_drewN _ _)) _ _) _ _⟩
          case measure => simp [intOf]; omega
        · rw [if_pos (by simp [ltInt, h3])] at HI
          go_wp2_with fail
          go_quiet ((go_at_call 83; exact Calls.quiet_of_same (less_no (by omega) _)))
          go_wp2_with fail
          obtain ⟨wq, hwq⟩ : ∃ wq, wr.drewN nq = wq := ⟨_, rfl⟩
          have hrq : URow wq g cap d' := hwq ▸ hr.drewN
          have hfq : Fr (· = g) w wq := hwq ▸ hf.trans (fr_drewN _ _)
          rw [hwq]
          clear hwq c0 c1 z0 z1
          obtain ⟨⟨c0, c1⟩, z0, z1⟩ := HC.out wq hrq
          go_quiet ((go_at_call 83; exact Calls.quiet_of_same (less_no (by omega) _)))
          go_wp2_with fail
          exact bodyPost_ret (results_none rfl _ _ _) rfl ⟨rfl, HI.out ▸ hrq.drewN, hfq.trans (fr_drewN _ _)⟩
      · have d2 : decide ((c : Int) + 1 < (hi : Int)) = false := decide_eq_false (by omega)
        clear h2
        by_cases h3 : x0 < x1
        · rw [if_neg (by simp [ltInt, h3])] at HI
          go_wp2_with fail
          go_quiet (fail)
          go_wp2_with fail
          obtain ⟨wq, hwq⟩ : ∃ wq, wr.drewN nq = wq := ⟨_, rfl⟩
          have hrq : URow wq g cap d' := hwq ▸ hr.drewN
          have hfq : Fr (· = g) w wq := hwq ▸ hf.trans (fr_drewN _ _)
          rw [hwq]
          clear hwq c0 c1 z0 z1
          obtain ⟨⟨c0, c1⟩, z0, z1⟩ := HC.out wq hrq
          go_quiet ((go_at_call 83; exact Calls.quiet_of_same (less_yes h3 _)))
          go_wp2_with fail
          go_region
          go_wp2_with fail
          go_roundw
          case rel => exact ⟨c, swp d' F0 F1, by omega, by go_num, hrq.drewN.swp _ _ X1.out X0.out, Lib.hid (by rw [size_swp]; exact HZ.out), HI, frg_set (frg_set (hfq.trans (fr_drewN _ _)) _ _) _ _⟩
          case measure => simp [intOf]; omega
        · rw [if_pos (by simp [ltInt, h3])] at HI
          go_wp2_with fail
          go_quiet (fail)
          go_wp2_with fail
          obtain ⟨wq, hwq⟩ : ∃ wq, wr.drewN nq = wq := ⟨_, rfl⟩
          have hrq : URow wq g cap d' := hwq ▸ hr.drewN
          have hfq : Fr (· = g) w wq := hwq ▸ hf.trans (fr_drewN _ _)
          rw [hwq]
          clear hwq c0 c1 z0 z1
          obtain ⟨⟨c0, c1⟩, z0, z1⟩ := HC.out wq hrq
          go_quiet ((go_at_call 83; exact Calls.quiet_of_same (less_no (by omega) _)))
          go_wp2_with fail
          exact bodyPost_ret (results_none rfl _ _ _) rfl ⟨rfl, HI.out ▸ hrq.drewN, hfq.trans (fr_drewN _ _)⟩

set_option maxHeartbeats 4000000 in
theorem heap_any {w : World} {g cap : Nat} {d : Array Int} (h : URow w g cap d) (hz : d.size ≤ 1000000) (a b : Nat) (hab : a ≤ b) (hb : b ≤ d.size) :
    Calls Try.prog 78 #[.slice (some ⟨g, 0, none⟩) d.size cap, .int .i64 a, .int .i64 b] w fun e w' => e = .returned (.tuple #[]) ∧ URow w' g cap (heapSort ltInt d a b) ∧ Fr (· = g) w w' := by
  have hS : heapSort ltInt d a b = heapPop ltInt a (b - a) (heapBuild ltInt (b - a) a ((b - a - 1) / 2 + 1) d) := rfl
  rw [hS]
  clear hS
  obtain ⟨n, hn⟩ : ∃ n, b - a = n := ⟨_, rfl⟩
  rw [hn]
  have en : (b : Int) - (a : Int) = (n : Int) := by omega
  have hnb : a + n = b := by omega
  have wn : IntKind.i64.wrap (n : Int) = n := IntWalk.i64_in _ (by omega)
  have HB := Lib.hid hb
  obtain ⟨m, hm⟩ : ∃ m, (n - 1) / 2 + 1 = m := ⟨_, rfl⟩
  rw [hm]
  have em : ((n : Int) - 1) / 2 = (m : Int) - 1 ∨ n = 0 := by omega
  have hmb : m ≤ 1000000 := by omega
  obtain ⟨D1, hD1⟩ : ∃ D1, heapBuild ltInt n a m d = D1 := ⟨_, rfl⟩
  have HD1 := Lib.hid hD1
  rw [hD1]
  obtain ⟨D2, hD2⟩ : ∃ D2, heapPop ltInt a n D1 = D2 := ⟨_, rfl⟩
  have HD2 := Lib.hid hD2
  rw [hD2]
  clear hD1 hD2
  generalize hN : d.size = N at *
  have hq : Int.tdiv ((n : Int) - 1) 2 = (m : Int) - 1 := by
    rcases Nat.eq_zero_or_pos n with e | e
    · subst e; subst hm; rfl
    · rw [Int.tdiv_eq_ediv_of_nonneg (by omega)]; omega
  go_enter Try.func78, Try.ntmps78
  go_wp2_with fail
  go_loopw [9] (fun v9 wr => ∃ (k : Nat) (d' : Array Int), k ≤ m ∧ v9 = .int .i64 ((k : Int) - 1) ∧ URow wr g cap d' ∧ Hid (d'.size = N) ∧ Hid (heapBuild ltInt n a k d' = D1) ∧ Fr (· = g) w wr) (fun v9 _ => (intOf v9 + 1).toNat)
  case atStart => exact ⟨m, d, Nat.le_refl _, rfl, h, Lib.hid hN, HD1, Fr.refl _ _⟩
  case round =>
    obtain ⟨k, d', hk, rfl, hr, HZ, HI, hf⟩ := hrel
    cases k with
    | succ k =>
      have ek : (((k + 1 : Nat)) : Int) - 1 = (k : Int) := by omega
      rw [ek]
      have dk : decide ((k : Int) ≥ 0) = true := decide_eq_true (by omega)
      have hs := sift_any hr (by rw [HZ.out]; exact hz) k n a (by omega) (by rw [HZ.out, hnb]; exact hb)
      rw [HZ.out] at hs
      have HS := Lib.hid hs
      clear hs
      go_wp2_with fail
      refine HS.out.mono ?_
      rintro e w1 ⟨rfl, hr1, hf1⟩
      go_wp2_with fail
      go_roundw
      case rel => exact ⟨k, siftDown ltInt n a k d', by omega, by go_num, hr1, Lib.hid (by rw [size_siftDown ltInt n a (n - k) k d' (Nat.le_refl _)]; exact HZ.out), HI, hf.trans hf1⟩
      case measure => simp [intOf]
    | zero =>
      have ek : (((0 : Nat)) : Int) - 1 = -1 := by omega
      rw [ek]
      have hd1 : d' = D1 := HI.out
      have HZ1 : Hid (D1.size = N) := by show _ = _; rw [← hd1]; exact HZ.out
      rw [hd1] at hr
      clear hd1 HI HZ
      generalize d' = d0 at *
      go_wp2_with fail
      obtain ⟨wo, rfl⟩ : ∃ wo : World, wo = wr := ⟨_, rfl⟩
      go_loopw [10] (fun v10 wr => ∃ (k : Nat) (d' : Array Int), k ≤ n ∧ v10 = .int .i64 ((k : Int) - 1) ∧ URow wr g cap d' ∧ Hid (d'.size = N) ∧ Hid (heapPop ltInt a k d' = D2) ∧ Fr (· = g) w wr) (fun v10 _ => (intOf v10 + 1).toNat)
      case atStart => exact ⟨n, D1, Nat.le_refl _, rfl, hr, HZ1, HD2, hf⟩
      case round =>
        obtain ⟨k, d', hk, rfl, hr2, HZ, HI, hf2⟩ := hrel
        clear hr
        cases k with
        | succ k =>
          have ek : (((k + 1 : Nat)) : Int) - 1 = (k : Int) := by omega
          rw [ek]
          have dk : decide ((k : Int) ≥ 0) = true := decide_eq_true (by omega)
          obtain ⟨F, hF⟩ : ∃ F, a + k = F := ⟨_, rfl⟩
          have eF : (a : Int) + (k : Int) = (F : Int) := by omega
          have hFb : F < N := by omega
          have ha : a < N := by omega
          have wF : IntKind.i64.wrap (F : Int) = F := IntWalk.i64_in _ (by omega)
          have k1 : (F : Int) < (N : Int) := by omega
          have k2 : (a : Int) < (N : Int) := by omega
          have c0 := hr2.cell (i := a) (by rw [HZ.out]; exact ha)
          have c1 := hr2.cell (i := F) (by rw [HZ.out]; exact hFb)
          have z0 := hr2.frz a
          have z1 := hr2.frz F
          obtain ⟨x, hx⟩ : ∃ x, d'[a]! = x := ⟨_, rfl⟩
          obtain ⟨y, hy⟩ : ∃ y, d'[F]! = y := ⟨_, rfl⟩
          rw [hx] at c0
          rw [hy] at c1
          have HX := Lib.hid hx
          have HY := Lib.hid hy
          have HI2 : Hid (heapPop ltInt a k (siftDown ltInt k a 0 (swp d' a F)) = D2) := by show _ = _; rw [← hF]; exact HI.out
          have hszs : (swp d' a F).size = N := by rw [size_swp]; exact HZ.out
          have hs := fun (W : World) (hW : URow W g cap (swp d' a F)) => sift_any hW (by rw [hszs]; exact hz) 0 k a (by omega) (by rw [hszs]; omega)
          rw [hszs] at hs
          have HS := Lib.hid hs
          have HSZ := Lib.hid hszs
          clear hs hszs hx hy hF
          rcases (show a = F ∨ a < F by omega) with rfl | haF
          · obtain rfl : x = y := by rw [← HX.out, ← HY.out]
            go_wp2_with fail
            go_region
            have hr3 := hr2.drew.swp _ _ HY.out HX.out
            have hf3 := frg_set (frg_set (frg_drew hf2) a (.int .u64 x)) a (.int .u64 x)
            go_wp2_with fail
            refine (HS.out _ hr3).mono ?_
            rintro e w1 ⟨rfl, hr1, hf1⟩
            go_wp2_with fail
            go_roundw
            case rel => exact ⟨k, siftDown ltInt k a 0 (swp d' a a), by omega, by go_num, hr1, Lib.hid (by rw [size_siftDown ltInt k a k 0 _ (by omega)]; exact HSZ.out), HI2, hf3.trans hf1⟩
            case measure => simp [intOf]
          · go_wp2_with fail
            go_region
            have hr3 := hr2.drew.swp _ _ HY.out HX.out
            have hf3 := frg_set (frg_set (frg_drew hf2) a (.int .u64 y)) F (.int .u64 x)
            go_wp2_with fail
            refine (HS.out _ hr3).mono ?_
            rintro e w1 ⟨rfl, hr1, hf1⟩
            go_wp2_with fail
            go_roundw
            case rel => exact ⟨k, siftDown ltInt k a 0 (swp d' a F), by omega, by go_num, hr1, Lib.hid (by rw [size_siftDown ltInt k a k 0 _ (by omega)]; exact HSZ.out), HI2, hf3.trans hf1⟩
            case measure => simp [intOf]
        | zero =>
          have ek : (((0 : Nat)) : Int) - 1 = -1 := by omega
          rw [ek]
          have hd2 : d' = D2 := HI.out
          rw [hd2] at hr2
          clear hd2 HI HZ
          go_wp2_with fail
          go_end0
          exact ⟨rfl, hr2, hf2⟩
end Go.Proofs.Ythmabnigdnbdkaa
