/- The document's answer for package geo: Read; what both answer. -/
import Derived.Test.YtcdmipgopffaaaaGeoRef2
import Derived.Test.YtcdmipgopffaaaaGeoAlive
namespace Go.Proofs.Ytcdmipgopffaaaa
open Go.RowKit
set_option maxRecDepth 20000
set_option linter.unusedVariables false
set_option linter.unusedSimpArgs false

theorem set3 {W : World} {b : Nat} {u0 u1 u2 : Value} {t : TypeId} (h : W.heap[b]? = some (.cells #[u0, u1, u2] t (0, 0))) (v0 v1 v2 : Value) : (((W.setCell ⟨b, 0, none⟩ v0).setCell ⟨b, 1, none⟩ v1).setCell ⟨b, 2, none⟩ v2).heap[b]? = some (.cells #[v0, v1, v2] t (0, 0)) :=
  blk_here (blk_here (blk_here h 0 v0) 1 v1) 2 v2
theorem rvalue_len (l : List UInt8) (h : l.length = 4) (w : World) : Calls Try.prog 47 #[.string (bs l)] w fun e w' => e = .returned (.int .i64 (le l : Nat)) ∧ Below w.heap.size w w' := by
  match l, h with
  | [a, b, c, d], _ => exact rvalue_any a b c d w

set_option maxHeartbeats 2000000 in
theorem rread_short {l : List UInt8} (h : l.length ≠ 64) (hl : l.length ≤ 100000) (w : World) : Calls Try.prog 20 #[.string (bs l)] w fun e w' => e = .returned (.tuple #[.agg #[.int .i64 0, .int .i64 0, .int .i64 0], .int .i64 7]) ∧ Below w.heap.size w w' := by
  have hs := bs_size l
  have hn : ((l.length : Int) != 64) = true := by rw [bne_iff_ne]; omega
  go_enter Try.func20, Try.ntmps20
  go_wp2_with fail
  exact bodyPost_ret (v := .tuple #[.agg #[.int .i64 0, .int .i64 0, .int .i64 0], .int .i64 7]) (by simp [results, Try.results20, go_sem]) rfl ⟨rfl, bnew _ _⟩

set_option maxHeartbeats 4000000 in
theorem rread_long {l : List UInt8} (h : l.length = 64) (w : World) : Calls Try.prog 20 #[.string (bs l)] w fun e w' =>
    Below w.heap.size w w' ∧ (Mays (val l 0) (val l 1) (val l 2) ∧ sup (val l 0) (val l 1) (val l 2) = l → e = .returned (.tuple #[.agg #[.int .i64 (val l 0), .int .i64 (val l 1), .int .i64 (val l 2)], .int .i64 0])) ∧
      (¬ (Mays (val l 0) (val l 1) (val l 2) ∧ sup (val l 0) (val l 1) (val l 2) = l) → e = .returned (.tuple #[.agg #[.int .i64 0, .int .i64 0, .int .i64 0], .int .i64 7])) := by
  have hs : (bs l).size = 64 := by rw [bs_size, h]
  have x0 := bs_extract l 8 12
  have x1 := bs_extract l 12 16
  have x2 := bs_extract l 16 20
  have c0 := rvalue_len ((l.take 12).drop 8) (by simp [h])
  have c1 := rvalue_len ((l.take 16).drop 12) (by simp [h])
  have c2 := rvalue_len ((l.take 20).drop 16) (by simp [h])
  have e0 : le ((l.take 12).drop 8) = val l 0 := rfl
  have e1 : le ((l.take 16).drop 12) = val l 1 := rfl
  have e2 : le ((l.take 20).drop 16) = val l 2 := rfl
  rw [e0] at c0
  rw [e1] at c1
  rw [e2] at c2
  have C0 := Lib.hid c0
  have C1 := Lib.hid c1
  have C2 := Lib.hid c2
  have v0 := val_lt h (k := 0) (by decide)
  have v1 := val_lt h (k := 1) (by decide)
  have v2 := val_lt h (k := 2) (by decide)
  clear c0 c1 c2 e0 e1 e2 h
  generalize (l.take 12).drop 8 = L0 at *
  generalize (l.take 16).drop 12 = L1 at *
  generalize (l.take 20).drop 16 = L2 at *
  generalize val l 0 = V0 at *
  generalize val l 1 = V1 at *
  generalize val l 2 = V2 at *
  go_enter Try.func20, Try.ntmps20
  go_wp2_with fail
  apply region_mid (R := fun nb W' => W'.heap[nb]? = some (.cells #[.int .i64 (V0 : Int), .int .i64 (V1 : Int), .int .i64 (V2 : Int)] 23 (0, 0)) ∧ w.heap.size < nb ∧ W'.heap[w.heap.size]? = some (.cells #[.int .i64 0, .int .i64 0, .int .i64 0] 23 (0, 0)) ∧ Below w.heap.size w W')
  · refine wp_region_noPanic ?_
    refine region_namedH (S := (fun W => W.heap[w.heap.size]? = some (.cells #[.int .i64 0, .int .i64 0, .int .i64 0] 23 (0, 0)))) (by kernel_rfl) (fun W2 HW2 => ⟨by rw [HW2.out]; exact hp_new w _ rfl, fun hHeld => ?_⟩)
    have B0 : Below w.heap.size w W2 := by rw [HW2.out]; exact (bnew _ _).drew
    refine wpAnyH_now (i := 0) (v := ?v700) rfl (by kernel_rfl) (by kernel_rfl) (by kernel_rfl) (fun _ _ _ h => h) (by rfl) ?h700 (by assumption) ?_
    case h700 => ((intro w hSw; (try dsimp only at hSw); go_simp); try with_reducible rfl)
    (try simp only [Act.put, List.setIfInBounds_toArray, List.set_cons_succ, List.set_cons_zero])
    refine wpAnyH_now (i := 1) (v := ?v701) rfl (by kernel_rfl) (by kernel_rfl) (by kernel_rfl) (fun _ _ _ h => h) (by rfl) ?h701 (by assumption) ?_
    case h701 => ((intro w hSw; (try dsimp only at hSw); go_simp); try with_reducible rfl)
    (try simp only [Act.put, List.setIfInBounds_toArray, List.set_cons_succ, List.set_cons_zero])
    refine wpAnyH_now (i := 3) (v := ?v702) rfl (by kernel_rfl) (by kernel_rfl) (by kernel_rfl) (fun _ _ _ h => h) (by rfl) ?h702 (by assumption) ?_
    case h702 => ((intro w hSw; (try dsimp only at hSw); go_simp); try with_reducible rfl)
    (try simp only [Act.put, List.setIfInBounds_toArray, List.set_cons_succ, List.set_cons_zero])
    refine wpAnyH_now (i := 4) (v := ?v703) rfl (by kernel_rfl) (by kernel_rfl) (by kernel_rfl) (fun _ _ _ h => h) (by rfl) ?h703 (by assumption) ?_
    case h703 => ((intro w hSw; (try dsimp only at hSw); go_simp); try with_reducible rfl)
    (try simp only [Act.put, List.setIfInBounds_toArray, List.set_cons_succ, List.set_cons_zero])
    refine wpAnyH_now (i := 6) (v := ?v704) rfl (by kernel_rfl) (by kernel_rfl) (by kernel_rfl) (fun _ _ _ h => h) (by rfl) ?h704 (by assumption) ?_
    case h704 => ((intro w hSw; (try dsimp only at hSw); go_simp); try with_reducible rfl)
    (try simp only [Act.put, List.setIfInBounds_toArray, List.set_cons_succ, List.set_cons_zero])
    refine wpAnyH_now (i := 7) (v := ?v705) rfl (by kernel_rfl) (by kernel_rfl) (by kernel_rfl) (fun _ _ _ h => h) (by rfl) ?h705 (by assumption) ?_
    case h705 => ((intro w hSw; (try dsimp only at hSw); go_simp); try with_reducible rfl)
    (try simp only [Act.put, List.setIfInBounds_toArray, List.set_cons_succ, List.set_cons_zero])
    refine wpAnyH_two (i := 2) (j := 10) (by kernel_rfl) rfl rfl (by rfl) (by rfl) (fun K hK => ?_) (fun K hK => ?_)
    · go_simp
      refine (C0.out _).mono ?_
      rintro e w1 ⟨rfl, hB1⟩
      refine hK.out _ _ (by first | exact bblk (by assumption) hHeld | exact blk_old hHeld _) (fun hHeld => ?_)
      clear hK K
      (try simp only [Act.put, List.setIfInBounds_toArray, List.set_cons_succ, List.set_cons_zero])
      refine wpAnyH_two (i := 5) (j := 10) (by kernel_rfl) rfl rfl (by rfl) (by rfl) (fun K hK => ?_) (fun K hK => ?_)
      · go_simp
        refine (C1.out _).mono ?_
        rintro e w2 ⟨rfl, hB2⟩
        refine hK.out _ _ (by first | exact bblk (by assumption) hHeld | exact blk_old hHeld _) (fun hHeld => ?_)
        clear hK K
        (try simp only [Act.put, List.setIfInBounds_toArray, List.set_cons_succ, List.set_cons_zero])
        refine wpAnyH_two (i := 8) (j := 10) (by kernel_rfl) rfl rfl (by rfl) (by rfl) (fun K hK => ?_) (fun K hK => ?_)
        · go_simp
          refine (C2.out _).mono ?_
          rintro e w3 ⟨rfl, hB3⟩
          refine hK.out _ _ (by first | exact bblk (by assumption) hHeld | exact blk_old hHeld _) (fun hHeld => ?_)
          clear hK K
          (try simp only [Act.put, List.setIfInBounds_toArray, List.set_cons_succ, List.set_cons_zero])
          refine wpAnyH_now (i := 9) (v := ?v706) rfl (by kernel_rfl) (by kernel_rfl) (by kernel_rfl) (fun _ _ _ h => h) (by rfl) ?h706 (by assumption) ?_
          case h706 => ((intro w hSw; (try dsimp only at hSw); go_simp); try with_reducible rfl)
          (try simp only [Act.put, List.setIfInBounds_toArray, List.set_cons_succ, List.set_cons_zero])
          refine wpAnyH_only (i := 10) (by kernel_rfl) rfl (by rfl) (fun K hK => ?_)
          have hRw3 := hHeld
          go_simp
          refine hK.out _ _ (by first | exact bblk (by assumption) hHeld | exact blk_old hHeld _) (fun hHeld => ?_)
          clear hK K
          (try simp only [Act.put, List.setIfInBounds_toArray, List.set_cons_succ, List.set_cons_zero])
          have nb := hp_new w3 (.cells #[.int .i64 0, .int .i64 0, .int .i64 0] 23) rfl
          have n0 := cl_of nb 0
          have n1 := cl_of nb 1
          have n2 := cl_of nb 2
          have z0 := fz_of nb 0
          have z1 := fz_of nb 1
          have z2 := fz_of nb 2
          have hlt : w.heap.size < w3.heap.size := blk_lt (hRw3)
          refine wpAnyH_only (i := 11) (by kernel_rfl) rfl (by rfl) (fun K hK => ?_)
          go_simp
          refine hK.out _ _ (by exact blk_old hRw3 _) (fun hHeld => ?_)
          clear hK K
          (try simp only [Act.put, List.setIfInBounds_toArray, List.set_cons_succ, List.set_cons_zero])
          refine wpAnyH_done (by kernel_rfl) ?_ _
          refine NoPanic.normal ?_
          obtain ⟨nv, hnv⟩ : ∃ k, w3.heap.size = k := ⟨_, rfl⟩
          rw [hnv]
          exact ⟨rfl, nv, rfl, by subst hnv; exact ⟨hp_new _ _ rfl, hlt, hHeld, bal (bt (bt (bt (B0) hB1) hB2) hB3) _⟩⟩
        · have hRw2 := hHeld
          go_simp
          refine hK.out _ _ (by first | exact bblk (by assumption) hHeld | exact blk_old hHeld _) (fun hHeld => ?_)
          clear hK K
          (try simp only [Act.put, List.setIfInBounds_toArray, List.set_cons_succ, List.set_cons_zero])
          have nb := hp_new w2 (.cells #[.int .i64 0, .int .i64 0, .int .i64 0] 23) rfl
          refine wpAnyH_only (i := 8) (by kernel_rfl) rfl (by rfl) (fun K hK => ?_)
          go_simp
          refine (C2.out _).mono ?_
          rintro e w3 ⟨rfl, hB3⟩
          refine hK.out _ _ (by first | exact bblk (by assumption) hHeld | exact blk_old hHeld _) (fun hHeld => ?_)
          clear hK K
          (try simp only [Act.put, List.setIfInBounds_toArray, List.set_cons_succ, List.set_cons_zero])
          have nb3 := bblk hB3 nb
          refine wpAnyH_now (i := 9) (v := ?v707) rfl (by kernel_rfl) (by kernel_rfl) (by kernel_rfl) (fun _ _ _ h => h) (by rfl) ?h707 (by assumption) ?_
          case h707 => ((intro w hSw; (try dsimp only at hSw); go_simp); try with_reducible rfl)
          (try simp only [Act.put, List.setIfInBounds_toArray, List.set_cons_succ, List.set_cons_zero])
          have n0 := cl_of nb3 0
          have n1 := cl_of nb3 1
          have n2 := cl_of nb3 2
          have z0 := fz_of nb3 0
          have z1 := fz_of nb3 1
          have z2 := fz_of nb3 2
          have hB := bt (bal (bt (bt (B0) hB1) hB2) _) hB3
          have hlt : w.heap.size < w2.heap.size := blk_lt (hRw2)
          refine wpAnyH_only (i := 11) (by kernel_rfl) rfl (by rfl) (fun K hK => ?_)
          go_simp
          refine hK.out _ _ (by exact blk_set (blk_set (blk_set hHeld (by show w.heap.size ≠ w2.heap.size; omega) _) (by show w.heap.size ≠ w2.heap.size; omega) _) (by show w.heap.size ≠ w2.heap.size; omega) _) (fun hHeld => ?_)
          clear hK K
          (try simp only [Act.put, List.setIfInBounds_toArray, List.set_cons_succ, List.set_cons_zero])
          refine wpAnyH_done (by kernel_rfl) ?_ _
          refine NoPanic.normal ?_
          obtain ⟨nv, hnv⟩ : ∃ k, w2.heap.size = k := ⟨_, rfl⟩
          rw [hnv]
          exact ⟨rfl, nv, rfl, by subst hnv; exact ⟨set3 nb3 _ _ _, hlt, hHeld, ((hB.setCell (by show w.heap.size ≤ w2.heap.size; omega) _).setCell (by show w.heap.size ≤ w2.heap.size; omega) _).setCell (by show w.heap.size ≤ w2.heap.size; omega) _⟩⟩
      · have hRw1 := hHeld
        go_simp
        refine hK.out _ _ (by first | exact bblk (by assumption) hHeld | exact blk_old hHeld _) (fun hHeld => ?_)
        clear hK K
        (try simp only [Act.put, List.setIfInBounds_toArray, List.set_cons_succ, List.set_cons_zero])
        have nb := hp_new w1 (.cells #[.int .i64 0, .int .i64 0, .int .i64 0] 23) rfl
        refine wpAnyH_only (i := 5) (by kernel_rfl) rfl (by rfl) (fun K hK => ?_)
        go_simp
        refine (C1.out _).mono ?_
        rintro e w2 ⟨rfl, hB2⟩
        refine hK.out _ _ (by first | exact bblk (by assumption) hHeld | exact blk_old hHeld _) (fun hHeld => ?_)
        clear hK K
        (try simp only [Act.put, List.setIfInBounds_toArray, List.set_cons_succ, List.set_cons_zero])
        have nb2 := bblk hB2 nb
        refine wpAnyH_only (i := 8) (by kernel_rfl) rfl (by rfl) (fun K hK => ?_)
        go_simp
        refine (C2.out _).mono ?_
        rintro e w3 ⟨rfl, hB3⟩
        refine hK.out _ _ (by first | exact bblk (by assumption) hHeld | exact blk_old hHeld _) (fun hHeld => ?_)
        clear hK K
        (try simp only [Act.put, List.setIfInBounds_toArray, List.set_cons_succ, List.set_cons_zero])
        have nb3 := bblk hB3 nb2
        refine wpAnyH_now (i := 9) (v := ?v708) rfl (by kernel_rfl) (by kernel_rfl) (by kernel_rfl) (fun _ _ _ h => h) (by rfl) ?h708 (by assumption) ?_
        case h708 => ((intro w hSw; (try dsimp only at hSw); go_simp); try with_reducible rfl)
        (try simp only [Act.put, List.setIfInBounds_toArray, List.set_cons_succ, List.set_cons_zero])
        have n0 := cl_of nb3 0
        have n1 := cl_of nb3 1
        have n2 := cl_of nb3 2
        have z0 := fz_of nb3 0
        have z1 := fz_of nb3 1
        have z2 := fz_of nb3 2
        have hB := bt (bt (bal (bt (B0) hB1) _) hB2) hB3
        have hlt : w.heap.size < w1.heap.size := blk_lt (hRw1)
        refine wpAnyH_only (i := 11) (by kernel_rfl) rfl (by rfl) (fun K hK => ?_)
        go_simp
        refine hK.out _ _ (by exact blk_set (blk_set (blk_set hHeld (by show w.heap.size ≠ w1.heap.size; omega) _) (by show w.heap.size ≠ w1.heap.size; omega) _) (by show w.heap.size ≠ w1.heap.size; omega) _) (fun hHeld => ?_)
        clear hK K
        (try simp only [Act.put, List.setIfInBounds_toArray, List.set_cons_succ, List.set_cons_zero])
        refine wpAnyH_done (by kernel_rfl) ?_ _
        refine NoPanic.normal ?_
        obtain ⟨nv, hnv⟩ : ∃ k, w1.heap.size = k := ⟨_, rfl⟩
        rw [hnv]
        exact ⟨rfl, nv, rfl, by subst hnv; exact ⟨set3 nb3 _ _ _, hlt, hHeld, ((hB.setCell (by show w.heap.size ≤ w1.heap.size; omega) _).setCell (by show w.heap.size ≤ w1.heap.size; omega) _).setCell (by show w.heap.size ≤ w1.heap.size; omega) _⟩⟩
    · have hRW2 := hHeld
      go_simp
      refine hK.out _ _ (by first | exact bblk (by assumption) hHeld | exact blk_old hHeld _) (fun hHeld => ?_)
      clear hK K
      (try simp only [Act.put, List.setIfInBounds_toArray, List.set_cons_succ, List.set_cons_zero])
      have nb := hp_new W2 (.cells #[.int .i64 0, .int .i64 0, .int .i64 0] 23) rfl
      refine wpAnyH_only (i := 2) (by kernel_rfl) rfl (by rfl) (fun K hK => ?_)
      go_simp
      refine (C0.out _).mono ?_
      rintro e w1 ⟨rfl, hB1⟩
      refine hK.out _ _ (by first | exact bblk (by assumption) hHeld | exact blk_old hHeld _) (fun hHeld => ?_)
      clear hK K
      (try simp only [Act.put, List.setIfInBounds_toArray, List.set_cons_succ, List.set_cons_zero])
      have nb1 := bblk hB1 nb
      refine wpAnyH_only (i := 5) (by kernel_rfl) rfl (by rfl) (fun K hK => ?_)
      go_simp
      refine (C1.out _).mono ?_
      rintro e w2 ⟨rfl, hB2⟩
      refine hK.out _ _ (by first | exact bblk (by assumption) hHeld | exact blk_old hHeld _) (fun hHeld => ?_)
      clear hK K
      (try simp only [Act.put, List.setIfInBounds_toArray, List.set_cons_succ, List.set_cons_zero])
      have nb2 := bblk hB2 nb1
      refine wpAnyH_only (i := 8) (by kernel_rfl) rfl (by rfl) (fun K hK => ?_)
      go_simp
      refine (C2.out _).mono ?_
      rintro e w3 ⟨rfl, hB3⟩
      refine hK.out _ _ (by first | exact bblk (by assumption) hHeld | exact blk_old hHeld _) (fun hHeld => ?_)
      clear hK K
      (try simp only [Act.put, List.setIfInBounds_toArray, List.set_cons_succ, List.set_cons_zero])
      have nb3 := bblk hB3 nb2
      refine wpAnyH_now (i := 9) (v := ?v709) rfl (by kernel_rfl) (by kernel_rfl) (by kernel_rfl) (fun _ _ _ h => h) (by rfl) ?h709 (by assumption) ?_
      case h709 => ((intro w hSw; (try dsimp only at hSw); go_simp); try with_reducible rfl)
      (try simp only [Act.put, List.setIfInBounds_toArray, List.set_cons_succ, List.set_cons_zero])
      have n0 := cl_of nb3 0
      have n1 := cl_of nb3 1
      have n2 := cl_of nb3 2
      have z0 := fz_of nb3 0
      have z1 := fz_of nb3 1
      have z2 := fz_of nb3 2
      have hB := bt (bt (bt (bal (B0) _) hB1) hB2) hB3
      have hlt : w.heap.size < W2.heap.size := blk_lt (hRW2)
      refine wpAnyH_only (i := 11) (by kernel_rfl) rfl (by rfl) (fun K hK => ?_)
      go_simp
      refine hK.out _ _ (by exact blk_set (blk_set (blk_set hHeld (by show w.heap.size ≠ W2.heap.size; omega) _) (by show w.heap.size ≠ W2.heap.size; omega) _) (by show w.heap.size ≠ W2.heap.size; omega) _) (fun hHeld => ?_)
      clear hK K
      (try simp only [Act.put, List.setIfInBounds_toArray, List.set_cons_succ, List.set_cons_zero])
      refine wpAnyH_done (by kernel_rfl) ?_ _
      refine NoPanic.normal ?_
      obtain ⟨nv, hnv⟩ : ∃ k, W2.heap.size = k := ⟨_, rfl⟩
      rw [hnv]
      exact ⟨rfl, nv, rfl, by subst hnv; exact ⟨set3 nb3 _ _ _, hlt, hHeld, ((hB.setCell (by show w.heap.size ≤ W2.heap.size; omega) _).setCell (by show w.heap.size ≤ W2.heap.size; omega) _).setCell (by show w.heap.size ≤ W2.heap.size; omega) _⟩⟩
  intro nb w5 hmid
  obtain ⟨hg, hlt, hr, hB⟩ := hmid
  have g0 := cl_of hg 0
  have g1 := cl_of hg 1
  have g2 := cl_of hg 2
  go_wp2_with fail
  by_cases hy : Mays V0 V1 V2
  · refine (rmay_yes hy _).mono ?_
    rintro e w6 ⟨rfl, hB6⟩
    have hg6 := bblk hB6 hg
    have hr6 := bblk hB6 hr
    have B6 := bt hB hB6
    clear g0 g1 g2 hg hr hB hB6
    have g0 := cl_of hg6 0
    have g1 := cl_of hg6 1
    have g2 := cl_of hg6 2
    go_wp2_with fail
    refine (rsuper_any hy _).mono ?_
    rintro e w7 ⟨rfl, hB7⟩
    have hg7 := bblk hB7 hg6
    have hr7 := bblk hB7 hr6
    have B7 := bt B6 hB7
    clear g0 g1 g2 hg6 hr6 B6 hB7
    have g0 := cl_of hg7 0
    have g1 := cl_of hg7 1
    have g2 := cl_of hg7 2
    have r0 := cl_of hr7 0
    have r1 := cl_of hr7 1
    have r2 := cl_of hr7 2
    have z0 := fz_of hr7 0
    have z1 := fz_of hr7 1
    have z2 := fz_of hr7 2
    by_cases he : sup V0 V1 V2 = l
    · have HE := Lib.hid he
      clear he
      rw [HE.out]
      go_wp2_with fail
      refine bodyPost_ret (v := .tuple #[.agg #[.int .i64 V0, .int .i64 V1, .int .i64 V2], .int .i64 0]) (by simp [results, Try.results20, go_sem, g0, g1, g2, r0, r1, r2]) rfl ⟨?_, fun _ => rfl, fun hn => absurd ⟨hy, HE.out⟩ hn⟩
      exact ((B7.setCell (Nat.le_refl _) _).setCell (Nat.le_refl _) _).setCell (Nat.le_refl _) _
    · have HE := Lib.hid (bs_ne' he)
      have HN := Lib.hid he
      clear he
      have hq2 := HE.out
      clear HE
      go_wp2_with fail
      refine bodyPost_ret (v := .tuple #[.agg #[.int .i64 0, .int .i64 0, .int .i64 0], .int .i64 7]) (by simp [results, Try.results20, go_sem, r0, r1, r2]) rfl ⟨?_, fun hn => absurd hn.2 HN.out, fun _ => rfl⟩
      exact ((B7.setCell (Nat.le_refl _) _).setCell (Nat.le_refl _) _).setCell (Nat.le_refl _) _
  · refine (rmay_no hy _).mono ?_
    rintro e w6 ⟨rfl, hB6⟩
    have hr6 := bblk hB6 hr
    have B6 := bt hB hB6
    clear g0 g1 g2 hg hr hB hB6
    have r0 := cl_of hr6 0
    have r1 := cl_of hr6 1
    have r2 := cl_of hr6 2
    have z0 := fz_of hr6 0
    have z1 := fz_of hr6 1
    have z2 := fz_of hr6 2
    go_wp2_with fail
    refine bodyPost_ret (v := .tuple #[.agg #[.int .i64 0, .int .i64 0, .int .i64 0], .int .i64 7]) (by simp [results, Try.results20, go_sem, r0, r1, r2]) rfl ⟨?_, fun hn => absurd hn.1 hy, fun _ => rfl⟩
    exact ((B6.setCell (Nat.le_refl _) _).setCell (Nat.le_refl _) _).setCell (Nat.le_refl _) _
end Go.Proofs.Ytcdmipgopffaaaa
