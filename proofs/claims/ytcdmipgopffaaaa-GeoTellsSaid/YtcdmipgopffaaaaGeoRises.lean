/- The law GeoRises: of two geometries, of which nothing of the one is less, no part of the other begins behind its own, or is longer. -/
import Derived.Test.YtcdmipgopffaaaaGeoBack
namespace Go.Proofs.Ytcdmipgopffaaaa
open Go.RowKit
set_option maxRecDepth 100000
attribute [local go_sem ↓] eq_geo geq_self

theorem fr_le {i b j i' b' j' : Int} (hi : i ≤ i') (hb : b ≤ b') (hj : j ≤ j') {k : Nat} (hk : k ≤ 6) : fr i b j k ≤ fr i' b' j' k := by
  rcases (by omega : k = 0 ∨ k = 1 ∨ k = 2 ∨ k = 3 ∨ k = 4 ∨ k = 5 ∨ k = 6) with rfl | rfl | rfl | rfl | rfl | rfl | rfl <;> simp [fr, szl] <;> omega
theorem sz_le {i b j i' b' j' : Int} (hi : i ≤ i') (hb : b ≤ b') (hj : j ≤ j') {k : Nat} (hk : k < 6) : sz i b j k ≤ sz i' b' j' k := by
  rcases (by omega : k = 0 ∨ k = 1 ∨ k = 2 ∨ k = 3 ∨ k = 4 ∨ k = 5) with rfl | rfl | rfl | rfl | rfl | rfl <;> simp [sz, szl] <;> omega

theorem cellb {W W' : World} (hb : Below W.heap.size W W') {b o : Nat} {v : Value} (h : W.cell? ⟨b, o, none⟩ = some v) : W'.cell? ⟨b, o, none⟩ = some v := by
  have hlt : b < W.heap.size := by
    rcases Nat.lt_or_ge b W.heap.size with h' | h'
    · exact h'
    · simp [World.cell?, Array.getElem?_eq_none h'] at h
  exact (hb.cell (p := ⟨b, o, none⟩) hlt).trans h
theorem keep6 {W W' : World} {a c : Nat} {v0 v1 v2 u0 u1 u2 : Value} (hb : Below W.heap.size W W')
    (h : W.cell? ⟨a, 0, none⟩ = some v0 ∧ W.cell? ⟨a, 1, none⟩ = some v1 ∧ W.cell? ⟨a, 2, none⟩ = some v2 ∧ W.cell? ⟨c, 0, none⟩ = some u0 ∧ W.cell? ⟨c, 1, none⟩ = some u1 ∧ W.cell? ⟨c, 2, none⟩ = some u2) :
    W'.cell? ⟨a, 0, none⟩ = some v0 ∧ W'.cell? ⟨a, 1, none⟩ = some v1 ∧ W'.cell? ⟨a, 2, none⟩ = some v2 ∧ W'.cell? ⟨c, 0, none⟩ = some u0 ∧ W'.cell? ⟨c, 1, none⟩ = some u1 ∧ W'.cell? ⟨c, 2, none⟩ = some u2 :=
  ⟨cellb hb h.1, cellb hb h.2.1, cellb hb h.2.2.1, cellb hb h.2.2.2.1, cellb hb h.2.2.2.2.1, cellb hb h.2.2.2.2.2⟩

set_option maxHeartbeats 4000000 in
theorem georises_walk (v0 : Value) (g : Int × Int × Int) (a b c : Int) (hg : GeoV v0 g) (wa : (Lit.int .u8 a).wf = true) (wb : (Lit.int .u8 b).wf = true) (wc : (Lit.int .u8 c).wf = true) (w : World) :
    Calls Try.prog 4 #[v0, .int .u8 a, .int .u8 b, .int .u8 c] w fun e w' => e = .returned (.bool true) ∧ Below w.heap.size w w' := by
  obtain ⟨i, k, j⟩ := g
  obtain rfl := hg.val
  clear hg
  obtain ⟨a0, a1⟩ := wfu8 wa
  obtain ⟨b0, b1⟩ := wfu8 wb
  obtain ⟨c0, c1⟩ := wfu8 wc
  clear wa wb wc
  by_cases hm : Mays i k j
  rotate_left
  · go_enter Try.func4, Try.ntmps4
    go_wp2_with fail
    refine (geo_may_no hm _).mono ?_
    rintro e w1 ⟨rfl, hB⟩
    go_wp2_with fail
    refine (alive05 _).mono ?_
    rintro e w2 ⟨rfl, hB2⟩
    go_wp2_with fail
    go_ret
    exact ⟨rfl, bt (bt (bal (bnew w _) _) hB) hB2⟩
  · have hm' := hm
    obtain ⟨i0, i1, k0, k1, j0, j1⟩ := hm'
    have d0 := blk_old (hp_new w (.cells #[.int .i64 i, .int .i64 k, .int .i64 j] 23) rfl) (.cells #[.int .i64 (i + a), .int .i64 (k + b), .int .i64 (j + c)] 23)
    have d1 : ((w.alloc (.cells #[.int .i64 i, .int .i64 k, .int .i64 j] 23)).alloc (.cells #[.int .i64 (i + a), .int .i64 (k + b), .int .i64 (j + c)] 23)).heap[w.heap.size + 1]? = some (.cells #[.int .i64 (i + a), .int .i64 (k + b), .int .i64 (j + c)] 23 (0, 0)) := hp_new _ _ (by simp)
    by_cases hn : Mays (i + a) (k + b) (j + c)
    rotate_left
    · go_enter Try.func4, Try.ntmps4
      go_wp2_with fail
      refine (geo_may_yes hm _).mono ?_
      rintro e w1 ⟨rfl, hB⟩
      have hh1 := bblk hB d1
      have B1 := bt (bal (bnew w _) _) hB
      clear hB d0 d1
      have h0 := cl_of hh1 0
      have h1 := cl_of hh1 1
      have h2 := cl_of hh1 2
      go_wp2_with fail
      refine (geo_may_no hn _).mono ?_
      rintro e w2 ⟨rfl, hB2⟩
      go_wp2_with fail
      refine (alive05 _).mono ?_
      rintro e w3 ⟨rfl, hB3⟩
      go_wp2_with fail
      go_ret
      exact ⟨rfl, bt (bt B1 hB2) hB3⟩
    · go_enter Try.func4, Try.ntmps4
      go_wp2_with fail
      refine (geo_may_yes hm _).mono ?_
      rintro e w1 ⟨rfl, hB⟩
      have hg1 := bblk hB d0
      have hh1 := bblk hB d1
      have B1 := bt (bal (bnew w _) _) hB
      clear hB d0 d1
      have h0 := cl_of hh1 0
      have h1 := cl_of hh1 1
      have h2 := cl_of hh1 2
      go_wp2_with fail
      refine (geo_may_yes hn _).mono ?_
      rintro e w2 ⟨rfl, hB2⟩
      have hg2 := bblk hB2 hg1
      have hh2 := bblk hB2 hh1
      have B2 := bt B1 hB2
      clear hB2 hg1 hh1 B1 h0 h1 h2
      have hfl : ∀ n, n < 6 → fr i k j n ≤ fr (i + a) (k + b) (j + c) n ∧ sz i k j n ≤ sz (i + a) (k + b) (j + c) n := fun n hn => ⟨fr_le (by omega) (by omega) (by omega) (by omega), sz_le (by omega) (by omega) (by omega) hn⟩
      have hfl6 : fr i k j 6 ≤ fr (i + a) (k + b) (j + c) 6 := fr_le (by omega) (by omega) (by omega) (by omega)
      have hfb : ∀ n, n < 6 → 0 ≤ fr i k j n ∧ fr i k j n ≤ 2000 ∧ 0 ≤ sz i k j n ∧ sz i k j n ≤ 2000 := fun n hn => ⟨(fr_bd hm (by omega)).1, (fr_bd hm (by omega)).2, by have := (sz_bd hm hn).1; omega, (sz_bd hm hn).2⟩
      have HFL := Lib.hid hfl
      have HFB := Lib.hid hfb
      clear hfl hfb
      go_wp2_with fail
      go_loopw [10] (fun v wr => ∃ n : Nat, n ≤ 6 ∧ v = .int .i64 n ∧ wr.heap[w.heap.size]? = some (.cells #[.int .i64 i, .int .i64 k, .int .i64 j] 23 (0, 0)) ∧ wr.heap[w.heap.size + 1]? = some (.cells #[.int .i64 (i + a), .int .i64 (k + b), .int .i64 (j + c)] 23 (0, 0)) ∧ Below w.heap.size w wr) (fun v _ => 6 - (intOf v).toNat)
      case atStart => exact ⟨0, by omega, rfl, hg2, hh2, B2⟩
      case round =>
        obtain ⟨n, hn6, rfl, hgr, hhr, hBr⟩ := hrel
        clear hg2 hh2 B2
        have g0 := cl_of hgr 0
        have g1 := cl_of hgr 1
        have g2 := cl_of hgr 2
        by_cases hlt : n < 6
        · go_wp2_with fail
          refine (part_yes hm n hlt _).mono ?_
          rintro e w3 ⟨rfl, hB3⟩
          have hg3 := blk_old (bblk hB3 hgr) (.cells #[.int .i64 (fr i k j n), .int .i64 (sz i k j n)] 34)
          have hh3 := bblk hB3 hhr
          have l3 := blk_lt hh3
          have h0 := cl_of hh3 0
          have h1 := cl_of hh3 1
          have h2 := cl_of hh3 2
          have hs3 : (w3.alloc (.cells #[.int .i64 (fr i k j n), .int .i64 (sz i k j n)] 34)).heap[w3.heap.size]? = some (.cells #[.int .i64 (fr i k j n), .int .i64 (sz i k j n)] 34 (0, 0)) := hp_new _ _ rfl
          have B3 := bal (bt hBr hB3) (.cells #[.int .i64 (fr i k j n), .int .i64 (sz i k j n)] 34)
          have hh4 := blk_old hh3 (.cells #[.int .i64 (fr i k j n), .int .i64 (sz i k j n)] 34)
          clear hB3 hBr g0 g1 g2 hh3
          go_wp2_with fail
          refine (part_yes hn n hlt _).mono ?_
          rintro e w4 ⟨rfl, hB4⟩
          have hg5 := bblk hB4 hg3
          have hh5 := bblk hB4 hh4
          have hs5 := bblk hB4 hs3
          have l5 := blk_lt hs5
          have s0 := cl_of hs5 0
          have s1 := cl_of hs5 1
          have B4 := bt B3 hB4
          have f1 := (HFL.out n hlt).1
          have f2 := (HFL.out n hlt).2
          clear hB4 B3 h0 h1 h2 hg3 hh4 hs3
          go_wp2_with fail
          go_roundw
          case rel => exact ⟨n + 1, by omega, by go_num, blk_old hg5 _, blk_old hh5 _, bal B4 _⟩
          case measure => simp [intOf]; omega
        · obtain rfl : n = 6 := by omega
          go_wp2_with fail
          refine (super_yes hm _).mono ?_
          rintro e w3 ⟨rfl, hB3⟩
          have hg3 := bblk hB3 hgr
          have hh3 := bblk hB3 hhr
          have h0 := cl_of hh3 0
          have h1 := cl_of hh3 1
          have h2 := cl_of hh3 2
          have B3 := bt hBr hB3
          clear hB3 hBr g0 g1 g2
          go_wp2_with fail
          refine (super_yes hn _).mono ?_
          rintro e w4 ⟨rfl, hB4⟩
          have hg4 := bblk hB4 hg3
          have hh4 := bblk hB4 hh3
          have B4 := bt B3 hB4
          clear hB4 B3 hg3 hh3 h0 h1 h2
          have g0 := cl_of hg4 0
          have g1 := cl_of hg4 1
          have g2 := cl_of hg4 2
          have h0 := cl_of hh4 0
          have h1 := cl_of hh4 1
          have h2 := cl_of hh4 2
          have HQ : ((bs (sup i k j)).toList == (bs (sup (i + a) (k + b) (j + c))).toList) = geq i k j (i + a) (k + b) (j + c) := by
            by_cases hgh : i = i + a ∧ k = k + b ∧ j = j + c
            · rw [geq_yes hgh, ← hgh.1, ← hgh.2.1, ← hgh.2.2]
              exact bs_eq' rfl
            · rw [geq_no hgh]
              exact bs_ne' (fun e => hgh (sup_inj hm hn e))
          go_wp2_with fail
          go_region_held3 (fun W => W.cell? ⟨w.heap.size, 0, none⟩ = some (.int .i64 i) ∧ W.cell? ⟨w.heap.size, 1, none⟩ = some (.int .i64 k) ∧ W.cell? ⟨w.heap.size, 2, none⟩ = some (.int .i64 j) ∧ W.cell? ⟨w.heap.size + 1, 0, none⟩ = some (.int .i64 (i + a)) ∧ W.cell? ⟨w.heap.size + 1, 1, none⟩ = some (.int .i64 (k + b)) ∧ W.cell? ⟨w.heap.size + 1, 2, none⟩ = some (.int .i64 (j + c))) (first | exact ⟨g0, g1, g2, h0, h1, h2⟩ | exact keep6 (by assumption) (by assumption)) (first | (go_at_call 16; ((with_reducible refine (sectors_yes hm _).mono ?_); rintro e w5 ⟨rfl, hB5⟩)) | (go_at_call 16; ((with_reducible refine (sectors_yes hn _).mono ?_); rintro e w6 ⟨rfl, hB6⟩)) | (go_at_call 13; ((with_reducible refine (alive05 _).mono ?_); rintro e w7 ⟨rfl, hB7⟩)))
          rename_i hK _
          refine hK _ _ ?_
          go_wp2_with fail
          go_ret
          exact ⟨rfl, bt (bt (bt B4.drew hB5) hB6) hB7⟩
end Go.Proofs.Ytcdmipgopffaaaa
