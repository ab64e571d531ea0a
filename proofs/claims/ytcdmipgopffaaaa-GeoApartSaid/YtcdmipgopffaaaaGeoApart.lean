/- The law GeoApart: each sector lies in just one part, no two inodes have a byte in common, and no two blocks a sector. -/
import Derived.Test.YtcdmipgopffaaaaGeoRises
import Derived.Deep.DeepCutAuto
namespace Go.Proofs.Ytcdmipgopffaaaa
open Go.RowKit
set_option maxRecDepth 100000

theorem find_part {i b j : Int} (_ : Mays i b j) {x : Int} (h0 : 0 ≤ x) (h1 : x < fr i b j 6) : ∃ p, p < 6 ∧ fr i b j p ≤ x ∧ x < fr i b j (p + 1) := by
  by_cases h5 : fr i b j 5 ≤ x
  · exact ⟨5, by decide, h5, h1⟩
  by_cases h4 : fr i b j 4 ≤ x
  · exact ⟨4, by decide, h4, by show x < fr i b j 5; omega⟩
  by_cases h3 : fr i b j 3 ≤ x
  · exact ⟨3, by decide, h3, by show x < fr i b j 4; omega⟩
  by_cases h2 : fr i b j 2 ≤ x
  · exact ⟨2, by decide, h2, by show x < fr i b j 3; omega⟩
  by_cases h1' : fr i b j 1 ≤ x
  · exact ⟨1, by decide, h1', by show x < fr i b j 2; omega⟩
  exact ⟨0, by decide, h0, by show x < fr i b j 1; omega⟩

/-- What an inode's place is. -/
def InoR (i b j n x y z : Int) : Prop := (z = 0 ∧ (1 ≤ n ∧ n ≤ i) ∧ x = fr i b j 4 + (n - 1) * 32 / 64 ∧ y = (n - 1) * 32 % 64) ∨ (z = 2 ∧ ¬ (1 ≤ n ∧ n ≤ i))
def BlkR (i b j n x z : Int) : Prop := (z = 0 ∧ (1 ≤ n ∧ n ≤ b) ∧ x = fr i b j 5 + n - 1) ∨ (z = 2 ∧ ¬ (1 ≤ n ∧ n ≤ b))

theorem inode_some {i b j n : Int} (hm : Mays i b j) (n0 : 0 ≤ n) (n1 : n < 4294967296) (w : World) : Calls Try.prog 17 #[.agg #[.int .i64 i, .int .i64 b, .int .i64 j], .int .u32 n] w fun e w' => (∃ x y z, e = .returned (.tuple #[.int .i64 x, .int .i64 y, .int .i64 z]) ∧ InoR i b j n x y z) ∧ Below w.heap.size w w' := by
  by_cases h : 1 ≤ n ∧ n ≤ i
  · refine (inode_yes hm h.1 h.2 w).mono ?_
    rintro e w' ⟨rfl, hB⟩
    exact ⟨⟨_, _, _, rfl, .inl ⟨rfl, h, rfl, rfl⟩⟩, hB⟩
  · refine (inode_no (fun hh => h hh.2) n0 n1 w).mono ?_
    rintro e w' ⟨rfl, hB⟩
    exact ⟨⟨_, _, _, rfl, .inr ⟨rfl, h⟩⟩, hB⟩
theorem block_some {i b j n : Int} (hm : Mays i b j) (n0 : 0 ≤ n) (n1 : n < 65536) (w : World) : Calls Try.prog 18 #[.agg #[.int .i64 i, .int .i64 b, .int .i64 j], .int .u16 n] w fun e w' => (∃ x z, e = .returned (.tuple #[.int .i64 x, .int .i64 z]) ∧ BlkR i b j n x z) ∧ Below w.heap.size w w' := by
  by_cases h : 1 ≤ n ∧ n ≤ b
  · refine (block_yes hm h.1 h.2 w).mono ?_
    rintro e w' ⟨rfl, hB⟩
    exact ⟨⟨_, _, rfl, .inl ⟨rfl, h, rfl⟩⟩, hB⟩
  · refine (block_no (fun hh => h hh.2) n0 n1 w).mono ?_
    rintro e w' ⟨rfl, hB⟩
    exact ⟨⟨_, _, rfl, .inr ⟨rfl, h⟩⟩, hB⟩

set_option maxHeartbeats 4000000 in
theorem geoapart_walk (v0 : Value) (g : Int × Int × Int) (n m a c : Int) (hg : GeoV v0 g) (wn : (Lit.int .u32 n).wf = true) (wm : (Lit.int .u32 m).wf = true) (wa : (Lit.int .u16 a).wf = true) (wc : (Lit.int .u16 c).wf = true) (w : World) :
    Calls Try.prog 6 #[v0, .int .u32 n, .int .u32 m, .int .u16 a, .int .u16 c] w fun e w' => e = .returned (.bool true) ∧ Below w.heap.size w w' := by
  obtain ⟨i, b, j⟩ := g
  obtain rfl := hg.val
  clear hg
  obtain ⟨n0, n1⟩ := wfu32 wn
  obtain ⟨m0, m1⟩ := wfu32 wm
  obtain ⟨a0, a1⟩ := wfu16 wa
  obtain ⟨c0, c1⟩ := wfu16 wc
  clear wn wm wa wc
  have d0 := hp_new w (.cells #[.int .i64 i, .int .i64 b, .int .i64 j] 23) rfl
  by_cases hm : Mays i b j
  rotate_left
  · go_enter Try.func6, Try.ntmps6
    go_wp2_with fail
    refine (geo_may_no hm _).mono ?_
    rintro e w1 ⟨rfl, hB⟩
    have hg1 := bblk hB d0
    have g0 := cl_of hg1 0
    have g1 := cl_of hg1 1
    have g2 := cl_of hg1 2
    go_wp2_with fail
    refine (sectors_no hm _).mono ?_
    rintro e w2 ⟨rfl, hB2⟩
    go_wp2_with fail
    refine (alive05 _).mono ?_
    rintro e w3 ⟨rfl, hB3⟩
    go_wp2_with fail
    go_ret
    exact ⟨rfl, bt (bt (bt (bnew w _) hB) hB2) hB3⟩
  · go_enter Try.func6, Try.ntmps6
    go_wp2_with fail
    refine (geo_may_yes hm _).mono ?_
    rintro e w1 ⟨rfl, hB⟩
    have hg1 := bblk hB d0
    have B1 := bt (bnew w (.cells #[.int .i64 i, .int .i64 b, .int .i64 j] 23)) hB
    clear hB d0
    go_wp2_with fail
    go_loopw [11, 12] (fun v11 v12 wr => ∃ k : Nat, ∃ F : Int, k ≤ 6 ∧ v12 = .int .i64 k ∧ v11 = .int .i64 F ∧ Hid (F = fr i b j k) ∧ wr.heap[w.heap.size]? = some (.cells #[.int .i64 i, .int .i64 b, .int .i64 j] 23 (0, 0)) ∧ Below w.heap.size w wr) (fun _ v _ => 6 - (intOf v).toNat)
    case atStart => exact ⟨0, 0, by omega, rfl, rfl, Lib.hid rfl, hg1, B1⟩
    case round =>
      obtain ⟨k, F, hk6, rfl, rfl, HF, hgr, hBr⟩ := hrel
      clear hg1 B1
      have g0 := cl_of hgr 0
      have g1 := cl_of hgr 1
      have g2 := cl_of hgr 2
      by_cases hlt : k < 6
      · as_aux_lemma =>
        go_wp2_with fail
        refine (part_yes hm k hlt _).mono ?_
        rw [← HF.out]
        rintro e w3 ⟨rfl, hB3⟩
        have hsb := sz_bd hm hlt
        have hfb := fr_bd hm (k := k) (by omega)
        rw [← HF.out] at hfb
        have HS := Lib.hid (fr_succ i b j hlt)
        generalize sz i b j k = Z at *
        have hg3 := blk_old (bblk hB3 hgr) (.cells #[.int .i64 F, .int .i64 Z] 34)
        have B3 := bal (bt hBr hB3) (.cells #[.int .i64 F, .int .i64 Z] 34)
        clear hB3 hBr g0 g1 g2
        go_wp2_with fail
        go_roundw
        case rel => exact ⟨k + 1, F + Z, by omega, by go_num, rfl, Lib.hid (by rw [HS.out, HF.out]), hg3, B3⟩
        case measure => simp [intOf]; omega
      · obtain rfl : k = 6 := by omega
        go_wp2_with fail
        refine (sectors_yes hm _).mono ?_
        rw [← HF.out]
        rintro e w3 ⟨rfl, hB3⟩
        have hg3 := bblk hB3 hgr
        have B3 := bt hBr hB3
        have hfb := fr_bd hm (k := 6) (by omega)
        rw [← HF.out] at hfb
        clear hB3 hBr g0 g1 g2 hgr
        go_wp2_with fail
        go_loopw [15] (fun v15 wr => ∃ x : Nat, (x : Int) ≤ F ∧ v15 = .int .i64 x ∧ wr.heap[w.heap.size]? = some (.cells #[.int .i64 i, .int .i64 b, .int .i64 j] 23 (0, 0)) ∧ Below w.heap.size w wr) (fun v _ => F.toNat - (intOf v).toNat)
        case atStart => exact ⟨0, by simp; omega, rfl, hg3, B3⟩
        case round =>
          obtain ⟨x, hx, rfl, hgr, hBr⟩ := hrel
          clear hg3 B3
          have g0 := cl_of hgr 0
          have g1 := cl_of hgr 1
          have g2 := cl_of hgr 2
          by_cases hlx : (x : Int) < F
          · as_aux_lemma =>
            obtain ⟨p, hp, h0, h1⟩ := find_part hm (x := (x : Int)) (by omega) (by rw [← HF.out]; exact hlx)
            go_wp2_with fail
            refine (where_yes hm hp h0 h1 _).mono ?_
            rintro e w4 ⟨rfl, hB4⟩
            have hsb := sz_bd hm hp
            have hfb' := fr_bd hm (k := p) (by omega)
            have hs := fr_succ i b j hp
            have hxz : (x : Int) - fr i b j p < sz i b j p := by omega
            have hxo : 0 ≤ (x : Int) - fr i b j p := by omega
            have hg4 := bblk hB4 hgr
            have B4 := bt hBr hB4
            clear hB4 hBr g0 g1 g2 hgr hs
            have g0 := cl_of hg4 0
            have g1 := cl_of hg4 1
            have g2 := cl_of hg4 2
            go_wp2_with fail
            refine (part_yes hm p hp _).mono ?_
            rintro e w5 ⟨rfl, hB5⟩
            have hg5 := blk_old (bblk hB5 hg4) (.cells #[.int .i64 (fr i b j p), .int .i64 (sz i b j p)] 34)
            have B5 := bal (bt B4 hB5) (.cells #[.int .i64 (fr i b j p), .int .i64 (sz i b j p)] 34)
            have hxe : fr i b j p + ((x : Int) - fr i b j p) = x := by omega
            generalize fr i b j p = P at *
            generalize sz i b j p = Z at *
            clear hB5 B4 g0 g1 g2 hg4 h0 h1
            go_wp2_with fail
            go_roundw
            case rel => exact ⟨x + 1, by omega, by go_num, hg5, B5⟩
            case measure => simp [intOf]; omega
          · have hxF : (x : Int) = F := by omega
            go_wp2_with fail
            refine (inode_some hm n0 n1 _).mono ?_
            rintro e w4 ⟨⟨X, Y, Z, rfl, HI⟩, hB4⟩
            have hg4 := bblk hB4 hgr
            have B4 := bt hBr hB4
            clear hB4 hBr g0 g1 g2 hgr
            have g0 := cl_of hg4 0
            have g1 := cl_of hg4 1
            have g2 := cl_of hg4 2
            go_wp2_with fail
            refine (inode_some hm m0 m1 _).mono ?_
            rintro e w5 ⟨⟨X', Y', Z', rfl, HK⟩, hB5⟩
            have hg5 := bblk hB5 hg4
            have B5 := bt B4 hB5
            clear hB5 B4 g0 g1 g2 hg4
            go_upto_region 22 with (fail)
            go_cut [138] (fun s wx => s = .bool (decide (Z = 0 ∧ Z' = 0)) ∧ wx = w5)
            case first =>
              rcases HI with ⟨rfl, -, -, -⟩ | ⟨rfl, -⟩
              · rcases HK with ⟨rfl, -, -, -⟩ | ⟨rfl, -⟩
                · go_wp2_with fail
                  go_meet
                  exact ⟨rfl, rfl⟩
                · go_wp2_with fail
                  go_meet
                  exact ⟨rfl, rfl⟩
              · go_wp2_with fail
                go_meet
                exact ⟨by simp, rfl⟩
            case rest => as_aux_lemma =>
              obtain ⟨rfl, rfl⟩ := hcut
              go_upto_if 138 with (fail)
              go_cut [] (fun wx => wx.heap[w.heap.size]? = some (.cells #[.int .i64 i, .int .i64 b, .int .i64 j] 23 (0, 0)) ∧ Below w.heap.size w wx)
              case first => as_aux_lemma =>
                by_cases hz : Z = 0 ∧ Z' = 0
                · rcases HI with ⟨rfl, hn, hX, hY⟩ | ⟨rfl, -⟩
                  · rcases HK with ⟨rfl, hk, hX', hY'⟩ | ⟨rfl, -⟩
                    · have g0 := cl_of hg5 0
                      have g1 := cl_of hg5 1
                      have g2 := cl_of hg5 2
                      have hs4 := fr_succ i b j (k := 4) (by decide)
                      have hz4 : sz i b j 4 = (i + 1) / 2 := rfl
                      have hf4 := fr_bd hm (k := 4) (by decide)
                      have q0 : fr i b j 4 ≤ X := by omega
                      have q1 : X < fr i b j 5 := by show X < fr i b j (4 + 1); rw [hs4, hz4]; have := hn.2; omega
                      have y0 : 0 ≤ Y := by omega
                      have y1 : Y ≤ 32 := by omega
                      have y2 : Y % 32 = 0 := by omega
                      have heq : X = X' ∧ Y = Y' ↔ n = m := by constructor <;> intro h <;> omega
                      clear hs4 hz4
                      have HX := Lib.hid hX
                      have HX' := Lib.hid hX'
                      have HY := Lib.hid hY
                      have HY' := Lib.hid hY'
                      clear hX hX' hY hY' hz
                      by_cases hnm : n = m
                      · obtain ⟨e1, e2⟩ := heq.2 hnm
                        subst hnm e1 e2
                        clear heq
                        go_wp2_with fail
                        refine (where_yes hm (p := 4) (by decide) q0 q1 _).mono ?_
                        rintro e w6 ⟨rfl, hB6⟩
                        go_wp2_with fail
                        go_meet
                        exact ⟨bblk hB6 hg5, bt B5 hB6⟩
                      · have hnmb : (n == m) = false := by simp [hnm]
                        by_cases hXX : X = X'
                        · have hYY : (Y == Y') = false := by rw [beq_eq_false_iff_ne]; exact fun e => hnm (heq.1 ⟨hXX, e⟩)
                          subst hXX
                          clear heq
                          go_wp2_with fail
                          refine (where_yes hm (p := 4) (by decide) q0 q1 _).mono ?_
                          rintro e w6 ⟨rfl, hB6⟩
                          go_wp2_with fail
                          go_meet
                          exact ⟨bblk hB6 hg5, bt B5 hB6⟩
                        · have hXXb : (X == X') = false := by simp [hXX]
                          clear heq
                          go_wp2_with fail
                          refine (where_yes hm (p := 4) (by decide) q0 q1 _).mono ?_
                          rintro e w6 ⟨rfl, hB6⟩
                          go_wp2_with fail
                          go_meet
                          exact ⟨bblk hB6 hg5, bt B5 hB6⟩
                    · exact absurd hz.2 (by decide)
                  · exact absurd hz.1 (by decide)
                · have hz' : decide (Z = 0 ∧ Z' = 0) = false := decide_eq_false hz
                  go_wp2_with fail
                  go_meet
                  exact ⟨hg5, B5⟩
              case rest => as_aux_lemma =>
                obtain ⟨hg6, B6⟩ := hcut
                clear hg5 B5 HK
                have g0 := cl_of hg6 0
                have g1 := cl_of hg6 1
                have g2 := cl_of hg6 2
                go_wp2_with fail
                refine (block_some hm a0 a1 _).mono ?_
                rintro e w6 ⟨⟨U, V, rfl, HA⟩, hB7⟩
                have hg7 := bblk hB7 hg6
                have B7 := bt B6 hB7
                clear hB7 B6 g0 g1 g2 hg6
                have g0 := cl_of hg7 0
                have g1 := cl_of hg7 1
                have g2 := cl_of hg7 2
                go_wp2_with fail
                refine (block_some hm c0 c1 _).mono ?_
                rintro e w7 ⟨⟨U', V', rfl, HC⟩, hB8⟩
                have hg8 := bblk hB8 hg7
                have B8 := bt B7 hB8
                clear hB8 B7 g0 g1 g2 hg7
                go_upto_region 28 with (fail)
                go_cut [193] (fun s wx => s = .bool (decide (V = 0 ∧ V' = 0)) ∧ wx = w7)
                case first =>
                  rcases HA with ⟨rfl, -, -⟩ | ⟨rfl, -⟩
                  · rcases HC with ⟨rfl, -, -⟩ | ⟨rfl, -⟩
                    · go_wp2_with fail
                      go_meet
                      exact ⟨rfl, rfl⟩
                    · go_wp2_with fail
                      go_meet
                      exact ⟨rfl, rfl⟩
                  · go_wp2_with fail
                    go_meet
                    exact ⟨by simp, rfl⟩
                case rest => as_aux_lemma =>
                  obtain ⟨rfl, rfl⟩ := hcut
                  go_upto_if 193 with (fail)
                  go_cut [] (fun wx => wx.heap[w.heap.size]? = some (.cells #[.int .i64 i, .int .i64 b, .int .i64 j] 23 (0, 0)) ∧ Below w.heap.size w wx)
                  case first => as_aux_lemma =>
                    by_cases hz : V = 0 ∧ V' = 0
                    · rcases HA with ⟨rfl, ha, hU⟩ | ⟨rfl, -⟩
                      · rcases HC with ⟨rfl, hc, hU'⟩ | ⟨rfl, -⟩
                        · have g0 := cl_of hg8 0
                          have g1 := cl_of hg8 1
                          have g2 := cl_of hg8 2
                          have hs5 := fr_succ i b j (k := 5) (by decide)
                          have hz5 : sz i b j 5 = b := rfl
                          have hf5 := fr_bd hm (k := 5) (by decide)
                          have q0 : fr i b j 5 ≤ U := by omega
                          have q1 : U < fr i b j 6 := by show U < fr i b j (5 + 1); rw [hs5, hz5]; have := ha.2; omega
                          have heq : U = U' ↔ a = c := by constructor <;> intro h <;> omega
                          clear hs5 hz5
                          have HU := Lib.hid hU
                          have HU' := Lib.hid hU'
                          clear hU hU' hz
                          by_cases hac : a = c
                          · have e1 := heq.2 hac
                            subst hac e1
                            clear heq
                            go_wp2_with fail
                            refine (where_yes hm (p := 5) (by decide) q0 q1 _).mono ?_
                            rintro e w9 ⟨rfl, hB9⟩
                            go_wp2_with fail
                            go_meet
                            exact ⟨bblk hB9 hg8, bt B8 hB9⟩
                          · have e1 : (U == U') = false := by rw [beq_eq_false_iff_ne]; exact fun e => hac (heq.1 e)
                            have e2 : (a == c) = false := by simp [hac]
                            clear heq
                            go_wp2_with fail
                            refine (where_yes hm (p := 5) (by decide) q0 q1 _).mono ?_
                            rintro e w9 ⟨rfl, hB9⟩
                            go_wp2_with fail
                            go_meet
                            exact ⟨bblk hB9 hg8, bt B8 hB9⟩
                        · exact absurd hz.2 (by decide)
                      · exact absurd hz.1 (by decide)
                    · have hz' : decide (V = 0 ∧ V' = 0) = false := decide_eq_false hz
                      go_wp2_with fail
                      go_meet
                      exact ⟨hg8, B8⟩
                  case rest => as_aux_lemma =>
                    obtain ⟨hg9, B9⟩ := hcut
                    clear hg8 B8 HC
                    have g0 := cl_of hg9 0
                    have g1 := cl_of hg9 1
                    have g2 := cl_of hg9 2
                    have ii := hm.i1
                    have ii0 := hm.i0
                    have wi : IntKind.u32.wrap i = i := IntWalk.u32_in _ (by omega)
                    rcases (by rcases HI with ⟨h, h', -, -⟩ | ⟨h, h'⟩; exact .inl ⟨h, h'.1, h'.2⟩; exact .inr (by by_cases h2 : n < 1; exact .inl ⟨h, h2⟩; exact .inr ⟨h, by omega, decide_eq_false (by omega)⟩) : (Z = 0 ∧ 1 ≤ n ∧ n ≤ i) ∨ (Z = 2 ∧ n < 1) ∨ (Z = 2 ∧ 1 ≤ n ∧ decide (n ≤ i) = false)) with ⟨rfl, e1, e2⟩ | ⟨rfl, e1⟩ | ⟨rfl, e1, e2⟩
                    all_goals
                      rcases (by rcases HA with ⟨h, h', -⟩ | ⟨h, h'⟩; exact .inl ⟨h, h'.1, h'.2⟩; exact .inr (by by_cases h2 : a < 1; exact .inl ⟨h, h2⟩; exact .inr ⟨h, by omega, decide_eq_false (by omega)⟩) : (V = 0 ∧ 1 ≤ a ∧ a ≤ b) ∨ (V = 2 ∧ a < 1) ∨ (V = 2 ∧ 1 ≤ a ∧ decide (a ≤ b) = false)) with ⟨rfl, r1, r2⟩ | ⟨rfl, r1⟩ | ⟨rfl, r1, r2⟩
                      all_goals as_aux_lemma =>
                        go_wp2_with fail
                        refine (alive05 _).mono ?_
                        rintro e wl ⟨rfl, hBl⟩
                        go_wp2_with fail
                        go_ret
                        exact ⟨rfl, bt B9 hBl⟩
end Go.Proofs.Ytcdmipgopffaaaa
