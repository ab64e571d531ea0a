/- package inode: the walk through Get. -/
import Derived.Test.YtcdmipgopffaaaaInoPut
import Derived.Laws.CopyOwn
namespace Go.Proofs.Ytcdmipgopffaaaa
open Go.RowKit
set_option maxRecDepth 20000
attribute [local go_sem ↓] Go.wp_at_zero Go.wp_at_succ

/-- The k-th number of two bytes. -/
def gn (l : List UInt8) (k : Nat) : Int := (gots (l.take 32)).getD k 0
/-- The inode that bytes may be. -/
def toIno (l : List UInt8) : Ino := ⟨gn l 0 % 256, gn l 1, gn l 2 + 65536 * gn l 3, gn l 4, gn l 5, gn l 6, gn l 7, gn l 8⟩
theorem gots_bd : ∀ (l : List UInt8) (k : Nat), 0 ≤ (gots l).getD k 0 ∧ (gots l).getD k 0 < 65536
  | [], k => by simp [gots]
  | [_], k => by simp [gots]
  | a :: b :: l, k => by
    rw [gots_two]
    cases k with
    | zero => have := a.toNat_lt; have := b.toNat_lt; simp; omega
    | succ k => simpa using gots_bd l k
theorem gn_bd (l : List UInt8) (k : Nat) : 0 ≤ gn l k ∧ gn l k < 65536 := gots_bd _ k
theorem toIno_wf (l : List UInt8) : (toIno l).Wf := by
  have h := gn_bd l
  refine ⟨?_, h 1, ?_, h 4, h 5, h 6, h 7, h 8⟩
  · show 0 ≤ gn l 0 % 256 ∧ gn l 0 % 256 < 256; omega
  · have := h 2; have := h 3; show 0 ≤ gn l 2 + 65536 * gn l 3 ∧ gn l 2 + 65536 * gn l 3 < 4294967296; omega
theorem or_sh16 {a b : Int} (ha : 0 ≤ a ∧ a < 65536) (hb : 0 ≤ b ∧ b < 65536) : bits .or .u32 a (b * 65536) = a + 65536 * b := by
  obtain ⟨a, rfl⟩ := Int.eq_ofNat_of_zero_le ha.1
  obtain ⟨b, rfl⟩ := Int.eq_ofNat_of_zero_le hb.1
  have e : ((b : Int) * 65536) = ((2 ^ 16 * b : Nat) : Int) := by omega
  rw [e, u32_or_nat _ _ (by omega) (by omega), Nat.or_comm, ← Nat.two_pow_add_eq_or_of_lt (by omega)]
  omega

/-- A block of eight cells set anew. -/
def set8 (w : World) (b : Nat) (v0 v1 v2 v3 v4 v5 v6 v7 : Value) : World := (((((((w.setCell ⟨b, 0, none⟩ v0).setCell ⟨b, 1, none⟩ v1).setCell ⟨b, 2, none⟩ v2).setCell ⟨b, 3, none⟩ v3).setCell ⟨b, 4, none⟩ v4).setCell ⟨b, 5, none⟩ v5).setCell ⟨b, 6, none⟩ v6).setCell ⟨b, 7, none⟩ v7
theorem set8_blk {w : World} {b : Nat} {u0 u1 u2 u3 u4 u5 u6 u7 : Value} {t : TypeId} {fz : Nat × Nat} (h : w.heap[b]? = some (.cells #[u0, u1, u2, u3, u4, u5, u6, u7] t fz)) (v0 v1 v2 v3 v4 v5 v6 v7 : Value) : (set8 w b v0 v1 v2 v3 v4 v5 v6 v7).heap[b]? = some (.cells #[v0, v1, v2, v3, v4, v5, v6, v7] t fz) :=
  by
  have h1 := blk_here (blk_here (blk_here (blk_here (blk_here (blk_here (blk_here (blk_here h 0 v0) 1 v1) 2 v2) 3 v3) 4 v4) 5 v5) 6 v6) 7 v7
  simp only [List.setIfInBounds_toArray, List.set_cons_zero, List.set_cons_succ] at h1
  exact h1
theorem set8_old {w : World} {b l : Nat} {o : Obj} (h : w.heap[l]? = some o) (hn : l ≠ b) (v0 v1 v2 v3 v4 v5 v6 v7 : Value) : (set8 w b v0 v1 v2 v3 v4 v5 v6 v7).heap[l]? = some o :=
  blk_set (blk_set (blk_set (blk_set (blk_set (blk_set (blk_set (blk_set h hn v0) hn v1) hn v2) hn v3) hn v4) hn v5) hn v6) hn v7
theorem set8_below {B : Nat} {a w : World} {b : Nat} (h : Below B a w) (hb : B ≤ b) (v0 v1 v2 v3 v4 v5 v6 v7 : Value) : Below B a (set8 w b v0 v1 v2 v3 v4 v5 v6 v7) :=
  (((((((h.setCell (p := ⟨b, 0, none⟩) hb v0).setCell (p := ⟨b, 1, none⟩) hb v1).setCell (p := ⟨b, 2, none⟩) hb v2).setCell (p := ⟨b, 3, none⟩) hb v3).setCell (p := ⟨b, 4, none⟩) hb v4).setCell (p := ⟨b, 5, none⟩) hb v5).setCell (p := ⟨b, 6, none⟩) hb v6).setCell (p := ⟨b, 7, none⟩) hb v7
theorem own_cap {W : World} {base : Nat} {e : TypeId} {v : Value} {n : Nat} {xs : List Value} (h : W.ownsRow base e 1 v (n + 1) xs) : ∃ (g cap : Nat) (cur : Array Value), v = .slice (some ⟨g, 0, none⟩) (n + 1) cap ∧ base ≤ g ∧ W.heap[g]? = some (.cells cur e (0, 0)) ∧ n + 1 ≤ cap ∧ ∀ (k : Nat) (u : Value), xs[k]? = some u → cur[k]? = some u := by
  rcases h.2 with ⟨_, hz⟩ | ⟨g, cap, cur, rfl, h0, hh, hnc, hcm, hcs, hct⟩
  · omega
  · refine ⟨g, cap, cur, rfl, h0, hh, hnc, fun k u hk => ?_⟩
    rw [← hct, List.getElem?_take] at hk
    split at hk
    · simpa using hk
    · cases hk

set_option maxHeartbeats 1000000 in
theorem iget_short (l : List UInt8) (hl : l.length < 32) (w : World) : Calls Try.prog 30 #[.string (bs l)] w fun e w' => e = .returned (.tuple #[.agg (ic Ino.zero), .int .i64 6]) ∧ Below w.heap.size w w' := by
  have hs := bs_size l
  go_enter Try.func30, Try.ntmps30
  go_wp2_with fail
  exact bodyPost_ret (v := .tuple #[.agg (ic Ino.zero), .int .i64 6]) (by simp [results, Try.results30, go_sem, ic, Ino.zero]) rfl ⟨rfl, bnew _ _⟩

set_option maxHeartbeats 4000000 in
theorem iget_long (l : List UInt8) (hl : 32 ≤ l.length) (hl2 : l.length ≤ 100000) (w : World) : Calls Try.prog 30 #[.string (bs l)] w fun e w' =>
    Below w.heap.size w w' ∧ ((toIno l).May ∧ (toIno l).bytes = l → e = .returned (.tuple #[.agg (ic (toIno l)), .int .i64 0])) ∧ (¬ ((toIno l).May ∧ (toIno l).bytes = l) → e = .returned (.tuple #[.agg (ic Ino.zero), .int .i64 7])) := by
  have hs := bs_size l
  have ht := bs_take' l 32
  have htl : (l.take 32).length = 32 := by rw [List.length_take]; omega
  have HTL := Lib.hid htl
  clear htl
  go_enter Try.func30, Try.ntmps30
  go_wp2_with fail
  refine (got_any (l.take 32) (by rw [HTL.out]; decide) _).mono ?_
  rw [gots_length, HTL.out]
  rintro e w2 ⟨⟨v, rfl, hown⟩, hB2⟩
  obtain ⟨g, cap, cur, rfl, hgb, hgc, hcap, hgx⟩ := own_cap (n := 15) hown
  have hx2 := bblk hB2 (hp_new w (.cells #[.int .u8 0, .int .u16 0, .int .u32 0, .int .u16 0, .int .u16 0, .int .u16 0, .int .u16 0, .int .u16 0] 51) rfl)
  have B2 := bt (bnew w (.cells #[.int .u8 0, .int .u16 0, .int .u32 0, .int .u16 0, .int .u16 0, .int .u16 0, .int .u16 0, .int .u16 0] 51)) hB2
  have hgl : w.heap.size < g := by simp at hgb; omega
  have hgn : ∀ k, k < 16 → cur[k]? = some (.int .u16 (gn l k)) := fun k hk => hgx k _ (u16s_get _ (by rw [gots_length, HTL.out]; exact hk))
  have q0 := (cl_of hgc 0).trans (hgn 0 (by decide))
  have q1 := (cl_of hgc 1).trans (hgn 1 (by decide))
  have q2 := (cl_of hgc 2).trans (hgn 2 (by decide))
  have q3 := (cl_of hgc 3).trans (hgn 3 (by decide))
  have q8 := (cl_of hgc 8).trans (hgn 8 (by decide))
  have HGN := Lib.hid hgn
  have c0 := cl_of hx2 0
  have c1 := cl_of hx2 1
  have c2 := cl_of hx2 2
  have c3 := cl_of hx2 3
  have c4 := cl_of hx2 4
  have c5 := cl_of hx2 5
  have c6 := cl_of hx2 6
  have c7 := cl_of hx2 7
  have z0 := fz_of hx2 0
  have z1 := fz_of hx2 1
  have z2 := fz_of hx2 2
  have z3 := fz_of hx2 3
  have z4 := fz_of hx2 4
  have z5 := fz_of hx2 5
  have z6 := fz_of hx2 6
  have z7 := fz_of hx2 7
  obtain ⟨n0a, n0b⟩ := gn_bd l 0
  obtain ⟨n2a, n2b⟩ := gn_bd l 2
  obtain ⟨n3a, n3b⟩ := gn_bd l 3
  have hor := or_sh16 ⟨n2a, n2b⟩ ⟨n3a, n3b⟩
  have hk8 : IntKind.u8.wrap (gn l 0) = gn l 0 % 256 := by simp [IntKind.wrap_u8]
  clear hgn hgx hown hB2
  go_wp2_with fail
  go_region
  have hfold : ((((((((w2.setCell ⟨w.heap.size, 0, none⟩ (.int .u8 (gn l 0 % 256))).setCell ⟨w.heap.size, 1, none⟩ (.int .u16 (gn l 1))).setCell ⟨w.heap.size, 2, none⟩ (.int .u32 (gn l 2 + 65536 * gn l 3))).setCell ⟨w.heap.size, 3, none⟩ (.int .u16 0)).setCell ⟨w.heap.size, 4, none⟩ (.int .u16 0)).setCell ⟨w.heap.size, 5, none⟩ (.int .u16 0)).setCell ⟨w.heap.size, 6, none⟩ (.int .u16 0)).setCell ⟨w.heap.size, 7, none⟩ (.int .u16 (gn l 8))) = set8 w2 w.heap.size (.int .u8 (gn l 0 % 256)) (.int .u16 (gn l 1)) (.int .u32 (gn l 2 + 65536 * gn l 3)) (.int .u16 0) (.int .u16 0) (.int .u16 0) (.int .u16 0) (.int .u16 (gn l 8)) := rfl
  rw [hfold]
  clear hfold
  have hx3 := set8_blk hx2 (.int .u8 (gn l 0 % 256)) (.int .u16 (gn l 1)) (.int .u32 (gn l 2 + 65536 * gn l 3)) (.int .u16 0) (.int .u16 0) (.int .u16 0) (.int .u16 0) (.int .u16 (gn l 8))
  have hg3 := set8_old hgc (Nat.ne_of_gt hgl) (.int .u8 (gn l 0 % 256)) (.int .u16 (gn l 1)) (.int .u32 (gn l 2 + 65536 * gn l 3)) (.int .u16 0) (.int .u16 0) (.int .u16 0) (.int .u16 0) (.int .u16 (gn l 8))
  have B3 := set8_below B2 (Nat.le_refl _) (.int .u8 (gn l 0 % 256)) (.int .u16 (gn l 1)) (.int .u32 (gn l 2 + 65536 * gn l 3)) (.int .u16 0) (.int .u16 0) (.int .u16 0) (.int .u16 0) (.int .u16 (gn l 8))
  generalize set8 w2 w.heap.size (.int .u8 (gn l 0 % 256)) (.int .u16 (gn l 1)) (.int .u32 (gn l 2 + 65536 * gn l 3)) (.int .u16 0) (.int .u16 0) (.int .u16 0) (.int .u16 0) (.int .u16 (gn l 8)) = w3 at *
  clear q0 q1 q2 q3 q8 c0 c1 c2 c3 c4 c5 c6 c7 z0 z1 z2 z3 z4 z5 z6 z7 hx2 hgc B2 hor hk8
  first | (rename_i hK; refine hK _ _ ?_; clear hK) | (rename_i hK _; refine hK _ _ ?_; clear hK) | (rename_i hK _ _; refine hK _ _ ?_; clear hK)
  have i8 : (8 : Int) ≤ (cap : Int) := by omega
  have hc4 : ¬ cap = 4 := by omega
  have hds : (∀ (j : Nat) (u : Value), (u16s [gn l 4, gn l 5, gn l 6, gn l 7])[j]? = some u → w3.cell? ((⟨g, 4, none⟩ : Addr).add j) = some u) := by
    intro j u hj
    rw [Addr.add_lit, cl_of hg3]
    rcases j with _ | _ | _ | _ | j
    · rw [HGN.out 4 (by decide)]; exact hj
    · rw [HGN.out 5 (by decide)]; exact hj
    · rw [HGN.out 6 (by decide)]; exact hj
    · rw [HGN.out 7 (by decide)]; exact hj
    · simp [u16s] at hj
  have HDS := Lib.hid hds
  clear hds
  go_wp2_with fail
  have hsz16 : (Try.prog.info? 40).map (·.size) = some 1 := by kernel_rfl
  go_region_law (first | ((refine step_copy_splice (by rfl) (.tmp 36) (.tmp 38) 58 58 (by rfl) 40 Try.underlying58 hsz16 (some ⟨w.heap.size, 3, none⟩) (some ⟨g, 4, none⟩) 4 4 4 (cap - 4) (by rfl) (by rfl) w.heap.size 3 [.int .u8 (gn l 0 % 256), .int .u16 (gn l 1), .int .u32 (gn l 2 + 65536 * gn l 3), .int .u16 0, .int .u16 0, .int .u16 0, .int .u16 0, .int .u16 (gn l 8)] 51 hx3 (u16s [gn l 4, gn l 5, gn l 6, gn l 7]) rfl (fun _ => ⟨rfl, ⟨_, rfl, HDS.out⟩⟩) (Nat.le_of_ble_eq_true rfl) (one_u16s _) w.heap.size w B3.drew.drew (Nat.le_refl _) ?_); intro w4 hx4 B4))
  first | (rename_i hK; refine hK _ _ ?_; clear hK) | (rename_i hK _; refine hK _ _ ?_; clear hK) | (rename_i hK _ _; refine hK _ _ ?_; clear hK)
  have hx5 : w4.heap[w.heap.size]? = some (.cells (ic (toIno l)) 51 (0, 0)) := hx4.out
  have hwf := toIno_wf l
  unfold ic at hx5
  clear hx4 hx3 hg3 HGN HDS
  have c0 := cl_of hx5 0
  have c1 := cl_of hx5 1
  have c2 := cl_of hx5 2
  have c3 := cl_of hx5 3
  have c4 := cl_of hx5 4
  have c5 := cl_of hx5 5
  have c6 := cl_of hx5 6
  have c7 := cl_of hx5 7
  generalize hX : toIno l = x at *
  have HX := Lib.hid hX
  clear hX
  by_cases hm : x.May
  · have hp := iput_yes x hwf hm
    unfold ic at hp
    go_wp2_with fail
    refine (hp _).mono ?_
    rintro e w5 ⟨rfl, hB5⟩
    have hx6 := bblk hB5 hx5
    have B5 := bt B4 hB5
    clear c0 c1 c2 c3 c4 c5 c6 c7 hp hB5 hx5
    have c0 := cl_of hx6 0
    have c1 := cl_of hx6 1
    have c2 := cl_of hx6 2
    have c3 := cl_of hx6 3
    have c4 := cl_of hx6 4
    have c5 := cl_of hx6 5
    have c6 := cl_of hx6 6
    have c7 := cl_of hx6 7
    have z0 := fz_of hx6 0
    have z1 := fz_of hx6 1
    have z2 := fz_of hx6 2
    have z3 := fz_of hx6 3
    have z4 := fz_of hx6 4
    have z5 := fz_of hx6 5
    have z6 := fz_of hx6 6
    have z7 := fz_of hx6 7
    by_cases he : x.bytes = l
    · have hq := bs_eq' he
      have HE := Lib.hid he
      clear he
      go_wp2_with fail
      refine bodyPost_ret (v := .tuple #[.agg (ic x), .int .i64 0]) (by simp [results, Try.results30, go_sem, ic, c0, c1, c2, c3, c4, c5, c6, c7]) rfl ⟨?_, fun _ => by rw [HX.out], fun hn => absurd ⟨by rw [HX.out]; exact hm, by rw [HX.out]; exact HE.out⟩ hn⟩
      exact set8_below B5 (Nat.le_refl _) _ _ _ _ _ _ _ _
    · have hq := bs_ne' he
      have HE := Lib.hid he
      clear he
      go_wp2_with fail
      refine bodyPost_ret (v := .tuple #[.agg (ic Ino.zero), .int .i64 7]) (by simp [results, Try.results30, go_sem, ic, Ino.zero, c0, c1, c2, c3, c4, c5, c6, c7]) rfl ⟨?_, fun hn => absurd (by rw [HX.out] at hn; exact hn.2) HE.out, fun _ => rfl⟩
      exact set8_below B5 (Nat.le_refl _) _ _ _ _ _ _ _ _
  · have hp := iput_no x hwf hm
    unfold ic at hp
    go_wp2_with fail
    refine (hp _).mono ?_
    rintro e w5 ⟨rfl, hB5⟩
    have hx6 := bblk hB5 hx5
    have B5 := bt B4 hB5
    clear c0 c1 c2 c3 c4 c5 c6 c7 hp hB5 hx5
    have c0 := cl_of hx6 0
    have c1 := cl_of hx6 1
    have c2 := cl_of hx6 2
    have c3 := cl_of hx6 3
    have c4 := cl_of hx6 4
    have c5 := cl_of hx6 5
    have c6 := cl_of hx6 6
    have c7 := cl_of hx6 7
    have z0 := fz_of hx6 0
    have z1 := fz_of hx6 1
    have z2 := fz_of hx6 2
    have z3 := fz_of hx6 3
    have z4 := fz_of hx6 4
    have z5 := fz_of hx6 5
    have z6 := fz_of hx6 6
    have z7 := fz_of hx6 7
    go_wp2_with fail
    refine bodyPost_ret (v := .tuple #[.agg (ic Ino.zero), .int .i64 7]) (by simp [results, Try.results30, go_sem, ic, Ino.zero, c0, c1, c2, c3, c4, c5, c6, c7]) rfl ⟨?_, fun hn => absurd (by rw [HX.out] at hn; exact hn.1) hm, fun _ => rfl⟩
    exact set8_below B5 (Nat.le_refl _) _ _ _ _ _ _ _ _
end Go.Proofs.Ytcdmipgopffaaaa
