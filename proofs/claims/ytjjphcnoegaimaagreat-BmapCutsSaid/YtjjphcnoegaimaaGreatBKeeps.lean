/- lunettelaw09.BmapKeeps: the walk. -/
import Derived.Test.YtjjphcnoegaimaaGreatAlive09
namespace Go.Proofs.YtjjphcnoegaimaaGreat
open Go.RowKit Go.Shelf Go.Maps
set_option linter.unusedSimpArgs false
set_option maxRecDepth 20000
set_option linter.unusedVariables false

section
variable {w W W1 W' : World} {X : Nat → Prop} {p jb tb m bg bx bw : Nat} {M : Wl} {x : Ino} {want : List Int}
def gvc : Array Value := #[.int .i64 8, .int .i64 16, .int .i64 40]
/-- A transaction, a geometry and an inode in boxes. -/
structure RmI9 (w : World) (X : Nat → Prop) (p jb tb m bg bx : Nat) (x : Ino) (M : Wl) (W : World) : Prop where
  tj : TJ w X p jb 63 0 1 40 0 0 (newS 63) tb m M false W
  ig : W.heap[bg]? = some (.cells gvc 56 (0, 0))
  ix : W.heap[bx]? = some (.cells (ic x) 61 (0, 0))
  st : St x M 62 16
  n : x.n = 16
structure RmX9 (w : World) (X : Nat → Prop) (jb tb m bg bx : Nat) : Prop where
  xg : X bg
  xx : X bx
  gg : w.heap.size ≤ bg
  gx : w.heap.size ≤ bx
  gj : bg ≠ jb ∧ bg ≠ tb ∧ bg ≠ m
  xj : bx ≠ jb ∧ bx ≠ tb ∧ bx ≠ m
  ne : bg ≠ bx
theorem RmI9.of (h : RmI9 w X p jb tb m bg bx x M W) (hB : Below W.heap.size W W') : RmI9 w X p jb tb m bg bx x M W' := ⟨h.tj.of hB, bblk hB h.ig, bblk hB h.ix, h.st, h.n⟩
theorem TJ.put8 {Y : Nat → Prop} {w0 : World} {N B fr n g r : Nat} {s : DS} {dn : Bool} (h : TJ w0 Y p jb N B fr n g r s tb m M dn W) {b : Nat} (hb : Y b) (hw : w0.heap.size ≤ b) (h1 : b ≠ jb) (h2 : b ≠ tb) (h3 : b ≠ m) (y : Ino) : TJ w0 Y p jb N B fr n g r s tb m M dn (put8 W b y) :=
  (((((((h.setC hb hw h1 h2 h3 0 _).setC hb hw h1 h2 h3 1 _).setC hb hw h1 h2 h3 2 _).setC hb hw h1 h2 h3 3 _).setC hb hw h1 h2 h3 4 _).setC hb hw h1 h2 h3 5 _).setC hb hw h1 h2 h3 6 _).setC hb hw h1 h2 h3 7 _
/-- Behind a Set: its answer is laid in the inode's box. -/
theorem RmI9.step (h : RmI9 w X p jb tb m bg bx x M W) (hx : RmX9 w X jb tb m bg bx) {k : Nat} {v : Int} (h0 : 0 ≤ v) (h16 : v < 16) (hT : TJ w X p jb 63 0 1 40 0 0 (newS 63) tb m (stM x M 62 k v) false W1) (hK : Kb w (fun k => X k ∧ k ≠ m) W W1) :
    RmI9 w X p jb tb m bg bx (stX x k v) (stM x M 62 k v) (put8 W1 bx (stX x k v)) := by
  have hg1 := (hK bg (.inr ⟨hx.xg, hx.gj.2.2⟩)).trans h.ig
  have hx1 := (hK bx (.inr ⟨hx.xx, hx.xj.2.2⟩)).trans h.ix
  exact ⟨hT.put8 hx.xx hx.gx hx.xj.1 hx.xj.2.1 hx.xj.2.2 _, (put8_other _ hx.ne _).trans hg1, put8_here hx1 _, h.st.set k h0 (by omega) (by omega), by rw [stX_n]; exact h.n⟩
/-- And the array of what was wanted. -/
structure RmK (w : World) (X : Nat → Prop) (p jb tb m bg bx bw : Nat) (x : Ino) (M : Wl) (want : List Int) (W : World) : Prop where
  i : RmI9 w X p jb tb m bg bx x M W
  iw : W.heap[bw]? = some (.cells (u16s want).toArray 90 (0, 0))
  len : want.length = 36
  pg : ∀ q, q < 36 → pg x M 62 q = want.getD q 0
structure RmW (w : World) (X : Nat → Prop) (jb tb m bg bx bw : Nat) : Prop where
  k : RmX9 w X jb tb m bg bx
  xw : X bw
  gw : w.heap.size ≤ bw
  wj : bw ≠ jb ∧ bw ≠ tb ∧ bw ≠ m
  wg : bw ≠ bg
  wx : bw ≠ bx
theorem want_set (zs : List Int) (k : Nat) (v : Int) : (u16s zs).toArray.setIfInBounds k (.int .u16 v) = (u16s (zs.set k v)).toArray := by
  apply Array.ext'
  simp [u16s, List.map_set]
theorem RmK.of (h : RmK w X p jb tb m bg bx bw x M want W) (hB : Below W.heap.size W W') : RmK w X p jb tb m bg bx bw x M want W' := ⟨h.i.of hB, bblk hB h.iw, h.len, h.pg⟩
theorem RmK.step (h : RmK w X p jb tb m bg bx bw x M want W) (hx : RmW w X jb tb m bg bx bw) {k : Nat} (hk : k < 36) {v : Int} (h0 : 0 ≤ v) (h16 : v < 16) (hT : TJ w X p jb 63 0 1 40 0 0 (newS 63) tb m (stM x M 62 k v) false W1) (hK : Kb w (fun k => X k ∧ k ≠ m) W W1) :
    RmK w X p jb tb m bg bx bw (stX x k v) (stM x M 62 k v) (want.set k v) ((put8 W1 bx (stX x k v)).setCell ⟨bw, k, none⟩ (.int .u16 v)) := by
  have h1 := h.i.step hx.k h0 h16 hT hK
  have hw1 := (put8_other W1 hx.wx (stX x k v)).trans ((hK bw (.inr ⟨hx.xw, hx.wj.2.2⟩)).trans h.iw)
  refine ⟨⟨h1.tj.setC hx.xw hx.gw hx.wj.1 hx.wj.2.1 hx.wj.2.2 k _, (kb_set k _ bg hx.wg.symm).trans h1.ig, (kb_set k _ bx hx.wx.symm).trans h1.ix, h1.st, h1.n⟩, ?_, by rw [List.length_set]; exact h.len, fun q hq => ?_⟩
  · exact (blk_here hw1 k (.int .u16 v)).trans (by rw [want_set])
  · rw [h.i.st.pg_set hk h0 (by omega) q hq, h.pg q hq]
    simp only [List.getD_eq_getElem?_getD, List.getElem?_set]
    have := h.len
    by_cases e : q = k
    · subst e
      rw [if_pos rfl, if_pos rfl, if_pos (by omega)]
      rfl
    · rw [if_neg e, if_neg (fun e2 => e e2.symm)]
theorem want_cell (h : RmK w X p jb tb m bg bx bw x M want W) {k : Nat} (hk : k < 36) : W.cell? ⟨bw, k, none⟩ = some (.int .u16 (want.getD k 0)) := by
  rw [cl_of h.iw, List.getElem?_toArray, u16s_get want (by rw [h.len]; exact hk)]
theorem zero_want (w : World) : (zeroValue 90).run Tryz.prog w = .ok (.agg (u16s (List.replicate 36 0)).toArray) w := by kernel_rfl

set_option maxHeartbeats 8000000 in
theorem keeps_walk {w : World} (v : Value) (ls : List St9) (hl : Sl9 w v ls) : Calls Tryz.prog 6 #[v] w fun e w' => e = .returned (.bool true) ∧ Below w.heap.size w w' := by
  have hlong := long9_any hl
  obtain ⟨⟨ao, cap, rfl, hcell⟩, hwf⟩ := hl
  have HC := Lib.hid hcell
  have HW := Lib.hid hwf
  have HLG := Lib.hid hlong
  clear hcell hwf hlong
  go_enter Tryz.func6, Tryz.ntmps6
  go_wp2_with fail
  refine HLG.out.mono ?_
  rintro e w1 ⟨lb, rfl, hlb, rfl⟩
  cases lb with
  | true =>
    go_wp2_with fail
    refine (alive09_any _).mono ?_
    rintro e w2 ⟨rfl, hB2⟩
    go_wp2_with fail
    go_ret
    exact ⟨rfl, hB2⟩
  | false =>
    have hl80 := hlb rfl
    have HL := Lib.hid hl80
    clear hlb hl80 HLG
    go_wp2_with fail
    refine (fresh_any (w0 := w) (Below.refl _ w)).mono ?_
    rintro e w2 ⟨tb, rfl, X, p, jb, m, hT, hX, hjb, htb, hm⟩
    unfold gv ic freshI
    have HT := Lib.hid hT
    clear hT
    go_wp2_with fail
    obtain ⟨W3, hW3⟩ : ∃ W3, ((w2.alloc (.cells #[.int .i64 8, .int .i64 16, .int .i64 40] 56)).alloc (.cells #[.int .u8 1, .int .u16 0, .int .u32 2304, .int .u16 0, .int .u16 0, .int .u16 0, .int .u16 0, .int .u16 16] 61)).alloc (.cells #[.int .u16 0, .int .u16 0, .int .u16 0, .int .u16 0, .int .u16 0, .int .u16 0, .int .u16 0, .int .u16 0, .int .u16 0, .int .u16 0, .int .u16 0, .int .u16 0, .int .u16 0, .int .u16 0, .int .u16 0, .int .u16 0, .int .u16 0, .int .u16 0, .int .u16 0, .int .u16 0, .int .u16 0, .int .u16 0, .int .u16 0, .int .u16 0, .int .u16 0, .int .u16 0, .int .u16 0, .int .u16 0, .int .u16 0, .int .u16 0, .int .u16 0, .int .u16 0, .int .u16 0, .int .u16 0, .int .u16 0, .int .u16 0] 90) = W3 := ⟨_, rfl⟩
    rw [hW3]
    have hB3 : Below w2.heap.size w2 W3 := by rw [← hW3]; exact bal (bal (bnew _ _) _) _
    have b1 : W3.heap[w2.heap.size]? = some (.cells gvc 56 (0, 0)) := by rw [← hW3]; exact (hp_old _ _ (by simp; omega)).trans ((hp_old _ _ (by simp)).trans (hp_new _ _ rfl))
    have b2 : W3.heap[w2.heap.size + 1]? = some (.cells (ic freshI) 61 (0, 0)) := by rw [← hW3]; exact (hp_old _ _ (by simp)).trans (hp_new _ _ (by simp))
    have b3 : W3.heap[w2.heap.size + 1 + 1]? = some (.cells (u16s (List.replicate 36 0)).toArray 90 (0, 0)) := by rw [← hW3]; exact hp_new _ _ (by simp)
    have hs3 := blk_lt b3
    have hK0 : RmK w (fun k => X k ∨ w2.heap.size ≤ k ∧ k < W3.heap.size) p jb tb m w2.heap.size (w2.heap.size + 1) (w2.heap.size + 1 + 1) freshI freshM (List.replicate 36 0) W3 := ⟨⟨HT.out.take hB3, b1, b2, fresh_st, rfl⟩, b3, List.length_replicate, fun q hq => by rw [fresh_pg q hq, List.getD_eq_getElem?_getD, List.getElem?_replicate]; split <;> rfl⟩
    have hw := HT.out.j.dev.below.size
    have hj2 := blk_lt HT.out.j.obj
    have ht2 := blk_lt HT.out.t.obj
    have hm2 := HT.out.t.mlt
    obtain ⟨bg, hbg⟩ : ∃ bg, w2.heap.size = bg := ⟨_, rfl⟩
    rw [hbg] at hK0 hs3 hw hj2 ht2 hm2
    simp only [hbg]
    obtain ⟨bx, hbx⟩ : ∃ bx, bg + 1 = bx := ⟨_, rfl⟩
    obtain ⟨bw, hbw⟩ : ∃ bw, bx + 1 = bw := ⟨_, rfl⟩
    rw [hbx, hbw] at hK0 hs3
    simp only [hbx, hbw]
    have hRW : RmW w (fun k => X k ∨ bg ≤ k ∧ k < W3.heap.size) jb tb m bg bx bw := ⟨⟨.inr ⟨by omega, by omega⟩, .inr ⟨by omega, by omega⟩, by omega, by omega, by omega, by omega, by omega⟩, .inr ⟨by omega, by omega⟩, by omega, by omega, by omega, by omega⟩
    have HRW := Lib.hid hRW
    have HK0 := Lib.hid hK0
    clear hW3 hB3 b1 b2 b3 hs3 hK0 hw hj2 ht2 hm2 hbg hbx hbw hRW HT hX hjb htb hm
    generalize (fun k => X k ∨ bg ≤ k ∧ k < W3.heap.size) = X at *
    go_loopw [8, 9, 10, 11, 12, 13, 14, 15] (fun v8 _ _ _ _ _ _ _ wr => ∃ (k : Nat) (x : Ino) (M : Wl) (want : List Int), k ≤ ls.length ∧ v8 = .int .i64 k ∧ RmK w X p jb tb m bg bx bw x M want wr) (fun v8 _ _ _ _ _ _ _ _ => ls.length - (intOf v8).toNat)
    case atStart => exact ⟨0, _, _, _, Nat.zero_le _, rfl, HK0.out⟩
    case round =>
      obtain ⟨k, x, M, want, hk, rfl, hR⟩ := hrel
      by_cases hlt : k < ls.length
      · obtain ⟨b, off, rfl, hb, hc⟩ := HC.out (by omega)
        obtain ⟨c0, c1, c2, c3⟩ := hc k hlt
        have hBw := hR.i.tj.j.dev.below
        have d1 := (hBw.cell (p := ⟨b, off + k * 4 + 1, none⟩) hb).trans c1
        have d2 := (hBw.cell (p := ⟨b, off + k * 4 + 2, none⟩) hb).trans c2
        obtain ⟨-, -, hbwf, -⟩ := HW.out (ls.getD k st90) (by rw [List.getD_eq_getElem?_getD, List.getElem?_eq_getElem hlt]; exact List.getElem_mem hlt)
        generalize ls.getD k st90 = sp at *
        obtain ⟨kk, hkk⟩ : ∃ kk : Nat, IntKind.u64.wrap sp.page % 36 = (kk : Int) := ⟨(IntKind.u64.wrap sp.page % 36).toNat, by omega⟩
        have hkk36 : kk < 36 := by omega
        have hkt : (IntKind.u64.wrap sp.page).tmod 36 = (kk : Int) := by rw [Int.tmod_eq_emod_of_nonneg (by rw [IntKind.wrap_u64]; omega)]; exact hkk
        have hw2 : IntKind.i64.wrap (kk : Int) = (kk : Int) := i64_sm (by omega) (by omega)
        have hw3 : wrap64 (kk : Int) = (kk : Int) := by unfold wrap64; omega
        obtain ⟨v, hv⟩ : ∃ v : Int, sp.b % 16 = v := ⟨_, rfl⟩
        have hvt : sp.b.tmod 16 = v := by rw [Int.tmod_eq_emod_of_nonneg (wfu16 hbwf).1]; exact hv
        have hv0 : 0 ≤ v := by omega
        have hv16 : v < 16 := by omega
        have hset := bset_any hR.i.tj geoN_small hR.i.st (by rw [hR.i.n]; rfl) hv0 (by omega) (by omega) kk hkk36
        obtain ⟨y, hy⟩ : ∃ y, stX x kk v = y := ⟨_, rfl⟩
        rw [hy] at hset
        unfold gv ic at hset
        have hgi := hR.i.ig
        have hxi := hR.i.ix
        unfold gvc at hgi
        unfold ic at hxi
        have g0 := cl_of hgi 0
        have g1 := cl_of hgi 1
        have g2 := cl_of hgi 2
        have q0 := cl_of hxi 0
        have q1 := cl_of hxi 1
        have q2 := cl_of hxi 2
        have q3 := cl_of hxi 3
        have q4 := cl_of hxi 4
        have q5 := cl_of hxi 5
        have q6 := cl_of hxi 6
        have q7 := cl_of hxi 7
        have HSET := Lib.hid hset
        have HR := Lib.hid hR
        have HY := Lib.hid hy
        have HV := Lib.hid hv16
        clear hset hR hgi hxi hy hc c0 c1 c2 c3 hBw hbwf
        go_wp2_with fail
        refine HSET.out.mono ?_
        rintro e w4 ⟨rfl, hT4, hK4⟩
        have hx4 := (hK4 bx (.inr ⟨HRW.out.k.xx, HRW.out.k.xj.2.2⟩)).trans HR.out.i.ix
        have hw4 := (hK4 bw (.inr ⟨HRW.out.xw, HRW.out.wj.2.2⟩)).trans HR.out.iw
        have hx5 := blk_old hx4 (.cells #[.int .u8 y.k, .int .u16 y.l, .int .u32 y.s, .int .u16 y.d0, .int .u16 y.d1, .int .u16 y.d2, .int .u16 y.d3, .int .u16 y.n] 61)
        have hw5 := blk_old hw4 (.cells #[.int .u8 y.k, .int .u16 y.l, .int .u32 y.s, .int .u16 y.d0, .int .u16 y.d1, .int .u16 y.d2, .int .u16 y.d3, .int .u16 y.n] 61)
        have hxw : bx < w4.heap.size := blk_lt hx4
        have hww : bw < w4.heap.size := blk_lt hw4
        have hst := (HR.out.step HRW.out hkk36 hv0 HV.out hT4 hK4).of (bnew _ (.cells #[.int .u8 y.k, .int .u16 y.l, .int .u32 y.s, .int .u16 y.d0, .int .u16 y.d1, .int .u16 y.d2, .int .u16 y.d3, .int .u16 y.n] 61))
        rw [HY.out] at hst
        have hl5 := HR.out.len
        have b5 := hp_new w4 (.cells #[.int .u8 y.k, .int .u16 y.l, .int .u32 y.s, .int .u16 y.d0, .int .u16 y.d1, .int .u16 y.d2, .int .u16 y.d3, .int .u16 y.n] 61) rfl
        have n0 := cl_of b5 0
        have n1 := cl_of b5 1
        have n2 := cl_of b5 2
        have n3 := cl_of b5 3
        have n4 := cl_of b5 4
        have n5 := cl_of b5 5
        have n6 := cl_of b5 6
        have n7 := cl_of b5 7
        unfold ic at hx4
        have s0 := cl_of hx4 0
        have s1 := cl_of hx4 1
        have s2 := cl_of hx4 2
        have s3 := cl_of hx4 3
        have s4 := cl_of hx4 4
        have s5 := cl_of hx4 5
        have s6 := cl_of hx4 6
        have s7 := cl_of hx4 7
        have sz := fz_of hx4
        have ww : ∃ u, w4.cell? ⟨bw, kk, none⟩ = some u := ⟨_, by rw [cl_of hw4, List.getElem?_toArray, u16s_get want (by omega)]⟩
        obtain ⟨uw, ww⟩ := ww
        have wz := fz_of hw4 kk
        have hnx : bx ≠ bw := HRW.out.wx.symm
        have hnw : bw ≠ bx := HRW.out.wx
        have HST := Lib.hid hst
        unfold put8 at HST
        clear hT4 hK4 hx4 hw4 hx5 hw5 hst b5 HSET g0 g1 g2 q0 q1 q2 q3 q4 q5 q6 q7 d1 d2 hl5
        go_wp2_with fail
        obtain ⟨W6, hW6⟩ : ∃ W6, ((((((((((w4.setCell ⟨bx, 0, none⟩ (.int .u8 y.k)).setCell ⟨bx, 1, none⟩ (.int .u16 y.l)).setCell ⟨bx, 2, none⟩ (.int .u32 y.s)).setCell ⟨bx, 3, none⟩ (.int .u16 y.d0)).setCell ⟨bx, 4, none⟩ (.int .u16 y.d1)).setCell ⟨bx, 5, none⟩ (.int .u16 y.d2)).setCell ⟨bx, 6, none⟩ (.int .u16 y.d3)).setCell ⟨bx, 7, none⟩ (.int .u16 y.n)).setCell ⟨bw, kk, none⟩ (.int .u16 v)).alloc (.cells #[.int .u8 y.k, .int .u16 y.l, .int .u32 y.s, .int .u16 y.d0, .int .u16 y.d1, .int .u16 y.d2, .int .u16 y.d3, .int .u16 y.n] 61)) = W6 := ⟨_, rfl⟩
        rw [hW6] at HST
        rw [hW6]
        clear hW6 n0 n1 n2 n3 n4 n5 n6 n7 s0 s1 s2 s3 s4 s5 s6 s7 sz ww wz uw hxw hww
        generalize stM x M 62 kk v = M2 at *
        generalize want.set kk v = want2 at *
        go_loopw [13, 14, 15] (fun v13 _ _ wr2 => ∃ q : Nat, q ≤ 36 ∧ v13 = .int .i64 q ∧ RmK w X p jb tb m bg bx bw y M2 want2 wr2) (fun v13 _ _ _ => 36 - (intOf v13).toNat)
        case atStart => exact ⟨0, Nat.zero_le _, rfl, HST.out⟩
        case round =>
          obtain ⟨q, hq, rfl, hR2⟩ := hrel
          by_cases hq36 : q < 36
          · have dq : decide ((q : Int) < 36) = true := decide_eq_true (by omega)
            have hget := bget_any hR2.i.tj geoN_small ⟨mays_small, by decide, hR2.i.st.n.2, hR2.i.st.d⟩ hR2.i.st.wf hR2.i.st.sz (fun _ => by rw [hR2.i.n]; rfl) q hq36
            rw [hR2.pg q hq36] at hget
            unfold gv ic at hget
            have hgi := hR2.i.ig
            have hxi := hR2.i.ix
            unfold gvc at hgi
            unfold ic at hxi
            have g0 := cl_of hgi 0
            have g1 := cl_of hgi 1
            have g2 := cl_of hgi 2
            have q0 := cl_of hxi 0
            have q1 := cl_of hxi 1
            have q2 := cl_of hxi 2
            have q3 := cl_of hxi 3
            have q4 := cl_of hxi 4
            have q5 := cl_of hxi 5
            have q6 := cl_of hxi 6
            have q7 := cl_of hxi 7
            have HG := Lib.hid hget
            have HR2 := Lib.hid hR2
            clear hget hgi hxi hR2
            go_wp2_with fail
            refine HG.out.mono ?_
            rintro e w7 ⟨rfl, hB7⟩
            have h7 := HR2.out.of hB7
            have wc := want_cell h7 hq36
            have H7 := Lib.hid h7
            generalize want2.getD q 0 = z at *
            have ez : (z != z) = false := by simp
            clear h7 hB7 g0 g1 g2 q0 q1 q2 q3 q4 q5 q6 q7
            go_wp2_with fail
            go_roundw
            case rel => exact ⟨q + 1, by omega, by go_num, H7.out⟩
            case measure => simp [intOf]; omega
          · obtain rfl : q = 36 := by omega
            have HR2 := Lib.hid hR2
            clear hR2
            go_wp2_with fail
            have hl80 := HL.out
            have hwk : wrap64 ((k : Int) + 1) = ((k + 1 : Nat) : Int) := by unfold wrap64; omega
            clear hw3 hw2 hkt hvt hkk hv
            go_roundw
            case rel => exact ⟨k + 1, y, M2, want2, by omega, by rw [hwk], HR2.out⟩
            case measure => rw [hwk]; simp [intOf]; omega
      · obtain rfl : k = ls.length := by omega
        have hxi := hR.i.ix
        unfold ic at hxi
        have q7 : wr.cell? ⟨bx, 7, none⟩ = some (.int .u16 16) := by rw [cl_of hxi 7, ← hR.i.n]; rfl
        have HR := Lib.hid hR
        clear hxi hR
        go_wp2_with fail
        refine (alive09_any _).mono ?_
        rintro e w9 ⟨rfl, hB9⟩
        have HB9 := Lib.hid (bt HR.out.i.tj.j.dev.below hB9)
        clear hB9
        go_wp2_with fail
        go_ret
        exact ⟨rfl, HB9.out⟩
end
end Go.Proofs.YtjjphcnoegaimaaGreat
