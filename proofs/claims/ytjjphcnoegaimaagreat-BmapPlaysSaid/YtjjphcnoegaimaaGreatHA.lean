/- Package bmap: Cut, where the rest of the row may not fit. Package bmap: Get, Set, Begin, Cut, All in all cases; All of nil. -/
import Derived.Test.YtjjphcnoegaimaaGreatHD
import Derived.Test.YtjjphcnoegaimaaGreatGX
import Derived.Test.YtjjphcnoegaimaaGreatBAns
import Derived.Test.YtjjphcnoegaimaaGreatHE
namespace Go.Proofs.YtjjphcnoegaimaaGreat
open Go.RowKit Go.Shelf Go.Maps
set_option linter.unusedSimpArgs false
attribute [local go_sem] Oper.semAt_some
set_option maxRecDepth 20000
set_option linter.unusedVariables false

section
variable {w0 w W W' : World} {X : Nat → Prop} {p jb N tb m bsn : Nat} {M : Wl} {i b j v : Int} {x : Ino}
set_option maxRecDepth 100000 in
set_option maxHeartbeats 8000000 in
theorem bcut_fit (h : TJ w0 X p jb N 0 1 40 0 0 (newS N) tb m M false W) (hg : GeoN i b j N) (hm : MayB i b j x 0) (hx : x.Wf) (hs : Sz M) (hb : x.n ≠ 0 → (bsn : Int) = fr i b j 5 + x.n - 1) (q : Nat) (hq : q ≤ 36) (hfit : cutT x M bsn q → fits bsn M) :
    Calls Tryz.prog 29 #[.pointer (some ⟨tb, 0, none⟩), gv i b j, .agg (ic x), .int .i64 q] W (CutPost2 w0 X p jb N tb m bsn M x q W) := by
  have hmy := fun W => bmay_yes hm hx (Int.le_refl 0) (by decide) (tb := tb) W
  have htd := fun (W2 : World) (hB : Below W.heap.size W W2) => btold_any (h.of hB) hg hx hm.n hs hb
  have hlen := toldL_length x hs bsn
  have htl := fun (W2 : World) (X2 : Nat → Prop) (h2 : TJ w0 X2 p jb N 0 1 40 0 0 (newS N) tb m M false W2) (l : Value) (hv : SlI .u16 W2 l (cutL (toldL x M bsn) (q - 4))) (hn1 : 1 ≤ x.n) (hf : fits bsn M) =>
    btell_any (x := x.cutd q) h2 hg (by have := Ino.cut_wf hx q; exact ⟨this.k, this.l, this.s, this.d0, this.d1, this.d2, this.d3, hx.n⟩) hm.n hn1 (hb (by show x.n ≠ 0; omega)) hv (by rw [cutL_length, hlen]; decide) hf
  unfold gv at hmy htd htl ⊢
  have hB1 : Below W.heap.size W ((((W.alloc (.cells #[.int .i64 i, .int .i64 b, .int .i64 j] 56)).alloc (.cells (ic x) 61)).alloc (.cells (ic Ino.zero) 61)).alloc (.cells #[.slice none 0 0] 68)) := bal (bal (bal (bnew _ _) _) _) _
  have HMY := Lib.hid hmy
  have HTD := Lib.hid htd
  have HTL := Lib.hid htl
  have HH := Lib.hid h
  have HXN := Lib.hid hx.n
  have HFIT := Lib.hid hfit
  have HS := Lib.hid hs
  clear hmy hm hx htd htl h hs hg hfit hb
  have e1 : decide ((q : Int) ≥ 0) = true := decide_eq_true (by omega)
  have e2 : decide ((q : Int) ≤ 36) = true := decide_eq_true (by omega)
  unfold ic at *
  refine (callsIn_wide (n := 9)).1 (callsIn_of_wp_marks Tryz.func29 rfl trivial ?_ rfl)
  refine wpIn_wide.2 ?_
  simp only [Tryz.ntmps29, List.size_toArray, List.length_cons, List.length_nil, Nat.reduceAdd, Nat.reduceSub, Array.replicate_succ, Array.replicate_zero, List.push_toArray, List.append_toArray, List.nil_append, List.cons_append]
  go_wp2_with fail
  obtain ⟨W1, hW1⟩ : ∃ W1, (((W.alloc (.cells #[.int .i64 i, .int .i64 b, .int .i64 j] 56)).alloc (.cells #[.int .u8 x.k, .int .u16 x.l, .int .u32 x.s, .int .u16 x.d0, .int .u16 x.d1, .int .u16 x.d2, .int .u16 x.d3, .int .u16 x.n] 61)).alloc (.cells #[.int .u8 0, .int .u16 0, .int .u32 0, .int .u16 0, .int .u16 0, .int .u16 0, .int .u16 0, .int .u16 0] 61)).alloc (.cells #[.slice none 0 0] 68) = W1 := ⟨_, rfl⟩
  have b6 : W1.heap[W.heap.size]? = some (.cells #[.int .i64 i, .int .i64 b, .int .i64 j] 56 (0, 0)) := by
    rw [← hW1, hp_old _ _ (by simp; omega), hp_old _ _ (by simp; try omega), hp_old _ _ (by simp), hp_new _ _ rfl]
  have b7 : W1.heap[W.heap.size + 1]? = some (.cells #[.int .u8 x.k, .int .u16 x.l, .int .u32 x.s, .int .u16 x.d0, .int .u16 x.d1, .int .u16 x.d2, .int .u16 x.d3, .int .u16 x.n] 61 (0, 0)) := by
    rw [← hW1, hp_old _ _ (by simp; try omega), hp_old _ _ (by simp), hp_new _ _ (by simp)]
  have b10 : W1.heap[W.heap.size + 1 + 1]? = some (.cells #[.int .u8 0, .int .u16 0, .int .u32 0, .int .u16 0, .int .u16 0, .int .u16 0, .int .u16 0, .int .u16 0] 61 (0, 0)) := by
    rw [← hW1, hp_old _ _ (by simp), hp_new _ _ (by simp)]
  have b11 : Boxed W1 (W.heap.size + 1 + 1 + 1) 68 (.slice none 0 0) := by
    rw [← hW1]; exact hp_new _ _ (by simp)
  have hB1' : Below W.heap.size W W1 := by rw [← hW1]; exact hB1
  simp only [hW1]
  clear hW1 hB1
  refine (HMY.out _).mono ?_
  rintro e w2 ⟨rfl, hB2⟩
  have HB2 := Lib.hid (bt hB1' hB2)
  have c6 := bblk hB2 b6
  have c7 := bblk hB2 b7
  have c10 := bblk hB2 b10
  have c11 := bblk hB2 b11
  clear hB1' hB2 b6 b7 b10 b11
  obtain ⟨bg, hbg⟩ : ∃ bg, W.heap.size = bg := ⟨_, rfl⟩
  obtain ⟨bx, hbx⟩ : ∃ bx, bg + 1 = bx := ⟨_, rfl⟩
  obtain ⟨br, hbr⟩ : ∃ br, bx + 1 = br := ⟨_, rfl⟩
  obtain ⟨bf, hbf⟩ : ∃ bf, br + 1 = bf := ⟨_, rfl⟩
  rw [hbg] at c6 c7 c10 c11
  rw [hbx] at c7 c10 c11
  rw [hbr] at c10 c11
  rw [hbf] at c11
  simp only [hbg, hbx, hbr, hbf]
  have HBX : Hid (W.heap.size = bg ∧ bg + 1 = bx ∧ bx + 1 = br ∧ br + 1 = bf) := Lib.hid ⟨hbg, hbx, hbr, hbf⟩
  clear hbg hbx hbr hbf
  have C6 := Lib.hid c6
  have C7 := Lib.hid c7
  have C10 := Lib.hid c10
  have C11 := Lib.hid c11
  have HF2 : Hid (bf < w2.heap.size) := Lib.hid (blk_lt c11)
  have g0 := cl_of c6 0
  have g1 := cl_of c6 1
  have g2 := cl_of c6 2
  have q0 := cl_of c7 0
  have q1 := cl_of c7 1
  have q2 := cl_of c7 2
  have q3 := cl_of c7 3
  have q4 := cl_of c7 4
  have q5 := cl_of c7 5
  have q6 := cl_of c7 6
  have q7 := cl_of c7 7
  clear c6 c7 c10 c11
  go_wp2_with fail
  refine (HTD.out _ HB2.out).mono ?_
  rintro e w4 ⟨lv, rfl, hrow, hB4⟩
  have HB4 := Lib.hid (bt HB2.out hB4)
  have c6 := bblk hB4 C6.out
  have c7 := bblk hB4 C7.out
  have c10 := bblk hB4 C10.out
  have c11 := bblk hB4 C11.out
  clear hB4 g0 g1 g2 q0 q1 q2 q3 q4 q5 q6 q7 C6 C7 C10 C11
  obtain ⟨g, cap, cur, rfl, hg0, hgb, hgc⟩ : ∃ g cap cur, lv = .slice (some ⟨g, 0, none⟩) 32 cap ∧ w2.heap.size ≤ g ∧ w4.heap[g]? = some (.cells cur 57 (0, 0)) ∧ ∀ k, k < 32 → cur[k]? = some (.int .u16 ((toldL x M bsn).getD k 0)) := by
    have hro := hrow
    rcases hrow.2 with ⟨rfl, h0⟩ | ⟨g, c, cur, rfl, h0, hh, hr⟩
    · omega
    · refine ⟨_, _, _, rfl, h0, hh, fun k hk => ?_⟩
      have hc := ownsRow_cell (ownsRow_base hro) rfl (u16s_get (toldL x M bsn) (k := k) (by rw [hlen]; exact hk))
      rw [cl_of hh] at hc
      simpa using hc
  have HG := Lib.hid hgb
  have HGC := Lib.hid hgc
  have HG0 := Lib.hid hg0
  have HL := Lib.hid hlen
  have C6 := Lib.hid c6
  have C7 := Lib.hid c7
  have C10 := Lib.hid c10
  have C11 := Lib.hid c11
  clear hrow hgb hgc hg0 hlen
  go_wp2_with fail
  refine (taken_any _ _ _ _ _).mono ?_
  rintro e w5 ⟨B1, L1, rfl, hB5, hBf0, hBl0, hbf, hbl, hBfl, hBll⟩
  have d7 := bblk hB5 C7.out
  have d11 := bblk hB5 C11.out
  have dg := bblk hB5 HG.out
  have C6 := Lib.hid (bblk hB5 C6.out)
  have C10 := Lib.hid (bblk hB5 C10.out)
  have HBL5 := Lib.hid (bt HB4.out hB5)
  have hs4 := blk_lt HG.out
  have hs45 := hB5.size
  have hsx := blk_lt C11.out
  have hbx := HBX.out
  have hsg := Nat.le_trans HB2.out.size HG0.out
  have hgx : bf < g := Nat.lt_of_lt_of_le HF2.out HG0.out
  have kok : KOk W w5 bf bx w5.heap.size (fun k => k < w5.heap.size ∧ k ≠ bf ∧ k ≠ bx) := ⟨fun k h => h.1, fun k h => h.2.1, fun k h => h.2.2, fun k h h2 => by omega, by omega, by omega, by omega, by omega, by omega, Nat.le_refl _, by omega⟩
  have hseq := taken_seq 8 (by decide) (zs := x.ds4) (cs := ic x) (off := 3) (by show 4 ≤ 1000; decide) (by omega) (by omega) (show B1 ≠ bx by omega) (show L1 ≠ bx by omega) (fun k hk => by
    have : k = 0 ∨ k = 1 ∨ k = 2 ∨ k = 3 := by simp [Ino.ds4] at hk; omega
    rcases this with rfl | rfl | rfl | rfl <;> rfl) hbf hbl d7
  rw [Int.toNat_natCast, show x.ds4.length = 4 from rfl] at hseq
  have hI0 : CutI W w5 bf w5.heap.size (fun k => k < w5.heap.size ∧ k ≠ bf ∧ k ≠ bx) [] w5 := ⟨⟨_, d11, World.ownsRow_nil _ _ _ _⟩, HBL5.out, fun k _ => rfl⟩
  have hB1l : B1 < w5.heap.size ∧ B1 ≠ bf ∧ B1 ≠ bx := ⟨hBfl, by omega, by omega⟩
  have hL1l : L1 < w5.heap.size ∧ L1 ≠ bf ∧ L1 ≠ bx := ⟨hBll, by omega, by omega⟩
  have hbx5 : bx < w5.heap.size := by omega
  have HK := Lib.hid kok
  have HSQ := Lib.hid hseq
  have HI0 := Lib.hid hI0
  have HB1L := Lib.hid hB1l
  have HL1L := Lib.hid hL1l
  have HBX5 := Lib.hid hbx5
  have HKB : Hid (∀ k, (k = bx ∨ k = B1 ∨ k = L1) → k < w5.heap.size) := Lib.hid (by
    rintro k (rfl | rfl | rfl)
    · exact hbx5
    · exact hBfl
    · exact hBll)
  have HG5 := Lib.hid dg
  have HGX : Hid (bf < g ∧ g < w4.heap.size ∧ w4.heap.size ≤ w5.heap.size) := Lib.hid ⟨hgx, hs4, hs45⟩
  clear kok hseq hI0 hB1l hL1l hbx5 dg hs4 hs45 hsx hbx hsg hgx d7 d11 hbf hbl hBf0 hBl0 hBfl hBll HBL5 HMY HTD HF2 hB5 C7 C11 HG HG0
  go_wp2_with fail
  refine (wpIn_wide (n := 9)).1 ?_
  refine wpIn_rangeW (b := bx) (by omega) (gf := 90) rfl (fun _ _ => by rfl) HSQ.out HBX5.out KeepB.t (KeepB.b HKB.out) (Below.refl _ _) (fun _ => rfl)
    (fun pre W' => CutI W w5 bf w5.heap.size (fun k => k < w5.heap.size ∧ k ≠ bf ∧ k ≠ bx) pre W' ∧ w5.heap.size ≤ W'.heap.size) (CutI.own HK.out (f := id)) (fun pre k v W1 h => ⟨h.1.turn HK.out k v, by simpa [World.setCell] using h.2⟩) ⟨HI0.out, Nat.le_refl _⟩ ?a1 ?assign ?body ?done
  case assign =>
    intro l x W K hK
    gi_wp2
    exact hK
  case body =>
    rintro l1 pre z W1 ⟨hI, hz⟩ hlen
    obtain ⟨v, hv, hrow⟩ := hI.row
    obtain ⟨i0, hi, hz0, hz1, hz2⟩ := infoU16x
    have hc := hv.cell
    have hl4 : pre.length < 4 := hlen
    have hl2 : pre.length + 1 ≤ maxLen := by unfold maxLen; omega
    have HI := Lib.hid hI
    clear hI hlen
    gi_wp2_with (first | (gi_at_builtin; refine wpListIn_append_at _ rfl _ _ 68 rfl w5.heap.size 57 i0 (.int .u16 0) 1 2 Tryz.underlying68 hi hz0 hz1 hz2 rfl (by decide) _ _ _ rfl (hrow.alloc _) ⟨W1.heap.size, 0, none⟩ 1 1 [.int .u16 z] rfl rfl (World.news_of_block (hp_new _ _ rfl)) (by simp [Value.oneCell']) hl2 (by omega) (by simp; omega) ?_; intro v' w1 hown' hgrow _ _; obtain ⟨g', cap', rfl⟩ := ownsRow_succ hown'; obtain ⟨hv1, hpost⟩ := CutI.app HK.out HI.out hz hv hrow hown' hgrow; have hc1 := hv1.cell; have hf1 := hv1.frozen) | gi_in)
    refine ⟨hpost.out.1, ?_, hpost.out.2.2⟩
    rintro k (rfl | rfl | rfl)
    · exact hpost.out.2.1 _ (.inl rfl)
    · exact hpost.out.2.1 _ (.inr HB1L.out)
    · exact hpost.out.2.1 _ (.inr HL1L.out)
  case done =>
    rintro D xs W6 hD rfl ⟨hI, hz⟩ ⟨o, ho, hzd⟩ hD6
    obtain rfl := zd_ino x q hzd
    obtain ⟨v, hv, hrow⟩ := hI.row
    generalize hf1 : nz (x.ds4.drop q) = f1 at *
    have hl1 : f1.length ≤ 4 := by
      rw [← hf1, nz]
      refine Nat.le_trans (List.length_filter_le _ _) ?_
      rw [List.length_drop]
      show 4 - q ≤ 4
      omega
    obtain ⟨ao, cp, rfl⟩ : ∃ ao cp, v = .slice ao f1.length cp := by
      rcases hrow.2 with ⟨rfl, h0⟩ | ⟨g', c, cur, rfl, _⟩
      · exact ⟨_, _, by rw [h0]⟩
      · exact ⟨_, _, rfl⟩
    have hbx := HBX.out
    have hgx := HGX.out
    have c6 := (hI.same bg ⟨by have := HBX5.out; omega, by omega, by omega⟩).trans C6.out
    have c10 := (hI.same br ⟨by have := HK.out.f5; omega, by omega, by omega⟩).trans C10.out
    have cg := (hI.same g ⟨by omega, by omega, by omega⟩).trans HG5.out
    have hc := hv.cell
    have HF1 := Lib.hid hf1
    have HI6 := Lib.hid hI
    have HV6 := Lib.hid hv
    have HR6 := Lib.hid hrow
    have C6' := Lib.hid c6
    have C7' := Lib.hid ho
    have C10' := Lib.hid c10
    have CG' := Lib.hid cg
    have HD6 := Lib.hid hD6
    have HDL : Hid (w5.heap.size ≤ D ∧ D < W6.heap.size) := Lib.hid ⟨hD, blk_lt hD6⟩
    have hw4 : IntKind.i64.wrap ((q : Int) - 4) = (q : Int) - 4 := i64_sm (by omega) (by omega)
    clear hf1 hI hv hrow c6 ho c10 cg hD6 hD hz hzd hbx hgx C6 C10 HG5 HSQ HI0 HB1L HL1L HKB
    go_wp2_with fail
    refine (taken_any _ _ _ _ _).mono ?_
    rintro e w7 ⟨B2, L2, rfl, hB7, hBf0, hBl0, hbf, hbl, hBfl, hBll⟩
    have hbx := HBX.out
    have hgx := HGX.out
    have hx5 := HBX5.out
    have hf5 := HK.out.f5
    have hdl := HDL.out
    have h67 := hB7.size
    have dg := bblk hB7 CG'.out
    have d6 := bblk hB7 C6'.out
    have d7 := bblk hB7 C7'.out
    have d10 := bblk hB7 C10'.out
    have dd := bblk hB7 HD6.out
    have kok : KOk W w7 bf g w5.heap.size (fun k => k = bg ∨ k = br ∨ k = bx ∨ k = B2 ∨ k = L2 ∨ k = D) := by
      refine ⟨?_, ?_, ?_, ?_, by omega, by omega, by omega, by omega, by omega, by omega, by omega⟩
      · rintro k (rfl | rfl | rfl | rfl | rfl | rfl) <;> omega
      · rintro k (rfl | rfl | rfl | rfl | rfl | rfl) <;> omega
      · rintro k (rfl | rfl | rfl | rfl | rfl | rfl) <;> omega
      · rintro k (rfl | rfl | rfl | rfl | rfl | rfl) hk
        · omega
        · omega
        · omega
        · exact ⟨_, hbf, fun cs fz e => by cases e⟩
        · exact ⟨_, hbl, fun cs fz e => by cases e⟩
        · exact ⟨_, dd, fun cs fz e => by cases e⟩
    obtain ⟨L, hLL⟩ : ∃ L, toldL x M bsn = L := ⟨_, rfl⟩
    have hlen : L.length = 32 := by rw [← hLL]; exact HL.out
    have hgc := HGC.out
    rw [hLL] at hgc
    have hnat : ((q : Int) - 4).toNat = q - 4 := by omega
    have hseq := taken_seq 8 (by decide) (zs := L) (cs := cur) (off := 0) (from_ := (q : Int) - 4) (by omega) (by omega) (by omega) (show B2 ≠ g by omega) (show L2 ≠ g by omega) (fun k hk => by rw [Nat.zero_add]; exact hgc k (by omega)) hbf (by rw [hlen]; exact hbl) dg
    rw [hnat, hlen] at hseq
    have hI0 : CutI W w7 bf w5.heap.size (fun k => k = bg ∨ k = br ∨ k = bx ∨ k = B2 ∨ k = L2 ∨ k = D) (f1 ++ []) w7 := by
      rw [List.append_nil]
      exact ⟨⟨_, bblk hB7 HV6.out, ownsRow_blockB HR6.out (fun k e => hB7.block k (by
        rcases HR6.out.2 with ⟨e2, _⟩ | ⟨g', c, cur', e2, _, hh, _⟩
        · rw [e2] at e; cases e
        · rw [e2] at e; cases e; exact blk_lt hh))⟩, bt HI6.out.below hB7, fun k _ => rfl⟩
    have HK2 := Lib.hid kok
    have HSQ2 := Lib.hid hseq
    have HI2 := Lib.hid hI0
    have HKB2 : Hid (∀ k, (k = g ∨ k = B2 ∨ k = L2) → k < w7.heap.size) := Lib.hid (by rintro k (rfl | rfl | rfl) <;> omega)
    have HG7 : Hid (g < w7.heap.size) := Lib.hid (by omega)
    have HLL := Lib.hid hLL
    have HLEN := Lib.hid hlen
    have HGC2 := Lib.hid hgc
    have C6 := Lib.hid d6
    have C7 := Lib.hid d7
    have C10 := Lib.hid d10
    have HDD := Lib.hid dd
    have HB7 := Lib.hid hB7
    clear kok hseq hI0 hLL hlen hgc hnat d6 d7 d10 dd dg hB7 hbx hgx hx5 hf5 hdl h67 hbf hbl hBf0 hBl0 hBfl hBll C6' C7' C10' HD6 HI6 HV6 HR6 HGC HL hc
    go_wp2_with fail
    refine (wpIn_wide (n := 9)).1 ?_
    refine wpIn_rangeW (b := g) (by omega) (gf := 90) rfl (fun _ _ => by rfl) HSQ2.out HG7.out KeepB.t (KeepB.b HKB2.out) (Below.refl _ _) (fun _ => rfl)
      (fun pre W' => CutI W w7 bf w5.heap.size (fun k => k = bg ∨ k = br ∨ k = bx ∨ k = B2 ∨ k = L2 ∨ k = D) (f1 ++ pre) W' ∧ w7.heap.size ≤ W'.heap.size) (CutI.own HK2.out (f := fun pre => f1 ++ pre)) (fun pre k v W1 h => ⟨h.1.turn HK2.out k v, by simpa [World.setCell] using h.2⟩) ⟨HI2.out, Nat.le_refl _⟩ ?a2 ?assign ?body ?done
    case assign =>
      intro l x W K hK
      gi_wp2
      exact hK
    case body =>
      rintro l1 pre z W1 ⟨hI, hz⟩ hlen
      obtain ⟨v, hv, hrow⟩ := hI.row
      obtain ⟨i0, hi, hz0, hz1, hz2⟩ := infoU16x
      have hc := hv.cell
      have hl4 : pre.length < 32 := hlen
      have hl36 : (f1 ++ pre).length < 36 := by rw [List.length_append]; omega
      have hl2 : (f1 ++ pre).length + 1 ≤ maxLen := by unfold maxLen; omega
      have HI := Lib.hid hI
      obtain ⟨fp, hfp⟩ : ∃ fp, f1 ++ pre = fp := ⟨_, rfl⟩
      have hfp2 : f1 ++ (pre ++ [z]) = fp ++ [z] := by rw [← hfp, List.append_assoc]
      have HFP2 := Lib.hid hfp2
      rw [hfp] at HI hrow hl2 hl36
      have hr5 := HK2.out.r5
      clear hI hlen hfp hfp2 HDL HGX HBX HBX5 HK HG7 HB7
      gi_wp2_with (first | (gi_at_builtin; refine wpListIn_append_at _ rfl _ _ 68 rfl w5.heap.size 57 i0 (.int .u16 0) 1 2 Tryz.underlying68 hi hz0 hz1 hz2 rfl (by decide) _ _ _ rfl (hrow.alloc _) ⟨W1.heap.size, 0, none⟩ 1 1 [.int .u16 z] rfl rfl (World.news_of_block (hp_new _ _ rfl)) (by simp [Value.oneCell']) hl2 (by omega) (by simp; omega) ?_; intro v' w1 hown' hgrow _ _; obtain ⟨g', cap', rfl⟩ := ownsRow_succ hown'; obtain ⟨hv1, hpost⟩ := CutI.app HK2.out HI.out hz hv hrow hown' hgrow; have hc1 := hv1.cell; have hf1 := hv1.frozen) | gi_in)
      refine ⟨hpost.out.1, ?_, ?_⟩
      · rintro k (rfl | rfl | rfl)
        · exact hpost.out.2.1 _ (.inl rfl)
        · exact hpost.out.2.1 _ (.inr (.inr (.inr (.inr (.inl rfl)))))
        · exact hpost.out.2.1 _ (.inr (.inr (.inr (.inr (.inr (.inl rfl))))))
      · show CutI _ _ _ _ _ (f1 ++ (pre ++ [z])) _ ∧ _
        rw [HFP2.out]
        exact hpost.out.2.2
    case done =>
      rintro D2 xs W8 hD2 rfl ⟨hI, hz⟩ ⟨o, ho, hzd⟩ hD8
      obtain ⟨v, hv, hrow⟩ := hI.row
      have hLL := HLL.out
      have hlen := HLEN.out
      have hsl : SlI .u16 W8 (.slice (some ⟨g, 0, none⟩) 32 cap) (cutL L (q - 4)) := by
        refine ⟨⟨_, cap, by rw [cutL_length, hlen], fun _ => ⟨g, 0, rfl, blk_lt ho, fun k hk => ?_⟩⟩, cutL_wf (by rw [← hLL]; exact toldL_wf x M bsn) _⟩
        rw [cutL_length, hlen] at hk
        obtain ⟨c, rfl, hc⟩ := hzd
        rw [cl_of ho, hc, cutL_get]
        by_cases e : k < q - 4
        · rw [if_neg (by omega), if_pos e, Nat.zero_add]; exact HGC2.out k hk
        · rw [if_pos (by omega), if_neg e]
      generalize hf2 : nz (L.drop (q - 4)) = f2 at *
      have hl2 : f2.length ≤ 32 := by
        rw [← hf2, nz]
        refine Nat.le_trans (List.length_filter_le _ _) ?_
        rw [List.length_drop]
        omega
      have hfn : x.n = 0 → f2 = [] := fun h0 => by
        rw [← hf2, ← hLL, toldL, if_pos h0, List.drop_replicate, nz_rep]
      have hcf : cutF x M bsn q = f1 ++ f2 ++ (if x.n ≠ 0 ∧ q ≤ 4 then [x.n] else []) := by rw [cutF, HF1.out, hLL, hf2]
      have hcm : cutM x M bsn q = if x.n ≠ 0 ∧ q ≤ 4 then M else if f2 = [] then M else pins bsn (tellB (cutL L (q - 4))) M := by rw [cutM, hLL, hf2]
      obtain ⟨n2, hn2⟩ : ∃ n2, (f1 ++ f2).length = n2 := ⟨_, rfl⟩
      have hn2' : n2 = f1.length + f2.length := by rw [← hn2, List.length_append]
      rw [hn2] at hrow
      have hn36 : n2 ≤ 36 := by omega
      have HN2' := Lib.hid hn2'
      obtain ⟨ao, cp, rfl⟩ : ∃ ao cp, v = .slice ao n2 cp := by
        rcases hrow.2 with ⟨rfl, h0⟩ | ⟨g', c, cur, rfl, _⟩
        · exact ⟨_, _, by rw [h0]⟩
        · exact ⟨_, _, rfl⟩
      have c6 := (hI.same bg (.inl rfl)).trans C6.out
      have c10 := (hI.same br (.inr (.inl rfl))).trans C10.out
      have c7 := (hI.same bx (.inr (.inr (.inl rfl)))).trans C7.out
      have cd := (hI.same D (.inr (.inr (.inr (.inr (.inr rfl)))))).trans HDD.out
      have hbx := HBX.out
      have hgx := HGX.out
      have hx5 := HBX5.out
      have hf5 := HK.out.f5
      have hdl := HDL.out
      have hr5 := HK2.out.r5
      have h67 := HB7.out.size
      have hd2l := blk_lt hD8
      have hT8 := HH.out.take hI.below
      have HT8 := Lib.hid hT8
      have HSL := Lib.hid hsl
      have HCF := Lib.hid hcf
      have HCM := Lib.hid hcm
      have HN2 := Lib.hid hn2
      have HFN := Lib.hid hfn
      have HF2 := Lib.hid hf2
      have HI8 := Lib.hid hI
      have HV8 := Lib.hid hv
      have HR8 := Lib.hid hrow
      have C6' := Lib.hid c6
      have C7' := Lib.hid c7
      have C10' := Lib.hid c10
      have CD' := Lib.hid cd
      have HD8 := Lib.hid hD8
      have HLT : Hid ((W.heap.size = bg ∧ bg + 1 = bx ∧ bx + 1 = br ∧ br + 1 = bf) ∧ (bf < g ∧ g < w5.heap.size) ∧ (w5.heap.size ≤ D ∧ D < w7.heap.size) ∧ (w7.heap.size ≤ D2 ∧ D2 < W8.heap.size)) := Lib.hid ⟨hbx, by omega, by omega, hD2, hd2l⟩
      have hc := hv.cell
      have q0 := cl_of c7 0
      have q1 := cl_of c7 1
      have q2 := cl_of c7 2
      have q3 := cl_of c7 3
      have q4 := cl_of c7 4
      have q5 := cl_of c7 5
      have q6 := cl_of c7 6
      have q7 : W8.cell? ⟨bx, 7, none⟩ = some (.int .u16 x.n) := cl_of c7 7
      have fx7 := fz_of c7 7
      have ff := hv.frozen
      have fr10 := fz_of c10
      have hb1 : bx ≠ bf := by omega
      have hb2 : bf ≠ bx := by omega
      have hb3 : br ≠ bf := by omega
      have hb4 : bf ≠ br := by omega
      have hb5 : bx ≠ br := by omega
      have hb6 : br ≠ bx := by omega
      clear hI hz ho hzd hD8 hLL hlen hsl hf2 hfn hcf hcm hn2 hn2' h67 c6 c7 c10 cd hbx hgx hx5 hf5 hdl hr5 hd2l hT8 hD2 C6 C7 C10 HSQ2 HI2 HKB2 HG7 HLEN HGC2 HDD HB7 HBX HGX HBX5 HK HDL HF1 hv hrow
      unfold Ino.cutd at q0 q1 q2 q3 q4 q5 q6
      simp only [ic] at q0 q1 q2 q3 q4 q5 q6
      obtain ⟨i0, hi, hz0, hz1, hz2⟩ := infoU16x
      by_cases hn0 : x.n = 0
      · have e5 : (x.n != 0) = false := by simpa using hn0
        have hcut : x.cut q = x.cutd q := by unfold Ino.cut; rw [if_neg (fun h => h.1 hn0)]; rfl
        have hf20 : f2 = [] := HFN.out hn0
        have e7 : decide ((n2 : Int) > (f1.length : Int)) = false := decide_eq_false (by have := HN2'.out; rw [hf20, List.length_nil] at this; omega)
        have e7b : decide (f1.length < n2) = false := decide_eq_false (by have := HN2'.out; rw [hf20, List.length_nil] at this; omega)
        have e7c : ¬ (f1.length < n2) := by have := HN2'.out; rw [hf20, List.length_nil] at this; omega
        have hlt := HLT.out
        have hFK : FK w0 W X (fun k => X k ∨ W.heap.size ≤ k ∧ k < W8.heap.size) jb tb m w5.heap.size D D2 := ⟨HH.out.j.dev.lt, HH.out.j.own, HH.out.xt, HH.out.xm, HH.out.j.dev.below.size, by omega, by omega, by omega, by omega, fun _ h => .inl h, .inr ⟨by omega, by omega⟩, .inr ⟨by omega, by omega⟩⟩
        have hcf : cutF x M bsn q = f1 ++ f2 := by rw [HCF.out, if_neg (fun h => h.1 hn0), List.append_nil]
        have hcm : cutM x M bsn q = M := by rw [HCM.out, if_neg (fun h => h.1 hn0), if_pos hf20]
        have HFS : Hid (FS w0 W X (fun k => X k ∨ W.heap.size ≤ k ∧ k < W8.heap.size) p jb N tb m (cutM x M bsn q) w5.heap.size (.slice ao n2 cp) (cutF x M bsn q).length (u16s (cutF x M bsn q)) D D2 W8) := Lib.hid (by rw [hcf, hcm, HN2.out]; exact ⟨HT8.out, (HH.out.j.dev.kbelow HI8.out.below).less (fun _ h => h.1), HR8.out, CD'.out, HD8.out, fun j e => .inr (by have := row_rx HR8.out j e; omega)⟩)
        have HFK := Lib.hid hFK
        have HLT2 : Hid ((W.heap.size ≤ br ∧ br < w5.heap.size ∧ br < W8.heap.size) ∧ W.heap.size ≤ bf ∧ bf < w5.heap.size ∧ bf < W8.heap.size) := Lib.hid (by omega)
        have hb11 : W8.heap[bx]? = some (.cells (ic (x.cut q)) 61 (0, 0)) := by rw [hcut]; exact C7'.out
        have hr11 := C10'.out
        have hv11 := HV8.out
        clear hcf hcm hFK hlt hf20 HTL HS HXN HK2 HI8 HV8 HR8 C6' CD' HD8 HSL HCF HCM HN2 HFN HF2 HN2' HLT HT8 HLL
        go_wp2_with fail
        obtain ⟨y, hy⟩ : ∃ y, x.cut q = y := ⟨_, rfl⟩
        have HY := Lib.hid hy
        rw [hy] at hb11
        clear hy hcut e7 q0 q1 q2 q3 q4 q5 q6 q7 fx7 ff fr10 hc
        unfold ic at hb11
        have t0 := cl_of hb11 0
        have t1 := cl_of hb11 1
        have t2 := cl_of hb11 2
        have t3 := cl_of hb11 3
        have t4 := cl_of hb11 4
        have t5 := cl_of hb11 5
        have t6 := cl_of hb11 6
        have t7 := cl_of hb11 7
        have r0 := cl_of hr11 0
        have r1 := cl_of hr11 1
        have r2 := cl_of hr11 2
        have r3 := cl_of hr11 3
        have r4 := cl_of hr11 4
        have r5 := cl_of hr11 5
        have r6 := cl_of hr11 6
        have r7 := cl_of hr11 7
        have rz := fz_of hr11
        have tv := hv11.cell
        have tf := hv11.frozen
        have HR11 : Hid (W8.heap[br]? = some (.cells (ic Ino.zero) 61 (0, 0))) := Lib.hid hr11
        have HV11 := Lib.hid hv11
        clear hb11 hr11 hv11
        go_region
        obtain ⟨hr12, hv12⟩ := end_facts HR11.out HV11.out hb3 y (.slice ao n2 cp)
        have hFS12 := HFS.out.last HFK.out HLT2.out.1.1 HLT2.out.1.2.1 (.inr ⟨HLT2.out.1.1, HLT2.out.1.2.2⟩) HLT2.out.2.1 HLT2.out.2.2.1 (.inr ⟨HLT2.out.2.1, HLT2.out.2.2.2⟩) y (.slice ao n2 cp)
        obtain ⟨W12, hW12⟩ : ∃ W12, ((put8 W8 br y).setCell ⟨bf, 0, none⟩ (.slice ao n2 cp)).drew = W12 := ⟨_, rfl⟩
        rw [hW12] at hr12 hv12 hFS12
        unfold put8 at hW12
        rw [hW12]
        have HFS12 := Lib.hid hFS12
        have hDD := HFK.out.d
        have hDD2 := HFK.out.d2
        have hbl := HLT2.out
        have hs13 : ∀ k, k ≠ D → k ≠ D2 → ((W12.putObj D2 (.deferred none)).putObj D (.deferred none)).heap[k]? = W12.heap[k]? := fun k h1 h2 => (World.putObj_heap_other h1).trans (World.putObj_heap_other h2)
        have hr13 := (hs13 br (by omega) (by omega)).trans hr12
        have hv13 : ((W12.putObj D2 (.deferred none)).putObj D (.deferred none)).cell? ⟨bf, 0, none⟩ = some (.slice ao n2 cp) := (World.cell?_of_block (hs13 bf (by omega) (by omega))).trans hv12.cell
        have hres : CutPost2 w0 X p jb N tb m bsn M x q W (.returned (.tuple #[.agg (ic y), .slice ao n2 cp, .int .i64 0])) ((W12.putObj D2 (.deferred none)).putObj D (.deferred none)) := by
          obtain ⟨a1, -, a3⟩ := HFS12.out.fin HFK.out
          exact ⟨_, _, by rw [HY.out], a1, HFK.out.xx, HFS12.out.rx, HFS12.out.finX HFK.out, a3⟩
        have HRES := Lib.hid hres
        unfold ic at hr13 HRES
        have s0 := cl_of hr13 0
        have s1 := cl_of hr13 1
        have s2 := cl_of hr13 2
        have s3 := cl_of hr13 3
        have s4 := cl_of hr13 4
        have s5 := cl_of hr13 5
        have s6 := cl_of hr13 6
        have s7 := cl_of hr13 7
        clear hres hs13 hr12 hv12 hr13 hW12 hDD hDD2 hbl t0 t1 t2 t3 t4 t5 t6 t7 r0 r1 r2 r3 r4 r5 r6 r7 rz tv tf hFS12
        go_wp2
        refine ⟨by simp, .inl ⟨_, _, rfl, run_takeDeferred HFS12.out.d2, by simp, .inl ⟨_, _, rfl, run_takeDeferred (HFS12.out.put1 HFK.out), ?_⟩⟩⟩
        exact ⟨_, (by simp [results, Tryz.results29, go_sem, s0, s1, s2, s3, s4, s5, s6, s7, hv13]), HRES.out⟩
      · have e5 : (x.n != 0) = true := by simpa using hn0
        by_cases hq4 : q ≤ 4
        · have e6 : decide ((q : Int) ≤ 4) = true := decide_eq_true (by omega)
          have hml : n2 + 1 ≤ maxLen := by unfold maxLen; omega
          have hby : (n2 + 1) * 2 ≤ 140737488355328 := by omega
          have hr8 := HR8.out.alloc (Obj.cells #[.int .u16 x.n] 57)
          have hL5 : w5.heap.size ≤ (W8.alloc (Obj.cells #[.int .u16 x.n] 57)).heap.size := by have := HLT.out; simp; omega
          have hone : ∀ u ∈ [Value.int .u16 x.n], u.oneCell' = true := by simp [Value.oneCell']
          have hz8 : w7.heap.size ≤ W8.heap.size := by have := HLT.out; omega
          go_wp2_with (at_builtin; refine wpList_append_own _ rfl _ _ 68 rfl w5.heap.size 57 i0 (.int .u16 0) 1 2 Tryz.underlying68 hi hz0 hz1 hz2 rfl (by decide) (.slice ao n2 cp) n2 (u16s (f1 ++ f2)) rfl hr8 ⟨W8.heap.size, 0, none⟩ 1 1 [.int .u16 x.n] rfl rfl (World.news_of_block (hp_new _ _ rfl)) hone hml hby hL5 ?_; intro v' w9 hown' hgrow _; obtain ⟨g', cap', rfl⟩ := ownsRow_succ hown'; obtain ⟨hv1, hpost⟩ := CutI.app (fs := f1 ++ f2) HK2.out HI8.out hz8 HV8.out (by rw [HN2.out]; exact HR8.out) (by rw [HN2.out]; exact hown') hgrow; have hb9 := (Below.heap_setCell w9 ⟨bf, 0, none⟩ (.slice (some ⟨g', 0, none⟩) (n2 + 1) cap') bx hb1).symm.trans ((hpost.out.2.1 bx (.inr (.inr (.inr (.inl rfl))))).trans C7'.out); have hr9 := (Below.heap_setCell w9 ⟨bf, 0, none⟩ (.slice (some ⟨g', 0, none⟩) (n2 + 1) cap') br hb3).symm.trans ((hpost.out.2.1 br (.inr (.inr (.inl rfl)))).trans C10'.out); have hc1 := hv1.cell; have hf1 := hv1.frozen; have p7 : w9.cell? ⟨bx, 7, none⟩ = some (.int .u16 x.n) := cl_of hb9 7; have pz := fz_of hb9)
          have HB9 := Lib.hid hb9
          have HR9 := Lib.hid hr9
          have HP9 := Lib.hid hpost.out.2.2.1
          have HB10 := Lib.hid hpost.out.1
          have hb10 := hpost.out.2.1
          obtain ⟨W10, hW10⟩ : ∃ W10, w9.setCell ⟨bf, 0, none⟩ (.slice (some ⟨g', 0, none⟩) (n2 + 1) cap') = W10 := ⟨_, rfl⟩
          rw [hW10] at hb10 HP9 HB10
          rw [hW10]
          have c7 := (hb10 bx (.inr (.inr (.inr (.inl rfl))))).trans C7'.out
          have c10 := (hb10 br (.inr (.inr (.inl rfl)))).trans C10'.out
          obtain ⟨W11, hW11⟩ : ∃ W11, W10.setCell ⟨bx, 7, none⟩ (.int .u16 0) = W11 := ⟨_, rfl⟩
          rw [hW11]
          have hcut : x.cut q = { x.cutd q with n := 0 } := by unfold Ino.cut; rw [if_pos ⟨hn0, hq4⟩]
          have hb11 : W11.heap[bx]? = some (.cells (ic (x.cut q)) 61 (0, 0)) := by rw [← hW11, blk_here c7 7, hcut]; rfl
          have hr11 : W11.heap[br]? = some (.cells (ic Ino.zero) 61 (0, 0)) := by rw [← hW11]; exact (Below.heap_setCell W10 ⟨bx, 7, none⟩ _ br hb6).trans c10
          obtain ⟨v11, hv10, hrow10⟩ := HP9.out.row
          obtain ⟨ao11, ln11, cp11, rfl⟩ : ∃ a l c, v11 = .slice a l c := by
            rcases hrow10.2 with ⟨rfl, _⟩ | ⟨g3, c3, cur3, rfl, _⟩
            · exact ⟨_, _, _, rfl⟩
            · exact ⟨_, _, _, rfl⟩
          have hlt := HLT.out
          have hs10 := HB10.out.size
          have hFK : FK w0 W X (fun k => X k ∨ W.heap.size ≤ k ∧ k < W10.heap.size) jb tb m w5.heap.size D D2 := ⟨HH.out.j.dev.lt, HH.out.j.own, HH.out.xt, HH.out.xm, HH.out.j.dev.below.size, by omega, by omega, by omega, by omega, fun _ h => .inl h, .inr ⟨by omega, by omega⟩, .inr ⟨by omega, by omega⟩⟩
          have hFS10 : FS w0 W X (fun k => X k ∨ W.heap.size ≤ k ∧ k < W10.heap.size) p jb N tb m M w5.heap.size (.slice ao11 ln11 cp11) (f1 ++ f2 ++ [x.n]).length (u16s (f1 ++ f2 ++ [x.n])) D D2 W10 := ⟨HH.out.take HP9.out.below, (HH.out.j.dev.kbelow HP9.out.below).less (fun _ h => h.1), hrow10, HB10.out.same _ _ CD'.out rfl, HB10.out.same _ _ HD8.out rfl, fun j e => .inr (by have := row_rx hrow10 j e; omega)⟩
          have hFS11 : FS w0 W X (fun k => X k ∨ W.heap.size ≤ k ∧ k < W10.heap.size) p jb N tb m M w5.heap.size (.slice ao11 ln11 cp11) (f1 ++ f2 ++ [x.n]).length (u16s (f1 ++ f2 ++ [x.n])) D D2 W11 := by rw [← hW11]; exact hFS10.set hFK (by omega) (by omega) (.inr ⟨by omega, by omega⟩) 7 _
          have hv11 : Boxed W11 bf 68 (.slice ao11 ln11 cp11) := by rw [← hW11]; exact (Below.heap_setCell W10 ⟨bx, 7, none⟩ _ bf hb2).trans hv10
          have hcf : cutF x M bsn q = f1 ++ f2 ++ [x.n] := by rw [HCF.out, if_pos ⟨hn0, hq4⟩]
          have hcm : cutM x M bsn q = M := by rw [HCM.out, if_pos ⟨hn0, hq4⟩]
          have HFK := Lib.hid hFK
          have HFS : Hid (FS w0 W X (fun k => X k ∨ W.heap.size ≤ k ∧ k < W10.heap.size) p jb N tb m (cutM x M bsn q) w5.heap.size (.slice ao11 ln11 cp11) (cutF x M bsn q).length (u16s (cutF x M bsn q)) D D2 W11) := Lib.hid (by rw [hcf, hcm]; exact hFS11)
          have hs10' := hs10
          have HLT2 : Hid ((W.heap.size ≤ br ∧ br < w5.heap.size ∧ br < W10.heap.size) ∧ W.heap.size ≤ bf ∧ bf < w5.heap.size ∧ bf < W10.heap.size) := Lib.hid (by omega)
          have hyy : ∃ y, x.cut q = y := ⟨_, rfl⟩
          obtain ⟨y, hy⟩ := hyy
          have HY := Lib.hid hy
          rw [hy] at hb11
          clear hy
          clear hcf hcm hs10' hFK hFS10 hFS11 hrow10 hv10 hs10 hlt hcut hW11 c7 c10 hb10 hW10 hb9 hr9 hpost hown' hgrow hv1 hc1 hf1 p7 pz hL5 hone hr8 hz8 hml hby q0 q1 q2 q3 q4 q5 q6 q7 fx7 ff fr10 hc HTL HS HXN HK2 HI8 HV8 HR8 C6' C7' C10' CD' HD8 HSL HCF HCM HN2 HFN HF2 HN2' HB9 HR9 HB10 HP9 HLT HT8 HLL
          unfold ic at hb11 hr11
          unfold Ino.zero at hr11
          have t0 := cl_of hb11 0
          have t1 := cl_of hb11 1
          have t2 := cl_of hb11 2
          have t3 := cl_of hb11 3
          have t4 := cl_of hb11 4
          have t5 := cl_of hb11 5
          have t6 := cl_of hb11 6
          have t7 := cl_of hb11 7
          have r0 := cl_of hr11 0
          have r1 := cl_of hr11 1
          have r2 := cl_of hr11 2
          have r3 := cl_of hr11 3
          have r4 := cl_of hr11 4
          have r5 := cl_of hr11 5
          have r6 := cl_of hr11 6
          have r7 := cl_of hr11 7
          have rz := fz_of hr11
          have tv := hv11.cell
          have tf := hv11.frozen
          have HR11 : Hid (W11.heap[br]? = some (.cells (ic Ino.zero) 61 (0, 0))) := Lib.hid hr11
          have HV11 := Lib.hid hv11
          clear hb11 hr11 hv11
          go_region
          obtain ⟨hr12, hv12⟩ := end_facts HR11.out HV11.out hb3 y (.slice ao11 ln11 cp11)
          have hFS12 := HFS.out.last HFK.out HLT2.out.1.1 HLT2.out.1.2.1 (.inr ⟨HLT2.out.1.1, HLT2.out.1.2.2⟩) HLT2.out.2.1 HLT2.out.2.2.1 (.inr ⟨HLT2.out.2.1, HLT2.out.2.2.2⟩) y (.slice ao11 ln11 cp11)
          obtain ⟨W12, hW12⟩ : ∃ W12, ((put8 W11 br y).setCell ⟨bf, 0, none⟩ (.slice ao11 ln11 cp11)).drew = W12 := ⟨_, rfl⟩
          rw [hW12] at hr12 hv12 hFS12
          unfold put8 at hW12
          rw [hW12]
          have HFS12 := Lib.hid hFS12
          have hDD := HFK.out.d
          have hDD2 := HFK.out.d2
          have hbl := HLT2.out
          have hs13 : ∀ k, k ≠ D → k ≠ D2 → ((W12.putObj D2 (.deferred none)).putObj D (.deferred none)).heap[k]? = W12.heap[k]? := fun k h1 h2 => (World.putObj_heap_other h1).trans (World.putObj_heap_other h2)
          have hr13 := (hs13 br (by omega) (by omega)).trans hr12
          have hv13 : ((W12.putObj D2 (.deferred none)).putObj D (.deferred none)).cell? ⟨bf, 0, none⟩ = some (.slice ao11 ln11 cp11) := (World.cell?_of_block (hs13 bf (by omega) (by omega))).trans hv12.cell
          have hres : CutPost2 w0 X p jb N tb m bsn M x q W (.returned (.tuple #[.agg (ic y), .slice ao11 ln11 cp11, .int .i64 0])) ((W12.putObj D2 (.deferred none)).putObj D (.deferred none)) := by
            obtain ⟨a1, -, a3⟩ := HFS12.out.fin HFK.out
            exact ⟨_, _, by rw [HY.out], a1, HFK.out.xx, HFS12.out.rx, HFS12.out.finX HFK.out, a3⟩
          have HRES := Lib.hid hres
          unfold ic at hr13 HRES
          have s0 := cl_of hr13 0
          have s1 := cl_of hr13 1
          have s2 := cl_of hr13 2
          have s3 := cl_of hr13 3
          have s4 := cl_of hr13 4
          have s5 := cl_of hr13 5
          have s6 := cl_of hr13 6
          have s7 := cl_of hr13 7
          clear hres hs13 hr12 hv12 hr13 hW12 hDD hDD2 hbl t0 t1 t2 t3 t4 t5 t6 t7 r0 r1 r2 r3 r4 r5 r6 r7 rz tv tf hFS12
          go_wp2
          refine ⟨by simp, .inl ⟨_, _, rfl, run_takeDeferred HFS12.out.d2, by simp, .inl ⟨_, _, rfl, run_takeDeferred (HFS12.out.put1 HFK.out), ?_⟩⟩⟩
          exact ⟨_, (by simp [results, Tryz.results29, go_sem, s0, s1, s2, s3, s4, s5, s6, s7, hv13]), HRES.out⟩
        · have e6 : decide ((q : Int) ≤ 4) = false := decide_eq_false (by omega)
          by_cases hf20' : f2 = []
          · have hcut : x.cut q = x.cutd q := by unfold Ino.cut; rw [if_neg (fun h => hq4 h.2)]; rfl
            have hf20 : f2 = [] := hf20'
            have e7 : decide ((n2 : Int) > (f1.length : Int)) = false := decide_eq_false (by have := HN2'.out; rw [hf20, List.length_nil] at this; omega)
            have e7b : decide (f1.length < n2) = false := decide_eq_false (by have := HN2'.out; rw [hf20, List.length_nil] at this; omega)
            have e7c : ¬ (f1.length < n2) := by have := HN2'.out; rw [hf20, List.length_nil] at this; omega
            have hlt := HLT.out
            have hFK : FK w0 W X (fun k => X k ∨ W.heap.size ≤ k ∧ k < W8.heap.size) jb tb m w5.heap.size D D2 := ⟨HH.out.j.dev.lt, HH.out.j.own, HH.out.xt, HH.out.xm, HH.out.j.dev.below.size, by omega, by omega, by omega, by omega, fun _ h => .inl h, .inr ⟨by omega, by omega⟩, .inr ⟨by omega, by omega⟩⟩
            have hcf : cutF x M bsn q = f1 ++ f2 := by rw [HCF.out, if_neg (fun h => hq4 h.2), List.append_nil]
            have hcm : cutM x M bsn q = M := by rw [HCM.out, if_neg (fun h => hq4 h.2), if_pos hf20]
            have HFS : Hid (FS w0 W X (fun k => X k ∨ W.heap.size ≤ k ∧ k < W8.heap.size) p jb N tb m (cutM x M bsn q) w5.heap.size (.slice ao n2 cp) (cutF x M bsn q).length (u16s (cutF x M bsn q)) D D2 W8) := Lib.hid (by rw [hcf, hcm, HN2.out]; exact ⟨HT8.out, (HH.out.j.dev.kbelow HI8.out.below).less (fun _ h => h.1), HR8.out, CD'.out, HD8.out, fun j e => .inr (by have := row_rx HR8.out j e; omega)⟩)
            have HFK := Lib.hid hFK
            have HLT2 : Hid ((W.heap.size ≤ br ∧ br < w5.heap.size ∧ br < W8.heap.size) ∧ W.heap.size ≤ bf ∧ bf < w5.heap.size ∧ bf < W8.heap.size) := Lib.hid (by omega)
            have hb11 : W8.heap[bx]? = some (.cells (ic (x.cut q)) 61 (0, 0)) := by rw [hcut]; exact C7'.out
            have hr11 := C10'.out
            have hv11 := HV8.out
            clear hcf hcm hFK hlt hf20 HTL HS HXN HK2 HI8 HV8 HR8 C6' CD' HD8 HSL HCF HCM HN2 HFN HF2 HN2' HLT HT8 HLL
            go_wp2_with fail
            obtain ⟨y, hy⟩ : ∃ y, x.cut q = y := ⟨_, rfl⟩
            have HY := Lib.hid hy
            rw [hy] at hb11
            clear hy hcut e7 q0 q1 q2 q3 q4 q5 q6 q7 fx7 ff fr10 hc
            unfold ic at hb11
            have t0 := cl_of hb11 0
            have t1 := cl_of hb11 1
            have t2 := cl_of hb11 2
            have t3 := cl_of hb11 3
            have t4 := cl_of hb11 4
            have t5 := cl_of hb11 5
            have t6 := cl_of hb11 6
            have t7 := cl_of hb11 7
            have r0 := cl_of hr11 0
            have r1 := cl_of hr11 1
            have r2 := cl_of hr11 2
            have r3 := cl_of hr11 3
            have r4 := cl_of hr11 4
            have r5 := cl_of hr11 5
            have r6 := cl_of hr11 6
            have r7 := cl_of hr11 7
            have rz := fz_of hr11
            have tv := hv11.cell
            have tf := hv11.frozen
            have HR11 : Hid (W8.heap[br]? = some (.cells (ic Ino.zero) 61 (0, 0))) := Lib.hid hr11
            have HV11 := Lib.hid hv11
            clear hb11 hr11 hv11
            go_region
            obtain ⟨hr12, hv12⟩ := end_facts HR11.out HV11.out hb3 y (.slice ao n2 cp)
            have hFS12 := HFS.out.last HFK.out HLT2.out.1.1 HLT2.out.1.2.1 (.inr ⟨HLT2.out.1.1, HLT2.out.1.2.2⟩) HLT2.out.2.1 HLT2.out.2.2.1 (.inr ⟨HLT2.out.2.1, HLT2.out.2.2.2⟩) y (.slice ao n2 cp)
            obtain ⟨W12, hW12⟩ : ∃ W12, ((put8 W8 br y).setCell ⟨bf, 0, none⟩ (.slice ao n2 cp)).drew = W12 := ⟨_, rfl⟩
            rw [hW12] at hr12 hv12 hFS12
            unfold put8 at hW12
            rw [hW12]
            have HFS12 := Lib.hid hFS12
            have hDD := HFK.out.d
            have hDD2 := HFK.out.d2
            have hbl := HLT2.out
            have hs13 : ∀ k, k ≠ D → k ≠ D2 → ((W12.putObj D2 (.deferred none)).putObj D (.deferred none)).heap[k]? = W12.heap[k]? := fun k h1 h2 => (World.putObj_heap_other h1).trans (World.putObj_heap_other h2)
            have hr13 := (hs13 br (by omega) (by omega)).trans hr12
            have hv13 : ((W12.putObj D2 (.deferred none)).putObj D (.deferred none)).cell? ⟨bf, 0, none⟩ = some (.slice ao n2 cp) := (World.cell?_of_block (hs13 bf (by omega) (by omega))).trans hv12.cell
            have hres : CutPost2 w0 X p jb N tb m bsn M x q W (.returned (.tuple #[.agg (ic y), .slice ao n2 cp, .int .i64 0])) ((W12.putObj D2 (.deferred none)).putObj D (.deferred none)) := by
              obtain ⟨a1, -, a3⟩ := HFS12.out.fin HFK.out
              exact ⟨_, _, by rw [HY.out], a1, HFK.out.xx, HFS12.out.rx, HFS12.out.finX HFK.out, a3⟩
            have HRES := Lib.hid hres
            unfold ic at hr13 HRES
            have s0 := cl_of hr13 0
            have s1 := cl_of hr13 1
            have s2 := cl_of hr13 2
            have s3 := cl_of hr13 3
            have s4 := cl_of hr13 4
            have s5 := cl_of hr13 5
            have s6 := cl_of hr13 6
            have s7 := cl_of hr13 7
            clear hres hs13 hr12 hv12 hr13 hW12 hDD hDD2 hbl t0 t1 t2 t3 t4 t5 t6 t7 r0 r1 r2 r3 r4 r5 r6 r7 rz tv tf hFS12
            go_wp2
            refine ⟨by simp, .inl ⟨_, _, rfl, run_takeDeferred HFS12.out.d2, by simp, .inl ⟨_, _, rfl, run_takeDeferred (HFS12.out.put1 HFK.out), ?_⟩⟩⟩
            exact ⟨_, (by simp [results, Tryz.results29, go_sem, s0, s1, s2, s3, s4, s5, s6, s7, hv13]), HRES.out⟩
          · have hf20 := hf20'
            clear hf20'
            have hcut : x.cut q = x.cutd q := by unfold Ino.cut; rw [if_neg (fun h => hq4 h.2)]; rfl
            have e7c : f1.length < n2 := by have := HN2'.out; have : f2.length ≠ 0 := (fun h => hf20 (List.eq_nil_of_length_eq_zero h)); omega
            have e7 : decide ((n2 : Int) > (f1.length : Int)) = true := decide_eq_true (by omega)
            have e7b : decide (f1.length < n2) = true := decide_eq_true e7c
            have hlt := HLT.out
            have hcf : cutF x M bsn q = f1 ++ f2 := by rw [HCF.out, if_neg (fun h => hq4 h.2), List.append_nil]
            have hcm : cutM x M bsn q = pins bsn (tellB (cutL L (q - 4))) M := by rw [HCM.out, if_neg (fun h => hq4 h.2), if_neg hf20]
            have htl := HTL.out W8 _ HT8.out (.slice (some ⟨g, 0, none⟩) 32 cap) (by rw [HLL.out]; exact HSL.out) (by have := HXN.out.1; omega) (HFIT.out ⟨by omega, hn0, by rw [HLL.out, HF2.out]; exact hf20⟩)
            rw [HLL.out, ← hcm] at htl
            have HTL8 := Lib.hid htl
            have HCF' := Lib.hid hcf
            have HCUT := Lib.hid hcut
            have c7 := C7'.out
            have c6 := C6'.out
            unfold ic at c7
            clear hcf hcm htl hcut hlt q0 q1 q2 q3 q4 q5 q6 q7
            obtain ⟨xc, hxc⟩ : ∃ xc, x.cutd q = xc := ⟨_, rfl⟩
            have e5' : (xc.n != 0) = true := by rw [← hxc]; exact e5
            rw [hxc] at c7 HTL8
            have HXC := Lib.hid hxc
            have g0 := cl_of c6 0
            have g1 := cl_of c6 1
            have g2 := cl_of c6 2
            have q0 := cl_of c7 0
            have q1 := cl_of c7 1
            have q2 := cl_of c7 2
            have q3 := cl_of c7 3
            have q4 := cl_of c7 4
            have q5 := cl_of c7 5
            have q6 := cl_of c7 6
            have q7 := cl_of c7 7
            clear hxc c6 c7 e5
            go_wp2_with fail
            refine HTL8.out.mono ?_
            rintro e w9 ⟨rfl, hT9, hK9⟩
            have hlt := HLT.out
            have hmw := HH.out.j.dev.lt _ HH.out.xm
            have hin : ∀ k, W.heap.size ≤ k → k < W8.heap.size → w9.heap[k]? = W8.heap[k]? := fun k h1 h2 => hK9 k (.inr ⟨.inr ⟨h1, h2⟩, by omega⟩)
            have hFK : FK w0 W X (fun k => X k ∨ W.heap.size ≤ k ∧ k < W8.heap.size) jb tb m w5.heap.size D D2 := ⟨HH.out.j.dev.lt, HH.out.j.own, HH.out.xt, HH.out.xm, HH.out.j.dev.below.size, by omega, by omega, by omega, by omega, fun _ h => .inl h, .inr ⟨by omega, by omega⟩, .inr ⟨by omega, by omega⟩⟩
            have HFS : Hid (FS w0 W X (fun k => X k ∨ W.heap.size ≤ k ∧ k < W8.heap.size) p jb N tb m (cutM x M bsn q) w5.heap.size (.slice ao n2 cp) (cutF x M bsn q).length (u16s (cutF x M bsn q)) D D2 w9) := Lib.hid (by
              rw [HCF'.out, HN2.out]
              refine ⟨hT9, Kb.t ((HH.out.j.dev.kbelow HI8.out.below).less (fun _ h => h.1)) (hK9.less (fun k h => ⟨.inl h.1, h.2⟩)), ownsRow_blockB HR8.out (fun k e => ?_), (hin D (by omega) (by omega)).trans CD'.out, (hin D2 (by omega) (by omega)).trans HD8.out, fun j e => .inr (by have := row_rx HR8.out j e; omega)⟩
              rcases HR8.out.2 with ⟨e2, _⟩ | ⟨g3, c3, cur3, e2, h3, hh, _⟩
              · rw [e2] at e; cases e
              · rw [e2] at e
                cases e
                have hgl := blk_lt hh
                exact hin g3 (by omega) hgl)
            have HFK := Lib.hid hFK
            have HLT2 : Hid ((W.heap.size ≤ br ∧ br < w5.heap.size ∧ br < W8.heap.size) ∧ W.heap.size ≤ bf ∧ bf < w5.heap.size ∧ bf < W8.heap.size) := Lib.hid (by omega)
            have hb11 : w9.heap[bx]? = some (.cells (ic (x.cut q)) 61 (0, 0)) := by rw [HCUT.out]; exact (hin bx (by omega) (by omega)).trans C7'.out
            have hr11 := (hin br (by omega) (by omega)).trans C10'.out
            have hv11 : Boxed w9 bf 68 (.slice ao n2 cp) := (hin bf (by omega) (by omega)).trans HV8.out
            clear hT9 hK9 hin hFK hlt hmw HTL HTL8 HS HXN HK2 HI8 HV8 HR8 C6' C7' C10' CD' HD8 HSL HCF HCM HN2 HFN HF2 HN2' HLT HT8 HLL HXC HCUT HCF' g0 g1 g2
            go_wp2_with fail
            obtain ⟨y, hy⟩ : ∃ y, x.cut q = y := ⟨_, rfl⟩
            have HY := Lib.hid hy
            rw [hy] at hb11
            clear hy e7 q0 q1 q2 q3 q4 q5 q6 q7 fx7 ff fr10 hc
            unfold ic at hb11
            have t0 := cl_of hb11 0
            have t1 := cl_of hb11 1
            have t2 := cl_of hb11 2
            have t3 := cl_of hb11 3
            have t4 := cl_of hb11 4
            have t5 := cl_of hb11 5
            have t6 := cl_of hb11 6
            have t7 := cl_of hb11 7
            have r0 := cl_of hr11 0
            have r1 := cl_of hr11 1
            have r2 := cl_of hr11 2
            have r3 := cl_of hr11 3
            have r4 := cl_of hr11 4
            have r5 := cl_of hr11 5
            have r6 := cl_of hr11 6
            have r7 := cl_of hr11 7
            have rz := fz_of hr11
            have tv := hv11.cell
            have tf := hv11.frozen
            have HR11 : Hid (w9.heap[br]? = some (.cells (ic Ino.zero) 61 (0, 0))) := Lib.hid hr11
            have HV11 := Lib.hid hv11
            clear hb11 hr11 hv11
            go_region
            obtain ⟨hr12, hv12⟩ := end_facts HR11.out HV11.out hb3 y (.slice ao n2 cp)
            have hFS12 := HFS.out.last HFK.out HLT2.out.1.1 HLT2.out.1.2.1 (.inr ⟨HLT2.out.1.1, HLT2.out.1.2.2⟩) HLT2.out.2.1 HLT2.out.2.2.1 (.inr ⟨HLT2.out.2.1, HLT2.out.2.2.2⟩) y (.slice ao n2 cp)
            obtain ⟨W12, hW12⟩ : ∃ W12, ((put8 w9 br y).setCell ⟨bf, 0, none⟩ (.slice ao n2 cp)).drew = W12 := ⟨_, rfl⟩
            rw [hW12] at hr12 hv12 hFS12
            unfold put8 at hW12
            rw [hW12]
            have HFS12 := Lib.hid hFS12
            have hDD := HFK.out.d
            have hDD2 := HFK.out.d2
            have hbl := HLT2.out
            have hs13 : ∀ k, k ≠ D → k ≠ D2 → ((W12.putObj D2 (.deferred none)).putObj D (.deferred none)).heap[k]? = W12.heap[k]? := fun k h1 h2 => (World.putObj_heap_other h1).trans (World.putObj_heap_other h2)
            have hr13 := (hs13 br (by omega) (by omega)).trans hr12
            have hv13 : ((W12.putObj D2 (.deferred none)).putObj D (.deferred none)).cell? ⟨bf, 0, none⟩ = some (.slice ao n2 cp) := (World.cell?_of_block (hs13 bf (by omega) (by omega))).trans hv12.cell
            have hres : CutPost2 w0 X p jb N tb m bsn M x q W (.returned (.tuple #[.agg (ic y), .slice ao n2 cp, .int .i64 0])) ((W12.putObj D2 (.deferred none)).putObj D (.deferred none)) := by
              obtain ⟨a1, -, a3⟩ := HFS12.out.fin HFK.out
              exact ⟨_, _, by rw [HY.out], a1, HFK.out.xx, HFS12.out.rx, HFS12.out.finX HFK.out, a3⟩
            have HRES := Lib.hid hres
            unfold ic at hr13 HRES
            have s0 := cl_of hr13 0
            have s1 := cl_of hr13 1
            have s2 := cl_of hr13 2
            have s3 := cl_of hr13 3
            have s4 := cl_of hr13 4
            have s5 := cl_of hr13 5
            have s6 := cl_of hr13 6
            have s7 := cl_of hr13 7
            clear hres hs13 hr12 hv12 hr13 hW12 hDD hDD2 hbl t0 t1 t2 t3 t4 t5 t6 t7 r0 r1 r2 r3 r4 r5 r6 r7 rz tv tf hFS12
            go_wp2
            refine ⟨by simp, .inl ⟨_, _, rfl, run_takeDeferred HFS12.out.d2, by simp, .inl ⟨_, _, rfl, run_takeDeferred (HFS12.out.put1 HFK.out), ?_⟩⟩⟩
            exact ⟨_, (by simp [results, Tryz.results29, go_sem, s0, s1, s2, s3, s4, s5, s6, s7, hv13]), HRES.out⟩
set_option maxRecDepth 100000 in
set_option maxHeartbeats 8000000 in
theorem bcut_full (h : TJ w0 X p jb N 0 1 40 0 0 (newS N) tb m M false W) (hg : GeoN i b j N) (hm : MayB i b j x 0) (hx : x.Wf) (hs : Sz M) (hb : x.n ≠ 0 → (bsn : Int) = fr i b j 5 + x.n - 1) (q : Nat) (hq : q ≤ 36) (hct : cutT x M bsn q) (hfit : ¬ fits bsn M) :
    Calls Tryz.prog 29 #[.pointer (some ⟨tb, 0, none⟩), gv i b j, .agg (ic x), .int .i64 q] W (fun e W' => e = .returned (.tuple #[.agg (ic Ino.zero), .slice none 0 0, .int .i64 4]) ∧ TJ w0 X p jb N 0 1 40 0 0 (newS N) tb m M false W' ∧ Kb w0 (fun k => X k ∧ k ≠ m) W W') := by
  have hmy := fun W => bmay_yes hm hx (Int.le_refl 0) (by decide) (tb := tb) W
  have htd := fun (W2 : World) (hB : Below W.heap.size W W2) => btold_any (h.of hB) hg hx hm.n hs hb
  have hlen := toldL_length x hs bsn
  have htl := fun (W2 : World) (X2 : Nat → Prop) (h2 : TJ w0 X2 p jb N 0 1 40 0 0 (newS N) tb m M false W2) (l : Value) (hv : SlI .u16 W2 l (cutL (toldL x M bsn) (q - 4))) (hn1 : 1 ≤ x.n) =>
    btell_full (x := x.cutd q) h2 hg (by have := Ino.cut_wf hx q; exact ⟨this.k, this.l, this.s, this.d0, this.d1, this.d2, this.d3, hx.n⟩) hm.n hn1 (hb (by show x.n ≠ 0; omega)) hv (by rw [cutL_length, hlen]; decide) hfit
  unfold gv at hmy htd htl ⊢
  have hB1 : Below W.heap.size W ((((W.alloc (.cells #[.int .i64 i, .int .i64 b, .int .i64 j] 56)).alloc (.cells (ic x) 61)).alloc (.cells (ic Ino.zero) 61)).alloc (.cells #[.slice none 0 0] 68)) := bal (bal (bal (bnew _ _) _) _) _
  have HMY := Lib.hid hmy
  have HTD := Lib.hid htd
  have HTL := Lib.hid htl
  have HH := Lib.hid h
  have HXN := Lib.hid hx.n
  have HCT := Lib.hid hct
  clear hct
  have HS := Lib.hid hs
  clear hmy hm hx htd htl h hs hg hfit hb
  have e1 : decide ((q : Int) ≥ 0) = true := decide_eq_true (by omega)
  have e2 : decide ((q : Int) ≤ 36) = true := decide_eq_true (by omega)
  unfold ic at *
  refine (callsIn_wide (n := 9)).1 (callsIn_of_wp_marks Tryz.func29 rfl trivial ?_ rfl)
  refine wpIn_wide.2 ?_
  simp only [Tryz.ntmps29, List.size_toArray, List.length_cons, List.length_nil, Nat.reduceAdd, Nat.reduceSub, Array.replicate_succ, Array.replicate_zero, List.push_toArray, List.append_toArray, List.nil_append, List.cons_append]
  go_wp2_with fail
  obtain ⟨W1, hW1⟩ : ∃ W1, (((W.alloc (.cells #[.int .i64 i, .int .i64 b, .int .i64 j] 56)).alloc (.cells #[.int .u8 x.k, .int .u16 x.l, .int .u32 x.s, .int .u16 x.d0, .int .u16 x.d1, .int .u16 x.d2, .int .u16 x.d3, .int .u16 x.n] 61)).alloc (.cells #[.int .u8 0, .int .u16 0, .int .u32 0, .int .u16 0, .int .u16 0, .int .u16 0, .int .u16 0, .int .u16 0] 61)).alloc (.cells #[.slice none 0 0] 68) = W1 := ⟨_, rfl⟩
  have b6 : W1.heap[W.heap.size]? = some (.cells #[.int .i64 i, .int .i64 b, .int .i64 j] 56 (0, 0)) := by
    rw [← hW1, hp_old _ _ (by simp; omega), hp_old _ _ (by simp; try omega), hp_old _ _ (by simp), hp_new _ _ rfl]
  have b7 : W1.heap[W.heap.size + 1]? = some (.cells #[.int .u8 x.k, .int .u16 x.l, .int .u32 x.s, .int .u16 x.d0, .int .u16 x.d1, .int .u16 x.d2, .int .u16 x.d3, .int .u16 x.n] 61 (0, 0)) := by
    rw [← hW1, hp_old _ _ (by simp; try omega), hp_old _ _ (by simp), hp_new _ _ (by simp)]
  have b10 : W1.heap[W.heap.size + 1 + 1]? = some (.cells #[.int .u8 0, .int .u16 0, .int .u32 0, .int .u16 0, .int .u16 0, .int .u16 0, .int .u16 0, .int .u16 0] 61 (0, 0)) := by
    rw [← hW1, hp_old _ _ (by simp), hp_new _ _ (by simp)]
  have b11 : Boxed W1 (W.heap.size + 1 + 1 + 1) 68 (.slice none 0 0) := by
    rw [← hW1]; exact hp_new _ _ (by simp)
  have hB1' : Below W.heap.size W W1 := by rw [← hW1]; exact hB1
  simp only [hW1]
  clear hW1 hB1
  refine (HMY.out _).mono ?_
  rintro e w2 ⟨rfl, hB2⟩
  have HB2 := Lib.hid (bt hB1' hB2)
  have c6 := bblk hB2 b6
  have c7 := bblk hB2 b7
  have c10 := bblk hB2 b10
  have c11 := bblk hB2 b11
  clear hB1' hB2 b6 b7 b10 b11
  obtain ⟨bg, hbg⟩ : ∃ bg, W.heap.size = bg := ⟨_, rfl⟩
  obtain ⟨bx, hbx⟩ : ∃ bx, bg + 1 = bx := ⟨_, rfl⟩
  obtain ⟨br, hbr⟩ : ∃ br, bx + 1 = br := ⟨_, rfl⟩
  obtain ⟨bf, hbf⟩ : ∃ bf, br + 1 = bf := ⟨_, rfl⟩
  rw [hbg] at c6 c7 c10 c11
  rw [hbx] at c7 c10 c11
  rw [hbr] at c10 c11
  rw [hbf] at c11
  simp only [hbg, hbx, hbr, hbf]
  have HBX : Hid (W.heap.size = bg ∧ bg + 1 = bx ∧ bx + 1 = br ∧ br + 1 = bf) := Lib.hid ⟨hbg, hbx, hbr, hbf⟩
  clear hbg hbx hbr hbf
  have C6 := Lib.hid c6
  have C7 := Lib.hid c7
  have C10 := Lib.hid c10
  have C11 := Lib.hid c11
  have HF2 : Hid (bf < w2.heap.size) := Lib.hid (blk_lt c11)
  have g0 := cl_of c6 0
  have g1 := cl_of c6 1
  have g2 := cl_of c6 2
  have q0 := cl_of c7 0
  have q1 := cl_of c7 1
  have q2 := cl_of c7 2
  have q3 := cl_of c7 3
  have q4 := cl_of c7 4
  have q5 := cl_of c7 5
  have q6 := cl_of c7 6
  have q7 := cl_of c7 7
  clear c6 c7 c10 c11
  go_wp2_with fail
  refine (HTD.out _ HB2.out).mono ?_
  rintro e w4 ⟨lv, rfl, hrow, hB4⟩
  have HB4 := Lib.hid (bt HB2.out hB4)
  have c6 := bblk hB4 C6.out
  have c7 := bblk hB4 C7.out
  have c10 := bblk hB4 C10.out
  have c11 := bblk hB4 C11.out
  clear hB4 g0 g1 g2 q0 q1 q2 q3 q4 q5 q6 q7 C6 C7 C10 C11
  obtain ⟨g, cap, cur, rfl, hg0, hgb, hgc⟩ : ∃ g cap cur, lv = .slice (some ⟨g, 0, none⟩) 32 cap ∧ w2.heap.size ≤ g ∧ w4.heap[g]? = some (.cells cur 57 (0, 0)) ∧ ∀ k, k < 32 → cur[k]? = some (.int .u16 ((toldL x M bsn).getD k 0)) := by
    have hro := hrow
    rcases hrow.2 with ⟨rfl, h0⟩ | ⟨g, c, cur, rfl, h0, hh, hr⟩
    · omega
    · refine ⟨_, _, _, rfl, h0, hh, fun k hk => ?_⟩
      have hc := ownsRow_cell (ownsRow_base hro) rfl (u16s_get (toldL x M bsn) (k := k) (by rw [hlen]; exact hk))
      rw [cl_of hh] at hc
      simpa using hc
  have HG := Lib.hid hgb
  have HGC := Lib.hid hgc
  have HG0 := Lib.hid hg0
  have HL := Lib.hid hlen
  have C6 := Lib.hid c6
  have C7 := Lib.hid c7
  have C10 := Lib.hid c10
  have C11 := Lib.hid c11
  clear hrow hgb hgc hg0 hlen
  go_wp2_with fail
  refine (taken_any _ _ _ _ _).mono ?_
  rintro e w5 ⟨B1, L1, rfl, hB5, hBf0, hBl0, hbf, hbl, hBfl, hBll⟩
  have d7 := bblk hB5 C7.out
  have d11 := bblk hB5 C11.out
  have dg := bblk hB5 HG.out
  have C6 := Lib.hid (bblk hB5 C6.out)
  have C10 := Lib.hid (bblk hB5 C10.out)
  have HBL5 := Lib.hid (bt HB4.out hB5)
  have hs4 := blk_lt HG.out
  have hs45 := hB5.size
  have hsx := blk_lt C11.out
  have hbx := HBX.out
  have hsg := Nat.le_trans HB2.out.size HG0.out
  have hgx : bf < g := Nat.lt_of_lt_of_le HF2.out HG0.out
  have kok : KOk W w5 bf bx w5.heap.size (fun k => k < w5.heap.size ∧ k ≠ bf ∧ k ≠ bx) := ⟨fun k h => h.1, fun k h => h.2.1, fun k h => h.2.2, fun k h h2 => by omega, by omega, by omega, by omega, by omega, by omega, Nat.le_refl _, by omega⟩
  have hseq := taken_seq 8 (by decide) (zs := x.ds4) (cs := ic x) (off := 3) (by show 4 ≤ 1000; decide) (by omega) (by omega) (show B1 ≠ bx by omega) (show L1 ≠ bx by omega) (fun k hk => by
    have : k = 0 ∨ k = 1 ∨ k = 2 ∨ k = 3 := by simp [Ino.ds4] at hk; omega
    rcases this with rfl | rfl | rfl | rfl <;> rfl) hbf hbl d7
  rw [Int.toNat_natCast, show x.ds4.length = 4 from rfl] at hseq
  have hI0 : CutI W w5 bf w5.heap.size (fun k => k < w5.heap.size ∧ k ≠ bf ∧ k ≠ bx) [] w5 := ⟨⟨_, d11, World.ownsRow_nil _ _ _ _⟩, HBL5.out, fun k _ => rfl⟩
  have hB1l : B1 < w5.heap.size ∧ B1 ≠ bf ∧ B1 ≠ bx := ⟨hBfl, by omega, by omega⟩
  have hL1l : L1 < w5.heap.size ∧ L1 ≠ bf ∧ L1 ≠ bx := ⟨hBll, by omega, by omega⟩
  have hbx5 : bx < w5.heap.size := by omega
  have HK := Lib.hid kok
  have HSQ := Lib.hid hseq
  have HI0 := Lib.hid hI0
  have HB1L := Lib.hid hB1l
  have HL1L := Lib.hid hL1l
  have HBX5 := Lib.hid hbx5
  have HKB : Hid (∀ k, (k = bx ∨ k = B1 ∨ k = L1) → k < w5.heap.size) := Lib.hid (by
    rintro k (rfl | rfl | rfl)
    · exact hbx5
    · exact hBfl
    · exact hBll)
  have HG5 := Lib.hid dg
  have HGX : Hid (bf < g ∧ g < w4.heap.size ∧ w4.heap.size ≤ w5.heap.size) := Lib.hid ⟨hgx, hs4, hs45⟩
  clear kok hseq hI0 hB1l hL1l hbx5 dg hs4 hs45 hsx hbx hsg hgx d7 d11 hbf hbl hBf0 hBl0 hBfl hBll HBL5 HMY HTD HF2 hB5 C7 C11 HG HG0
  go_wp2_with fail
  refine (wpIn_wide (n := 9)).1 ?_
  refine wpIn_rangeW (b := bx) (by omega) (gf := 90) rfl (fun _ _ => by rfl) HSQ.out HBX5.out KeepB.t (KeepB.b HKB.out) (Below.refl _ _) (fun _ => rfl)
    (fun pre W' => CutI W w5 bf w5.heap.size (fun k => k < w5.heap.size ∧ k ≠ bf ∧ k ≠ bx) pre W' ∧ w5.heap.size ≤ W'.heap.size) (CutI.own HK.out (f := id)) (fun pre k v W1 h => ⟨h.1.turn HK.out k v, by simpa [World.setCell] using h.2⟩) ⟨HI0.out, Nat.le_refl _⟩ ?a1 ?assign ?body ?done
  case assign =>
    intro l x W K hK
    gi_wp2
    exact hK
  case body =>
    rintro l1 pre z W1 ⟨hI, hz⟩ hlen
    obtain ⟨v, hv, hrow⟩ := hI.row
    obtain ⟨i0, hi, hz0, hz1, hz2⟩ := infoU16x
    have hc := hv.cell
    have hl4 : pre.length < 4 := hlen
    have hl2 : pre.length + 1 ≤ maxLen := by unfold maxLen; omega
    have HI := Lib.hid hI
    clear hI hlen
    gi_wp2_with (first | (gi_at_builtin; refine wpListIn_append_at _ rfl _ _ 68 rfl w5.heap.size 57 i0 (.int .u16 0) 1 2 Tryz.underlying68 hi hz0 hz1 hz2 rfl (by decide) _ _ _ rfl (hrow.alloc _) ⟨W1.heap.size, 0, none⟩ 1 1 [.int .u16 z] rfl rfl (World.news_of_block (hp_new _ _ rfl)) (by simp [Value.oneCell']) hl2 (by omega) (by simp; omega) ?_; intro v' w1 hown' hgrow _ _; obtain ⟨g', cap', rfl⟩ := ownsRow_succ hown'; obtain ⟨hv1, hpost⟩ := CutI.app HK.out HI.out hz hv hrow hown' hgrow; have hc1 := hv1.cell; have hf1 := hv1.frozen) | gi_in)
    refine ⟨hpost.out.1, ?_, hpost.out.2.2⟩
    rintro k (rfl | rfl | rfl)
    · exact hpost.out.2.1 _ (.inl rfl)
    · exact hpost.out.2.1 _ (.inr HB1L.out)
    · exact hpost.out.2.1 _ (.inr HL1L.out)
  case done =>
    rintro D xs W6 hD rfl ⟨hI, hz⟩ ⟨o, ho, hzd⟩ hD6
    obtain rfl := zd_ino x q hzd
    obtain ⟨v, hv, hrow⟩ := hI.row
    generalize hf1 : nz (x.ds4.drop q) = f1 at *
    have hl1 : f1.length ≤ 4 := by
      rw [← hf1, nz]
      refine Nat.le_trans (List.length_filter_le _ _) ?_
      rw [List.length_drop]
      show 4 - q ≤ 4
      omega
    obtain ⟨ao, cp, rfl⟩ : ∃ ao cp, v = .slice ao f1.length cp := by
      rcases hrow.2 with ⟨rfl, h0⟩ | ⟨g', c, cur, rfl, _⟩
      · exact ⟨_, _, by rw [h0]⟩
      · exact ⟨_, _, rfl⟩
    have hbx := HBX.out
    have hgx := HGX.out
    have c6 := (hI.same bg ⟨by have := HBX5.out; omega, by omega, by omega⟩).trans C6.out
    have c10 := (hI.same br ⟨by have := HK.out.f5; omega, by omega, by omega⟩).trans C10.out
    have cg := (hI.same g ⟨by omega, by omega, by omega⟩).trans HG5.out
    have hc := hv.cell
    have HF1 := Lib.hid hf1
    have HI6 := Lib.hid hI
    have HV6 := Lib.hid hv
    have HR6 := Lib.hid hrow
    have C6' := Lib.hid c6
    have C7' := Lib.hid ho
    have C10' := Lib.hid c10
    have CG' := Lib.hid cg
    have HD6 := Lib.hid hD6
    have HDL : Hid (w5.heap.size ≤ D ∧ D < W6.heap.size) := Lib.hid ⟨hD, blk_lt hD6⟩
    have hw4 : IntKind.i64.wrap ((q : Int) - 4) = (q : Int) - 4 := i64_sm (by omega) (by omega)
    clear hf1 hI hv hrow c6 ho c10 cg hD6 hD hz hzd hbx hgx C6 C10 HG5 HSQ HI0 HB1L HL1L HKB
    go_wp2_with fail
    refine (taken_any _ _ _ _ _).mono ?_
    rintro e w7 ⟨B2, L2, rfl, hB7, hBf0, hBl0, hbf, hbl, hBfl, hBll⟩
    have hbx := HBX.out
    have hgx := HGX.out
    have hx5 := HBX5.out
    have hf5 := HK.out.f5
    have hdl := HDL.out
    have h67 := hB7.size
    have dg := bblk hB7 CG'.out
    have d6 := bblk hB7 C6'.out
    have d7 := bblk hB7 C7'.out
    have d10 := bblk hB7 C10'.out
    have dd := bblk hB7 HD6.out
    have kok : KOk W w7 bf g w5.heap.size (fun k => k = bg ∨ k = br ∨ k = bx ∨ k = B2 ∨ k = L2 ∨ k = D) := by
      refine ⟨?_, ?_, ?_, ?_, by omega, by omega, by omega, by omega, by omega, by omega, by omega⟩
      · rintro k (rfl | rfl | rfl | rfl | rfl | rfl) <;> omega
      · rintro k (rfl | rfl | rfl | rfl | rfl | rfl) <;> omega
      · rintro k (rfl | rfl | rfl | rfl | rfl | rfl) <;> omega
      · rintro k (rfl | rfl | rfl | rfl | rfl | rfl) hk
        · omega
        · omega
        · omega
        · exact ⟨_, hbf, fun cs fz e => by cases e⟩
        · exact ⟨_, hbl, fun cs fz e => by cases e⟩
        · exact ⟨_, dd, fun cs fz e => by cases e⟩
    obtain ⟨L, hLL⟩ : ∃ L, toldL x M bsn = L := ⟨_, rfl⟩
    have hlen : L.length = 32 := by rw [← hLL]; exact HL.out
    have hgc := HGC.out
    rw [hLL] at hgc
    have hnat : ((q : Int) - 4).toNat = q - 4 := by omega
    have hseq := taken_seq 8 (by decide) (zs := L) (cs := cur) (off := 0) (from_ := (q : Int) - 4) (by omega) (by omega) (by omega) (show B2 ≠ g by omega) (show L2 ≠ g by omega) (fun k hk => by rw [Nat.zero_add]; exact hgc k (by omega)) hbf (by rw [hlen]; exact hbl) dg
    rw [hnat, hlen] at hseq
    have hI0 : CutI W w7 bf w5.heap.size (fun k => k = bg ∨ k = br ∨ k = bx ∨ k = B2 ∨ k = L2 ∨ k = D) (f1 ++ []) w7 := by
      rw [List.append_nil]
      exact ⟨⟨_, bblk hB7 HV6.out, ownsRow_blockB HR6.out (fun k e => hB7.block k (by
        rcases HR6.out.2 with ⟨e2, _⟩ | ⟨g', c, cur', e2, _, hh, _⟩
        · rw [e2] at e; cases e
        · rw [e2] at e; cases e; exact blk_lt hh))⟩, bt HI6.out.below hB7, fun k _ => rfl⟩
    have HK2 := Lib.hid kok
    have HSQ2 := Lib.hid hseq
    have HI2 := Lib.hid hI0
    have HKB2 : Hid (∀ k, (k = g ∨ k = B2 ∨ k = L2) → k < w7.heap.size) := Lib.hid (by rintro k (rfl | rfl | rfl) <;> omega)
    have HG7 : Hid (g < w7.heap.size) := Lib.hid (by omega)
    have HLL := Lib.hid hLL
    have HLEN := Lib.hid hlen
    have HGC2 := Lib.hid hgc
    have C6 := Lib.hid d6
    have C7 := Lib.hid d7
    have C10 := Lib.hid d10
    have HDD := Lib.hid dd
    have HB7 := Lib.hid hB7
    clear kok hseq hI0 hLL hlen hgc hnat d6 d7 d10 dd dg hB7 hbx hgx hx5 hf5 hdl h67 hbf hbl hBf0 hBl0 hBfl hBll C6' C7' C10' HD6 HI6 HV6 HR6 HGC HL hc
    go_wp2_with fail
    refine (wpIn_wide (n := 9)).1 ?_
    refine wpIn_rangeW (b := g) (by omega) (gf := 90) rfl (fun _ _ => by rfl) HSQ2.out HG7.out KeepB.t (KeepB.b HKB2.out) (Below.refl _ _) (fun _ => rfl)
      (fun pre W' => CutI W w7 bf w5.heap.size (fun k => k = bg ∨ k = br ∨ k = bx ∨ k = B2 ∨ k = L2 ∨ k = D) (f1 ++ pre) W' ∧ w7.heap.size ≤ W'.heap.size) (CutI.own HK2.out (f := fun pre => f1 ++ pre)) (fun pre k v W1 h => ⟨h.1.turn HK2.out k v, by simpa [World.setCell] using h.2⟩) ⟨HI2.out, Nat.le_refl _⟩ ?a2 ?assign ?body ?done
    case assign =>
      intro l x W K hK
      gi_wp2
      exact hK
    case body =>
      rintro l1 pre z W1 ⟨hI, hz⟩ hlen
      obtain ⟨v, hv, hrow⟩ := hI.row
      obtain ⟨i0, hi, hz0, hz1, hz2⟩ := infoU16x
      have hc := hv.cell
      have hl4 : pre.length < 32 := hlen
      have hl36 : (f1 ++ pre).length < 36 := by rw [List.length_append]; omega
      have hl2 : (f1 ++ pre).length + 1 ≤ maxLen := by unfold maxLen; omega
      have HI := Lib.hid hI
      obtain ⟨fp, hfp⟩ : ∃ fp, f1 ++ pre = fp := ⟨_, rfl⟩
      have hfp2 : f1 ++ (pre ++ [z]) = fp ++ [z] := by rw [← hfp, List.append_assoc]
      have HFP2 := Lib.hid hfp2
      rw [hfp] at HI hrow hl2 hl36
      have hr5 := HK2.out.r5
      clear hI hlen hfp hfp2 HDL HGX HBX HBX5 HK HG7 HB7
      gi_wp2_with (first | (gi_at_builtin; refine wpListIn_append_at _ rfl _ _ 68 rfl w5.heap.size 57 i0 (.int .u16 0) 1 2 Tryz.underlying68 hi hz0 hz1 hz2 rfl (by decide) _ _ _ rfl (hrow.alloc _) ⟨W1.heap.size, 0, none⟩ 1 1 [.int .u16 z] rfl rfl (World.news_of_block (hp_new _ _ rfl)) (by simp [Value.oneCell']) hl2 (by omega) (by simp; omega) ?_; intro v' w1 hown' hgrow _ _; obtain ⟨g', cap', rfl⟩ := ownsRow_succ hown'; obtain ⟨hv1, hpost⟩ := CutI.app HK2.out HI.out hz hv hrow hown' hgrow; have hc1 := hv1.cell; have hf1 := hv1.frozen) | gi_in)
      refine ⟨hpost.out.1, ?_, ?_⟩
      · rintro k (rfl | rfl | rfl)
        · exact hpost.out.2.1 _ (.inl rfl)
        · exact hpost.out.2.1 _ (.inr (.inr (.inr (.inr (.inl rfl)))))
        · exact hpost.out.2.1 _ (.inr (.inr (.inr (.inr (.inr (.inl rfl))))))
      · show CutI _ _ _ _ _ (f1 ++ (pre ++ [z])) _ ∧ _
        rw [HFP2.out]
        exact hpost.out.2.2
    case done =>
      rintro D2 xs W8 hD2 rfl ⟨hI, hz⟩ ⟨o, ho, hzd⟩ hD8
      obtain ⟨v, hv, hrow⟩ := hI.row
      have hLL := HLL.out
      have hlen := HLEN.out
      have hsl : SlI .u16 W8 (.slice (some ⟨g, 0, none⟩) 32 cap) (cutL L (q - 4)) := by
        refine ⟨⟨_, cap, by rw [cutL_length, hlen], fun _ => ⟨g, 0, rfl, blk_lt ho, fun k hk => ?_⟩⟩, cutL_wf (by rw [← hLL]; exact toldL_wf x M bsn) _⟩
        rw [cutL_length, hlen] at hk
        obtain ⟨c, rfl, hc⟩ := hzd
        rw [cl_of ho, hc, cutL_get]
        by_cases e : k < q - 4
        · rw [if_neg (by omega), if_pos e, Nat.zero_add]; exact HGC2.out k hk
        · rw [if_pos (by omega), if_neg e]
      generalize hf2 : nz (L.drop (q - 4)) = f2 at *
      have hl2 : f2.length ≤ 32 := by
        rw [← hf2, nz]
        refine Nat.le_trans (List.length_filter_le _ _) ?_
        rw [List.length_drop]
        omega
      have hfn : x.n = 0 → f2 = [] := fun h0 => by
        rw [← hf2, ← hLL, toldL, if_pos h0, List.drop_replicate, nz_rep]
      have hcf : cutF x M bsn q = f1 ++ f2 ++ (if x.n ≠ 0 ∧ q ≤ 4 then [x.n] else []) := by rw [cutF, HF1.out, hLL, hf2]
      have hcm : cutM x M bsn q = if x.n ≠ 0 ∧ q ≤ 4 then M else if f2 = [] then M else pins bsn (tellB (cutL L (q - 4))) M := by rw [cutM, hLL, hf2]
      obtain ⟨n2, hn2⟩ : ∃ n2, (f1 ++ f2).length = n2 := ⟨_, rfl⟩
      have hn2' : n2 = f1.length + f2.length := by rw [← hn2, List.length_append]
      rw [hn2] at hrow
      have hn36 : n2 ≤ 36 := by omega
      have HN2' := Lib.hid hn2'
      obtain ⟨ao, cp, rfl⟩ : ∃ ao cp, v = .slice ao n2 cp := by
        rcases hrow.2 with ⟨rfl, h0⟩ | ⟨g', c, cur, rfl, _⟩
        · exact ⟨_, _, by rw [h0]⟩
        · exact ⟨_, _, rfl⟩
      have c6 := (hI.same bg (.inl rfl)).trans C6.out
      have c10 := (hI.same br (.inr (.inl rfl))).trans C10.out
      have c7 := (hI.same bx (.inr (.inr (.inl rfl)))).trans C7.out
      have cd := (hI.same D (.inr (.inr (.inr (.inr (.inr rfl)))))).trans HDD.out
      have hbx := HBX.out
      have hgx := HGX.out
      have hx5 := HBX5.out
      have hf5 := HK.out.f5
      have hdl := HDL.out
      have hr5 := HK2.out.r5
      have h67 := HB7.out.size
      have hd2l := blk_lt hD8
      have hT8 := HH.out.take hI.below
      have HT8 := Lib.hid hT8
      have HSL := Lib.hid hsl
      have HCF := Lib.hid hcf
      have HCM := Lib.hid hcm
      have HN2 := Lib.hid hn2
      have HFN := Lib.hid hfn
      have HF2 := Lib.hid hf2
      have HI8 := Lib.hid hI
      have HV8 := Lib.hid hv
      have HR8 := Lib.hid hrow
      have C6' := Lib.hid c6
      have C7' := Lib.hid c7
      have C10' := Lib.hid c10
      have CD' := Lib.hid cd
      have HD8 := Lib.hid hD8
      have HLT : Hid ((W.heap.size = bg ∧ bg + 1 = bx ∧ bx + 1 = br ∧ br + 1 = bf) ∧ (bf < g ∧ g < w5.heap.size) ∧ (w5.heap.size ≤ D ∧ D < w7.heap.size) ∧ (w7.heap.size ≤ D2 ∧ D2 < W8.heap.size)) := Lib.hid ⟨hbx, by omega, by omega, hD2, hd2l⟩
      have hc := hv.cell
      have q0 := cl_of c7 0
      have q1 := cl_of c7 1
      have q2 := cl_of c7 2
      have q3 := cl_of c7 3
      have q4 := cl_of c7 4
      have q5 := cl_of c7 5
      have q6 := cl_of c7 6
      have q7 : W8.cell? ⟨bx, 7, none⟩ = some (.int .u16 x.n) := cl_of c7 7
      have fx7 := fz_of c7 7
      have ff := hv.frozen
      have fr10 := fz_of c10
      have hb1 : bx ≠ bf := by omega
      have hb2 : bf ≠ bx := by omega
      have hb3 : br ≠ bf := by omega
      have hb4 : bf ≠ br := by omega
      have hb5 : bx ≠ br := by omega
      have hb6 : br ≠ bx := by omega
      clear hI hz ho hzd hD8 hLL hlen hsl hf2 hfn hcf hcm hn2 hn2' h67 c6 c7 c10 cd hbx hgx hx5 hf5 hdl hr5 hd2l hT8 hD2 C6 C7 C10 HSQ2 HI2 HKB2 HG7 HLEN HGC2 HDD HB7 HBX HGX HBX5 HK HDL HF1 hv hrow
      unfold Ino.cutd at q0 q1 q2 q3 q4 q5 q6
      simp only [ic] at q0 q1 q2 q3 q4 q5 q6
      obtain ⟨i0, hi, hz0, hz1, hz2⟩ := infoU16x
      by_cases hn0 : x.n = 0
      · exact absurd hn0 HCT.out.2.1
      · have e5 : (x.n != 0) = true := by simpa using hn0
        by_cases hq4 : q ≤ 4
        · exact absurd HCT.out.1 (by omega)
        · have e6 : decide ((q : Int) ≤ 4) = false := decide_eq_false (by omega)
          by_cases hf20' : f2 = []
          · exact absurd (by rw [HLL.out, HF2.out]; exact hf20') HCT.out.2.2
          · have hf20 := hf20'
            clear hf20'
            have hcut : x.cut q = x.cutd q := by unfold Ino.cut; rw [if_neg (fun h => hq4 h.2)]; rfl
            have e7c : f1.length < n2 := by have := HN2'.out; have : f2.length ≠ 0 := (fun h => hf20 (List.eq_nil_of_length_eq_zero h)); omega
            have e7 : decide ((n2 : Int) > (f1.length : Int)) = true := decide_eq_true (by omega)
            have e7b : decide (f1.length < n2) = true := decide_eq_true e7c
            have hlt := HLT.out
            have htl := HTL.out W8 _ HT8.out (.slice (some ⟨g, 0, none⟩) 32 cap) (by rw [HLL.out]; exact HSL.out) (by have := HXN.out.1; omega)
            have HTL8 := Lib.hid htl
            have c7 := C7'.out
            have c6 := C6'.out
            unfold ic at c7
            clear htl hcut hlt q0 q1 q2 q3 q4 q5 q6 q7
            obtain ⟨xc, hxc⟩ : ∃ xc, x.cutd q = xc := ⟨_, rfl⟩
            have e5' : (xc.n != 0) = true := by rw [← hxc]; exact e5
            rw [hxc] at c7 HTL8
            have HXC := Lib.hid hxc
            have g0 := cl_of c6 0
            have g1 := cl_of c6 1
            have g2 := cl_of c6 2
            have q0 := cl_of c7 0
            have q1 := cl_of c7 1
            have q2 := cl_of c7 2
            have q3 := cl_of c7 3
            have q4 := cl_of c7 4
            have q5 := cl_of c7 5
            have q6 := cl_of c7 6
            have q7 := cl_of c7 7
            clear hxc c6 c7 e5
            go_wp2_with fail
            refine HTL8.out.mono ?_
            rintro e w9 ⟨rfl, hB9⟩
            have hlt := HLT.out
            have hmw := HH.out.j.dev.lt _ HH.out.xm
            have hin : ∀ k, W.heap.size ≤ k → k < W8.heap.size → w9.heap[k]? = W8.heap[k]? := fun k h1 h2 => hB9.block k h2
            have hFK : FK w0 W X (fun k => X k ∨ W.heap.size ≤ k ∧ k < W8.heap.size) jb tb m w5.heap.size D D2 := ⟨HH.out.j.dev.lt, HH.out.j.own, HH.out.xt, HH.out.xm, HH.out.j.dev.below.size, by omega, by omega, by omega, by omega, fun _ h => .inl h, .inr ⟨by omega, by omega⟩, .inr ⟨by omega, by omega⟩⟩
            have HFS : Hid (FS w0 W X (fun k => X k ∨ W.heap.size ≤ k ∧ k < W8.heap.size) p jb N tb m M w5.heap.size (.slice ao n2 cp) n2 (u16s (f1 ++ f2)) D D2 w9) := Lib.hid (by
              refine ⟨HT8.out.of hB9, (HH.out.j.dev.kbelow (bt HI8.out.below hB9)).less (fun _ h => h.1), ownsRow_blockB HR8.out (fun k e => ?_), (hin D (by omega) (by omega)).trans CD'.out, (hin D2 (by omega) (by omega)).trans HD8.out, fun j e => .inr (by have := row_rx HR8.out j e; omega)⟩
              rcases HR8.out.2 with ⟨e2, _⟩ | ⟨g3, c3, cur3, e2, h3, hh, _⟩
              · rw [e2] at e; cases e
              · rw [e2] at e
                cases e
                have hgl := blk_lt hh
                exact hin g3 (by omega) hgl)
            have HFK := Lib.hid hFK
            have HLT2 : Hid ((W.heap.size ≤ br ∧ br < w5.heap.size ∧ br < W8.heap.size) ∧ W.heap.size ≤ bf ∧ bf < w5.heap.size ∧ bf < W8.heap.size) := Lib.hid (by omega)
            have hb11 : w9.heap[bx]? = some (.cells (ic (x.cutd q)) 61 (0, 0)) := (hin bx (by omega) (by omega)).trans C7'.out
            have hr11 := (hin br (by omega) (by omega)).trans C10'.out
            have hv11 : Boxed w9 bf 68 (.slice ao n2 cp) := (hin bf (by omega) (by omega)).trans HV8.out
            clear hB9 hin hFK hlt hmw HTL HTL8 HS HXN HK2 HI8 HV8 HR8 C6' C7' C10' CD' HD8 HSL HCF HCM HN2 HFN HF2 HN2' HLT HT8 HLL g0 g1 g2
            clear e7 q0 q1 q2 q3 q4 q5 q6 q7 fx7 ff fr10 hc
            have r0 := cl_of hr11 0
            have r1 := cl_of hr11 1
            have r2 := cl_of hr11 2
            have r3 := cl_of hr11 3
            have r4 := cl_of hr11 4
            have r5 := cl_of hr11 5
            have r6 := cl_of hr11 6
            have r7 := cl_of hr11 7
            have rz := fz_of hr11
            have tv := hv11.cell
            have tf := hv11.frozen
            have hr12 : ((put8 w9 br Ino.zero).setCell ⟨bf, 0, none⟩ (.slice none 0 0)).heap[br]? = some (.cells (ic Ino.zero) 61 (0, 0)) := (kb_set _ _ _ hb3).trans (put8_here (x := Ino.zero) hr11 Ino.zero)
            have hv12 : Boxed ((put8 w9 br Ino.zero).setCell ⟨bf, 0, none⟩ (.slice none 0 0)) bf 68 (.slice none 0 0) := Boxed.set _ ((put8_other w9 hb4 Ino.zero).trans hv11)
            have hFS12 := (HFS.out.put8 HFK.out HLT2.out.1.1 HLT2.out.1.2.1 (.inr ⟨HLT2.out.1.1, HLT2.out.1.2.2⟩) Ino.zero).set HFK.out HLT2.out.2.1 HLT2.out.2.2.1 (.inr ⟨HLT2.out.2.1, HLT2.out.2.2.2⟩) 0 (.slice none 0 0)
            obtain ⟨W12, hW12⟩ : ∃ W12, (put8 w9 br Ino.zero).setCell ⟨bf, 0, none⟩ (.slice none 0 0) = W12 := ⟨_, rfl⟩
            rw [hW12] at hr12 hv12 hFS12
            unfold put8 Ino.zero at hW12
            have HFS12 := Lib.hid hFS12
            have hDD := HFK.out.d
            have hDD2 := HFK.out.d2
            have hbl := HLT2.out
            have hs13 : ∀ k, k ≠ D → k ≠ D2 → ((W12.putObj D2 (.deferred none)).putObj D (.deferred none)).heap[k]? = W12.heap[k]? := fun k h1 h2 => (World.putObj_heap_other h1).trans (World.putObj_heap_other h2)
            have hr13 := (hs13 br (by omega) (by omega)).trans hr12
            have hv13 : ((W12.putObj D2 (.deferred none)).putObj D (.deferred none)).cell? ⟨bf, 0, none⟩ = some (.slice none 0 0) := (World.cell?_of_block (hs13 bf (by omega) (by omega))).trans hv12.cell
            have hres : TJ w0 X p jb N 0 1 40 0 0 (newS N) tb m M false ((W12.putObj D2 (.deferred none)).putObj D (.deferred none)) ∧ Kb w0 (fun k => X k ∧ k ≠ m) W ((W12.putObj D2 (.deferred none)).putObj D (.deferred none)) := by
              obtain ⟨-, a2, a3⟩ := HFS12.out.fin HFK.out
              exact ⟨a2, a3⟩
            have HRES := Lib.hid hres
            unfold ic Ino.zero at hr13
            have s0 := cl_of hr13 0
            have s1 := cl_of hr13 1
            have s2 := cl_of hr13 2
            have s3 := cl_of hr13 3
            have s4 := cl_of hr13 4
            have s5 := cl_of hr13 5
            have s6 := cl_of hr13 6
            have s7 := cl_of hr13 7
            have HW12 := Lib.hid hW12
            clear hres hs13 hr12 hv12 hr13 hW12 hDD hDD2 hbl hFS12 hb11 hr11 hv11
            go_wp2_with fail
            rw [HW12.out]
            refine ⟨by simp, .inl ⟨_, _, rfl, run_takeDeferred HFS12.out.d2, by simp, .inl ⟨_, _, rfl, run_takeDeferred (HFS12.out.put1 HFK.out), ?_⟩⟩⟩
            exact ⟨_, (by simp [results, Tryz.results29, go_sem, ic, Ino.zero, s0, s1, s2, s3, s4, s5, s6, s7, hv13]), rfl, HRES.out⟩
end
end Go.Proofs.YtjjphcnoegaimaaGreat

namespace Go.Proofs.YtjjphcnoegaimaaGreat
open Go.RowKit Go.Shelf Go.Maps
set_option maxRecDepth 20000
set_option linter.unusedVariables false
set_option linter.unusedSimpArgs false

section
variable {w0 w W W' : World} {X : Nat → Prop} {p jb N tb m : Nat} {M : Wl} {i b j v : Int} {x : Ino}
theorem TJ.kb (h : TJ w0 X p jb N 0 1 40 0 0 (newS N) tb m M false W) (hB : Below W.heap.size W W') : Kb w0 (fun k => X k ∧ k ≠ m) W W' := (h.j.dev.kbelow hB).less (fun _ hk => hk.1)
theorem bget_all (h : TJ w0 X p jb N 0 1 40 0 0 (newS N) tb m M false W) (hM : Mo M) (hg : GeoN i b j N) (hx : x.Wf) (page : Int) :
    Calls Tryz.prog 32 #[.pointer (some ⟨tb, 0, none⟩), gv i b j, .agg (ic x), .int .i64 page] W fun e W' => e = .returned (.tuple #[.int .u16 (getA i b j x M page).1, .int .i64 (getA i b j x M page).2]) ∧ Below W.heap.size W W' := by
  by_cases hc : MayB i b j x 0 ∧ 0 ≤ page ∧ page < 36
  · obtain ⟨q, rfl⟩ := Int.eq_ofNat_of_zero_le hc.2.1
    have hA : getA i b j x M (q : Int) = (pg x M (bsI i b j x) q, 0) := if_pos hc
    rw [hA]
    exact bget_any h hg hc.1 hx hM.sz (bsI_eq hg.m hx) q (by omega)
  · have hA : getA i b j x M page = (0, 2) := if_neg hc
    rw [hA]
    exact bget_no hx page hc W
theorem bset_all (h : TJ w0 X p jb N 0 1 40 0 0 (newS N) tb m M false W) (hM : Mo M) (hg : GeoN i b j N) (hx : x.Wf) (h0 : 0 ≤ v) (h1 : v < 65536) (page : Int) (A : Ino × Int × Wl) (hA : setA i b j x M page v = A) :
    Calls Tryz.prog 26 #[.pointer (some ⟨tb, 0, none⟩), gv i b j, .agg (ic x), .int .i64 page, .int .u16 v] W fun e W' => e = .returned (.tuple #[.agg (ic A.1), .int .i64 A.2.1]) ∧ TJ w0 X p jb N 0 1 40 0 0 (newS N) tb m A.2.2 false W' ∧ Kb w0 (fun k => X k ∧ k ≠ m) W W' := by
  subst hA
  by_cases hc : MayB i b j x v ∧ 0 ≤ page ∧ page < 36
  · obtain ⟨q, rfl⟩ := Int.eq_ofNat_of_zero_le hc.2.1
    by_cases h4 : (q : Int) < 4
    · have hA : setA i b j x M (q : Int) v = (x.setd q v, 0, M) := by unfold setA; rw [if_pos hc, if_pos h4]; rfl
      rw [hA]
      refine (bset_dir hc.1 hx h0 h1 q (by omega) W).mono ?_
      rintro e W' ⟨rfl, hB⟩
      exact ⟨rfl, h.of hB, h.kb hB⟩
    · by_cases hn : x.n = 0
      · have hA : setA i b j x M (q : Int) v = (Ino.zero, 3, M) := by unfold setA; rw [if_pos hc, if_neg h4, if_pos hn]
        rw [hA]
        refine (bset_none hc.1 hx hn h0 h1 q (by omega) (by omega) W).mono ?_
        rintro e W' ⟨rfl, hB⟩
        exact ⟨rfl, h.of hB, h.kb hB⟩
      · have hn1 : 1 ≤ x.n := by have := hx.n.1; omega
        by_cases hf : fits (bsI i b j x) M
        · have hA : setA i b j x M (q : Int) v = (x, 0, setM x M (bsI i b j x) q v) := by unfold setA; rw [if_pos hc, if_neg h4, if_neg hn, if_pos hf]; rfl
          rw [hA]
          exact bset_ind h hg hc.1 hx hM.sz hn1 (bsI_eq hg.m hx hn) h0 h1 q (by omega) (by omega) hf
        · have hA : setA i b j x M (q : Int) v = (Ino.zero, 4, M) := by unfold setA; rw [if_pos hc, if_neg h4, if_neg hn, if_neg hf]
          rw [hA]
          refine (bset_full h hg hc.1 hx hM.sz hn1 (bsI_eq hg.m hx hn) h0 h1 q (by omega) (by omega) hf).mono ?_
          rintro e W' ⟨rfl, hB⟩
          exact ⟨rfl, h.of hB, h.kb hB⟩
  · have hA : setA i b j x M page v = (Ino.zero, 2, M) := if_neg hc
    rw [hA]
    refine (bset_no hx h0 h1 page hc W).mono ?_
    rintro e W' ⟨rfl, hB⟩
    exact ⟨rfl, h.of hB, h.kb hB⟩
theorem bbegin_all (h : TJ w0 X p jb N 0 1 40 0 0 (newS N) tb m M false W) (hM : Mo M) (hg : GeoN i b j N) (hx : x.Wf) (h0 : 0 ≤ v) (h1 : v < 65536) (A : Ino × Int × Wl) (hA : beginA i b j x M v = A) :
    Calls Tryz.prog 27 #[.pointer (some ⟨tb, 0, none⟩), gv i b j, .agg (ic x), .int .u16 v] W fun e W' => e = .returned (.tuple #[.agg (ic A.1), .int .i64 A.2.1]) ∧ TJ w0 X p jb N 0 1 40 0 0 (newS N) tb m A.2.2 false W' ∧ Kb w0 (fun k => X k ∧ k ≠ m) W W' := by
  subst hA
  by_cases hc : MayB i b j x v ∧ v ≠ 0 ∧ x.n = 0
  · have hv1 : 1 ≤ v := by have := hc.2.1; omega
    have hbs : (bsI i b j (x.setn v) : Int) = fr i b j 5 + v - 1 := bsI_eq (x := x.setn v) hg.m (Ino.setn_wf hx h0 h1) hc.2.1
    by_cases hf : fits (bsI i b j (x.setn v)) M
    · have hA : beginA i b j x M v = (x.setn v, 0, pins (bsI i b j (x.setn v)) (tellB []) M) := by unfold beginA; rw [if_pos hc, if_pos hf]
      rw [hA]
      exact bbegin_any h hg hc.1 hx hc.2.2 hv1 h1 hbs hf
    · have hA : beginA i b j x M v = (Ino.zero, 4, M) := by unfold beginA; rw [if_pos hc, if_neg hf]
      rw [hA]
      refine (bbegin_full h hg hc.1 hx hc.2.2 hv1 h1 hbs hf).mono ?_
      rintro e W' ⟨rfl, hB⟩
      exact ⟨rfl, h.of hB, h.kb hB⟩
  · have hA : beginA i b j x M v = (Ino.zero, 2, M) := if_neg hc
    rw [hA]
    refine (bbegin_no hx h0 h1 hc W).mono ?_
    rintro e W' ⟨rfl, hB⟩
    exact ⟨rfl, h.of hB, h.kb hB⟩
/-- What Cut answers in all cases. -/
def CutP (w0 : World) (X : Nat → Prop) (p jb N tb m : Nat) (A : Ino × List Int × Int × Wl) (W : World) (e : Ending) (W' : World) : Prop :=
  ∃ u X2, e = .returned (.tuple #[.agg (ic A.1), u, .int .i64 A.2.2.1]) ∧ W'.ownsRow W.heap.size 57 1 u A.2.1.length (u16s A.2.1) ∧ (∀ k, X k → X2 k) ∧ (∀ j, u.ownBlock = some j → X2 j) ∧ TJ w0 X2 p jb N 0 1 40 0 0 (newS N) tb m A.2.2.2 false W' ∧ Kb w0 (fun k => X k ∧ k ≠ m) W W'
theorem row_none (W : World) (B : Nat) : W.ownsRow B 57 1 (.slice none 0 0) 0 (u16s []) := ⟨rfl, .inl ⟨rfl, rfl⟩⟩
theorem bcut_all (h : TJ w0 X p jb N 0 1 40 0 0 (newS N) tb m M false W) (hM : Mo M) (hg : GeoN i b j N) (hx : x.Wf) (page : Int) (A : Ino × List Int × Int × Wl) (hA : cutA i b j x M page = A) :
    Calls Tryz.prog 29 #[.pointer (some ⟨tb, 0, none⟩), gv i b j, .agg (ic x), .int .i64 page] W (CutP w0 X p jb N tb m A W) := by
  subst hA
  by_cases hc : MayB i b j x 0 ∧ 0 ≤ page ∧ page ≤ 36
  · obtain ⟨q, rfl⟩ := Int.eq_ofNat_of_zero_le hc.2.1
    by_cases ht : cutT x M (bsI i b j x) q ∧ ¬ fits (bsI i b j x) M
    · have hA : cutA i b j x M (q : Int) = (Ino.zero, [], 4, M) := by unfold cutA; rw [if_pos hc]; exact if_pos ht
      rw [hA]
      refine (bcut_full h hg hc.1 hx hM.sz (bsI_eq hg.m hx) q (by omega) ht.1 ht.2).mono ?_
      rintro e W' ⟨rfl, hT, hK⟩
      exact ⟨_, X, rfl, row_none _ _, fun _ h => h, fun j e => (by cases e), hT, hK⟩
    · have hA : cutA i b j x M (q : Int) = (x.cut q, cutF x M (bsI i b j x) q, 0, cutM x M (bsI i b j x) q) := by unfold cutA; rw [if_pos hc]; exact if_neg ht
      rw [hA]
      exact bcut_fit h hg hc.1 hx hM.sz (bsI_eq hg.m hx) q (by omega) (fun h1 => Classical.byContradiction fun h2 => ht ⟨h1, h2⟩)
  · have hA : cutA i b j x M page = (Ino.zero, [], 2, M) := if_neg hc
    rw [hA]
    refine (bcut_no hx page hc W).mono ?_
    rintro e W' ⟨rfl, hB⟩
    exact ⟨_, X, rfl, row_none _ _, fun _ h => h, fun j e => (by cases e), h.of hB, h.kb hB⟩
set_option maxHeartbeats 4000000 in
theorem ball_all (h : TJ w0 X p jb N 0 1 40 0 0 (newS N) tb m M false W) (hM : Mo M) (hg : GeoN i b j N) (hx : x.Wf) (A : Ino × List Int × Int × Wl) (hA : cutA i b j x M 0 = A) :
    Calls Tryz.prog 28 #[.pointer (some ⟨tb, 0, none⟩), gv i b j, .agg (ic x)] W fun e W' => ∃ u X2, e = .returned (.tuple #[u, .int .i64 A.2.2.1]) ∧ W'.ownsRow W.heap.size 57 1 u A.2.1.length (u16s A.2.1) ∧ (∀ k, X k → X2 k) ∧ (∀ j, u.ownBlock = some j → X2 j) ∧ TJ w0 X2 p jb N 0 1 40 0 0 (newS N) tb m A.2.2.2 false W' ∧ Kb w0 (fun k => X k ∧ k ≠ m) W W' := by
  have hB1 : Below W.heap.size W ((W.alloc (.cells #[.int .i64 i, .int .i64 b, .int .i64 j] 56)).alloc (.cells (ic x) 61)) := bal (bnew _ _) _
  have hcut := bcut_all (h.of hB1) hM hg hx 0 A hA
  have hB1s := hB1.size
  have hkb1 := h.j.dev.kbelow hB1
  have HH := Lib.hid h
  have HCU := Lib.hid hcut
  have HB1S := Lib.hid hB1s
  have HKB1 := Lib.hid hkb1
  clear h hg hx hM hA hB1 hcut hB1s hkb1
  unfold gv at HCU ⊢
  obtain ⟨y, F, z, M2⟩ := A
  unfold CutP at HCU
  dsimp only at HCU ⊢
  unfold ic at *
  go_enter Tryz.func28, Tryz.ntmps28
  go_wp2_with fail
  refine HCU.out.mono ?_
  rintro e w2 ⟨u, X2, rfl, hrow, hxx, hrx, hT, hK⟩
  have HXX := Lib.hid hxx
  have HRX := Lib.hid hrx
  clear hxx hrx
  have HROW := Lib.hid hrow
  have HT := Lib.hid hT
  have HK := Lib.hid hK
  clear hrow hT hK
  go_wp2_with fail
  go_ret2
  refine ⟨u, X2, rfl, row_below (ownsRow_weak HROW.out HB1S.out) (bnew _ _), HXX.out, HRX.out, HT.out.of (bnew _ _), (HKB1.out.less (fun _ h => h.1)).t (HK.out.t ((HT.out.j.dev.kbelow (bnew _ _)).less (fun _ h => HXX.out _ h.1)))⟩
set_option maxHeartbeats 4000000 in
theorem ball_nil (W : World) : Calls Tryz.prog 28 #[.pointer none, gv i b j, .agg (ic x)] W fun e W' => e = .returned (.tuple #[.slice none 0 0, .int .i64 1]) ∧ Below W.heap.size W W' := by
  have hcut := fun W => bcut_nil (i := i) (b := b) (j := j) (x := x) W
  have HCU := Lib.hid hcut
  clear hcut
  unfold gv ic at *
  have hB1 : Below W.heap.size W ((W.alloc (.cells #[.int .i64 i, .int .i64 b, .int .i64 j] 56)).alloc (.cells #[.int .u8 x.k, .int .u16 x.l, .int .u32 x.s, .int .u16 x.d0, .int .u16 x.d1, .int .u16 x.d2, .int .u16 x.d3, .int .u16 x.n] 61)) := bal (bnew _ _) _
  have HB1 := Lib.hid hB1
  clear hB1
  go_enter Tryz.func28, Tryz.ntmps28
  go_wp2_with fail
  refine (HCU.out _).mono ?_
  rintro e w2 ⟨rfl, hB2⟩
  have HB2 := Lib.hid (bt HB1.out hB2)
  clear hB2
  go_wp2_with fail
  go_ret2
  exact ⟨rfl, bal HB2.out _⟩
end
end Go.Proofs.YtjjphcnoegaimaaGreat
